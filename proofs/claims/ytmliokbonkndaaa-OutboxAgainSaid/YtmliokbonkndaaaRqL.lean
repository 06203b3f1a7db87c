/-
  The document's box: a report comes: is it right?
-/
import Derived.Test.YtmliokbonkndaaaRqJ
namespace Go.Proofs.Ytmliokbonkndaaa
open Go Go.Sh
section
variable {W w : World} {L M : List HP} {rb b4 b6 b8 : Nat} {n cum now : Int} {a : Option Addr} {c : Nat} {ds D : List Dt} {d d' : Dt} {j m N p : Nat} {s : R30} {r : Rp}
/-- a right report, taken in by the document's box -/
def RepQok (W : World) (L : List HP) (rb : Nat) (n cum : Int) (N : Nat) (r : Rp) (now : Int) (l : List En) (oa : Option Addr) (oc : Nat) (w' : World) : Prop :=
  ∃ a' c' ds', fsts ds' = (rL2 r l).drop (sd cum r.tsn).toNat ∧ Hs W (slP 53 4 oa N oc (aV N (rPaths r now l)) :: (refL rb n r.tsn a' c' ds' ++ L)) w'
theorem c44_12 {Kr : Value → Value → World → Prop} (hN : n = (N : Int)) (hN8 : 0 < N ∧ N ≤ 8) (hl : ds.length ≤ 1048576) (hk : ChOk W s r) (ht : ∀ e ∈ fsts ds, 0 ≤ e.tsn ∧ e.tsn < 4294967296) (hpath : ∀ e ∈ fsts ds, 0 ≤ e.path ∧ e.path < (N : Int)) (hc : 0 ≤ cum ∧ cum < 4294967296)
    (hkd : r.kind = 3 ∨ r.kind = 16) (hoG : ordG r.G = true) (hoN : ordG r.nr = true)
    (h : Hs W (pt b6 (.cells R47.z.c 48 (0, 0)) :: pt b4 (.cells s.c 31 (0, 0)) :: (refL rb n cum a c ds ++ L)) w)
    (hbad : ∀ w' e, e ≠ 0 → e = repE r cum ds.length now → Hs W (pt b6 (.cells R47.z.c 48 (0, 0)) :: (refL rb n cum a c ds ++ L)) w' → Kr (.pointer (some ⟨b6, 0, none⟩)) (.int .i64 e) w')
    (hok : ∀ w' oa oc, repE r cum ds.length now = 0 → RepQok W L rb n cum N r now (fsts ds) oa oc w' → w'.heap[b6]? = some (.cells (R47.mk oa N oc (rSums r (fsts ds)).1 (rSums r (fsts ds)).2).c 48 (0, 0)) → Kr (.pointer (some ⟨b6, 0, none⟩)) (.int .i64 0) w') :
    F44_12 Kr (.pointer (some ⟨rb, 0, none⟩)) (.int .i64 now) (.pointer (some ⟨b4, 0, none⟩)) (.pointer (some ⟨b6, 0, none⟩)) w := by
  have hr0 : rightE r.kind r.tsn cum ds.length [r.G, r.nr] = if sd r.tsn cum > 0 then 170 else if sd (nxt cum ds.length) r.tsn ≥ 0 ∨ [r.G, r.nr].any (pastG (nxt cum ds.length) r.tsn) = true then 171 else 0 := by
    unfold rightE
    rw [if_neg (by omega), if_neg (by rw [List.all_cons, List.all_cons, hoG, hoN]; simp)]
  have hne : rightE r.kind r.tsn cum ds.length [r.G, r.nr] ≠ 172 := by
    rw [hr0]
    split
    · decide
    · split <;> decide
  have hrep : repE r cum ds.length now = if now < 0 ∨ now > 1099511627776 then 1 else rightE r.kind r.tsn cum ds.length [r.G, r.nr] := by
    unfold repE
    rw [if_neg hne]
  unfold F44_12
  simp only [rdP_mk, rdI_mk, rdA_mk, nn_some, add_mk]
  refine clr (c66 now w) ⟨_, rfl, ?_⟩
  by_cases hnow : 0 ≤ now ∧ now ≤ 1099511627776
  rotate_left
  · rw [show decide (0 ≤ now ∧ now ≤ 1099511627776) = false by simpa using hnow, Bool.not_false, br_true]
    refine h.stcL 0 rfl rfl fun w1 h1 => hbad w1 1 (by decide) ?_ (h1.erase 1)
    rw [hrep, if_pos (by omega)]
  rw [show decide (0 ≤ now ∧ now ≤ 1099511627776) = true by simpa using hnow, Bool.not_true, br_false]
  rw [if_neg (by omega)] at hrep
  refine h.drw fun w1 h1 => h1.ldI 1 rfl rfl (h1.ldI 2 rfl rfl ?_)
  show Calls Try.prog 69 #[.int .u32 s.f2, .int .u32 cum] w1 _
  rw [hk.tsn]
  refine clr (s69 _ _ w1 hk.t0.1 hk.t0.2 hc.1 hc.2) ⟨_, rfl, ?_⟩
  rw [br_dec]
  refine ⟨fun h170 => ?_, fun h170 => ?_⟩
  · refine h1.stcL 0 rfl rfl fun w2 h2 => hbad w2 170 (by decide) ?_ (h2.erase 1)
    rw [hrep, hr0, if_pos h170]
  rw [if_neg h170] at hr0
  refine h1.drw fun w2 h2 => ⟨w2, Pres.of_Same (Fr.refl _), ?_⟩
  clear h h1
  refine ldR30_of (s := s) (h2.atL 1 rfl) (h2.ldC 1 rfl rfl ?_)
  show Calls Try.prog 70 #[_, s.v, .slice s.f10a s.f10n s.f10c] w2 _
  rw [hk.gl]
  have hk2 := hk.same h2.old
  refine cl (c70 (r := r) (ref_rqX (X := [_, _]) h2) hl hc hk.tsn hk.t0 hk2.gr hk.gok.2 hk.gok.1) ?_
  rintro _ w3 ⟨rfl, s3⟩
  refine ⟨_, rfl, Pres.of_Same s3, ?_⟩
  have h3 := h2.same s3
  rw [br_iff]
  refine ⟨fun hp => ?_, fun hp => ?_⟩
  · refine h3.stcL 0 rfl rfl fun w4 h4 => hbad w4 171 (by decide) ?_ (h4.erase 1)
    rw [hrep, hr0, if_pos]
    rw [Bool.or_eq_true] at hp
    rcases hp with hp | hp
    · right; rw [List.any_cons, hp]; rfl
    · left; simpa using hp
  rw [Bool.or_eq_false_iff] at hp
  refine ldR30_of (s := s) (h2.atL 1 rfl) (ldR30_of (s := s) (h3.atL 1 rfl) ?_)
  refine cl (c68 (hk.same h3.old)) ?_
  rintro _ w4 ⟨na, nc, rfl, hn4, s4⟩
  refine ⟨_, _, _, rfl, Pres.of_Same (s3.trans s4 fun _ _ x => x), ?_⟩
  have h4 := h3.same s4
  refine cl (c70 (r := r) (ref_rqX (X := [_, _]) h4) hl hc hk.tsn hk.t0 hn4 hk.nrok.2 hk.nrok.1) ?_
  rintro _ w5 ⟨rfl, s5⟩
  refine ⟨_, rfl, ?_⟩
  have h5 := h4.same s5
  clear h2 h3 h4
  rw [br_iff]
  refine ⟨fun hp2 => ?_, fun hp2 => ?_⟩
  · refine h5.stcL 0 rfl rfl fun w6 h6 => hbad w6 171 (by decide) ?_ (h6.erase 1)
    rw [hrep, hr0, if_pos]
    rw [Bool.or_eq_true] at hp2
    rcases hp2 with hp2 | hp2
    · right; rw [List.any_cons, List.any_cons, hp2]; simp
    · left; simpa using hp2
  rw [Bool.or_eq_false_iff] at hp2
  have hzero : rightE r.kind r.tsn cum ds.length [r.G, r.nr] = 0 := by
    rw [hr0, if_neg]
    rintro (hx | hx)
    · exact absurd hx (by simpa using hp.2)
    · rw [List.any_cons, List.any_cons, hp.1, hp2.1] at hx
      simp at hx
  obtain ⟨z1, z2⟩ := right_zero hzero hl
  have h6 := h5.perm (List.Perm.swap _ _ _)
  refine c44_11 hN hN8 hl hk ht hpath hc (f := (sd cum r.tsn).toNat) (by omega) (by omega) h6 fun w6 oa oc a' c' ds' hds h7 => ?_
  simp only [rdA_mk, rdI_mk]
  intro _g
  exact hok w6 oa oc (by rw [hrep, hzero]) ⟨a', c', ds', hds, h7.drop⟩ (h7.at 0 rfl)
def RepQ (W : World) (L : List HP) (rb : Nat) (n cum : Int) (N : Nat) (a : Option Addr) (c : Nat) (ds : List Dt) (r : Rp) (now : Int) (v : Value) (w' : World) : Prop :=
  (repE r cum ds.length now ≠ 0 ∧ v = .tuple #[R47.z.v, .int .i64 (repE r cum ds.length now)] ∧ Hs W (refL rb n cum a c ds ++ L) w') ∨
  (repE r cum ds.length now = 0 ∧ ∃ oa oc, v = .tuple #[(R47.mk oa N oc (rSums r (fsts ds)).1 (rSums r (fsts ds)).2).v, .int .i64 0] ∧ RepQok W L rb n cum N r now (fsts ds) oa oc w')
theorem c44 (hN : n = (N : Int)) (hN8 : 0 < N ∧ N ≤ 8) (hl : ds.length ≤ 1048576) (hk : ChOk W s r) (ht : ∀ e ∈ fsts ds, 0 ≤ e.tsn ∧ e.tsn < 4294967296) (hpath : ∀ e ∈ fsts ds, 0 ≤ e.path ∧ e.path < (N : Int)) (hc : 0 ≤ cum ∧ cum < 4294967296)
    (h : Hs W (refL rb n cum a c ds ++ L) w) :
    Calls Try.prog 44 #[.pointer (some ⟨rb, 0, none⟩), s.v, .int .i64 now] w (rt (RepQ W L rb n cum N a c ds r now)) := by
  refine F44_ok ?_
  unfold F44
  simp only [rdP_mk, rdI_mk]
  refine exR30_of s ⟨rfl, ?_⟩
  refine h.alc fun b4 w1 h1 => h1.alc fun b6 w2 h2 => ?_
  clear h h1
  simp only [add_mk]
  have h2 : Hs W (pt b6 (.cells R47.z.c 48 (0, 0)) :: pt b4 (.cells s.c 31 (0, 0)) :: (refL rb n cum a c ds ++ L)) w2 := h2
  have bad : ∀ w3, repE r cum ds.length now = 172 → Hs W (pt b6 (.cells R47.z.c 48 (0, 0)) :: pt b4 (.cells s.c 31 (0, 0)) :: (refL rb n cum a c ds ++ L)) w3 → Sh.stcL ⟨b6, 0, none⟩ 0 (R47.mk none 0 0 0 0).l w3 fun w10 => ldR47 ⟨b6, 0, none⟩ w10 fun s11 => RepQ W L rb n cum N a c ds r now (.tuple #[s11.v, .int .i64 172]) w10 := by
    intro w3 he h3
    refine h3.stcL 0 rfl rfl fun w4 h4 => ldR47_of (s := R47.z) (h4.atL 0 rfl) (.inl ⟨by rw [he]; decide, by rw [he], h4.drop.drop⟩)
  have h172 : rightE r.kind r.tsn cum ds.length [r.G, r.nr] = 172 → repE r cum ds.length now = 172 := fun he => by unfold repE; rw [if_pos he]
  have tail : (r.kind = 3 ∨ r.kind = 16) → ∀ K : Value → World → Prop, (∀ v w', RepQ W L rb n cum N a c ds r now v w' → K v w') → 
      Calls Try.prog 67 #[.slice s.f10a s.f10n s.f10c] w2 fun e14 w13 => ∃ b15, e14 = .returned (.bool b15) ∧ (br (!b15) (Sh.stcL ⟨b6, 0, none⟩ 0 (R47.mk none 0 0 0 0).l w13 fun w16 => ldR47 ⟨b6, 0, none⟩ w16 fun s17 => RepQ W L rb n cum N a c ds r now (.tuple #[s17.v, .int .i64 172]) w16) (ldR30 ⟨b4, 0, none⟩ w13 fun s18 =>
        Calls Try.prog 68 #[s18.v] w13 fun e20 w19 => ∃ l21a l21n l21c, e20 = .returned (.slice l21a l21n l21c) ∧ (Calls Try.prog 67 #[.slice l21a l21n l21c] w19 fun e23 w22 => ∃ b24, e23 = .returned (.bool b24) ∧ (br (!b24) (Sh.stcL ⟨b6, 0, none⟩ 0 (R47.mk none 0 0 0 0).l w22 fun w25 => ldR47 ⟨b6, 0, none⟩ w25 fun s26 => RepQ W L rb n cum N a c ds r now (.tuple #[s26.v, .int .i64 172]) w25) (F44_12 (fun y6_26 y7_26 w28 => ∀ _g : Tm, rdA y6_26 fun a30 => rdI .i64 y7_26 fun n31 =>
        ldR47 a30 w28 fun s32 => RepQ W L rb n cum N a c ds r now (.tuple #[s32.v, .int .i64 n31]) w28) (.pointer (some ⟨rb, 0, none⟩)) (.int .i64 now) (.pointer (some ⟨b4, 0, none⟩)) (.pointer (some ⟨b6, 0, none⟩)) w22))))) := by
    intro hkd K _
    have hk2 := hk.same h2.old
    rw [hk.gl]
    refine cl (c67 hk2.gr hk.gok.2) ?_
    rintro _ w3 ⟨rfl, s3⟩
    refine ⟨_, rfl, ?_⟩
    have h3 := h2.same s3
    cases hoG : ordG r.G with
    | false =>
      rw [Bool.not_false, br_true]
      refine bad w3 (h172 ?_) h3
      unfold rightE
      rw [if_neg (by omega), if_pos (by rw [List.all_cons, hoG]; rfl)]
    | true =>
      rw [Bool.not_true, br_false]
      refine ldR30_of (s := s) (h3.atL 1 rfl) ?_
      refine cl (c68 (hk.same h3.old)) ?_
      rintro _ w4 ⟨na, nc, rfl, hn4, s4⟩
      refine ⟨_, _, _, rfl, ?_⟩
      have h4 := h3.same s4
      refine cl (c67 hn4 hk.nrok.2) ?_
      rintro _ w5 ⟨rfl, s5⟩
      refine ⟨_, rfl, ?_⟩
      have h5 := h4.same s5
      cases hoN : ordG r.nr with
      | false =>
        rw [Bool.not_false, br_true]
        refine bad w5 (h172 ?_) h5
        unfold rightE
        rw [if_neg (by omega), if_pos (by rw [List.all_cons, List.all_cons, hoG, hoN]; rfl)]
      | true =>
        rw [Bool.not_true, br_false]
        refine c44_12 hN hN8 hl hk ht hpath hc hkd hoG hoN h5 (fun w6 e he he2 h6 _g => ?_) fun w6 oa oc he h6 hb _g => ?_
        · simp only [rdA_mk, rdI_mk]
          exact ldR47_of (s := R47.z) (h6.atL 0 rfl) (.inl ⟨by rw [← he2]; exact he, by rw [← he2], h6.drop⟩)
        · simp only [rdA_mk, rdI_mk]
          exact ldR47_of (s := R47.mk oa N oc (rSums r (fsts ds)).1 (rSums r (fsts ds)).2) (At.blk hb) (.inr ⟨he, oa, oc, rfl, h6⟩)
  refine h2.ldI 1 rfl rfl ?_
  show br (s.f0 != 3) _ _
  rw [br_iff, hk.kind]
  refine ⟨fun hk3 => ?_, fun hk3 => ?_⟩
  · have hk3 : r.kind ≠ 3 := by simpa using hk3
    refine h2.ldI 1 rfl rfl ?_
    show br (s.f0 != 16) _ _
    rw [br_iff, hk.kind]
    refine ⟨fun hk16 => ?_, fun hk16 => ?_⟩
    · have hk16 : r.kind ≠ 16 := by simpa using hk16
      refine bad w2 (h172 ?_) h2
      unfold rightE
      rw [if_pos ⟨hk3, hk16⟩]
    · have hk16 : r.kind = 16 := by simpa using hk16
      exact h2.ldC 1 rfl rfl (tail (.inr hk16) (fun _ _ => True) fun _ _ _ => trivial)
  · have hk3 : r.kind = 3 := by simpa using hk3
    exact h2.ldC 1 rfl rfl (tail (.inl hk3) (fun _ _ => True) fun _ _ _ => trivial)
end
end Go.Proofs.Ytmliokbonkndaaa
namespace Go.Proofs.Ytmliokbonkndaaa
open Go Go.Sh
/-- what is true of every box that is reached -/
structure OkB (N : Nat) (cum : Int) (l : List En) : Prop where
  len : l.length ≤ 1048576
  tsn : ∀ (k : Nat) e, l[k]? = some e → e.tsn = nxt cum k
  path : ∀ e ∈ l, 0 ≤ e.path ∧ e.path < (N : Int)
  sent : ∀ e ∈ l, 0 ≤ e.sent
  size : ∀ e ∈ l, e.data.length ≤ 70000
  byt : ∀ e ∈ l, byOk e
  st : ∀ e ∈ l, 1 ≤ e.st ∧ e.st ≤ 4
  cum : 0 ≤ cum ∧ cum < 4294967296
section
variable {N p : Nat} {cum now : Int} {l : List En} {r : Rp} {nw : Nat → Bool} {F0 : Nat → R52} {e : En} {k j : Nat}
theorem tell_d (h : OkB N cum l) (hk : l[k]? = some e) (ht : 0 ≤ r.tsn ∧ r.tsn < 4294967296) (h0 : 0 ≤ sd cum r.tsn) (h1 : sd cum r.tsn ≤ (l.length : Int)) : sd r.tsn e.tsn = (k : Int) + 1 - sd cum r.tsn := by
  have hl := h.len
  have hlt := (List.getElem?_eq_some_iff.1 hk).1
  have hc := h.cum
  rw [h.tsn k e hk]
  obtain ⟨q, hq⟩ : ∃ q, q = sd cum r.tsn := ⟨_, rfl⟩
  rw [← hq] at h0 h1 ⊢
  unfold sd at hq
  unfold sd nxt
  split at hq <;> split <;> omega
theorem tell_G (h : OkB N cum l) (hk : l[k]? = some e) (ht : 0 ≤ r.tsn ∧ r.tsn < 4294967296) (h0 : 0 ≤ sd cum r.tsn) (h1 : sd cum r.tsn ≤ (l.length : Int)) : tellG r e = r.good cum k := by
  unfold tellG Rp.good goodF Rp.n0
  rw [tell_d h hk ht h0 h1]
  congr 1
  rw [decide_eq_decide]
  omega
theorem tell_T (h : OkB N cum l) (hk : l[k]? = some e) (ht : 0 ≤ r.tsn ∧ r.tsn < 4294967296) (h0 : 0 ≤ sd cum r.tsn) (h1 : sd cum r.tsn ≤ (l.length : Int)) : tellT r e = r.told cum k := by
  unfold tellT Rp.told toldF
  rw [tell_G h hk ht h0 h1, tell_d h hk ht h0 h1]
  rfl
theorem tell_N (h : OkB N cum l) (ht : 0 ≤ r.tsn ∧ r.tsn < 4294967296) (h0 : 0 ≤ sd cum r.tsn) (h1 : sd cum r.tsn ≤ (l.length : Int)) : tellN r l = r.newly cum l := by
  funext k
  unfold tellN Rp.newly newF
  cases hk : l[k]? with
  | none => simp
  | some e => simp only; rw [tell_T h hk ht h0 h1]
theorem turnL_congr {f1 f2 f3 g1 g2 : Nat → Bool} (h : ∀ k < l.length, f1 k = g1 k ∧ f2 k = g2 k) : turnL f1 f2 f3 l = turnL g1 g2 f3 l := by
  unfold turnL
  apply List.ext_getElem?
  intro k
  rw [List.getElem?_mapIdx, List.getElem?_mapIdx]
  cases hk : l[k]? with
  | none => rfl
  | some e =>
    obtain ⟨a, b⟩ := h k (List.getElem?_eq_some_iff.1 hk).1
    rw [Option.map_some, Option.map_some, a, b]
theorem tsum_congr {f1 f2 f3 g1 g2 : Nat → Bool} (h : ∀ k < l.length, f1 k = g1 k ∧ f2 k = g2 k) : ∀ j, j ≤ l.length → tsum f1 f2 f3 l j = tsum g1 g2 f3 l j
  | 0, _ => rfl
  | j + 1, hj => by
    have hl : l[j]? = some (l[j]'(by omega)) := by simp
    obtain ⟨a, b⟩ := h j (by omega)
    rw [tsum_succ hl, tsum_succ hl, tsum_congr h j (by omega), a, b]
theorem rL1_eq (h : OkB N cum l) (ht : 0 ≤ r.tsn ∧ r.tsn < 4294967296) (h0 : 0 ≤ sd cum r.tsn) (h1 : sd cum r.tsn ≤ (l.length : Int)) : rL1 r l = r.l1 cum l ∧ rSums r l = r.sums cum l := by
  have key : ∀ k < l.length, tellI r l k = r.told cum k ∧ goodI r l k = r.good cum k := by
    intro k hk
    have hl : l[k]? = some (l[k]'hk) := by simp
    unfold tellI goodI
    rw [hl]
    exact ⟨tell_T h hl ht h0 h1, tell_G h hl ht h0 h1⟩
  unfold rL1 rSums Rp.l1 Rp.sums
  rw [tell_N h ht h0 h1]
  exact ⟨turnL_congr key, tsum_congr key _ (Nat.le_refl _)⟩
/-- a later chunk came: the greatest time tells -/
theorem later_lt (hp : ∀ e ∈ l, 0 ≤ e.path) {q s : Int} (hq : 0 ≤ q) (hs : 0 ≤ s) : ∀ (i j : Nat), j + i = l.length → laterFrom nw q s j (l.drop j) = decide ((qS nw F0 l j).1 q.toNat ≥ s) := by
  intro i
  induction i with
  | zero =>
    intro j hj
    unfold qS
    rw [List.drop_eq_nil_of_le (by omega)]
    show false = decide ((-1 : Int) ≥ s)
    symm
    rw [decide_eq_false_iff_not]
    omega
  | succ i ih =>
    intro j hj
    have hl : l[j]? = some (l[j]'(by omega)) := by simp
    obtain ⟨e, he⟩ : ∃ e, e = l[j]'(by omega) := ⟨_, rfl⟩
    rw [← he] at hl
    have hpe := hp e (List.mem_of_getElem? hl)
    rw [drop_at hl, qS_step hl]
    show ((nw j && (e.path == q && decide (e.sent ≥ s))) || laterFrom nw q s (j + 1) (l.drop (j + 1))) = decide (latS (nw j) e (qS nw F0 l (j + 1)).1 q.toNat ≥ s)
    rw [ih (j + 1) (by omega)]
    obtain ⟨x, hx⟩ : ∃ x, x = (qS nw F0 l (j + 1)).1 q.toNat := ⟨_, rfl⟩
    unfold latS
    rw [← hx]
    have eq1 : (e.path = (q.toNat : Int)) ↔ e.path = q := by omega
    simp only [eq1]
    cases hn : nw j with
    | false => simp
    | true =>
      by_cases hpq : e.path = q
      · rw [if_pos ⟨rfl, hpq⟩]
        have : (e.path == q) = true := by simpa using hpq
        rw [this, Bool.true_and, Bool.true_and]
        by_cases h1 : e.sent ≥ s <;> by_cases h2 : x ≥ s <;> by_cases h3 : e.sent > x <;> simp [h1, h2, h3] <;> omega
      · rw [if_neg (by simp [hpq])]
        have : (e.path == q) = false := by simpa using hpq
        rw [this]
        simp
theorem bI_eq (hp : ∀ e ∈ l, 0 ≤ e.path) (hs : ∀ e ∈ l, 0 ≤ e.sent) (hk : l[k]? = some e) : bI nw l k e = bqk (qS nw F0 l (k + 1)).1 e := by
  have hlt := (List.getElem?_eq_some_iff.1 hk).1
  have hm := List.mem_of_getElem? hk
  unfold bI bqk
  rw [later_lt (F0 := F0) hp (hp e hm) (hs e hm) (l.length - (k + 1)) (k + 1) (by omega)]
theorem quick_eq (hp : ∀ e ∈ l, 0 ≤ e.path) (hs : ∀ e ∈ l, 0 ≤ e.sent) : l.mapIdx (qF nw l) = l.mapIdx (quickL nw F0 l) := by
  apply List.ext_getElem?
  intro k
  rw [List.getElem?_mapIdx, List.getElem?_mapIdx]
  cases hk : l[k]? with
  | none => rfl
  | some e =>
    rw [Option.map_some, Option.map_some]
    unfold qF quickL
    rw [bI_eq (F0 := F0) hp hs hk]
def lostTo (nw : Nat → Bool) (l : List En) (p : Nat) : Nat → Nat
  | 0 => 0
  | j + 1 => lostTo nw l p j + (match l[j]? with | some e => if mkdB (bI nw l j e) e = true ∧ e.path.toNat = p then e.data.length else 0 | none => 0)
theorem lost_succ (h : l[j]? = some e) : lostTo nw l p (j + 1) = lostTo nw l p j + (if mkdB (bI nw l j e) e = true ∧ e.path.toNat = p then e.data.length else 0) := by rw [lostTo, h]
theorem lost_le (hd : ∀ e ∈ l, e.data.length ≤ 70000) (j : Nat) : j ≤ l.length → lostTo nw l p j ≤ j * 70000 := by
  induction j with
  | zero => intro _; simp [lostTo]
  | succ j ih =>
    intro hj
    have hl : l[j]? = some (l[j]'(by omega)) := by simp
    have := ih (by omega)
    have h2 := hd _ (List.mem_of_getElem? hl)
    rw [lost_succ hl, Nat.succ_mul]
    split
    · exact Nat.add_le_add this h2
    · exact Nat.add_le_add this (Nat.zero_le _)
theorem fwd_eq (hd : ∀ e ∈ l, e.data.length ≤ 70000) (hl : l.length ≤ 1048576) (hF : ∀ p, (F0 p).f3 = 0) : ∀ j, j ≤ l.length → ∀ p, fwdF nw l F0 j p = ⟨(F0 p).f0, (F0 p).f1, (F0 p).f2, (lostTo nw l p j : Int)⟩
  | 0, _, p => by
    have := hF p
    show F0 p = _
    cases h : F0 p with
    | mk a b c d => rw [h] at this; rw [show d = 0 from this]; rfl
  | j + 1, hj, p => by
    have hlj : l[j]? = some (l[j]'(by omega)) := by simp
    obtain ⟨e, he⟩ : ∃ e, e = l[j]'(by omega) := ⟨_, rfl⟩
    rw [← he] at hlj
    have ih := fwd_eq hd hl hF j (by omega)
    have hb := lost_le (nw := nw) (p := e.path.toNat) hd j (by omega)
    have h2 := hd e (List.mem_of_getElem? hlj)
    rw [fwdF_succ hlj, lost_succ hlj]
    by_cases hm : mkdB (bI nw l j e) e = true
    · rw [if_pos hm]
      unfold withL
      by_cases hp : p = e.path.toNat
      · subst hp
        rw [if_pos rfl, if_pos ⟨hm, rfl⟩, ih]
        dsimp only
        rw [wrap_i64 (by omega) (by omega)]
        congr 1
      · rw [if_neg hp, if_neg (fun h => hp h.2.symm), ih, Nat.add_zero]
    · rw [if_neg hm, if_neg (fun h => hm h.1), ih, Nat.add_zero]
theorem back_eq (hp : ∀ e ∈ l, 0 ≤ e.path) (hs : ∀ e ∈ l, 0 ≤ e.sent) (hd : ∀ e ∈ l, e.data.length ≤ 70000) (hl : l.length ≤ 1048576) (hF : ∀ p, (F0 p).f3 = 0) : ∀ (i j : Nat), j + i = l.length → ∀ p, (qS nw F0 l j).2 p = ⟨(F0 p).f0, (F0 p).f1, (F0 p).f2, (lostTo nw l p l.length : Int) - lostTo nw l p j⟩ := by
  intro i
  induction i with
  | zero =>
    intro j hj p
    have e1 : j = l.length := by omega
    subst e1
    unfold qS
    rw [List.drop_eq_nil_of_le (Nat.le_refl _)]
    show F0 p = _
    have := hF p
    rw [Int.sub_self]
    cases h : F0 p with
    | mk a b c d => rw [h] at this; rw [show d = 0 from this]
  | succ i ih =>
    intro j hj p
    have hlj : l[j]? = some (l[j]'(by omega)) := by simp
    obtain ⟨e, he⟩ : ∃ e, e = l[j]'(by omega) := ⟨_, rfl⟩
    rw [← he] at hlj
    have ih := ih (j + 1) (by omega)
    have h2 := hd e (List.mem_of_getElem? hlj)
    have hb := lost_le (nw := nw) (p := e.path.toNat) hd l.length (Nat.le_refl _)
    have hb2 := lost_le (nw := nw) (p := e.path.toNat) hd (j + 1) (by omega)
    rw [qS_step hlj, ← bI_eq (F0 := F0) hp hs hlj]
    show (if mkdB (bI nw l j e) e = true then withL _ _ _ else _ : Nat → R52) p = _
    by_cases hm : mkdB (bI nw l j e) e = true
    · rw [if_pos hm]
      unfold withL
      by_cases hpp : p = e.path.toNat
      · subst hpp
        rw [if_pos rfl, ih]
        dsimp only
        rw [wrap_i64 (by omega) (by omega)]
        have := lost_succ (nw := nw) (p := e.path.toNat) hlj
        rw [if_pos ⟨hm, rfl⟩] at this
        congr 1
        omega
      · rw [if_neg hpp, ih]
        have := lost_succ (nw := nw) (p := p) hlj
        rw [if_neg (fun h => hpp h.2.symm)] at this
        rw [this]
        rfl
    · rw [if_neg hm, ih]
      have := lost_succ (nw := nw) (p := p) hlj
      rw [if_neg (fun h => hm h.1)] at this
      rw [this]
      rfl
theorem paths_eq (hp : ∀ e ∈ l, 0 ≤ e.path) (hs : ∀ e ∈ l, 0 ≤ e.sent) (hd : ∀ e ∈ l, e.data.length ≤ 70000) (hl : l.length ≤ 1048576) (hF : ∀ p, (F0 p).f3 = 0) (p : Nat) : fwdF nw l F0 l.length p = (qS nw F0 l 0).2 p := by
  rw [fwd_eq hd hl hF _ (Nat.le_refl _), back_eq hp hs hd hl hF l.length 0 (Nat.zero_add _)]
  rw [show ((lostTo nw l p 0 : Nat) : Int) = 0 from rfl, Int.sub_zero]
theorem ack_f3 (now : Int) (p : Nat) : (ackOut now nw l p).f3 = 0 := by
  have key : ∀ j, j ≤ l.length → (stj now nw l j p).1.f3 = 0 := by
    intro j
    induction j with
    | zero => intro _; rfl
    | succ j ih =>
      intro hj
      have hl : l[j]? = some (l[j]'(by omega)) := by simp
      have e1 : stj now nw l (j + 1) p = akStep now p (stj now nw l j p) (l[j]'(by omega), nw j) := by
        unfold stj
        rw [List.take_add_one, withF_at hl, List.foldl_append]
        rfl
      rw [e1]
      unfold akStep
      have ih := ih (by omega)
      split
      · dsimp only
        split <;> exact ih
      · exact ih
  exact key _ (Nat.le_refl _)
end
end Go.Proofs.Ytmliokbonkndaaa
