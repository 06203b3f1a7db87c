/-
  A box is made; a part is sent; a path is given up.
-/
import Derived.Test.YtmliokbonkndaaaObC
import Derived.Test.YtmliokbonkndaaaObF
namespace Go.Proofs.Ytmliokbonkndaaa
open Go Go.Sh
section
variable {W w : World} {L M : List HP} {bb : Nat} {n cum : Int} {a : Option Addr} {c : Nat} {es : List (Nat × En)} {b : Nat} {e : En}
theorem alcS (h : Hs W L w) {o : Obj} {K : Nat → World → Prop} (hk : ∀ b w', Same w w' → Hs W (pt b o :: L) w' → K b w') : Sh.alc o w K := hk _ _ ((Fr.refl w).alloc _) (h.alloc o)
def newC (first : Int) : Int := (first - 1) % 4294967296
theorem c9 (h : Hs W L w) (first paths : Int) : Calls Try.prog 9 #[.int .u32 first, .int .i64 paths] w (rt fun v w' =>
    (¬ (1 ≤ paths ∧ paths ≤ 8) ∧ v = .tuple #[.pointer none, .int .i64 1] ∧ w' = w) ∨ ((1 ≤ paths ∧ paths ≤ 8) ∧ ∃ bb, v = .tuple #[.pointer (some ⟨bb, 0, none⟩), .int .i64 0] ∧ Hs W (boxL bb paths (newC first) none 0 [] ++ L) w')) := by
  refine F9_ok ?_
  unfold F9
  simp only [rdI_mk, br_dec]
  refine ⟨fun h1 => .inl ⟨by omega, trivial, trivial⟩, fun h1 => ⟨fun h2 => .inl ⟨by omega, trivial, trivial⟩, fun h2 => ?_⟩⟩
  refine h.alc fun b w1 h1 => .inr ⟨by omega, b, rfl, ?_⟩
  have h2 := (h1.nil 91 1).toO 0 rfl
  rw [wrap_u32_mod] at h2
  exact h2.perm (List.Perm.swap _ _ _)
/-! chunks that turn one by one -/
def half (f : Nat × En → Nat × En) (j : Nat) (es : List (Nat × En)) : List (Nat × En) := (es.take j).map f ++ es.drop j
theorem half_zero (f : Nat × En → Nat × En) (es : List (Nat × En)) : half f 0 es = es := by simp [half]
theorem half_all (f : Nat × En → Nat × En) (es : List (Nat × En)) : half f es.length es = es.map f := by simp [half]
theorem half_get {f : Nat × En → Nat × En} {es : List (Nat × En)} {j : Nat} {p : Nat × En} (h : es[j]? = some p) : (half f j es)[j]? = some p := by
  have hlt := (List.getElem?_eq_some_iff.1 h).1
  unfold half
  rw [List.getElem?_append_right (by simp; omega), List.length_map, List.length_take, Nat.min_eq_left (by omega), Nat.sub_self, List.getElem?_drop]
  exact h
theorem half_set {f : Nat × En → Nat × En} {es : List (Nat × En)} {j : Nat} {p : Nat × En} (h : es[j]? = some p) : (half f j es).set j (f p) = half f (j + 1) es := by
  have hlt := (List.getElem?_eq_some_iff.1 h).1
  have e1 : ((es.take j).map f).length = j := by rw [List.length_map, List.length_take, Nat.min_eq_left (by omega)]
  unfold half
  rw [List.set_append_right _ _ (by omega), e1, Nat.sub_self, List.take_add_one, h, List.map_append, List.append_assoc]
  congr 1
  rw [List.drop_eq_getElem_cons hlt, List.set_cons_zero]
  rfl
theorem half_length (f : Nat × En → Nat × En) (j : Nat) (es : List (Nat × En)) : (half f j es).length = es.length := by
  unfold half
  rw [List.length_append, List.length_map, ← List.length_append, List.take_append_drop]
theorem half_ptr {f : Nat × En → Nat × En} (hf : ∀ p, (f p).1 = p.1) (j : Nat) (es : List (Nat × En)) : ptrV (half f j es) = ptrV es := by
  unfold ptrV half
  rw [List.map_append, List.map_map]
  have : ((fun p : Nat × En => Value.pointer (some ⟨p.1, 0, none⟩)) ∘ f) = fun p : Nat × En => Value.pointer (some ⟨p.1, 0, none⟩) := by
    funext p; simp [hf]
  rw [this, ← List.map_append, List.take_append_drop]
theorem dats_map (g : En → En) (es : List (Nat × En)) : dats (es.map fun p => (p.1, g p.2)) = (dats es).map g := by simp [dats]
def giveUp (path : Int) (l : List En) : List En := l.map fun e => if onB path e = true then e.mk' else e
theorem c25 (h : Hs W (boxL bb n cum a c es ++ L) w) (hn : 1 ≤ n) (hl : es.length ≤ 1048576) (hd : ∀ e ∈ dats es, e.data.length ≤ 70000) (path : Int) :
    Calls Try.prog 25 #[.pointer (some ⟨bb, 0, none⟩), .int .i64 path] w (rt fun v w' => (¬ (0 ≤ path ∧ path < n) ∧ v = .tuple #[.int .i64 0, .int .i64 90] ∧ Hs W (boxL bb n cum a c es ++ L) w') ∨
      ((0 ≤ path ∧ path < n) ∧ ∃ es', dats es' = giveUp path (dats es) ∧ v = .tuple #[.int .i64 (szs (onB path) (dats es) : Int), .int .i64 0] ∧ Hs W (boxL bb n cum a c es' ++ L) w')) := by
  refine F25_ok ?_
  unfold F25
  simp only [rdP_mk, rdI_mk]
  have hb := box_rb h
  refine clr (c29 hb hn path 0) ⟨_, rfl, ?_⟩
  by_cases hp : 0 ≤ path ∧ path < n
  · have hz : askE n path 0 = 0 := by unfold askE; rw [if_neg (by omega), if_neg (by omega)]
    rw [hz, show ((0 : Int) != 0) = false from rfl, br_false]
    refine cl (c40 path w) ?_
    rintro fv w1 ⟨hq, s1⟩
    refine ⟨fv, rfl, ?_⟩
    refine cl (c53 (hb.same s1) hn hl hd hq) ?_
    rintro _ w2 ⟨s2, rfl⟩
    refine ⟨_, rfl, ?_⟩
    have h2 := (h.same s1).same s2
    simp only [nn_some, add_mk]
    refine h2.ldC 0 rfl rfl ?_
    obtain ⟨f, hf⟩ : ∃ f : Nat × En → Nat × En, f = fun p => (p.1, if onB path p.2 = true then p.2.mk' else p.2) := ⟨_, rfl⟩
    have hf1 : ∀ p, (f p).1 = p.1 := fun p => by rw [hf]
    have loop : ∀ (i j : Nat) (w3 : World) (k : Nat) (K0 : Value → World → Prop) (s : Int), j + i = es.length → Hs W (boxL bb n cum a c (half f j es) ++ L) w3 → i < k →
        (∀ w', Hs W (boxL bb n cum a c (es.map f) ++ L) w' → K0 (.int .i64 s) w') →
        F25_1 K0 k (.int .i64 path) (.int .i64 s) (.slice a es.length c) (.int .i64 (es.length : Int)) (.int .i64 (j : Int)) w3 := by
      intro i
      induction i with
      | zero =>
        intro j w3 k K0 s hj hw hk hK
        obtain ⟨k, rfl⟩ : ∃ j, k = j + 1 := ⟨k - 1, by omega⟩
        show F25_1B _ _ _ _ _ _ _ _
        unfold F25_1B
        simp only [rdC_mk, rdI_mk, br_dec]
        refine ⟨fun h => by exfalso; omega, fun _ => hK w3 ?_⟩
        rw [← half_all, show es.length = j by omega]
        exact hw
      | succ i ih =>
        intro j w3 k K0 s hj hw hk hK
        obtain ⟨k, rfl⟩ : ∃ j, k = j + 1 := ⟨k - 1, by omega⟩
        show F25_1B _ _ _ _ _ _ _ _
        unfold F25_1B
        simp only [rdC_mk, rdI_mk, br_dec]
        refine ⟨fun _ => ?_, fun h => by exfalso; omega⟩
        obtain ⟨p, hp⟩ : ∃ p, es[j]? = some p := ⟨es[j]'(by omega), by simp⟩
        have hr := hw.rdO 1 rfl
        rw [half_ptr hf1] at hr
        obtain ⟨ad, had⟩ := hr.some (by rw [ptrV_length]; omega)
        subst had
        refine ixS_of (by omega) (by omega) ?_
        rw [Int.toNat_natCast, Nat.mul_one]
        refine ldP_c (hr.at (ptrV_at hp)) ?_
        refine cl (c40 path w3) ?_
        rintro fv w4 ⟨hq, s4⟩
        refine ⟨fv, rfl, ?_⟩
        have h4 := hw.same s4
        have hre := (box_rb h4).ent p (List.mem_of_getElem? (half_get (f := f) hp))
        refine callV_mono ?_ (hq w4 p.1 p.2 (Fr.refl w4) hre)
        rintro _ w5 ⟨rfl, s5⟩
        refine ⟨_, rfl, ?_⟩
        have h5 := h4.same s5
        have e1 : IntKind.wrap .i64 ((j : Int) + 1) = ((j + 1 : Nat) : Int) := by rw [wrap_i64 (by omega) (by omega)]; omega
        rw [e1, br_iff]
        refine ⟨fun hb => ?_, fun hb => ?_⟩
        · obtain ⟨M, hM, back⟩ := box_turn h5 (half_get (f := f) hp)
          refine cl (c54 hM) ?_
          rintro _ w6 ⟨rfl, h6⟩
          refine ⟨rfl, ?_⟩
          refine ih (j + 1) w6 k K0 s (by omega) ?_ (by omega) hK
          rw [← half_set hp]
          have e2 : f p = (p.1, p.2.mk') := by rw [hf]; simp only [hb, if_true]
          rw [e2]
          exact back _ _ h6
        · refine ih (j + 1) w5 k K0 s (by omega) ?_ (by omega) hK
          have e2 : f p = p := by rw [hf]; simp only [hb]; rfl
          rw [← half_set hp, e2, set_id (half_get hp)]
          exact h5
    refine ⟨es.length + 1, loop es.length 0 w2 _ _ _ (by omega) (by rw [half_zero]; exact h2) (by omega) fun w3 h3 _g => ?_⟩
    simp only [rdI_mk]
    refine .inr ⟨hp, es.map f, ?_, trivial, h3⟩
    rw [hf]
    exact dats_map (fun e => if onB path e = true then e.mk' else e) es
  · have hz : askE n path 0 = 90 := by unfold askE; rw [if_pos (by omega)]
    rw [hz, show ((90 : Int) != 0) = true from rfl, br_true]
    exact .inl ⟨hp, rfl, h⟩
/-! a part is sent -/
def En.pt (e : En) (a : Option Addr) (c : Nat) : R40 := ⟨e.stream, e.ssn, e.proto, e.uno, a, e.data.length, c, e.bg, e.en⟩
def En.put (e : En) (tsn path now : Int) : En := { e with tsn := tsn, path := path, times := 1, sent := now, miss := 0, qk := false, st := 1 }
def putE (n path now : Int) (e : En) (k : Nat) : Int := if askE n path now ≠ 0 then askE n path now else if e.data.length = 0 ∨ e.data.length > 65536 then 1 else if k ≥ 32768 then 3 else 0
theorem c10_1 {d16 : Nat} {e' : En} {a' : Option Addr} {c' : Nat} (hl : es.length ≤ 1048576) {Kr : Value → Value → World → Prop}
    (h : Hs W (boxL bb n cum a c es ++ (pt d16 (.cells (e'.r a' c').c 58 (0, 0)) :: slP 5 1 a' e'.data.length c' (byV e'.data) :: L)) w)
    (hK : ∀ w' b a2 c2, Hs W (boxL bb n cum a2 c2 (es ++ [(b, e')]) ++ L) w' → Kr (.int .u32 e'.tsn) (.int .i64 0) w') :
    F10_1 Kr (.pointer (some ⟨bb, 0, none⟩)) (.pointer (some ⟨d16, 0, none⟩)) w := by
  unfold F10_1
  simp only [rdP_mk, rdA_mk, nn_some, add_mk]
  refine h.drw fun w3 h3 => h3.ldC 0 rfl rfl ?_
  have h3' : Hs W (pt d16 (.cells (e'.r a' c').c 58 (0, 0)) :: (boxL bb n cum a c es ++ (slP 5 1 a' e'.data.length c' (byV e'.data) :: L))) w3 := h3.ahead
  refine ldR57_of (s := e'.r a' c') (h3'.atL 0 rfl) ?_
  refine alcS h3' fun b7 w8 s8 h8 => ⟨Pres.of_Same s8, ?_⟩
  refine alcS h8 fun b9 w10 s10 h10 => ⟨Pres.of_Same (s8.trans s10 fun _ _ x => x), ?_⟩
  refine h10.appendO E77 4 rfl (b := ⟨b9, 0, none⟩) (m := 1) (news := [.pointer (some ⟨b7, 0, none⟩)]) rfl (fun j u hj => ⟨_, rfl, ?_⟩) (by simp [Value.oneCell']) (by omega) (by omega) fun a2 c2 w12 h12 _ => ?_
  · rw [add_mk, Nat.zero_add, cell_at (h10.at 0 rfl)]
    simpa using hj
  refine h12.stc 3 rfl (by simp) fun w14 h14 => ?_
  refine h14.ldI 2 rfl rfl ?_
  refine hK w14 b7 a2 c2 ?_
  have h14 : Hs W (pt b9 (.cells #[.pointer (some ⟨b7, 0, none⟩)] 91 (0, 0)) :: pt b7 (.cells (e'.r a' c').c 93 (0, 0)) :: pt d16 (.cells (e'.r a' c').c 58 (0, 0)) :: pt bb (.cells #[.int .i64 n, .int .u32 cum, .slice a2 (es.length + 1) c2] 79 (0, 0)) :: slO 91 1 a2 (es.length + 1) c2 (ptrV es ++ [.pointer (some ⟨b7, 0, none⟩)]) :: (es.map entP ++ (slP 5 1 a' e'.data.length c' (byV e'.data) :: L))) w14 := h14
  have h15 : Hs W (pt b7 (.cells (e'.r a' c').c 93 (0, 0)) :: ((pt bb (.cells #[.int .i64 n, .int .u32 cum, .slice a2 (es.length + 1) c2] 79 (0, 0)) :: slO 91 1 a2 (es.length + 1) c2 (ptrV es ++ [.pointer (some ⟨b7, 0, none⟩)]) :: es.map entP) ++ (slP 5 1 a' e'.data.length c' (byV e'.data) :: L))) w14 := h14.drop.erase 1
  have h16 := ent_close (p := (b7, e')) (h15.perm (List.Perm.cons _ List.perm_middle))
  refine (h16.perm List.perm_middle.symm).cast ?_
  unfold boxL ptrV
  simp
def PutP (W : World) (L : List HP) (bb : Nat) (n cum : Int) (a : Option Addr) (c : Nat) (es : List (Nat × En)) (e : En) (path now : Int) (v : Value) (w' : World) : Prop :=
  (putE n path now e es.length ≠ 0 ∧ v = .tuple #[.int .u32 0, .int .i64 (putE n path now e es.length)] ∧ Hs W (boxL bb n cum a c es ++ L) w') ∨
  (putE n path now e es.length = 0 ∧ v = .tuple #[.int .u32 (nxt cum es.length), .int .i64 0] ∧ ∃ b a' c', Hs W (boxL bb n cum a' c' (es ++ [(b, e.put (nxt cum es.length) path now)]) ++ L) w')
theorem c10 (h : Hs W (boxL bb n cum a c es ++ L) w) (hn : 1 ≤ n) (hl : es.length ≤ 1048576) (_ : ∀ e ∈ dats es, e.data.length ≤ 70000) {da : Option Addr} {dc : Nat} (hr : Rd w da (byV e.data)) (path now : Int) :
    Calls Try.prog 10 #[.pointer (some ⟨bb, 0, none⟩), .int .i64 path, (e.pt da dc).v, .int .i64 now] w (rt (PutP W L bb n cum a c es e path now)) := by
  refine F10_ok ?_
  unfold F10
  simp only [rdP_mk, rdI_mk]
  refine exR40_of (e.pt da dc) ⟨rfl, ?_⟩
  refine alcS h fun b5 w1 s1 h1 => ?_
  have hb := box_rb h1.drop
  have hr1 : Rd w1 da (byV e.data) := hr.fr s1 fun _ _ x => x
  refine clr (c29 hb hn path now) ⟨_, rfl, ?_⟩
  by_cases hz : askE n path now = 0
  · rw [hz, show ((0 : Int) != 0) = false from rfl, br_false]
    simp only [add_mk]
    refine h1.ldC 0 rfl rfl ?_
    rw [br_iff]
    refine ⟨fun h0 => ?_, fun h0 => ?_⟩
    · have h0 : ((e.data.length : Int) == 0) = true := h0
      rw [beq_iff_eq] at h0
      have h0 : e.data.length = 0 := by omega
      have e1 : putE n path now e es.length = 1 := by unfold putE; rw [if_neg (by simp [hz]), if_pos (.inl h0)]
      exact .inl ⟨by rw [e1]; decide, by rw [e1], h1.drop⟩
    have h0 : e.data.length ≠ 0 := by
      intro hx
      have : ((e.data.length : Int) == 0) = true := by rw [hx]; rfl
      exact absurd (this.symm.trans h0) (by decide)
    refine h1.ldC 0 rfl rfl ?_
    rw [br_dec]
    refine ⟨fun h2 => ?_, fun h2 => ?_⟩
    · have h2 : (e.data.length : Int) > 65536 := h2
      have e1 : putE n path now e es.length = 1 := by unfold putE; rw [if_neg (by simp [hz]), if_pos (.inr (by omega))]
      exact .inl ⟨by rw [e1]; decide, by rw [e1], h1.drop⟩
    have h2 : ¬ (e.data.length : Int) > 65536 := h2
    unfold F10_2
    simp only [rdP_mk, rdI_mk, rdA_mk, nn_some, add_mk]
    refine h1.ldC 1 rfl rfl ?_
    rw [br_dec]
    refine ⟨fun h3 => ?_, fun h3 => ?_⟩
    · have e1 : putE n path now e es.length = 3 := by unfold putE; rw [if_neg (by simp [hz]), if_neg (by omega), if_pos (by omega)]
      exact fun _g => .inl ⟨by rw [e1]; decide, by rw [e1], h1.drop⟩
    have e0 : putE n path now e es.length = 0 := by unfold putE; rw [if_neg (by simp [hz]), if_neg (by omega), if_neg (by omega)]
    unfold drw
    have s2 : Same w1 w1.drew := (Fr.refl w1).drew
    have h2 := h1.same s2
    have hr2 : Rd w1.drew da (byV e.data) := hr1.fr s2 fun _ _ x => x
    generalize w1.drew = w2 at s2 h2 hr2 ⊢
    refine ⟨w2, Pres.refl _, ?_⟩
    refine ldR40_of (s := e.pt da dc) (h2.atL 0 rfl) ?_
    obtain ⟨e', he'⟩ : ∃ e', e' = e.put (nxt cum es.length) path now := ⟨_, rfl⟩
    have c30' : ∀ {w3 : World}, Same w2 w3 → Calls Try.prog 30 #[.agg #[.int .u32 (nxt cum es.length), .int .i64 path, .int .i64 1, .int .i64 now, .int .i64 0, .bool false, .int .i64 1, .int .u16 (e.pt da dc).f0, .int .u16 (e.pt da dc).f1, .int .u32 (e.pt da dc).f2, .bool (e.pt da dc).f3, .slice (e.pt da dc).f4a (e.pt da dc).f4n (e.pt da dc).f4c, .bool (e.pt da dc).f5, .bool (e.pt da dc).f6]] w3 (rt fun v w' => ∃ a c, v = (e'.r a c).v ∧ Own w' w3.heap.size 5 1 a e.data.length c (byV e.data) ∧ Same w3 w') := by
      intro w3 s
      rw [he']
      exact c30 (e := e.put (nxt cum es.length) path now) (da := da) (dc := dc) (hr2.fr s fun _ _ x => x) (by show e.data.length ≤ 70000; omega)
    have fin : ∀ w7 b a2 c2, Hs W (boxL bb n cum a2 c2 (es ++ [(b, e')]) ++ L) w7 → PutP W L bb n cum a c es e path now (.tuple #[.int .u32 e'.tsn, .int .i64 0]) w7 := fun w7 b a2 c2 h7 => .inr ⟨e0, by rw [he']; rfl, b, a2, c2, by rw [← he']; exact h7⟩
    have hb2 := box_rb h2.drop
    have hdt : e.data = e'.data := by rw [he']; rfl
    have first : ∀ {w3 : World} {d16 : Nat} {a' : Option Addr} {c' : Nat}, Hs W (pt d16 (.cells R57.z.c 58 (0, 0)) :: slP 5 1 a' e.data.length c' (byV e.data) :: pt b5 (.cells (e.pt da dc).c 41 (0, 0)) :: (boxL bb n cum a c es ++ L)) w3 →
        ∀ {K : World → Prop}, (∀ w', Hs W (boxL bb n cum a c es ++ (pt d16 (.cells (e'.r a' c').c 58 (0, 0)) :: slP 5 1 a' e'.data.length c' (byV e'.data) :: L)) w' → K w') → stcL ⟨d16, 0, none⟩ 0 (e'.r a' c').l w3 K := by
      intro w3 d16 a' c' h3 K hK
      refine h3.stcL 0 rfl rfl fun w4 h4 => hK w4 ?_
      have h4 : Hs W ([pt d16 (.cells (e'.r a' c').c 58 (0, 0)), slP 5 1 a' e.data.length c' (byV e.data)] ++ (boxL bb n cum a c es ++ L)) w4 := h4.erase 2
      rw [hdt] at h4
      exact Hs.flip.1 h4
    clear he' hdt hr1 hr hb h1
    refine ⟨cl (c19 hb2 hn) ?_, alcS h2 fun d16 w3 s3 h3 => ⟨Pres.of_Same s3, cl (c19 (hb2.same s3) hn) ?_⟩⟩
    · rintro _ w3 ⟨rfl, s3⟩
      have h3 := h2.same s3
      refine ⟨_, rfl, Pres.of_Same s3, cl (c30' s3) ?_, alcS h3 fun d16 w4 s4 h4 => ⟨Pres.of_Same (s3.trans s4 fun _ _ x => x), cl (c30' (s3.trans s4 fun _ _ x => x)) ?_⟩⟩
      · rintro _ w4 ⟨a', c', rfl, ho, s4⟩
        refine exR57_of (e'.r a' c') ⟨rfl, ?_⟩
        refine alcS (h3.own_new s4 ho) fun d16 w5 s5 h5 => ⟨Pres.of_Same ((s3.trans s4 fun _ _ x => x).trans s5 fun _ _ x => x), ?_⟩
        refine first h5 fun w6 h6 => c10_1 hl h6 fun w7 b a2 c2 h7 _g => ?_
        simp only [rdI_mk]
        exact fun _g => fin w7 b a2 c2 h7
      · rintro _ w5 ⟨a', c', rfl, ho, s5⟩
        refine exR57_of (e'.r a' c') ⟨rfl, ?_⟩
        refine first ((h4.own_new s5 ho).perm (List.Perm.swap _ _ _)) fun w6 h6 => c10_1 hl h6 fun w7 b a2 c2 h7 _g => ?_
        simp only [rdI_mk]
        exact fun _g => fin w7 b a2 c2 h7
    · rintro _ w4 ⟨rfl, s4⟩
      have h4 := h3.same s4
      refine ⟨_, rfl, Pres.of_Same (s3.trans s4 fun _ _ x => x), cl (c30' (s3.trans s4 fun _ _ x => x)) ?_⟩
      rintro _ w5 ⟨a', c', rfl, ho, s5⟩
      refine exR57_of (e'.r a' c') ⟨rfl, ?_⟩
      refine first ((h4.own_new s5 ho).perm (List.Perm.swap _ _ _)) fun w6 h6 => c10_1 hl h6 fun w7 b a2 c2 h7 _g => ?_
      simp only [rdI_mk]
      exact fun _g => fin w7 b a2 c2 h7
  · rw [show (askE n path now != 0) = true by simpa using hz, br_true]
    have e1 : putE n path now e es.length = askE n path now := by unfold putE; rw [if_pos hz]
    exact .inl ⟨by rw [e1]; exact hz, by rw [e1], h1.drop⟩
end
end Go.Proofs.Ytmliokbonkndaaa
namespace Go.Proofs.Ytmliokbonkndaaa
open Go Go.Sh

/-- the distance of two numbers that wrap -/
def sd (a b : Int) : Int := if (b - a) % 4294967296 ≥ 2147483648 then (b - a) % 4294967296 - 4294967296 else (b - a) % 4294967296
theorem sd_range (a b : Int) : -2147483648 ≤ sd a b ∧ sd a b < 2147483648 := by unfold sd; split <;> omega
theorem s62 (a b : Int) (w : World) : Calls Try.prog 62 #[.int .u32 a, .int .u32 b] w (rt (KR (.int .i64 (sd a b)) w)) := by
  refine F62_ok ?_
  have hc : bitI .xor .u32 (if IntKind.signed .u32 = true then -1 else IntKind.max .u32) (IntKind.wrap .u32 0) = 4294967295 := by decide +kernel
  have h1 : IntKind.wrap .u32 (Int.tdiv 4294967295 2) = 2147483647 := by decide +kernel
  have h2 : IntKind.wrap .i64 (IntKind.wrap .i64 2147483647 + 1) = 2147483648 := by decide +kernel
  have h3 : IntKind.wrap .i64 (2 * 2147483648) = 4294967296 := by decide +kernel
  have h4 : IntKind.wrap .i64 (IntKind.wrap .u32 (b - a)) = (b - a) % 4294967296 := by rw [wrap_u32_mod]; exact wrap_i64 (by omega) (by omega)
  unfold F62
  simp only [rdI_mk, hc, h1, h2, h3, h4, br_dec]
  unfold sd
  refine ⟨fun h => ?_, fun h => ?_⟩
  · rw [wrap_i64 (by omega) (by omega), if_pos h]; exact KR.mk _ _
  · rw [if_neg h]; exact KR.mk _ _
theorem s37 (a b : Int) (w : World) : Calls Try.prog 37 #[.int .u32 a, .int .u32 b] w (rt (KR (.int .i64 (sd a b)) w)) := by
  refine F37_ok ?_
  unfold F37
  simp only [rdI_mk]
  exact clr (s62 a b w) ⟨_, rfl, KR.mk _ _⟩
theorem s79 (a b : Int) (w : World) (ha : 0 ≤ a) (ha' : a < 4294967296) (hb : 0 ≤ b) (hb' : b < 4294967296) : Calls Try.prog 79 #[.int .i64 a, .int .i64 b, .int .i64 4294967296] w (rt (KR (.int .i64 (sd a b)) w)) := by
  refine F79_ok ?_
  have h1 : IntKind.wrap .i64 (b - a) = b - a := wrap_i64 (by omega) (by omega)
  have h2 : IntKind.wrap .i64 (Int.tdiv 4294967296 2) = 2147483648 := by decide +kernel
  have h3 : (b - a).tmod 4294967296 = if 0 ≤ b - a then (b - a) % 4294967296 else -((-(b - a)) % 4294967296) := by
    split
    · exact Int.tmod_eq_emod_of_nonneg ‹_›
    · have : (b - a) = -(-(b - a)) := by omega
      rw [this, Int.neg_tmod, Int.tmod_eq_emod_of_nonneg (by omega)]; simp
  unfold F79
  simp only [rdI_mk, h1, h2, br_dec]
  refine nz_of (by decide) ?_
  unfold sd
  rw [h3]
  by_cases h0 : 0 ≤ b - a
  · rw [if_pos h0]
    refine ⟨fun h => by omega, fun _ => ⟨fun h => ?_, fun h => ?_⟩⟩
    · rw [wrap_i64 (by omega) (by omega), if_pos h]; exact KR.mk _ _
    · rw [if_neg h]; exact KR.mk _ _
  · rw [if_neg h0]
    have h5 : (b - a) % 4294967296 = b - a + 4294967296 := by omega
    have h6 : (-(b - a)) % 4294967296 = -(b - a) := by omega
    rw [h5, h6, wrap_i64 (n := -(-(b - a)) + 4294967296) (by omega) (by omega)]
    refine ⟨fun _ => ⟨fun h => ?_, fun h => ?_⟩, fun h => by omega⟩
    · rw [wrap_i64 (by omega) (by omega), if_pos (by omega)]; rw [show -(-(b - a)) + 4294967296 - 4294967296 = b - a + 4294967296 - 4294967296 by omega]; exact KR.mk _ _
    · rw [if_neg (by omega)]; rw [show -(-(b - a)) + 4294967296 = b - a + 4294967296 by omega]; exact KR.mk _ _
theorem s76 (a b : Int) (w : World) (ha : 0 ≤ a) (ha' : a < 4294967296) (hb : 0 ≤ b) (hb' : b < 4294967296) : Calls Try.prog 76 #[.int .u32 a, .int .u32 b] w (rt (KR (.int .i64 (sd a b)) w)) := by
  refine F76_ok ?_
  unfold F76
  simp only [rdI_mk]
  rw [wrap_i64 (by omega) (by omega), wrap_i64 (by omega) (by omega)]
  exact clr (s79 a b w ha ha' hb hb') ⟨_, rfl, KR.mk _ _⟩
theorem s69 (a b : Int) (w : World) (ha : 0 ≤ a) (ha' : a < 4294967296) (hb : 0 ≤ b) (hb' : b < 4294967296) : Calls Try.prog 69 #[.int .u32 a, .int .u32 b] w (rt (KR (.bool (decide (sd a b > 0))) w)) := by
  refine F69_ok ?_
  unfold F69
  simp only [rdI_mk]
  exact clr (s76 a b w ha ha' hb hb') ⟨_, rfl, KR.mk _ _⟩
theorem s21 (a b : Int) (w : World) (ha : 0 ≤ a) (ha' : a < 4294967296) (hb : 0 ≤ b) (hb' : b < 4294967296) : Calls Try.prog 21 #[.int .u32 a, .int .u32 b] w (rt (KR (.int .u32 ((a + b) % 4294967296)) w)) := by
  refine F21_ok ?_
  unfold F21
  simp only [rdI_mk]
  rw [wrap_u64 (n := a) (by omega) (by omega), wrap_u64 (n := b) (by omega) (by omega), wrap_u64 (by omega) (by omega), Int.tmod_eq_emod_of_nonneg (by omega), wrap_u32 (by omega) (by omega)]
  exact KR.mk _ _
theorem s57 (a b : Int) (w : World) : Calls Try.prog 57 #[.int .u32 a, .int .u32 b] w (rt (KR (.bool (decide (sd a b > 0))) w)) := by
  refine F57_ok ?_
  unfold F57
  simp only [rdI_mk]
  exact clr (s62 a b w) ⟨_, rfl, KR.mk _ _⟩
end Go.Proofs.Ytmliokbonkndaaa
