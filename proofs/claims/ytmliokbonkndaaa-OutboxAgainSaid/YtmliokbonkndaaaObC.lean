/-
  The first chunk on a path, what is marked, all chunks; a chunk is sent, or sent again; a path is given up.
-/
import Derived.Test.YtmliokbonkndaaaShX
namespace Go.Proofs.Ytmliokbonkndaaa
open Go Go.Sh
def recV (d : En × Option Addr × Nat) : List Value := (d.1.r d.2.1 d.2.2).l
def datP (d : En × Option Addr × Nat) : HP := slP 5 1 d.2.1 d.1.data.length d.2.2 (byV d.1.data)
/-- a row of chunks, each with data of its own -/
def outL (a : Option Addr) (c : Nat) (ds : List (En × Option Addr × Nat)) : List HP := slP 58 14 a ds.length c (ds.flatMap recV) :: ds.map datP
theorem recV_length (d : En × Option Addr × Nat) : (recV d).length = 14 := rfl
theorem rec_one (e : En) (a : Option Addr) (c : Nat) : ∀ u ∈ (e.r a c).c.toList, u.oneCell' = true := by
  intro u hu
  simp [R57.c, En.r] at hu
  rcases hu with rfl | rfl | rfl | rfl | rfl | rfl | rfl | rfl | rfl | rfl | rfl | rfl | rfl | rfl <;> rfl
section
variable {W w : World} {L M : List HP} {bb : Nat} {n cum : Int} {a : Option Addr} {c : Nat} {es : List (Nat × En)} {b : Nat} {e : En}
theorem c16 (h : RB w bb n cum es) (hn : 1 ≤ n) (hl : es.length ≤ 1048576) (hd : ∀ e ∈ dats es, e.data.length ≤ 70000) (p : Int) :
    Calls Try.prog 16 #[.pointer (some ⟨bb, 0, none⟩), .int .i64 p] w (rt fun v w' => ∃ s b, v = .tuple #[s.v, .bool b] ∧ oneS w.heap.size w' ((dats es).find? (onB p)) s b ∧ Same w w') := by
  refine F16_ok ?_
  unfold F16
  simp only [rdP_mk, rdI_mk]
  refine (Hs.start w).alc fun g w1 h1 => ?_
  refine cl (c40 p w1) ?_
  rintro fv w2 ⟨hq, s2⟩
  refine ⟨fv, rfl, ?_⟩
  have h2 := h1.same s2
  refine cl (c39 (h.same h2.old) hn (by omega) hq) ?_
  rintro _ w3 ⟨s3, rfl⟩
  refine ⟨_, rfl, ?_⟩
  have h3 := h2.same s3
  refine cl (c38 (find_re (h.same h3.old) hd)) ?_
  rintro _ w4 ⟨s, b, rfl, ho, s4⟩
  refine exR57_of s ⟨b, rfl, ?_⟩
  have h4 := h3.same s4
  rw [find_dats] at ho
  cases hf : (dats es).find? (onB p) with
  | none =>
    rw [hf] at ho
    obtain ⟨rfl, rfl⟩ := ho
    refine h4.stcL 0 rfl rfl fun w5 h5 => ldR57_of (s := R57.z) (h5.atL 0 rfl) ⟨_, _, rfl, ⟨rfl, rfl⟩, h5.old⟩
  | some e =>
    rw [hf] at ho
    obtain ⟨rfl, a, c, rfl, ho⟩ := ho
    have h5 := h3.own_new s4 ho
    refine h5.stcL 1 rfl rfl fun w6 h6 => ldR57_of (s := e.r a c) (h6.atL 1 rfl) ⟨_, _, rfl, ⟨rfl, a, c, rfl, h6.own 0 rfl⟩, h6.old⟩
theorem c26 (h : RB w bb n cum es) (hn : 1 ≤ n) (hl : es.length ≤ 1048576) (hd : ∀ e ∈ dats es, e.data.length ≤ 70000) :
    Calls Try.prog 26 #[.pointer (some ⟨bb, 0, none⟩)] w (rt fun v w' => ∃ s b, v = .tuple #[.int .i64 (szs mrkB (dats es) : Int), s.v, .bool b] ∧ oneS w.heap.size w' ((dats es).find? mrkB) s b ∧ Same w w') := by
  refine F26_ok ?_
  unfold F26
  simp only [rdP_mk]
  refine (Hs.start w).alc fun g w2 h2 => ?_
  refine cl (c39 (h.same h2.old) hn (by omega) (is_marked w2)) ?_
  rintro _ w3 ⟨s3, rfl⟩
  refine ⟨_, rfl, ?_⟩
  have h3 := h2.same s3
  refine cl (c38 (find_re (h.same h3.old) hd)) ?_
  rintro _ w4 ⟨s, b, rfl, ho, s4⟩
  refine exR57_of s ⟨b, rfl, ?_⟩
  rw [find_dats] at ho
  have fin : ∀ (X : List HP) (w4 : World) (s : R57), Hs w (X ++ [pt g (.cells R57.z.c 58 (0, 0))]) w4 → (∀ w', Hs w (X ++ [pt g (.cells s.c 58 (0, 0))]) w' → oneS w.heap.size w' ((dats es).find? mrkB) s b) →
      alc (.cells R57.z.c 58) w4 fun b11 w12 => stcL ⟨b11, 0, none⟩ 0 s.l w12 fun w13 => drw w13 fun w14 => ∃ w15 : World, Pres w15 w14 ∧ (ldR57 ⟨b11, 0, none⟩ w15 fun s16 =>
        Calls Try.prog 53 #[.pointer (some ⟨bb, 0, none⟩), .func (.func 52) #[] #[]] w14 fun e18 w17 => ∃ n19, e18 = .returned (.int .i64 n19) ∧ (Pres w15 w17 ∧ (stcL ⟨g, 0, none⟩ 0 s16.l w17 fun w20 =>
          ldR57 ⟨g, 0, none⟩ w20 fun s21 => ∃ s b', (Value.tuple #[.int .i64 n19, s21.v, .bool b]) = Value.tuple #[.int .i64 (szs mrkB (dats es) : Int), s.v, .bool b'] ∧ oneS w.heap.size w20 ((dats es).find? mrkB) s b' ∧ Same w w20))) := by
    intro X w4 s h4 hX
    refine h4.alc fun b11 w12 h12 => h12.stcL 0 rfl rfl fun w13 h13 => h13.drw fun w14 h14 => ⟨w14, Pres.refl _, ?_⟩
    refine ldR57_of (s := s) (h14.atL 0 rfl) ?_
    refine cl (c53 (h.same h14.old) hn hl hd (is_marked w14)) ?_
    rintro _ w17 ⟨s17, rfl⟩
    refine ⟨_, rfl, Pres.of_Same s17, ?_⟩
    have h17 := (h14.same s17).drop
    have hi : (X ++ [pt g (.cells R57.z.c 58 (0, 0))])[X.length]? = some (pt g (.cells R57.z.c 58 (0, 0))) := by simp
    refine h17.stcL X.length hi rfl fun w20 h20 => ?_
    have h20 : Hs w ((X ++ [pt g (.cells R57.z.c 58 (0, 0))]).set X.length (pt g (.cells s.l.toArray 58 (0, 0)))) w20 := h20
    have h20 : Hs w (X ++ [pt g (.cells s.c 58 (0, 0))]) w20 := by
      refine h20.cast ?_
      rw [List.set_append_right _ _ (Nat.le_refl _), Nat.sub_self]
      rfl
    exact ldR57_of (s := s) (h20.atL X.length (b := g) (cs := s.c) (T := 58) (by simp)) ⟨_, _, rfl, hX _ h20, h20.old⟩
  cases hf : (dats es).find? mrkB with
  | none =>
    rw [hf] at ho
    obtain ⟨rfl, rfl⟩ := ho
    have := fin [] w4 R57.z (h3.same s4) fun w' _ => by rw [hf]; exact ⟨rfl, rfl⟩
    rw [hf] at this
    exact this
  | some e =>
    rw [hf] at ho
    obtain ⟨rfl, a, c, rfl, ho⟩ := ho
    have := fin [slP 5 1 a e.data.length c (byV e.data)] w4 (e.r a c) (h3.own_new s4 ho) fun w' h' => by rw [hf]; exact ⟨rfl, a, c, rfl, h'.own 0 rfl⟩
    rw [hf] at this
    exact this
theorem c15 (h : RB w bb n cum es) (hn : 1 ≤ n) (hl : es.length ≤ 1048576) (hd : ∀ e ∈ dats es, e.data.length ≤ 70000) :
    Calls Try.prog 15 #[.pointer (some ⟨bb, 0, none⟩)] w (rt fun v w' => ∃ a c ds, v = .slice a (dats es).length c ∧ ds.map (·.1) = dats es ∧ Hs w (outL a c ds) w') := by
  refine F15_ok ?_
  unfold F15
  simp only [rdP_mk]
  refine clr (c31 h hn) ⟨_, rfl, ?_⟩
  rw [Bool.not_true, br_false]
  simp only [nn_some, add_mk]
  obtain ⟨⟨a, c, h1, hr, _⟩, he⟩ := h
  refine ldC_at h1 rfl ?_
  have loop : ∀ (i j : Nat) (ds : List (En × Option Addr × Nat)) (oa : Option Addr) (oc : Nat) (w1 : World) (k : Nat) (K0 : Value → World → Prop), j + i = es.length → ds.map (·.1) = (dats es).take j → Hs w (outL oa oc ds) w1 → i < k →
      (∀ a' c' ds w', ds.map (·.1) = dats es → Hs w (outL a' c' ds) w' → K0 (.slice a' (dats es).length c') w') →
      F15_1 K0 k (.slice oa j oc) (.slice a es.length c) (.int .i64 (es.length : Int)) (.int .i64 (j : Int)) w1 := by
    intro i
    induction i with
    | zero =>
      intro j ds oa oc w1 k K0 hj hds hw hk hK
      obtain ⟨k, rfl⟩ : ∃ j, k = j + 1 := ⟨k - 1, by omega⟩
      show F15_1B _ _ _ _ _ _ _
      unfold F15_1B
      simp only [rdC_mk, rdI_mk, br_dec]
      refine ⟨fun h => by exfalso; omega, fun _ => ?_⟩
      have hl2 : (dats es).length = es.length := by simp [dats]
      have := hK oa oc ds w1 (by rw [hds, List.take_of_length_le (by omega)]) hw
      rw [hl2] at this
      rw [show j = es.length by omega]
      exact this
    | succ i ih =>
      intro j ds oa oc w1 k K0 hj hds hw hk hK
      obtain ⟨k, rfl⟩ : ∃ j, k = j + 1 := ⟨k - 1, by omega⟩
      show F15_1B _ _ _ _ _ _ _
      unfold F15_1B
      simp only [rdC_mk, rdI_mk, br_dec]
      refine ⟨fun _ => ?_, fun h => by exfalso; omega⟩
      obtain ⟨p, hp⟩ : ∃ p, es[j]? = some p := ⟨es[j]'(by omega), by simp⟩
      have hmem := List.mem_of_getElem? hp
      have hr1 : Rd w1 a (ptrV es) := hw.rd_old hr
      obtain ⟨ad, rfl⟩ := hr1.some (by rw [ptrV_length]; omega)
      refine ixS_of (by omega) (by omega) ?_
      rw [Int.toNat_natCast, Nat.mul_one]
      refine ldP_c (hr1.at (ptrV_at hp)) ?_
      simp only [nn_some, add_mk]
      obtain ⟨da, dc, hb, hrd, _⟩ := (he p hmem).same hw.old
      refine ldR57_of (s := p.2.r da dc) (At.blk hb) ?_
      have hdl := hd p.2 (by unfold dats; exact List.mem_map.2 ⟨p, hmem, rfl⟩)
      refine cl (c30 hrd hdl) ?_
      rintro _ w2 ⟨a2, c2, rfl, ho, s2⟩
      refine exR57_of (p.2.r a2 c2) ⟨rfl, ?_⟩
      have h2 := hw.own_new s2 ho
      have hlen : ds.length = j := by
        have := congrArg List.length hds
        have hl2 : (dats es).length = es.length := by simp [dats]
        rw [List.length_map, List.length_take] at this
        omega
      have h2 : Hs w (slP 5 1 a2 p.2.data.length c2 (byV p.2.data) :: slP 58 14 oa ds.length oc (ds.flatMap recV) :: ds.map datP) w2 := h2
      unfold alc
      rw [← hlen]
      refine h2.push E54 1 rfl (news := (p.2.r a2 c2).c) rfl (rec_one _ _ _) (by omega) (by omega) fun a' c' w3 h3 => ?_
      have e1 : IntKind.wrap .i64 ((ds.length : Int) + 1) = ((ds.length + 1 : Nat) : Int) := by rw [wrap_i64 (by omega) (by omega)]; omega
      rw [e1]
      refine ih (ds.length + 1) (ds ++ [(p.2, a2, c2)]) a' c' w3 k K0 (by omega) ?_ ?_ (by omega) hK
      · rw [List.map_append, hds, hlen, List.take_add_one]
        have : (dats es)[j]? = some p.2 := by simp [dats, hp]
        rw [this]; rfl
      · have h3 : Hs w (slP 5 1 a2 p.2.data.length c2 (byV p.2.data) :: slP 58 14 a' (ds.length + 1) c' (ds.flatMap recV ++ recV (p.2, a2, c2)) :: ds.map datP) w3 := h3
        refine (h3.perm (List.perm_append_singleton _ _).symm).cast ?_
        unfold outL
        simp [datP]
  refine ⟨es.length + 1, loop es.length 0 [] none 0 w _ _ (by omega) rfl ((Hs.start w).nil 58 14) (by omega) fun a' c' ds w' hds hw _g => ?_⟩
  simp only [rdC_mk]
  exact ⟨a', c', ds, rfl, hds, hw⟩
/-! one chunk turns -/
theorem box_turn (h : Hs W (boxL bb n cum a c es ++ L) w) {i : Nat} {p : Nat × En} (hi : es[i]? = some p) : ∃ M, Hs W (entP p :: M) w ∧ (∀ e' w', Hs W (entP (p.1, e') :: M) w' → Hs W (boxL bb n cum a c (es.set i (p.1, e')) ++ L) w') := by
  have hlt := (List.getElem?_eq_some_iff.1 hi).1
  have h2 : (boxL bb n cum a c es ++ L)[i + 2]? = some (entP p) := by
    rw [List.getElem?_append_left (by simp [boxL]; omega)]
    simp [boxL, hi]
  refine ⟨_, h.focus h2, fun e' w' h' => ?_⟩
  refine (h'.unfocus (by simp [boxL]; omega)).cast ?_
  have e1 : ptrV (es.set i (p.1, e')) = ptrV es := by
    unfold ptrV
    rw [List.map_set]
    refine set_id ?_
    simp [hi]
  rw [List.set_append_left _ _ (by simp [boxL]; omega)]
  unfold boxL
  rw [e1, List.length_set, List.map_set]
  rfl
def upd1 (q : En → Bool) (f : En → En) : List En → List En
  | [] => []
  | e :: l => if q e = true then f e :: l else e :: upd1 q f l
theorem upd1_none {q : En → Bool} {f : En → En} : ∀ {l : List En}, l.find? q = none → upd1 q f l = l
  | [], _ => rfl
  | e :: l, h => by
    rw [List.find?_cons] at h
    unfold upd1
    cases hq : q e with
    | true => rw [hq] at h; cases h
    | false => rw [hq] at h; rw [if_neg (by simp), upd1_none h]
theorem upd1_some {q : En → Bool} {f : En → En} : ∀ {es : List (Nat × En)} {p : Nat × En}, (es.find? fun p => q p.2) = some p → ∃ i, es[i]? = some p ∧ dats (es.set i (p.1, f p.2)) = upd1 q f (dats es)
  | [], _, h => by cases h
  | x :: es, p, h => by
    rw [List.find?_cons] at h
    rw [show dats (x :: es) = x.2 :: dats es from rfl]
    unfold upd1
    cases hq : q x.2 with
    | true =>
      rw [hq] at h
      cases h
      exact ⟨0, rfl, by rw [if_pos rfl]; rfl⟩
    | false =>
      rw [hq] at h
      obtain ⟨i, h1, h2⟩ := upd1_some (f := f) h
      refine ⟨i + 1, by simpa using h1, ?_⟩
      rw [if_neg (by simp), ← h2]; rfl
def En.again (path now : Int) (e : En) : En := { e with st := 1, path := path, sent := now, miss := 0, times := IntKind.wrap .i64 (e.times + 1) }
/-- the outcome of sending again -/
def AgP (W : World) (L : List HP) (bb : Nat) (n cum : Int) (a : Option Addr) (c : Nat) (es : List (Nat × En)) (path now : Int) (v : Value) (w' : World) : Prop :=
  (askE n path now ≠ 0 ∧ v = .tuple #[R57.z.v, .bool false, .int .i64 (askE n path now)] ∧ Hs W (boxL bb n cum a c es ++ L) w') ∨
  (askE n path now = 0 ∧ (dats es).find? mrkB = none ∧ v = .tuple #[R57.z.v, .bool false, .int .i64 0] ∧ Hs W (boxL bb n cum a c es ++ L) w') ∨
  (askE n path now = 0 ∧ ∃ e es' da dc, (dats es).find? mrkB = some e ∧ dats es' = upd1 mrkB (En.again path now) (dats es) ∧ v = .tuple #[((e.again path now).r da dc).v, .bool true, .int .i64 0] ∧ Hs W (slP 5 1 da e.data.length dc (byV e.data) :: (boxL bb n cum a c es' ++ L)) w')
theorem c24 (h : Hs W (boxL bb n cum a c es ++ L) w) (hn : 1 ≤ n) (hl : es.length ≤ 1048576) (hd : ∀ e ∈ dats es, e.data.length ≤ 70000) (path now : Int) :
    Calls Try.prog 24 #[.pointer (some ⟨bb, 0, none⟩), .int .i64 path, .int .i64 now] w (rt (AgP W L bb n cum a c es path now)) := by
  refine F24_ok ?_
  unfold F24
  simp only [rdP_mk, rdI_mk]
  refine h.alc fun g w1 h1 => ?_
  have hb1 := box_rb h1.drop
  refine clr (c29 hb1 hn path now) ⟨_, rfl, ?_⟩
  by_cases hz : askE n path now = 0
  · rw [hz, show ((0 : Int) != 0) = false from rfl, br_false]
    refine cl (c39 hb1 hn (by omega) (is_marked w1)) ?_
    rintro _ w2 ⟨s2, rfl⟩
    refine ⟨_, rfl, ?_⟩
    have h2 := h1.same s2
    have hx := find_dats (q := mrkB) es
    cases hf : es.find? fun p => mrkB p.2 with
    | none =>
      rw [hf] at hx
      simp only [Option.map_none, Option.isNone_none, br_true]
      refine h2.stcL 0 rfl rfl fun w5 h5 => ldR57_of (s := R57.z) (h5.atL 0 rfl) (.inr (.inl ⟨hz, hx.symm, rfl, h5.drop⟩))
    | some p =>
      rw [hf] at hx
      simp only [Option.map_some, Option.isNone_some, br_false, nn_some, add_mk]
      obtain ⟨i, hi, hu⟩ := upd1_some (f := En.again path now) hf
      have h2' : Hs W (boxL bb n cum a c es ++ (pt g (.cells R57.z.c 58 (0, 0)) :: L)) w2 := h2.behind
      obtain ⟨M, hM, back⟩ := box_turn h2' hi
      have hdl := hd p.2 (by unfold dats; exact List.mem_map.2 ⟨p, List.mem_of_getElem? hi, rfl⟩)
      obtain ⟨da, dc, hM⟩ := ent_open hM
      refine hM.stc 0 rfl (by simp [R57.c]) fun w3 h3 => h3.stc 0 rfl (by simp [R57.c]) fun w4 h4 => h4.stc 0 rfl (by simp [R57.c]) fun w5 h5 => h5.stc 0 rfl (by simp [R57.c]) fun w6 h6 => ?_
      refine h6.ldI 0 rfl rfl ?_
      refine h6.stc 0 rfl (by simp [R57.c]) fun w7 h7 => ?_
      have h7 : Hs W (pt p.1 (.cells ((p.2.again path now).r da dc).c 93 (0, 0)) :: slP 5 1 da p.2.data.length dc (byV p.2.data) :: M) w7 := h7
      refine ldR57_of (s := (p.2.again path now).r da dc) (h7.atL 0 rfl) ?_
      refine cl (c30 (e := p.2.again path now) (h7.rd 1 rfl) hdl) ?_
      rintro _ w8 ⟨a2, c2, rfl, ho, s8⟩
      refine exR57_of ((p.2.again path now).r a2 c2) ⟨rfl, ?_⟩
      have h8 := back (p.2.again path now) w8 (ent_close (p := (p.1, p.2.again path now)) (h7.same s8))
      have ho : Own w8 w7.heap.size 5 1 a2 p.2.data.length c2 (byV p.2.data) := ho
      have h9 := (back (p.2.again path now) w7 (ent_close (p := (p.1, p.2.again path now)) h7)).own_new s8 ho
      have h9 : Hs W (pt g (.cells R57.z.c 58 (0, 0)) :: slP 5 1 a2 p.2.data.length c2 (byV p.2.data) :: (boxL bb n cum a c (es.set i (p.1, p.2.again path now)) ++ L)) w8 := by
        refine h9.perm ?_
        have p1 : (boxL bb n cum a c (es.set i (p.1, p.2.again path now)) ++ (pt g (.cells R57.z.c 58 (0, 0)) :: L)).Perm (pt g (.cells R57.z.c 58 (0, 0)) :: (boxL bb n cum a c (es.set i (p.1, p.2.again path now)) ++ L)) := List.perm_middle
        exact ((List.Perm.cons _ p1).trans (List.Perm.swap _ _ _))
      refine h9.stcL 0 rfl rfl fun w10 h10 => ldR57_of (s := (p.2.again path now).r a2 c2) (h10.atL 0 rfl) (.inr (.inr ⟨hz, p.2, _, a2, c2, hx.symm, hu, rfl, h10.drop⟩))
  · rw [show (askE n path now != 0) = true by simpa using hz, br_true]
    refine h1.stcL 0 rfl rfl fun w5 h5 => ldR57_of (s := R57.z) (h5.atL 0 rfl) (.inl ⟨hz, rfl, h5.drop⟩)
end
end Go.Proofs.Ytmliokbonkndaaa
