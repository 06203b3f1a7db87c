/-
  The document's Put: the chunk is held, its row looked at.
-/
import Derived.Test.YtaflmpbeonoilaaRmRl
import Derived.Test.YtaflmpbeonoilaaRmRa
import Derived.Test.YtaflmpbeonoilaaRmX
namespace Go.Proofs.Ytaflmpbeonoilaa
open Go Go.Sh Go.RowKit
theorem wh_held {L : List Ch} {f : Int} {n : Nat} (hw : Wh L (numsN f n) f n) : ∀ t ∈ numsN f n, ∃ x, look L t = some x := by
  intro t ht
  obtain ⟨i, hin, rfl⟩ := mem_numsN.1 ht
  rcases Nat.lt_or_ge i n with hlt | hge
  · obtain ⟨x, _, hx, _⟩ := fit_held (hw.fits i hlt)
    exact ⟨x, hx⟩
  · have : i = n := by omega
    subst this
    obtain ⟨x, hx, _⟩ := hw.en
    exact ⟨x, hx⟩
theorem rowE_any {es : List Ec} {f t : Int} {n : Nat} (h : ∀ t ∈ numsN f n, ∃ x, look (pl es) t = some x) : ((rowE es f n).any fun e => e.x.tsn == t) = decide (t ∈ numsN f n) := by
  have ht : ∀ u ∈ numsN f n, (ecOf es u).x.tsn = u := fun u hu => by
    obtain ⟨x, hx⟩ := h u hu
    rw [(ecOf_look hx).1]
    exact (look_some hx).2
  unfold rowE
  rw [List.any_map]
  by_cases hm : t ∈ numsN f n
  · rw [decide_eq_true hm, List.any_eq_true]
    exact ⟨t, hm, by simp [ht t hm]⟩
  · rw [decide_eq_false hm, List.any_eq_false]
    intro u hu
    have : u ≠ t := fun e => hm (e ▸ hu)
    simp [ht u hu, this]
section
variable {W w : World} {L M Z : List HP} {rb lc : Nat} {la : Option Addr} {d : RD} {s : St} {es : List Ec} {Wl : List Int} {st : Int}
theorem c38_6 {Kr : Value → World → Prop} {b3 n : Nat} {c : Ch} {a : Option Addr} {cc : Nat} {f : Int} (hok : OkB s) (hc : CkOk c) (hl : s.lim ≤ 1073741824) (hq : Quiet s) (he : putE s c = 0) (hi : RIs d (put1 s c)) (hw : whC s c = true) (hrow : rowC s c = numsN f n) (hwh : Wh (s.L ++ [c]) (numsN f n) f n)
    (hK : ∀ w' d', RIs d' (putS s c) → Hs W (refL rb d' (putS s c) (heads (putS s c)) ++ Z) w' → Kr (.int .i64 0) w')
    (h : Hs W (pt b3 (.cells (c.rc a cc).c 36 (0, 0)) :: (refL rb d (put1 s c) (heads s) ++ Z)) w) :
    F38_6 Kr (.pointer (some ⟨rb, 0, none⟩)) (.pointer (some ⟨b3, 0, none⟩)) (.int .u32 f) w := by
  obtain ⟨h1, h2⟩ := put1_ok hok hc hl he
  have hnew := (putE_0 he).2.2.2.2.1
  obtain ⟨_, _, _, _, _, _, r5, r6, r7, r8, r9, _⟩ := rowC_facts h1 hc
  have hdis := rowC_dis hok h1 hc hnew hw
  obtain ⟨s3, s4, _⟩ := rowC_same h1 hc hnew
  have hcnt := h1.cnt
  have hml := ms_len h1
  have hbl := bytes_le h1 r8 r6
  have hfew := rows_few hok.toOkA
  have hh : hr (c.rc a cc) 4 = c.has 4 := rfl
  unfold F38_6
  simp only [rdP_mk, rdA_mk, rdI_mk, nn_some, add_mk]
  refine ldR35_of (s := c.rc a cc) (h.atL 0 rfl) ?_
  refine cl (c65 _ _ _) ?_
  rintro _ w5 ⟨rfl, s5⟩
  refine ⟨_, rfl, ?_⟩
  have g := h.same s5
  rw [hh, br_iff]
  refine ⟨fun hu => ?_, fun hu => ?_⟩
  · refine cl (c66 (s := put1 s c) (f := f) (n := n) hi hwh (by omega) (by omega) (by rw [heads_len]; omega) (by omega) (by rw [← hrow]; omega) g.drop) ?_
    rintro _ w8 ⟨rfl, d', hi', g8⟩
    refine ⟨rfl, ?_⟩
    rw [← hrow] at hi' g8
    have e : putS s c = tellS (put1 s c) (rowC s c) := by unfold putS; rw [if_pos hw, if_pos (by rw [s4]; exact hu)]
    have eh : (heads s).filter (· != f) = heads s := by
      rw [List.filter_eq_self]
      intro y hy
      obtain ⟨r, hr, rfl⟩ := List.mem_map.1 hy
      have hm := mem_head (hok.rows r hr).1
      have hff : f ∈ rowC s c := by rw [hrow, mem_numsN]; exact ⟨0, Nat.zero_le _, by have := hwh.rng; omega⟩
      have : r.headD 0 ≠ f := fun e => hdis r hr f hff (e ▸ hm)
      simpa using this
    rw [eh] at g8
    rw [e] at hK
    exact hK w8 d' hi' g8
  · refine rl6 g 1 rfl ?_
    unfold alc
    refine g.push (ty := 33) E33 6 rfl (news := #[.int .u32 f]) rfl (by simp [Value.oneCell']) (by rw [heads_len]; omega) (by rw [heads_len]; omega) fun wa' wc' w6 g6 => ?_
    refine g6.stc 1 rfl (by simp [refC, R85.c]) fun w7 g7 => ?_
    have hf0 : (rowC s c).headD 0 = f := by rw [hrow]; exact numsN_head hwh.rng
    have eh : heads (put2 s c) = heads s ++ [f] := by
      show (s.wh ++ [rowC s c]).map _ = _
      rw [List.map_append, ← hf0]; rfl
    have g8 : Hs W (refL rb { d with wa := wa', wc := wc' } (put2 s c) (heads (put2 s c)) ++ Z) w7 := by
      unfold refL refC
      rw [eh, inV_snoc, List.length_append, List.length_singleton]
      exact g7.drop
    obtain ⟨h3, _⟩ := put2_ok hok h1 hc hnew hw
    have e : putS s c = turnS (s.wh.length + 2) (put2 s c) c.r.f3 := by unfold putS; rw [if_pos hw, if_neg (by rw [s4, hu]; decide)]
    rw [e] at hK
    refine ⟨s.wh.length + 3, c38_4 hc.s.1 (s.wh.length + 2) (put2 s c) { d with wa := wa', wc := wc' } w7 h3 ⟨hi.L, hi.M⟩ (only_put2 hok h1 hc hnew hq) ?_ (fun w' d' hi' h' _g => hK w' d' hi' h') g8 _ (by omega)⟩
    show (s.wh ++ [rowC s c]).length < _
    simp
theorem c38_c {K : Value → World → Prop} {b3 : Nat} {x : R35} {b : List Int} (hok : OkB s) (hc : CkOk ⟨x, b⟩) (hl : s.lim ≤ 1073741824) (hq : Quiet s) (he : putE s ⟨x, b⟩ = 0) (hi : RIs d s) (hx : x.f13n = b.length)
    (hrd : ∀ w', Hs W Z w' → Rd w' x.f13a (inV .u8 b))
    (hK : ∀ w' d', RIs d' (putS s ⟨x, b⟩) → Hs W (refL rb d' (putS s ⟨x, b⟩) (heads (putS s ⟨x, b⟩)) ++ Z) w' → K (.int .i64 0) w')
    (h : Hs W (pt b3 (.cells x.c 36 (0, 0)) :: (refL rb d s (heads s) ++ Z)) w) :
    Put2 K (.pointer (some ⟨rb, 0, none⟩)) (.pointer (some ⟨b3, 0, none⟩)) w := by
  obtain ⟨c, hcd⟩ : ∃ c : Ch, c = ⟨x, b⟩ := ⟨_, rfl⟩
  have hxr : c.r = x := by rw [hcd]
  have hxb : c.b = b := by rw [hcd]
  rw [← hcd] at hc he hK
  obtain ⟨h1, h2⟩ := put1_ok hok hc hl he
  obtain ⟨_, e2, e3, _, hnew, _⟩ := putE_0 he
  rw [hxb] at e2 e3
  have hcnt := hok.cnt
  have hcnt1 := h1.cnt
  have hel := ch_len hi
  have hfew := rows_few hok.toOkA
  intro _g
  simp only [rdP_mk, rdA_mk, nn_some, add_mk]
  refine ⟨_, _, _, _, run_b0 w, ?_⟩
  have g1 := h.void 5 1
  refine g1.ldC 1 rfl rfl ?_
  have hZ : ∀ {X : List HP} {w'}, Hs W (X ++ Z) w' → Hs W Z w' := fun h' => h'.dropL
  have hr1 := hrd _ (hZ (X := slP 5 1 (some ⟨w.heap.size, 0, none⟩) 0 0 [] :: pt b3 (.cells x.c 36 (0, 0)) :: refL rb d s (heads s)) g1)
  obtain ⟨xd, hxa⟩ := hr1.some (by
    rw [inV_length]
    cases b with
    | nil => exact absurd rfl e2
    | cons _ _ => simp)
  show ∃ l14a l14n l14c w15, Sem.run Try.prog (Builtin.append_ #[22, 22] 22 #[_, .slice x.f13a x.f13n x.f13c]) _ = _ ∧ _
  rw [hx]
  refine g1.appendA E22 0 rfl (news := inV .u8 b) (m := b.length) (by rw [inV_length]; omega) hr1 (fun hn => by rw [hxa] at hn; cases hn) (inV_one _ _) (by omega) (by omega) fun a' c' w2 g2 _ => ?_
  have g2 : Hs W (slP 5 1 a' (0 + b.length) c' ([] ++ inV .u8 b) :: pt b3 (.cells x.c 36 (0, 0)) :: (refL rb d s (heads s) ++ Z)) w2 := g2
  rw [Nat.zero_add b.length, List.nil_append] at g2
  rw [Nat.zero_add b.length]
  refine g2.stc 1 rfl (by simp [R35.c]) fun w3 g3 => ?_
  have hrc : c.rc a' c' = { x with f13a := a', f13n := b.length, f13c := c' } := by rw [hcd]; rfl
  have g3 : Hs W (slP 5 1 a' c.b.length c' (inV .u8 c.b) :: pt b3 (.cells (c.rc a' c').c 36 (0, 0)) :: (refL rb d s (heads s) ++ Z)) w3 := by rw [hrc, hxb]; exact g3
  refine g3.drw fun w4 g4 => ?_
  refine rl2 g4 2 rfl ?_
  refine ldR35_of (s := c.rc a' c') (g4.atL 1 rfl) ?_
  unfold alc
  refine ⟨Pres.alloc _ _, ?_⟩
  refine g4.push (ty := 45) E45 3 rfl (news := (c.rc a' c').c) rfl (R35_one _) (by omega) (by omega) fun la' lc' w5 g5 => ?_
  refine g5.stc 2 rfl (by simp [refC, R85.c]) fun w6 g6 => ?_
  have g7 : Hs W (bodyP ⟨a', c', c⟩ :: (_ :: _)) w6 := g6
  have g8 := g7.big_in 7 (l := d.es) rfl
  obtain ⟨d1, hd1⟩ : ∃ d1 : RD, d1 = { d with la := la', lc := lc', es := d.es ++ [⟨a', c', c⟩] } := ⟨_, rfl⟩
  have hi1 : RIs d1 (put1 s c) := by
    rw [hd1]
    refine ⟨?_, hi.M⟩
    show (d.es ++ [_]).map Ec.x = s.L ++ [c]
    rw [List.map_append, hi.L]; rfl
  have g9 : Hs W (pt b3 (.cells (c.rc a' c').c 36 (0, 0)) :: (refL rb d1 (put1 s c) (heads s) ++ Z)) w6 := by
    rw [hd1]
    unfold refL refC
    simp only [List.length_append, List.length_singleton]
    rw [chV_snoc]
    exact g8
  clear g8 g7 g6 g5 g4 g3 g2 g1 h hd1
  have hpl : pl d1.es = s.L ++ [c] := hi1.L
  have hel1 : d1.es.length = (s.L ++ [c]).length := ch_len hi1
  have hl1 : (s.L ++ [c]).length ≤ 32768 := by
    have : (put1 s c).L.length = (s.L ++ [c]).length := rfl
    omega
  have htsn : (c.rc a' c').f2 = c.tsn := rfl
  refine g9.ldI 0 rfl rfl ?_
  show Calls Try.prog 62 #[_, .int .u32 (c.rc a' c').f2] w6 _
  rw [htsn]
  refine cl (c62 (ref_rr g9.drop) c.tsn (by omega)) ?_
  rintro _ w7 ⟨rfl, s7⟩
  refine ⟨_, _, rfl, ?_⟩
  have k7 := g9.same s7
  refine k7.drw fun w8 k8 => ⟨Sh.lone w8 b3 (.cells (c.rc a' c').c 36 (0, 0)), Pres.lone (k8.at 0 rfl), ?_⟩
  rw [hpl, hel1]
  have no : (whC s c = false) → ∀ w', Hs W (refL rb d1 (put1 s c) (heads s) ++ Z) w' → K (.int .i64 0) w' := fun hw w' h' => by
    have e : putS s c = put1 s c := by unfold putS; rw [if_neg (by rw [hw]; decide)]
    rw [e] at hK
    exact hK w' d1 hi1 h'
  cases hb : bgn (s.L ++ [c]) ((s.L ++ [c]).length + 1) c.tsn with
  | none =>
    simp only [Option.isSome_none, Bool.not_false, br_true]
    refine no ?_ w8 k8.drop
    cases hw : whC s c with
    | false => rfl
    | true =>
      obtain ⟨f, n, hf, _⟩ := put_yes h1 hc hw
      rw [hb] at hf; cases hf
  | some f =>
    simp only [Option.isSome_some, Bool.not_true, br_false, Option.getD_some]
    refine ldI_at (lone_at w8 b3 _) rfl ?_
    obtain ⟨_, _, hf0, _⟩ := bgn_some _ hc.t hb
    refine cl (c64 (f := f) hf0 (by omega) (fun w' h' => ref_rr h'.drop) k8) ?_
    rintro _ w9 (⟨n, a9, c9, hwh, rfl, k9⟩ | ⟨hno, rfl, k9⟩)
    · refine ⟨_, _, _, rfl, Pres.lone (k9.at 1 rfl), ?_⟩
      rw [hpl] at hwh
      have hln := rowE_length d1.es f n
      rw [← hln]
      refine clr (c63 (k9.rd 0 rfl) c.tsn (by rw [hln]; have := hwh.few; omega)) ⟨_, rfl, ?_⟩
      rw [rowE_any (by rw [hpl]; exact wh_held hwh)]
      by_cases hm : c.tsn ∈ numsN f n
      · rw [decide_eq_true hm]
        simp only [Bool.not_true, br_false]
        have hw : whC s c = true := by
          cases hw : whC s c with
          | true => rfl
          | false => exact absurd hm (put_no h1 hc hw hb hwh)
        obtain ⟨f', n', hf', hwh', hrow', _⟩ := put_yes h1 hc hw
        rw [hb] at hf'
        cases hf'
        have hnn : n' = n := (wh_one hwh' hwh (t := f) (by rw [mem_numsN]; exact ⟨0, Nat.zero_le _, by omega⟩) (by rw [mem_numsN]; exact ⟨0, Nat.zero_le _, by omega⟩)).2
        subst hnn
        refine c38_6 (n := n') (f := f) hok hc hl hq he hi1 hw hrow' hwh' (fun w' d' hi' h' _g => ?_) k9.drop
        simp only [rdI_mk]
        exact hK w' d' hi' h'
      · rw [decide_eq_false hm]
        simp only [Bool.not_false, br_true]
        refine no ?_ w9 k9.drop.drop
        cases hw : whC s c with
        | false => rfl
        | true =>
          exfalso
          obtain ⟨f', n', hf', hwh', hrow', hm'⟩ := put_yes h1 hc hw
          rw [hb] at hf'
          cases hf'
          have hnn : n' = n := (wh_one hwh' hwh (t := f) (by rw [mem_numsN]; exact ⟨0, Nat.zero_le _, by omega⟩) (by rw [mem_numsN]; exact ⟨0, Nat.zero_le _, by omega⟩)).2
          subst hnn
          exact hm hm'
    · refine ⟨_, _, _, rfl, Pres.lone (k9.at 0 rfl), ?_⟩
      refine clr (c63 (es := []) (Rd.nil _ _) c.tsn (by simp)) ⟨_, rfl, ?_⟩
      simp only [List.any_nil, Bool.not_false, br_true]
      refine no ?_ w9 k9.drop
      cases hw : whC s c with
      | false => rfl
      | true =>
        exfalso
        obtain ⟨f', n', hf', hwh', hrow', hm'⟩ := put_yes h1 hc hw
        rw [hb] at hf'
        cases hf'
        exact hno n' (by rw [hpl]; exact hwh')
theorem c38 {x : R35} {b : List Int} (hok : OkB s) (hq : Quiet s) (hc : CkOk ⟨x, b⟩) (hx : x.f13n = b.length) (hlim : 0 ≤ s.lim ∧ s.lim ≤ 1073741824) (hnx : s.nx.length ≤ 65536) (hrd : ∀ w', Hs W Z w' → Rd w' x.f13a (inV .u8 b))
    (h : Hs W (refP rb s (heads s) :: Z) w) :
    Calls Try.prog 38 #[.pointer (some ⟨rb, 0, none⟩), x.v] w (rt fun v w' => v = .int .i64 (putE s ⟨x, b⟩) ∧ Hs W (refP rb (putT s ⟨x, b⟩) (heads (putT s ⟨x, b⟩)) :: Z) w') := by
  obtain ⟨d, hi, h⟩ := ref_open h
  refine F38_ok ?_
  unfold F38
  simp only [rdP_mk]
  refine exR35_of x ⟨rfl, ?_⟩
  refine h.alc fun b3 w4 h4 => ?_
  have seven : ∀ (bad : Bool) (Kn : Value → Value → World → Prop) (Kr : Value → World → Prop) (K : Value → World → Prop), bad = decide (x.f0 ≠ 0 ∨ b.length = 0 ∨ (65531 : Int) < b.length) → (∀ v w', v = .int .i64 (putE s ⟨x, b⟩) → Hs W (refP rb (putT s ⟨x, b⟩) (heads (putT s ⟨x, b⟩)) :: Z) w' → K v w') → (∀ y0 y3 w', Put2 K y0 y3 w' → Kn y0 y3 w') → (∀ v w', K (.int .i64 v) w' → Kr (.int .i64 v) w') →
      F38_7 Kn Kr (.pointer (some ⟨rb, 0, none⟩)) (.pointer (some ⟨b3, 0, none⟩)) (.bool bad) w4 := by
    intro bad Kn Kr K hbad hK hkn hkr
    refine c38_7 (c := ⟨x, b⟩) hok hi hlim hx rfl rfl hc hnx hbad (fun hne w' h' => ?_) (fun he w' h' => ?_) h4
    · refine hkr _ w' (hK _ w' rfl ?_)
      have : putT s ⟨x, b⟩ = s := by unfold putT; rw [if_neg hne]
      rw [this]
      exact ref_shut hi h'.drop
    · refine hkn _ _ w' (c38_c hok hc hlim.2 hq he hi hx hrd (fun w2 d' hi' h2 => hK _ w2 (by rw [he]) ?_) h')
      have : putT s ⟨x, b⟩ = putS s ⟨x, b⟩ := by unfold putT; rw [if_pos he]
      rw [this]
      exact ref_shut hi' h2
  refine h4.ldI 0 rfl rfl ?_
  show br (x.f0 != 0) _ _
  rw [br_iff]
  refine ⟨fun hk => ?_, fun hk => ?_⟩
  · refine seven true _ _ (fun v w' => v = .int .i64 (putE s ⟨x, b⟩) ∧ Hs W (refP rb (putT s ⟨x, b⟩) (heads (putT s ⟨x, b⟩)) :: Z) w') ?_ (fun v w' e hv => ⟨e, hv⟩) (fun y0 y3 w' hp => ?_) (fun v w' hk' _g => ?_)
    · rw [eq_comm, decide_eq_true_eq]; left; simpa using hk
    · unfold Put2 at hp
      simpa only [Value.int.injEq, true_and] using hp
    · simp only [rdI_mk]
      simpa only [Value.int.injEq, true_and] using hk'
  · have hk0 : x.f0 = 0 := by simpa using hk
    refine h4.ldC 0 rfl rfl ?_
    show br ((x.f13n : Int) == 0) _ _
    rw [hx, br_iff]
    refine ⟨fun hz => ?_, fun hz => ?_⟩
    · refine seven true _ _ (fun v w' => v = .int .i64 (putE s ⟨x, b⟩) ∧ Hs W (refP rb (putT s ⟨x, b⟩) (heads (putT s ⟨x, b⟩)) :: Z) w') ?_ (fun v w' e hv => ⟨e, hv⟩) (fun y0 y3 w' hp => ?_) (fun v w' hk' _g => ?_)
      · rw [eq_comm, decide_eq_true_eq]; right; left; have : (b.length : Int) = 0 := by simpa using hz
        omega
      · unfold Put2 at hp
        simpa only [Value.int.injEq, true_and] using hp
      · simp only [rdI_mk]
        simpa only [Value.int.injEq, true_and] using hk'
    · refine h4.ldC 0 rfl rfl ?_
      show F38_7 _ _ _ _ (.bool (decide ((x.f13n : Int) > 65531))) w4
      rw [hx]
      refine seven _ _ _ (fun v w' => v = .int .i64 (putE s ⟨x, b⟩) ∧ Hs W (refP rb (putT s ⟨x, b⟩) (heads (putT s ⟨x, b⟩)) :: Z) w') ?_ (fun v w' e hv => ⟨e, hv⟩) (fun y0 y3 w' hp => ?_) (fun v w' hk' _g => ?_)
      · congr 1
        have : (b.length : Int) ≠ 0 := by simpa using hz
        refine propext ⟨fun h => .inr (.inr h), fun h => ?_⟩
        rcases h with h | h | h
        · exact absurd hk0 h
        · omega
        · exact h
      · unfold Put2 at hp
        simpa only [Value.int.injEq, true_and] using hp
      · simp only [rdI_mk]
        simpa only [Value.int.injEq, true_and] using hk'
end
end Go.Proofs.Ytaflmpbeonoilaa
namespace Go.Proofs.Ytaflmpbeonoilaa
open Go Go.Sh Go.RowKit
theorem Ox.at_x {w : World} {a : Addr} {o : Ox} (h : At w a o.r.l) : At w (a.add 1) o.x.l := fun j v hj => by
  rw [add_add]
  refine h (1 + j) v ?_
  rw [Ox.r_l, Nat.add_comm]
  show (o.x.l ++ [_])[j]? = _
  rw [List.getElem?_append_left (List.getElem?_eq_some_iff.1 hj).1]
  exact hj
theorem Ox.at_t {w : World} {a : Addr} {o : Ox} (h : At w a o.r.l) : w.cell? (a.add 16) = some (.int .u32 o.t) := h 16 _ rfl
theorem Ox.at_k {w : World} {a : Addr} {o : Ox} (h : At w a o.r.l) : w.cell? (a.add 0) = some (.int .i64 o.k) := h 0 _ rfl
section
variable {W w : World} {L M Z : List HP} {tb n : Nat} {s : St} {lim : Int}
theorem c7_1 {Kn : Value → Value → Value → Value → World → Prop} {Kr : Value → World → Prop} {x2 : Value} {xa : Option Addr} {m xc : Nat} {j : Int} (hok : OkL s n lim) (h : Hs W (tabP tb (tot s) s :: L) w) (hK : Kn (.int .i64 lim) (.slice xa m xc) (.pointer (some ⟨tb, 0, none⟩)) (.int .i64 j) w) :
    F7_1 Kn Kr (.int .i64 lim) (.slice xa m xc) (.pointer (some ⟨tb, 0, none⟩)) (.int .i64 j) w := by
  unfold F7_1
  simp only [rdI_mk, rdC_mk, rdP_mk]
  refine clr (c18s h) ⟨_, rfl, ?_⟩
  rw [br_dec]
  refine ⟨fun hx => by exfalso; omega, fun _ => ?_⟩
  refine clr (c18s h) ⟨_, rfl, ?_⟩
  rw [br_dec]
  exact ⟨fun hx => by exfalso; have := hok.within; omega, fun _ => hK⟩
theorem c7_2 {K0 : World → Prop} {Kr : Value → World → Prop} {xa : Option Addr} {xc : Nat} {ops : List Ox} (hX : Rd W xa (ops.flatMap fun o => o.r.l)) (hOx : ∀ o ∈ ops, OxOk W o) (hl : ops.length ≤ 9223372036854775807) (hK : ∀ w', Same W w' → K0 w') :
    ∀ (i j k : Nat) (s : St) (w : World), j + i = ops.length → OkL s n lim → Hs W [tabP tb (tot s) s] w → i < k →
      F7_2 K0 Kr k (.int .i64 lim) (.slice xa ops.length xc) (.pointer (some ⟨tb, 0, none⟩)) (.int .i64 (j : Int)) w := by
  intro i
  induction i with
  | zero =>
    intro j k s w hj hok h hk
    obtain ⟨k, rfl⟩ : ∃ j, k = j + 1 := ⟨k - 1, by omega⟩
    show F7_2B _ _ _ _ _ _ _ _
    unfold F7_2B
    simp only [rdC_mk, rdI_mk, rdP_mk]
    rw [br_dec]
    exact ⟨fun hx => by exfalso; omega, fun _ => hK w h.old⟩
  | succ i ih =>
    intro j k s w hj hok h hk
    obtain ⟨k, rfl⟩ : ∃ j, k = j + 1 := ⟨k - 1, by omega⟩
    show F7_2B _ _ _ _ _ _ _ _
    unfold F7_2B
    have e1 : IntKind.wrap .i64 ((j : Int) + 1) = ((j + 1 : Nat) : Int) := by rw [wrap_i64 (by omega) (by omega)]; omega
    simp only [rdC_mk, rdI_mk, rdP_mk, rdB_mk, e1]
    have nx : ∀ (s' : St) (L' : List HP) (w' : World), OkL s' n lim → Hs W (tabP tb (tot s') s' :: L') w' → F7_1 (fun y1 y2 y7 y9 w34 => ∀ _g : Tm, rdI .i64 y1 fun n36 => rdC y2 fun la ln lc => rdP y7 fun p38 => rdI .i64 y9 fun n39 => F7_2 K0 Kr k (.int .i64 n36) (.slice la ln lc) (.pointer p38) (.int .i64 (IntKind.wrap .i64 (n39 + 1))) w34) (fun y6 w41 => ∀ _g : Tm, rdB y6 fun b43 => Kr (.bool b43) w41) (.int .i64 lim) (.slice xa ops.length xc) (.pointer (some ⟨tb, 0, none⟩)) (.int .i64 (j : Int)) w' := by
      intro s' L' w' hok' h'
      refine c7_1 (x2 := .bool true) hok' h' fun _g => ?_
      simp only [rdC_mk, rdI_mk, rdP_mk, e1]
      exact ih (j + 1) k s' w' (by omega) hok' (h'.pick [0]) (by omega)
    rw [br_dec]
    refine ⟨fun _ => ?_, fun hx => by exfalso; omega⟩
    refine clr (c18s h) ⟨_, rfl, ?_⟩
    refine clr (c16s h) ⟨_, rfl, ?_⟩
    refine cl (c19s hok.toOkB h) ?_
    rintro _ w1 ⟨a1, c1, rfl, h1⟩
    refine ⟨_, _, _, rfl, ?_⟩
    have h2 := h1.perm (List.Perm.swap _ _ _)
    obtain ⟨o, ho⟩ : ∃ o, ops[j]? = some o := ⟨ops[j]'(by omega), by simp⟩
    have hoo := hOx o (List.mem_of_getElem? ho)
    have hX1 := h2.rd_old hX
    have hlen : (ops.flatMap fun o => o.r.l).length = ops.length * 17 := flat_length (f := fun o : Ox => o.r.l) (m := 17) (fun _ => rfl) _
    obtain ⟨xd, hxa⟩ := hX1.some (by rw [hlen]; omega)
    rw [hxa] at hX1
    have hat := fun {w'} (hr : Rd w' (some xd) (ops.flatMap fun o => o.r.l)) => hr.atI (f := fun o : Ox => o.r.l) (m := 17) (i := j) (fun _ => rfl) ho
    have hrd : ∀ {L' : List HP} {w'}, Hs W L' w' → Rd w' (some xd) (ops.flatMap fun o => o.r.l) := fun h' => by rw [← hxa]; exact h'.rd_old hX
    have ex : ∀ {K : Addr → Prop}, K (xd.add (j * 17)) → ixS 17 xa ops.length (j : Int) K := fun hk' => by rw [hxa]; exact ixS_to rfl (by omega) hk'
    refine ex ?_
    refine ldI_c (Ox.at_k (hat hX1)) ?_
    simp only [br_iff]
    refine ⟨fun _ => ?_, fun _ => ⟨fun _ => ?_, fun _ => ⟨fun _ => ?_, fun _ => ⟨fun _ => ?_, fun _ => ?_⟩⟩⟩⟩
    · refine ex ?_
      refine ldR35_of (Ox.at_x (hat hX1)) ?_
      refine cl (c11 (x := o.x) (b := o.b) hok.toOkB hoo.ck hoo.len (by rw [hok.limE]; have := hok.limR; omega) (by rw [hok.nxl]; have := hok.nR; omega) (fun w' h' => h'.rd_old hoo.rd) h2) ?_
      rintro _ w2 ⟨rfl, h3⟩
      refine ⟨_, rfl, ?_⟩
      have hok2 := hok.put (c := ⟨o.x, o.b⟩) hoo.ck
      refine ⟨fun he => ?_, fun he => ?_⟩
      · have hne : putE s ⟨o.x, o.b⟩ ≠ 0 := by simpa using he
        have hs : putT s ⟨o.x, o.b⟩ = s := by unfold putT; rw [if_neg hne]
        rw [hs] at h3
        refine clr (c18s h3) ⟨_, rfl, ?_⟩
        refine ⟨fun hx => by simp at hx, fun _ => ?_⟩
        refine clr (c16s h3) ⟨_, rfl, ?_⟩
        refine ⟨fun hx => by simp at hx, fun _ => ?_⟩
        refine cl (c19s hok.toOkB h3) ?_
        rintro _ w3 ⟨a3, c3, rfl, h4⟩
        refine ⟨_, _, _, rfl, ?_⟩
        have hcnt := hok.cnt
        have hsl : (srt (keys s.L)).length ≤ 4294967296 := by
          rw [srt_len]
          have : (keys s.L).length = s.L.length := by simp
          omega
        refine cl (c15 (h4.rd 0 rfl) (h4.rd 2 rfl) hsl) ?_
        rintro _ w4 ⟨rfl, s4⟩
        refine ⟨_, rfl, ?_⟩
        have h5 := h4.same s4
        refine ⟨fun hx => by simp at hx, fun _ => ?_⟩
        exact nx s _ w4 hok (h5.perm (List.Perm.swap _ _ _))
      · have he0 : putE s ⟨o.x, o.b⟩ = 0 := by simpa using he
        have hs : putT s ⟨o.x, o.b⟩ = putS s ⟨o.x, o.b⟩ := by unfold putT; rw [if_pos he0]
        have ht := (put_ok hok.toOkB hoo.ck (by rw [hok.limE]; exact hok.limR.2) he0).2
        refine h3.drw fun w3 h4 => ⟨w3, Pres.refl _, ?_⟩
        refine ex ?_
        have hc := (hat (hrd h4))
        have hc13 : w3.cell? (((xd.add (j * 17)).add 1).add 13) = some (.slice o.x.f13a o.x.f13n o.x.f13c) := Ox.at_x hc 13 _ rfl
        refine ldC_c hc13 ?_
        refine clr (c18s h4) ⟨_, rfl, Pres.refl _, ?_⟩
        have e2 : IntKind.wrap .i64 (((tot (putT s ⟨o.x, o.b⟩) : Nat) : Int) - (tot s : Int)) = (o.x.f13n : Int) := by
          rw [hs, ht, hoo.len]
          have h1 := hok.tot
          obtain ⟨_, _, q3, _⟩ := putE_0 he0
          have q4 : ((⟨o.x, o.b⟩ : Ch).b.length : Int) = (o.b.length : Int) := rfl
          rw [wrap_i64 (by omega) (by omega)]
          omega
        rw [e2]
        refine ⟨fun hx => by simp at hx, fun _ => ?_⟩
        exact nx _ _ w3 hok2 h4
    · refine cl (c13a hok.tot h2) ?_
      rintro _ w2 ⟨r, a, c, rfl, hm⟩
      refine exR38_of r ⟨_, rfl, ?_⟩
      cases hh : s.M.head? with
      | none =>
        rw [hh] at hm
        exact nx _ _ w2 hok.take hm.2
      | some m =>
        rw [hh] at hm
        exact nx _ _ w2 hok.take hm.2
    · refine ex ?_
      refine ldI_c (Ox.at_t (hat hX1)) ?_
      refine cl (c22s hok.toOkB h2) ?_
      rintro _ w2 ⟨rfl, h3⟩
      exact ⟨_, _, rfl, nx _ _ w2 (hok.drop o.t) h3⟩
    · refine ex ?_
      refine ldI_c (Ox.at_t (hat hX1)) ?_
      refine cl (c23s h2) ?_
      rintro _ w2 ⟨rfl, h3⟩
      exact ⟨_, rfl, nx _ _ w2 (hok.move o.t) h3⟩
    · exact nx _ _ w1 hok h2
theorem c7 {n1 n2 : Int} {xa : Option Addr} {xc : Nat} {ops : List Ox} (hX : Rd w xa (ops.flatMap fun o => o.r.l)) (hOx : ∀ o ∈ ops, OxOk w o) (hl : ops.length ≤ 9223372036854775807) : Calls Try.prog 7 #[.int .i64 n1, .int .i64 n2, .slice xa ops.length xc] w (rt fun v w' => v = .bool true ∧ Same w w') := by
  refine F7_ok ?_
  unfold F7
  simp only [rdC_mk, rdI_mk, rdP_mk, rdB_mk]
  by_cases hb : n1 < 1 ∨ 1024 < n1 ∨ n2 < 1 ∨ 1073741824 < n2
  · refine clr (c9_err hb w) ⟨_, _, rfl, ?_⟩
    refine cl (c10 w) ?_
    rintro _ w6 ⟨rfl, s6⟩
    refine ⟨_, rfl, ?_⟩
    have e0 : ((1 : Int) != 0) = true := rfl
    simp only [Bool.not_true, br_false, e0, br_true, Option.isNone_none]
    exact ⟨by first | rfl | trivial, s6⟩
  · obtain ⟨m, hm⟩ : ∃ m : Nat, n1 = (m : Int) := ⟨n1.toNat, by omega⟩
    subst hm
    have h1 : 1 ≤ m ∧ m ≤ 1024 := by omega
    have h2 : 1 ≤ n2 ∧ n2 ≤ 1073741824 := by omega
    refine cl (c9 h1 h2 (Hs.start w)) ?_
    rintro _ w2 ⟨tb, rfl, h3⟩
    refine ⟨_, _, rfl, ?_⟩
    refine cl (c10 w2) ?_
    rintro _ w6 ⟨rfl, s6⟩
    refine ⟨_, rfl, ?_⟩
    have h6 := h3.same s6
    have e0 : ((0 : Int) != 0) = false := rfl
    simp only [Bool.not_true, br_false, e0]
    exact ⟨ops.length + 1, c7_2 (n := m) (lim := n2) hX hOx hl (fun w' hs _g => ⟨by first | rfl | trivial, hs⟩) ops.length 0 _ (newS m n2) w6 (by omega) (OkL.new h1 h2) h6 (by omega)⟩
end
end Go.Proofs.Ytaflmpbeonoilaa
