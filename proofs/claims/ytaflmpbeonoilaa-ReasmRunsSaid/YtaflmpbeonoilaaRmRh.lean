/-
  The document's table: New, Take, Drop; two messages compared.
-/
import Derived.Test.YtaflmpbeonoilaaRmRf
namespace Go.Proofs.Ytaflmpbeonoilaa
open Go Go.Sh Go.RowKit
theorem Hs_fold {W w : World} {X L : List HP} : Hs W (X ++ L) w ↔ Hs W (X ++ [bigS L]) w := by
  have e : bigS (X ++ L) = bigS (X ++ [bigS L]) := by
    rw [bigS_append, bigS_append]
    show star (bigS X) (bigS L) = star (bigS X) (star (bigS L) emp)
    rw [star_emp]
  exact ⟨fun h => h.of_eq e, fun h => h.of_eq e.symm⟩
section
variable {W w : World} {L M Z : List HP} {rb lc : Nat} {la : Option Addr} {d : RD} {s : St} {es : List Ec} {Wl : List Int}
theorem c41_no {t : Int} (hi : RIs d s) (hx : look s.L t = none) (hl : s.L.length ≤ 32769) (h : Hs W (refL rb d s Wl ++ Z) w) : Calls Try.prog 41 #[.pointer (some ⟨rb, 0, none⟩), .int .u32 t] w (rt fun v w' => v = .tuple #[.bool false, .int .i64 0] ∧ Hs W (refL rb d s Wl ++ Z) w') := by
  refine F41_ok ?_
  unfold F41
  simp only [rdP_mk, rdI_mk]
  have hel := ch_len hi
  refine clr (c60 (ref_rr h) t (by omega)) ⟨_, rfl, ?_⟩
  have hx' : look (pl d.es) t = none := by show look (d.es.map Ec.x) t = _; rw [hi.L]; exact hx
  rw [(idx_look (t := t)).2 hx']
  rw [br_dec]
  exact ⟨fun _ => ⟨by first | rfl | trivial, h⟩, fun hge => absurd (show (-1 : Int) < 0 by decide) hge⟩
theorem c41_ok {t : Int} {x : Ch} {p : Int → Bool} (hi : RIs d s) (hx : look s.L t = some x) (hl : s.L.length ≤ 32769) (hWl : Wl.length ≤ 65536) (hWr : ∀ f ∈ Wl, 0 ≤ f ∧ f < 4294967296)
    (hp1 : ∀ f ∈ Wl, p f = true → ∃ n, Wh (dropS s t).L (numsN f n) f n) (hp0 : ∀ f ∈ Wl, p f = false → ∀ n, ¬ Wh (dropS s t).L (numsN f n) f n) (h : Hs W (refL rb d s Wl ++ Z) w) :
    Calls Try.prog 41 #[.pointer (some ⟨rb, 0, none⟩), .int .u32 t] w (rt fun v w' => v = .tuple #[.bool true, .int .i64 0] ∧ ∃ d', RIs d' (dropS s t) ∧ Hs W (refL rb d' (dropS s t) (Wl.filter p) ++ Z) w') := by
  refine F41_ok ?_
  unfold F41
  simp only [rdP_mk, rdI_mk, nn_some, add_mk]
  have hel := ch_len hi
  refine clr (c60 (ref_rr h) t (by omega)) ⟨_, rfl, ?_⟩
  have hx' : look (pl d.es) t = some x := by show look (d.es.map Ec.x) t = _; rw [hi.L]; exact hx
  obtain ⟨j0, e0, hj0, _, _, _⟩ := (idx_look (t := t)).1 x hx'
  rw [hj0]
  rw [br_dec]
  refine ⟨fun hlt => absurd hlt (by show ¬ ((j0 : Int) < 0); omega), fun _ => ?_⟩
  refine rl2 h 0 rfl ?_
  refine cl (c67 (t := t) (by omega) (fun w' h' => h'.rd 1 rfl) h) ?_
  rintro _ w1 ⟨la', lc', rfl, h1⟩
  refine ⟨_, _, _, rfl, ?_⟩
  refine h1.stc 1 rfl (by simp [refC, R85.c]) fun w2 h2 => ?_
  have h3 := h2.erase 2
  have h4 := h3.perm (List.perm_middle (l₁ := [_])).symm
  have h5 := big_filter (fun e : Ec => e.x.tsn != t) h4 6 rfl
  obtain ⟨d1, hd1⟩ : ∃ d1 : RD, d1 = { d with la := la', lc := lc', es := d.es.filter fun e => e.x.tsn != t } := ⟨_, rfl⟩
  have hi1 : RIs d1 (dropS s t) := by
    rw [hd1]
    refine ⟨?_, hi.M⟩
    show (d.es.filter _).map Ec.x = s.L.filter _
    rw [← hi.L, List.filter_map]
    rfl
  have h6 : Hs W (refL rb d1 (dropS s t) Wl ++ Z) w2 := by rw [hd1]; exact h5
  clear h5 h4 h3 h2 h1 hd1
  have hpl : pl d1.es = (dropS s t).L := hi1.L
  have hel1 : d1.es.length ≤ 32769 := by
    rw [ch_len hi1]
    have := List.length_filter_le (fun y : Ch => y.tsn != t) s.L
    show (s.L.filter _).length ≤ _
    omega
  have loop : ∀ (K0 : Value → Value → World → Prop), (∀ w' a c, Hs W (slP 30 1 a (Wl.filter p).length c (inV .u32 (Wl.filter p)) :: (refL rb d1 (dropS s t) Wl ++ Z)) w' → K0 (.pointer (some ⟨rb, 0, none⟩)) (.slice a (Wl.filter p).length c) w') →
      ∀ (m j k : Nat) (w : World) (a : Option Addr) (c : Nat) (out : List Int), j + m = Wl.length → out = (Wl.take j).filter p → m < k → Hs W (slP 30 1 a out.length c (inV .u32 out) :: (refL rb d1 (dropS s t) Wl ++ Z)) w →
      F41_1 K0 k (.pointer (some ⟨rb, 0, none⟩)) (.slice a out.length c) (.int .i64 (j : Int)) w := by
    intro K0 hK m
    induction m with
    | zero =>
      intro j k w a c out hj ho hk h
      obtain ⟨k, rfl⟩ : ∃ j, k = j + 1 := ⟨k - 1, by omega⟩
      show F41_1B _ _ _ _ _ _
      unfold F41_1B
      simp only [rdP_mk, rdC_mk, rdI_mk, nn_some, add_mk]
      refine rl6 h 1 rfl ?_
      rw [br_dec]
      refine ⟨fun hlt => by exfalso; omega, fun _ => ?_⟩
      rw [List.take_of_length_le (by omega)] at ho
      subst ho
      exact hK w a c h
    | succ m ih =>
      intro j k w a c out hj ho hk h
      obtain ⟨k, rfl⟩ : ∃ j, k = j + 1 := ⟨k - 1, by omega⟩
      show F41_1B _ _ _ _ _ _
      unfold F41_1B
      simp only [rdP_mk, rdC_mk, rdI_mk, nn_some, add_mk]
      refine rl6 h 1 rfl ?_
      rw [br_dec]
      refine ⟨fun _ => ?_, fun hlt => by exfalso; omega⟩
      obtain ⟨f, he⟩ : ∃ f, Wl[j]? = some f := ⟨Wl[j]'(by omega), by simp⟩
      have hfm := List.mem_of_getElem? he
      have eix : ∀ {w' : World} {N : List HP} {q : Nat} {K : Int → Prop}, Hs W N w' → N[q]? = some (slP 30 1 d1.wa Wl.length d1.wc (inV .u32 Wl)) → K f → ixS 1 d1.wa Wl.length (j : Int) fun a => ldI .u32 a w' K := fun {w'} {N} {q} {K} h' hq hk' => by
        have hr := h'.rd q hq
        obtain ⟨xd, hxa⟩ := hr.some (by rw [inV_length]; omega)
        have hr' : Rd w' (some xd) (inV .u32 Wl) := by rw [← hxa]; exact hr
        rw [hxa]; refine ixS_to rfl (by omega) ?_; rw [Nat.mul_one]
        exact ldI_c (hr'.at (inV_at he)) hk'
      refine rl6 h 1 rfl (eix (q := 6) h rfl ?_)
      have e1 : IntKind.wrap .i64 ((j : Int) + 1) = ((j + 1 : Nat) : Int) := by rw [wrap_i64 (by omega) (by omega)]; omega
      have etk : Wl.take (j + 1) = Wl.take j ++ [f] := by rw [List.take_add_one, he]; rfl
      have hol : out.length ≤ j := by
        rw [ho]
        have := List.length_filter_le p (Wl.take j)
        rw [List.length_take] at this
        omega
      refine cl (c64 (f := f) (hWr f hfm) hel1 (fun w' h' => ref_rr h'.drop) h) ?_
      rintro _ w3 (⟨n, a3, c3, hw, rfl, h3⟩ | ⟨hno, rfl, h3⟩)
      · refine ⟨_, _, _, rfl, ?_⟩
        have hpf : p f = true := by
          cases hpf : p f with
          | true => rfl
          | false => exact absurd (by rw [← hpl]; exact hw) (hp0 f hfm hpf n)
        rw [br_dec]
        refine ⟨fun _ => ?_, fun hge => by exfalso; omega⟩
        have h4 := h3.drop
        refine rl6 h4 1 rfl (eix (q := 6) h4 rfl ?_)
        unfold alc
        refine h4.push (ty := 33) E33 0 rfl (news := #[.int .u32 f]) rfl (by simp [Value.oneCell']) (by omega) (by omega) fun a' c' w8 h9 => ?_
        have h9 : Hs W (slP 30 1 a' (out.length + 1) c' (inV .u32 out ++ [.int .u32 f]) :: (refL rb d1 (dropS s t) Wl ++ Z)) w8 := h9
        have eo : out ++ [f] = (Wl.take (j + 1)).filter p := by rw [etk, List.filter_append, ho]; simp [hpf]
        have el : out.length + 1 = ((Wl.take (j + 1)).filter p).length := by rw [← eo]; simp
        rw [← inV_snoc, eo, el] at h9
        rw [el, e1]
        exact ih (j + 1) k w8 a' c' _ (by omega) rfl (by omega) h9
      · refine ⟨_, _, _, rfl, ?_⟩
        have hpf : p f = false := by
          cases hpf : p f with
          | false => rfl
          | true =>
            obtain ⟨n, hn⟩ := hp1 f hfm hpf
            exact absurd (by rw [hpl]; exact hn) (hno n)
        rw [br_dec]
        refine ⟨fun hlt => by exfalso; revert hlt; simp, fun _ => ?_⟩
        rw [e1]
        refine ih (j + 1) k w3 a c out (by omega) ?_ (by omega) h3
        rw [etk, List.filter_append, ho]; simp [hpf]
  refine ⟨Wl.length + 1, loop _ (fun w' a c h' => ?_) Wl.length 0 _ w2 none 0 [] (by omega) (by simp) (by omega) (h6.nil 30 1)⟩
  intro _g
  simp only [rdP_mk, rdC_mk, nn_some, add_mk]
  refine h'.stc 1 rfl (by simp [refC, R85.c]) fun w16 h16 => ?_
  have h17 := h16.erase 6
  have h18 := h17.perm (List.perm_middle (l₁ := [_, _, _, _, _])).symm
  exact ⟨by first | rfl | trivial, { d1 with wa := a, wc := c }, ⟨hi1.L, hi1.M⟩, h18⟩
/-- New -/
theorem c20 {n : Nat} {n2 : Int} (hn : 1 ≤ n ∧ n ≤ 1024) (h2 : 1 ≤ n2 ∧ n2 ≤ 1073741824) (h : Hs W L w) : Calls Try.prog 20 #[.int .i64 (n : Int), .int .i64 n2] w (rt fun v w' => ∃ rb, v = .tuple #[.pointer (some ⟨rb, 0, none⟩), .int .i64 0] ∧ Hs W (refP rb (newS n n2) [] :: L) w') := by
  refine F20_ok ?_
  unfold F20
  simp only [rdI_mk, br_dec]
  refine ⟨fun _ => by exfalso; omega, fun _ => ⟨fun _ => by exfalso; omega, fun _ => ⟨fun _ => by exfalso; omega, fun _ => ⟨fun _ => by exfalso; omega, fun _ => ?_⟩⟩⟩⟩
  refine h.make (n := n) E46 (show n * 1 ≤ 16777216 by omega) (show 2 * n ≤ 281474976710656 by omega) (show n ≤ 281474976710656 by omega) fun na w3 h5 _ => ?_
  rw [zeros16] at h5
  refine h5.alc fun rb w4 h6 => ⟨rb, by first | rfl | trivial, ?_⟩
  have hlen : (newS n n2).nx.length = n := by simp [newS]
  obtain ⟨T, hT⟩ : ∃ T : HP, T = pt rb (.cells (R85.mk (n : Int) n2 none 0 0 none 0 0 na n n none 0 0 none 0 0).c 86 (0, 0)) := ⟨_, rfl⟩
  have h6 : Hs W (T :: slP 31 1 na n n (inV .u16 (List.replicate n 0)) :: L) w4 := by rw [hT]; exact h6
  have h7 : Hs W ([emp, emp, slP 30 1 none 0 0 [], slP 30 1 none 0 0 [], slP 39 5 none 0 0 [], slP 36 15 none 0 0 [], T, slP 31 1 na n n (inV .u16 (List.replicate n 0))] ++ L) w4 := Hs.cons_emp.2 (Hs.cons_emp.2 ((((h6.nil 36 15).nil 39 5).nil 30 1).nil 30 1))
  have h8 := (Hs_fold.1 h7).pick [6, 5, 4, 7, 3, 2, 1, 0, 8]
  have h9 : Hs W ([T, slP 36 15 none 0 0 [], slP 39 5 none 0 0 [], slP 31 1 na n n (inV .u16 (List.replicate n 0)), slP 30 1 none 0 0 [], slP 30 1 none 0 0 [], emp, emp] ++ [bigS L]) w4 := h8
  have h10 := Hs_fold.2 h9
  refine ref_shut (d := ⟨none, 0, [], none, 0, [], na, n, none, 0, none, 0⟩) ⟨rfl, rfl⟩ ?_
  unfold refL refC
  rw [hlen]
  rw [hT] at h10
  exact h10
theorem c20_err {n1 n2 : Int} (hb : n1 < 1 ∨ 1024 < n1 ∨ n2 < 1 ∨ 1073741824 < n2) (w : World) : Calls Try.prog 20 #[.int .i64 n1, .int .i64 n2] w (rt (KR (.tuple #[.pointer none, .int .i64 1]) w)) := by
  refine F20_ok ?_
  unfold F20
  simp only [rdI_mk, br_dec]
  refine ⟨fun _ => KR.mk _ _, fun q1 => ⟨fun _ => KR.mk _ _, fun q2 => ⟨fun _ => KR.mk _ _, fun q3 => ⟨fun _ => KR.mk _ _, fun q4 => ?_⟩⟩⟩⟩
  exfalso
  omega
end
end Go.Proofs.Ytaflmpbeonoilaa
namespace Go.Proofs.Ytaflmpbeonoilaa
open Go Go.Sh Go.RowKit
section
variable {W w : World} {L M Z : List HP} {rb lc : Nat} {la : Option Addr} {d : RD} {s : St} {es : List Ec} {Wl : List Int}
theorem run_b49 (w : World) : Sem.run Try.prog (Instr.buildSlice 49 0 #[]) w = .ok (.slice (some ⟨w.heap.size, 0, none⟩) 0 0) (w.alloc (.cells #[] 39)) := by kernel_rfl
theorem c39_none (hi : RIs d s) (hM : s.M = []) (h : Hs W (refL rb d s Wl ++ Z) w) : Calls Try.prog 39 #[.pointer (some ⟨rb, 0, none⟩)] w (rt fun v w' => v = .tuple #[R38.z.v, .bool false] ∧ Hs W (refL rb d s Wl ++ Z) w') := by
  have hms : d.ms = [] := by
    have := hi.M
    rw [hM] at this
    exact List.map_eq_nil_iff.1 this
  refine F39_ok ?_
  unfold F39
  simp only [rdP_mk, nn_some, add_mk]
  refine h.alc fun b2 w3 h3 => ?_
  refine rl3 h3 1 rfl ?_
  have e0 : ((d.ms.length : Int) == 0) = true := by rw [hms]; rfl
  rw [e0, br_true]
  refine h3.stcL 0 rfl rfl fun w6 h6 => ?_
  exact ldR38_of (s := R38.z) (h6.atL 0 rfl) ⟨by first | rfl | trivial, h6.drop⟩
theorem c39 {m : Ms} {r : List Ms} (hi : RIs d s) (hM : s.M = m :: r) (hml : s.M.length ≤ 2000000000) (h : Hs W (refL rb d s Wl ++ Z) w) : Calls Try.prog 39 #[.pointer (some ⟨rb, 0, none⟩)] w (rt fun v w' => ∃ a c, v = .tuple #[(m.rc a c).v, .bool true] ∧ ∃ d', RIs d' (takeS s) ∧ Hs W (slP 5 1 a m.d.length c (inV .u8 m.d) :: (refL rb d' (takeS s) Wl ++ Z)) w') := by
  obtain ⟨e0, ms', hms, he0, hr0⟩ : ∃ e0 ms', d.ms = e0 :: ms' ∧ e0.m = m ∧ ms'.map Em.m = r := by
    have := hi.M
    rw [hM] at this
    cases hd : d.ms with
    | nil => rw [hd] at this; cases this
    | cons e0 ms' =>
      rw [hd] at this
      simp only [List.map_cons, List.cons.injEq] at this
      exact ⟨e0, ms', rfl, this.1, this.2⟩
  subst he0
  have hdl : d.ms.length = s.M.length := by rw [← hi.M, List.length_map]
  refine F39_ok ?_
  unfold F39
  simp only [rdP_mk, nn_some, add_mk]
  refine h.alc fun b2 w3 h3 => ?_
  refine rl3 h3 1 rfl ?_
  have e1 : ((d.ms.length : Int) == 0) = false := by rw [hms, beq_eq_false_iff_ne]; simp; omega
  rw [e1, br_false]
  refine rl3 h3 1 rfl ?_
  have hrd := h3.rd 3 rfl
  obtain ⟨ad, hra⟩ := hrd.some (by rw [msV_length, hms]; simp)
  have hrd' : Rd w3 (some ad) (msV d.ms) := by rw [← hra]; exact hrd
  have hlt : 0 < d.ms.length := by rw [hms]; simp
  have eix : ∀ {K : Addr → Prop}, K (ad.add (0 * 5)) → ixS 5 d.ma d.ms.length 0 K := by
    intro K hk
    rw [hra]
    exact ixS_to (p := 0) rfl hlt hk
  refine eix ?_
  refine ldR38_of (s := e0.rc) (hrd'.atI (f := fun e : Em => e.rc.l) (m := 5) (i := 0) (fun _ => rfl) (by rw [hms]; rfl)) ?_
  refine h3.alc fun b12 w8 h8 => ?_
  refine h8.stcL 0 rfl rfl fun w9 h9 => ?_
  refine ⟨_, _, _, _, run_b49 w9, ?_⟩
  have h10 := h9.void 39 5
  refine rl3 h10 3 rfl ?_
  have h10 : Hs W (slP 39 5 (some ⟨w9.heap.size, 0, none⟩) 0 0 [] :: pt b12 (.cells e0.rc.c 39 (0, 0)) :: pt b2 (.cells R38.z.c 39 (0, 0)) :: (refL rb d s Wl ++ Z)) (w9.alloc (.cells #[] 39)) := h10
  refine h10.appLo (ty := 49) E49 0 5 (n := 1) rfl rfl (by omega) (fun u hu => ?_) (by omega) (by omega) fun ma' mc' w11 h11 => ?_
  · obtain ⟨e, _, hu⟩ := List.mem_flatMap.1 hu
    exact R38_one e.rc u (by rw [R38.c_list]; exact hu)
  have el : 0 + (d.ms.length - 1) = ms'.length := by rw [hms]; simp
  have h11 : Hs W (slP 39 5 ma' (0 + (d.ms.length - 1)) mc' ([] ++ (msV d.ms).drop (1 * 5)) :: pt b12 (.cells e0.rc.c 39 (0, 0)) :: pt b2 (.cells R38.z.c 39 (0, 0)) :: (refL rb d s Wl ++ Z)) w11 := h11
  have ev : [] ++ (msV d.ms).drop (1 * 5) = msV ms' := by rw [hms]; rfl
  rw [el, ev] at h11
  rw [el]
  refine h11.stc 3 rfl (by simp [refC, R85.c]) fun w12 h12 => ?_
  refine ldR38_of (s := e0.rc) (h12.atL 1 rfl) ?_
  refine h12.stcL 2 rfl rfl fun w13 h13 => ?_
  refine ldR38_of (s := e0.rc) (h13.atL 2 rfl) ?_
  refine ⟨e0.a, e0.c, by first | rfl | trivial, ?_⟩
  have h14 := h13.erase 5
  have h15 := ((h14.erase 1).erase 1)
  have h16 := h15.perm (List.perm_middle (l₁ := [_, _])).symm
  have h17 := h16.big_out 7 (l := d.ms) (F := datP) (k := 0) (x := e0) rfl (by rw [hms]; rfl)
  have ee : d.ms.eraseIdx 0 = ms' := by rw [hms]; rfl
  rw [ee] at h17
  have hts : takeS s = { s with M := r } := by unfold takeS; rw [hM]; rfl
  refine ⟨{ d with ms := ms', ma := ma', mc := mc' }, ⟨by rw [hts]; exact hi.L, by rw [hts]; exact hr0⟩, ?_⟩
  rw [hts]
  exact h17
theorem c40 {m : Ms} {a1 a2 : Option Addr} {c1 c2 : Nat} (h1 : Rd w a1 (inV .u8 m.d)) (h2 : Rd w a2 (inV .u8 m.d)) (hb : ∀ x ∈ m.d, 0 ≤ x ∧ x < 256) : Calls Try.prog 40 #[(m.rc a1 c1).v, (m.rc a2 c2).v] w (rt fun v w' => v = .bool true ∧ Same w w') := by
  refine F40_ok ?_
  unfold F40
  refine exR38_of (m.rc a1 c1) ⟨rfl, exR38_of (m.rc a2 c2) ⟨rfl, ?_⟩⟩
  refine (Hs.start w).alc fun b3 w4 h4 => h4.alc fun b5 w6 h6 => ?_
  have e0 : ∀ x : Int, (x == x) = true := fun x => by simp
  refine h6.ldI 1 rfl rfl (h6.ldI 0 rfl rfl ?_)
  show br (m.st == m.st) _ _
  rw [e0, br_true]
  refine h6.ldI 1 rfl rfl (h6.ldI 0 rfl rfl ?_)
  show br (m.ssn == m.ssn) _ _
  rw [e0, br_true]
  refine h6.ldI 1 rfl rfl (h6.ldI 0 rfl rfl ?_)
  show br (m.pr == m.pr) _ _
  rw [e0, br_true]
  refine h6.ldB 1 rfl rfl (h6.ldB 0 rfl rfl ?_)
  show br (m.un == m.un) _ _
  have e1 : (m.un == m.un) = true := by simp
  rw [e1, br_true]
  refine h6.ldC 1 rfl rfl ?_
  have s6 := h6.old
  refine ⟨_, _, run_str (c := c1) (h1.fr s6 fun _ _ x => x) hb, ?_⟩
  refine h6.ldC 0 rfl rfl ?_
  refine ⟨_, _, run_str (c := c2) (h2.fr s6 fun _ _ x => x) hb, ?_⟩
  exact ⟨by simp, s6⟩
end
end Go.Proofs.Ytaflmpbeonoilaa
