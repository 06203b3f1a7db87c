/-
  The document's table: Chunks, Fixed.
-/
import Derived.Test.YtaflmpbeonoilaaRmRe
import Derived.Test.YtaflmpbeonoilaaShTl
namespace Go.Proofs.Ytaflmpbeonoilaa
open Go Go.Sh Go.RowKit
section
variable {W w : World} {L M Z : List HP} {rb lc : Nat} {la : Option Addr} {d : RD} {s : St} {es : List Ec} {Wl : List Int}
/-- a number put into a list, in memory -/
theorem ins_mem {out : List Int} {n : Nat} {x : Int} {a : Option Addr} {c : Nat} {K : Option Addr → Nat → Nat → World → Prop} {get : (Int → World → Prop) → World → Prop} (hn : n ≤ out.length) (hl : out.length ≤ 65536) (h : Hs W (slP 30 1 a out.length c (inV .u32 out) :: M) w)
    (hget : ∀ (N : HP) (w' : World) (K : Int → World → Prop), Hs W (N :: slP 30 1 a out.length c (inV .u32 out) :: M) w' → K x w' → get K w')
    (hK : ∀ a' c' w', Hs W (slP 30 1 a' (out.length + 1) c' (inV .u32 (out.take n ++ x :: out.drop n)) :: M) w' → K a' (out.length + 1) c' w') :
    ∃ l13a l13n l13c, ∃ w14, Sem.run Try.prog (Instr.buildSlice 33 0 #[]) w = .ok (.slice l13a l13n l13c) w14 ∧ (slS 1 a out.length c none (some (.int .i64 (n : Int))) fun l15a l15n l15c => ∃ l16a l16n l16c w17, Sem.run Try.prog (Builtin.append_ #[33, 33] 33 #[(.slice l13a l13n l13c), (.slice l15a l15n l15c)]) w14 = .ok (.slice l16a l16n l16c) w17 ∧ get (fun n21 w17 => alc (.cells #[(.int .u32 n21)] 30) w17 fun b22 w23 => ∃ l24a l24n l24c w25, Sem.run Try.prog (Builtin.append_ #[33, 33] 33 #[(.slice l16a l16n l16c), (.slice (some (Addr.mk b22 0 none)) 1 1)]) w23 = .ok (.slice l24a l24n l24c) w25 ∧ (slS 1 a out.length c (some (.int .i64 (n : Int))) none fun l26a l26n l26c => ∃ l27a l27n l27c w28, Sem.run Try.prog (Builtin.append_ #[33, 33] 33 #[(.slice l24a l24n l24c), (.slice l26a l26n l26c)]) w25 = .ok (.slice l27a l27n l27c) w28 ∧ K l27a l27n l27c w28)) w17) := by
  refine ⟨_, _, _, _, run_b33 w, ?_⟩
  have h1 := h.void 30 1
  refine h1.appHi (ty := 33) E33 0 1 rfl rfl hn (inV_one _ _) (by omega) (by omega) fun a2 c2 w2 h2 => ?_
  have h2 : Hs W (slP 30 1 a2 (0 + n) c2 ([] ++ (inV .u32 out).take (n * 1)) :: slP 30 1 a out.length c (inV .u32 out) :: M) w2 := h2
  rw [Nat.zero_add, List.nil_append, Nat.mul_one, inV_take] at h2
  rw [Nat.zero_add]
  refine hget _ w2 _ h2 ?_
  unfold alc
  refine h2.push (ty := 33) E33 0 rfl (news := #[.int .u32 x]) rfl (by simp [Value.oneCell']) (by omega) (by omega) fun a3 c3 w3 h3 => ?_
  have h3 : Hs W (slP 30 1 a3 (n + 1) c3 (inV .u32 (out.take n) ++ [.int .u32 x]) :: slP 30 1 a out.length c (inV .u32 out) :: M) w3 := h3
  rw [← inV_snoc] at h3
  refine h3.appLo (ty := 33) E33 0 1 rfl rfl hn (inV_one _ _) (by omega) (by omega) fun a4 c4 w4 h4 => ?_
  have h4 : Hs W (slP 30 1 a4 (n + 1 + (out.length - n)) c4 (inV .u32 (out.take n ++ [x]) ++ (inV .u32 out).drop (n * 1)) :: slP 30 1 a out.length c (inV .u32 out) :: M) w4 := h4
  rw [Nat.mul_one, inV_drop, ← inV_append] at h4
  have e : n + 1 + (out.length - n) = out.length + 1 := by omega
  rw [e] at h4 ⊢
  refine hK a4 c4 w4 ?_
  have := h4.erase 1
  have e2 : out.take n ++ [x] ++ out.drop n = out.take n ++ x :: out.drop n := by simp
  rw [e2] at this
  exact this
theorem posR_le (key : Int → Int) (k : Int) (out : List Int) : posR key k out ≤ out.length := List.findIdx_le_length
theorem c44_1 {K2 : Value → Value → Value → Value → World → Prop} {out : List Int} {i : Nat} {a : Option Addr} {c : Nat} {x : Ch} (hx : s.L[i]? = some x) (hi : RIs d s) (hl : out.length ≤ 65536)
    (hK : ∀ w', Hs W (slP 30 1 a out.length c (inV .u32 out) :: (refL rb d s Wl ++ Z)) w' → K2 (.pointer (some ⟨rb, 0, none⟩)) (.slice a out.length c) (.int .i64 (i : Int)) (.int .i64 ((posR id x.tsn out : Nat) : Int)) w') :
    ∀ (m j k : Nat) (w : World), j + m = out.length → j ≤ posR id x.tsn out → m < k → Hs W (slP 30 1 a out.length c (inV .u32 out) :: (refL rb d s Wl ++ Z)) w →
      F44_1 K2 k (.pointer (some ⟨rb, 0, none⟩)) (.slice a out.length c) (.int .i64 (i : Int)) (.int .i64 (j : Int)) w := by
  obtain ⟨e, he, hex⟩ : ∃ e, d.es[i]? = some e ∧ e.x = x := by
    rw [← hi.L, List.getElem?_map] at hx
    obtain ⟨e, he, hex⟩ := Option.map_eq_some_iff.1 hx
    exact ⟨e, he, hex⟩
  intro m
  induction m with
  | zero =>
    intro j k w hj hp hk h
    obtain ⟨k, rfl⟩ : ∃ j, k = j + 1 := ⟨k - 1, by omega⟩
    show F44_1B _ _ _ _ _ _ _
    unfold F44_1B
    simp only [rdP_mk, rdC_mk, rdI_mk, nn_some, add_mk]
    refine h.drw fun w1 h1 => ?_
    rw [br_dec]
    refine ⟨fun hlt => by exfalso; omega, fun _ => ?_⟩
    have : j = posR id x.tsn out := by have := posR_le id x.tsn out; omega
    rw [this]
    exact hK w1 h1
  | succ m ih =>
    intro j k w hj hp hk h
    obtain ⟨k, rfl⟩ : ∃ j, k = j + 1 := ⟨k - 1, by omega⟩
    show F44_1B _ _ _ _ _ _ _
    unfold F44_1B
    simp only [rdP_mk, rdC_mk, rdI_mk, nn_some, add_mk]
    refine h.drw fun w1 h1 => ?_
    rw [br_dec]
    refine ⟨fun _ => ?_, fun hlt => by exfalso; omega⟩
    obtain ⟨y, hy⟩ : ∃ y, out[j]? = some y := ⟨out[j]'(by omega), by simp⟩
    have hr := h1.rd 0 rfl
    obtain ⟨xd, hxa⟩ := hr.some (by rw [inV_length]; omega)
    have hr' : Rd w1 (some xd) (inV .u32 out) := by rw [← hxa]; exact hr
    have eix : ∀ {K : Addr → Prop}, K (xd.add j) → ixS 1 a out.length (j : Int) K := fun hk' => by rw [hxa]; refine ixS_to rfl (by omega) ?_; rw [Nat.mul_one]; exact hk'
    refine eix (ldI_c (hr'.at (inV_at hy)) ?_)
    refine rl2 h1 1 rfl (ch_ix (h1.rd 2 rfl) rfl he fun ad ha => ?_)
    refine ldI_c (ha 2 _ rfl) ?_
    have hf2 : e.rc.f2 = x.tsn := by rw [← hex]; rfl
    rw [hf2, br_dec]
    refine ⟨fun hlt => ?_, fun hge => ?_⟩
    · have e1 : IntKind.wrap .i64 ((j : Int) + 1) = ((j + 1 : Nat) : Int) := by rw [wrap_i64 (by omega) (by omega)]; omega
      rw [e1]
      refine ih (j + 1) k w1 (by omega) ?_ (by omega) h1
      rcases Nat.lt_or_ge j (posR id x.tsn out) with h' | h'
      · exact h'
      · exfalso
        have : j = posR id x.tsn out := by omega
        rw [this] at hy
        exact at_ge (key := id) hy hlt
    · have : j = posR id x.tsn out := by
        rcases Nat.lt_or_ge j (posR id x.tsn out) with h' | h'
        · exact absurd (at_lt (key := id) hy h') hge
        · omega
      rw [this]
      exact hK w1 h1
theorem c44 (hi : RIs d s) (hn : (keys s.L).Nodup) (hl : s.L.length ≤ 65535) (h : Hs W (refL rb d s Wl ++ Z) w) : Calls Try.prog 44 #[.pointer (some ⟨rb, 0, none⟩)] w (rt fun v w' => ∃ a c, v = .slice a (srt (keys s.L)).length c ∧ Hs W (slP 30 1 a (srt (keys s.L)).length c (inV .u32 (srt (keys s.L))) :: (refL rb d s Wl ++ Z)) w') := by
  refine F44_ok ?_
  unfold F44
  simp only [rdP_mk]
  rw [← insL_srt hn]
  have hkl : (keys s.L).length = s.L.length := by simp
  have hel := ch_len hi
  have loop : ∀ (K0 : Value → World → Prop), (∀ w' a c, Hs W (slP 30 1 a (insL id (keys s.L)).length c (inV .u32 (insL id (keys s.L))) :: (refL rb d s Wl ++ Z)) w' → K0 (.slice a (insL id (keys s.L)).length c) w') →
      ∀ (m j k : Nat) (w : World) (a : Option Addr) (c : Nat) (out : List Int), j + m = s.L.length → out = insL id ((keys s.L).take j) → m < k → Hs W (slP 30 1 a out.length c (inV .u32 out) :: (refL rb d s Wl ++ Z)) w →
      F44_2 K0 k (.pointer (some ⟨rb, 0, none⟩)) (.slice a out.length c) (.int .i64 (j : Int)) w := by
    intro K0 hK m
    induction m with
    | zero =>
      intro j k w a c out hj ho hk h
      obtain ⟨k, rfl⟩ : ∃ j, k = j + 1 := ⟨k - 1, by omega⟩
      show F44_2B _ _ _ _ _ _
      unfold F44_2B
      simp only [rdP_mk, rdC_mk, rdI_mk, nn_some, add_mk]
      refine rl2 h 1 rfl ?_
      rw [br_dec]
      refine ⟨fun hlt => by exfalso; omega, fun _ => ?_⟩
      rw [List.take_of_length_le (by omega)] at ho
      subst ho
      exact hK w a c h
    | succ m ih =>
      intro j k w a c out hj ho hk h
      obtain ⟨k, rfl⟩ : ∃ j, k = j + 1 := ⟨k - 1, by omega⟩
      show F44_2B _ _ _ _ _ _
      unfold F44_2B
      simp only [rdP_mk, rdC_mk, rdI_mk, nn_some, add_mk]
      refine rl2 h 1 rfl ?_
      rw [br_dec]
      refine ⟨fun _ => ?_, fun hlt => by exfalso; omega⟩
      obtain ⟨x, hx⟩ : ∃ x, s.L[j]? = some x := ⟨s.L[j]'(by omega), by simp⟩
      obtain ⟨e, he, hex⟩ : ∃ e, d.es[j]? = some e ∧ e.x = x := by
        rw [← hi.L, List.getElem?_map] at hx
        obtain ⟨e, he, hex⟩ := Option.map_eq_some_iff.1 hx
        exact ⟨e, he, hex⟩
      have hol : out.length = j := by rw [ho, insL_len, List.length_take]; omega
      have hkx : (keys s.L).take (j + 1) = (keys s.L).take j ++ [x.tsn] := by
        rw [List.take_add_one, List.getElem?_map, hx]; rfl
      refine ⟨out.length + 1, c44_1 hx hi (by omega) (fun w1 h1 => ?_) out.length 0 _ w (by omega) (Nat.zero_le _) (by omega) h⟩
      intro _g
      simp only [rdP_mk, rdC_mk, rdI_mk, nn_some, add_mk]
      have hf2 : e.rc.f2 = x.tsn := by rw [← hex]; rfl
      have e1 : IntKind.wrap .i64 ((j : Int) + 1) = ((j + 1 : Nat) : Int) := by rw [wrap_i64 (by omega) (by omega)]; omega
      rw [e1]
      refine ins_mem (x := x.tsn) (get := fun K w17 => ldC (Addr.mk rb (0 + 2) none) w17 fun l19a l19n _ => ixS 15 l19a l19n (j : Int) fun a20 => ldI .u32 (a20.add 2) w17 fun n21 => K n21 w17) (posR_le _ _ _) (by omega) h1 (fun N w' K h' hk' => ?_) fun a' c' w' h' => ?_
      · refine rl2 h' 2 rfl (ch_ix (h'.rd 3 rfl) rfl he fun ad ha => ?_)
        refine ldI_c (ha 2 _ rfl) ?_
        rw [hf2]; exact hk'
      · have eo : insL id ((keys s.L).take (j + 1)) = out.take (posR id x.tsn out) ++ x.tsn :: out.drop (posR id x.tsn out) := by
          rw [hkx, insL_snoc, ← ho]
          exact (insR_pos id x.tsn out).symm
        have el : out.length + 1 = (insL id ((keys s.L).take (j + 1))).length := by rw [insL_len, List.length_take]; omega
        rw [← eo, el] at h'
        rw [el]
        exact ih (j + 1) k w' a' c' _ (by omega) rfl (by omega) h'
  refine ⟨s.L.length + 1, loop _ (fun w' a c h' _g => ?_) s.L.length 0 _ w none 0 [] (by omega) (by simp [insL]) (by omega) (h.nil 30 1)⟩
  simp only [rdC_mk]
  exact ⟨a, c, by first | rfl | trivial, h'⟩
theorem c45_1 {K2 : Value → Value → Value → Value → Value → World → Prop} {out : List Int} {i : Nat} {a : Option Addr} {c : Nat} {cum : Int} {dd : Int} (hc : 0 ≤ cum ∧ cum < 4294967296) (ho : ∀ t ∈ out, 0 ≤ t ∧ t < 4294967296) (hl : out.length ≤ 65536)
    (hK : ∀ w', Hs W (slP 30 1 a out.length c (inV .u32 out) :: (refL rb d s Wl ++ Z)) w' → K2 (.pointer (some ⟨rb, 0, none⟩)) (.int .u32 cum) (.slice a out.length c) (.int .i64 (i : Int)) (.int .i64 ((posR (dif cum) dd out : Nat) : Int)) w') :
    ∀ (m j k : Nat) (w : World), j + m = out.length → j ≤ posR (dif cum) dd out → m < k → Hs W (slP 30 1 a out.length c (inV .u32 out) :: (refL rb d s Wl ++ Z)) w →
      F45_1 K2 k (.pointer (some ⟨rb, 0, none⟩)) (.int .u32 cum) (.slice a out.length c) (.int .i64 (i : Int)) (.int .i64 dd) (.int .i64 (j : Int)) w := by
  intro m
  induction m with
  | zero =>
    intro j k w hj hp hk h
    obtain ⟨k, rfl⟩ : ∃ j, k = j + 1 := ⟨k - 1, by omega⟩
    show F45_1B _ _ _ _ _ _ _ _ _
    unfold F45_1B
    simp only [rdP_mk, rdC_mk, rdI_mk, nn_some, add_mk]
    rw [br_dec]
    refine ⟨fun hlt => by exfalso; omega, fun _ => ?_⟩
    have : j = posR (dif cum) dd out := by have := posR_le (dif cum) dd out; omega
    rw [this]
    exact hK w h
  | succ m ih =>
    intro j k w hj hp hk h
    obtain ⟨k, rfl⟩ : ∃ j, k = j + 1 := ⟨k - 1, by omega⟩
    show F45_1B _ _ _ _ _ _ _ _ _
    unfold F45_1B
    simp only [rdP_mk, rdC_mk, rdI_mk, nn_some, add_mk]
    rw [br_dec]
    refine ⟨fun _ => ?_, fun hlt => by exfalso; omega⟩
    obtain ⟨y, hy⟩ : ∃ y, out[j]? = some y := ⟨out[j]'(by omega), by simp⟩
    have hr := h.rd 0 rfl
    obtain ⟨xd, hxa⟩ := hr.some (by rw [inV_length]; omega)
    have hr' : Rd w (some xd) (inV .u32 out) := by rw [← hxa]; exact hr
    have eix : ∀ {K : Addr → Prop}, K (xd.add j) → ixS 1 a out.length (j : Int) K := fun hk' => by rw [hxa]; refine ixS_to rfl (by omega) ?_; rw [Nat.mul_one]; exact hk'
    refine eix (ldI_c (hr'.at (inV_at hy)) ?_)
    refine clr (c68 hc (ho y (List.mem_of_getElem? hy)) w) ⟨_, rfl, ?_⟩
    rw [br_dec]
    refine ⟨fun hlt => ?_, fun hge => ?_⟩
    · have e1 : IntKind.wrap .i64 ((j : Int) + 1) = ((j + 1 : Nat) : Int) := by rw [wrap_i64 (by omega) (by omega)]; omega
      rw [e1]
      refine ih (j + 1) k w (by omega) ?_ (by omega) h
      rcases Nat.lt_or_ge j (posR (dif cum) dd out) with h' | h'
      · exact h'
      · exfalso
        have : j = posR (dif cum) dd out := by omega
        rw [this] at hy
        exact at_ge hy hlt
    · have : j = posR (dif cum) dd out := by
        rcases Nat.lt_or_ge j (posR (dif cum) dd out) with h' | h'
        · exact absurd (at_lt hy h') hge
        · omega
      rw [this]
      exact hK w h
theorem c45 {cum : Int} (hc : 0 ≤ cum ∧ cum < 4294967296) (hn : s.F.Nodup) (hF : ∀ t ∈ s.F, 0 ≤ t ∧ t < 4294967296) (hl : s.F.length ≤ 65535) (h : Hs W (refL rb d s Wl ++ Z) w) : Calls Try.prog 45 #[.pointer (some ⟨rb, 0, none⟩), .int .u32 cum] w (rt fun v w' => ∃ a c, v = .slice a (fixS s.F cum).length c ∧ Hs W (slP 30 1 a (fixS s.F cum).length c (inV .u32 (fixS s.F cum)) :: (refL rb d s Wl ++ Z)) w') := by
  refine F45_ok ?_
  unfold F45
  simp only [rdP_mk, rdI_mk]
  rw [← insL_fix hn hF]
  have loop : ∀ (K0 : Value → World → Prop), (∀ w' a c, Hs W (slP 30 1 a (insL (dif cum) (s.F.filter (nearB cum))).length c (inV .u32 (insL (dif cum) (s.F.filter (nearB cum)))) :: (refL rb d s Wl ++ Z)) w' → K0 (.slice a (insL (dif cum) (s.F.filter (nearB cum))).length c) w') →
      ∀ (m j k : Nat) (w : World) (a : Option Addr) (c : Nat) (out : List Int), j + m = s.F.length → out = insL (dif cum) ((s.F.take j).filter (nearB cum)) → m < k → Hs W (slP 30 1 a out.length c (inV .u32 out) :: (refL rb d s Wl ++ Z)) w →
      F45_3 K0 k (.pointer (some ⟨rb, 0, none⟩)) (.int .u32 cum) (.slice a out.length c) (.int .i64 (j : Int)) w := by
    intro K0 hK m
    induction m with
    | zero =>
      intro j k w a c out hj ho hk h
      obtain ⟨k, rfl⟩ : ∃ j, k = j + 1 := ⟨k - 1, by omega⟩
      show F45_3B _ _ _ _ _ _ _
      unfold F45_3B
      simp only [rdP_mk, rdC_mk, rdI_mk, nn_some, add_mk]
      refine rl5 h 1 rfl ?_
      rw [br_dec]
      refine ⟨fun hlt => by exfalso; omega, fun _ => ?_⟩
      rw [List.take_of_length_le (by omega)] at ho
      subst ho
      exact hK w a c h
    | succ m ih =>
      intro j k w a c out hj ho hk h
      obtain ⟨k, rfl⟩ : ∃ j, k = j + 1 := ⟨k - 1, by omega⟩
      show F45_3B _ _ _ _ _ _ _
      unfold F45_3B
      simp only [rdP_mk, rdC_mk, rdI_mk, nn_some, add_mk]
      refine rl5 h 1 rfl ?_
      rw [br_dec]
      refine ⟨fun _ => ?_, fun hlt => by exfalso; omega⟩
      obtain ⟨t, he⟩ : ∃ t, s.F[j]? = some t := ⟨s.F[j]'(by omega), by simp⟩
      have hft := hF t (List.mem_of_getElem? he)
      have eix : ∀ {w' : World} {N : List HP} {q : Nat} {K : Int → Prop}, Hs W N w' → N[q]? = some (slP 30 1 d.fa s.F.length d.fc (inV .u32 s.F)) → K t → ixS 1 d.fa s.F.length (j : Int) fun a => ldI .u32 a w' K := fun {w'} {N} {q} {K} h' hq hk' => by
        have hr := h'.rd q hq
        obtain ⟨xd, hxa⟩ := hr.some (by rw [inV_length]; omega)
        have hr' : Rd w' (some xd) (inV .u32 s.F) := by rw [← hxa]; exact hr
        rw [hxa]; refine ixS_to rfl (by omega) ?_; rw [Nat.mul_one]
        exact ldI_c (hr'.at (inV_at he)) hk'
      refine rl5 h 1 rfl (eix (q := 5) h rfl ?_)
      refine clr (c68 hc hft w) ⟨_, rfl, ?_⟩
      have e1 : IntKind.wrap .i64 ((j : Int) + 1) = ((j + 1 : Nat) : Int) := by rw [wrap_i64 (by omega) (by omega)]; omega
      have etk : s.F.take (j + 1) = s.F.take j ++ [t] := by rw [List.take_add_one, he]; rfl
      have hol : out.length ≤ j := by
        rw [ho, insL_len]
        have := List.length_filter_le (nearB cum) (s.F.take j)
        rw [List.length_take] at this
        omega
      have skip : nearB cum t = false → F45_3 K0 k (.pointer (some ⟨rb, 0, none⟩)) (.int .u32 cum) (.slice a out.length c) (.int .i64 ((j + 1 : Nat) : Int)) w := fun hnb => by
        refine ih (j + 1) k w a c out (by omega) ?_ (by omega) h
        rw [etk, List.filter_append, ho]; simp [hnb]
      rw [e1, br_dec]
      refine ⟨fun hlt => skip (by unfold nearB; rw [Bool.and_eq_false_iff, decide_eq_false_iff_not]; exact .inl (by omega)), fun hge => ?_⟩
      rw [br_dec]
      refine ⟨fun hgt => skip (by unfold nearB; rw [Bool.and_eq_false_iff, decide_eq_false_iff_not, decide_eq_false_iff_not]; exact .inr (by omega)), fun hle => ?_⟩
      have hnb : nearB cum t = true := by unfold nearB; rw [Bool.and_eq_true, decide_eq_true_eq, decide_eq_true_eq]; omega
      unfold F45_2
      simp only [rdP_mk, rdC_mk, rdI_mk, nn_some, add_mk]
      have hout : ∀ t ∈ out, 0 ≤ t ∧ t < 4294967296 := by
        intro y hy
        rw [ho] at hy
        have hy' := (insL_all (key := dif cum) (l := (s.F.take j).filter (nearB cum)) ((hn.sublist (List.take_sublist _ _)).filter _) (fun a ha b hb h => dif_inj (hF a ((List.take_subset _ _) (List.mem_filter.1 ha).1)) (hF b ((List.take_subset _ _) (List.mem_filter.1 hb).1)) h)).2 y
        exact hF y ((List.take_subset _ _) (List.mem_filter.1 (hy'.1 hy)).1)
      refine ⟨out.length + 1, c45_1 (dd := dif cum t) hc hout (by omega) (fun w1 h1 => ?_) out.length 0 _ w (by omega) (Nat.zero_le _) (by omega) h⟩
      intro _g
      simp only [rdP_mk, rdC_mk, rdI_mk, nn_some, add_mk]
      refine ins_mem (x := t) (get := fun K w17 => ldC (Addr.mk rb (0 + 5) none) w17 fun l19a l19n _ => ixS 1 l19a l19n (j : Int) fun a20 => ldI .u32 a20 w17 fun n21 => K n21 w17) (posR_le _ _ _) (by omega) h1 (fun N w' K h' hk' => rl5 h' 2 rfl (eix (q := 6) h' rfl hk')) fun a' c' w' h' => ?_
      have eo : insL (dif cum) ((s.F.take (j + 1)).filter (nearB cum)) = out.take (posR (dif cum) (dif cum t) out) ++ t :: out.drop (posR (dif cum) (dif cum t) out) := by
        rw [etk, List.filter_append]
        have : [t].filter (nearB cum) = [t] := by simp [hnb]
        rw [this, insL_snoc, ← ho]
        exact (insR_pos (dif cum) t out).symm
      have el : out.length + 1 = (insL (dif cum) ((s.F.take (j + 1)).filter (nearB cum))).length := by
        rw [eo]
        have := posR_le (dif cum) (dif cum t) out
        simp
        omega
      rw [← eo, el] at h'
      rw [el]
      intro _g
      simp only [e1]
      exact ih (j + 1) k w' a' c' _ (by omega) rfl (by omega) h'
  refine ⟨s.F.length + 1, loop _ (fun w' a c h' _g => ?_) s.F.length 0 _ w none 0 [] (by omega) (by simp [insL]) (by omega) (h.nil 30 1)⟩
  simp only [rdC_mk]
  exact ⟨a, c, by first | rfl | trivial, h'⟩
end
end Go.Proofs.Ytaflmpbeonoilaa
