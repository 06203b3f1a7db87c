/-
  Each byte is freed once (OutboxOnce).
-/
import Derived.Test.YtmliokbonkndaaaRqT
namespace Go.Proofs.Ytmliokbonkndaaa
open Go Go.Sh
section
variable {W w V : World} {L M : List HP} {bb rb N : Nat} {x y : St} {o : Opx} {os : List Opx} {sa oa : Option Addr} {sn sc oc : Nat} {j b19 : Nat} {p1 p2 : Option Addr} {put free jv : Int} {s : R47}
theorem kept_take_le {l : List En} (h : ∀ e ∈ l, e.data.length ≤ 70000) (hl : l.length ≤ 1048576) (j : Nat) : kept (l.take j) ≤ 73400320000 := by
  have := kept_le (l := l.take j) fun e he => h e (List.mem_of_mem_take he)
  rw [List.length_take] at this
  omega
theorem c5_1 {K2 : Value → Value → Value → Value → Value → Value → Value → World → Prop} {ds : List (En × Option Addr × Nat)} (hm : ds.length ≤ 1048576) (hd : ∀ e ∈ ds.map (·.1), e.data.length ≤ 70000)
    (hK : ∀ w', Hs V (outL oa oc ds) w' → K2 (.slice sa sn sc) (.pointer p1) (.pointer p2) (.int .i64 put) (.int .i64 free) (.int .i64 jv) (.int .i64 (kept (ds.map (·.1)) : Int)) w') :
    ∀ (r j : Nat) (w : World) (k : Nat), j + r = ds.length → Hs V (outL oa oc ds) w → r < k →
      F5_1 K2 k (.slice sa sn sc) (.pointer p1) (.pointer p2) (.int .i64 put) (.int .i64 free) (.int .i64 jv) (.int .i64 (kept ((ds.map (·.1)).take j) : Int)) (.slice oa ds.length oc) (.int .i64 (j : Int)) w := by
  intro r
  induction r with
  | zero =>
    intro j w k hj h hk
    obtain ⟨k, rfl⟩ : ∃ j, k = j + 1 := ⟨k - 1, by omega⟩
    show F5_1B _ _ _ _ _ _ _ _ _ _ _ _
    unfold F5_1B
    simp only [rdI_mk, rdC_mk, rdP_mk]
    rw [br_dec]
    refine ⟨fun h1 => by exfalso; omega, fun _ => ?_⟩
    rw [List.take_of_length_le (by simp; omega)]
    exact hK w h
  | succ r ih =>
    intro j w k hj h hk
    obtain ⟨k, rfl⟩ : ∃ j, k = j + 1 := ⟨k - 1, by omega⟩
    show F5_1B _ _ _ _ _ _ _ _ _ _ _ _
    unfold F5_1B
    simp only [rdI_mk, rdC_mk, rdP_mk]
    rw [br_dec]
    refine ⟨fun _ => ?_, fun h1 => by exfalso; omega⟩
    obtain ⟨d, hdj⟩ : ∃ d, ds[j]? = some d := ⟨ds[j]'(by omega), by simp⟩
    have hr := h.rd 0 rfl
    obtain ⟨ad, rfl⟩ := hr.some (by rw [flat_length (m := 14) recV_length]; omega)
    refine ixS_to (p := j) rfl (by omega) ?_
    simp only [add_add]
    have e1 : IntKind.wrap .i64 ((j : Int) + 1) = ((j + 1 : Nat) : Int) := by rw [wrap_i64 (by omega) (by omega)]; omega
    have hj1 : (ds.map (·.1))[j]? = some d.1 := by simp [hdj]
    have hks := kept_take hj1
    have hb := kept_take_le hd (by simpa using hm) j
    have hdl := hd d.1 (List.mem_of_getElem? hj1)
    rw [e1]
    have go := ih (j + 1) w k (by omega) h (by omega)
    rw [hks] at go
    refine ldI_c (hr.at (u := .int .i64 d.1.st) (flat_at (m := 14) recV_length hdj rfl)) ?_
    rw [br_iff]
    refine ⟨fun hp => ?_, fun hp => ?_⟩
    · have hp : d.1.st ≠ 4 := by simpa using hp
      refine ixS_to (p := j) rfl (by omega) ?_
      simp only [add_add]
      refine ldC_c (hr.at (u := .slice d.2.1 d.1.data.length d.2.2) (flat_at (m := 14) recV_length hdj rfl)) ?_
      have : keptE d.1 = d.1.data.length := by unfold keptE; rw [if_neg hp]
      rw [this] at go
      have e2 : IntKind.wrap .i64 ((kept ((ds.map (·.1)).take j) : Int) + (d.1.data.length : Int)) = ((kept ((ds.map (·.1)).take j) + d.1.data.length : Nat) : Int) := by rw [wrap_i64 (by omega) (by omega)]; omega
      rw [e2]
      exact go
    · have hp : d.1.st = 4 := by simpa using hp
      have : keptE d.1 = 0 := by unfold keptE; rw [if_pos hp]
      rw [this] at go
      exact go
theorem BY.same' {P : List HP} {w' : World} (h : BY W P L bb rb N x w) (s : Same w w') : BY W P L bb rb N x w' := by
  obtain ⟨a, c, es, a', c', ds, h1, h2, h3⟩ := h
  exact ⟨a, c, es, a', c', ds, h1, h2, h3.same s⟩
theorem c5_3 {Kn : Value → Value → Value → Value → Value → Value → World → Prop} {Kr : Value → World → Prop} (hN8 : 0 < N ∧ N ≤ 8) (ho : OkB N y.1 y.2) (h : BY W [pt b19 (.cells s.c 48 (0, 0))] L bb rb N y w)
    (hput : 0 ≤ put ∧ put ≤ 10000000) (hf : 0 ≤ free) (hs : 0 ≤ s.f1) (he : put = free + s.f1 + kept y.2)
    (hK : ∀ w', BY W [] L bb rb N y w' → Kn (.slice sa sn sc) (.pointer (some ⟨bb, 0, none⟩)) (.pointer (some ⟨rb, 0, none⟩)) (.int .i64 put) (.int .i64 (free + s.f1)) (.int .i64 jv) w') :
    F5_3 Kn Kr (.slice sa sn sc) (.pointer (some ⟨bb, 0, none⟩)) (.pointer (some ⟨rb, 0, none⟩)) (.int .i64 put) (.int .i64 free) (.int .i64 jv) (.pointer (some ⟨b19, 0, none⟩)) w := by
  unfold F5_3
  simp only [rdI_mk, rdC_mk, rdP_mk, rdA_mk, add_mk]
  have h' := h
  obtain ⟨a, c, es, a', c', ds, h1, h2, h3⟩ := h
  refine h3.ldI 0 rfl rfl ?_
  have hd1 : ∀ e ∈ dats es, e.data.length ≤ 70000 := by rw [h1]; exact ho.size
  have hes : es.length = y.2.length := by rw [← h1]; simp [dats]
  have hl := ho.len
  refine cl (c15 (box_rbX (X := [_]) h3) (by omega) (by omega) hd1) ?_
  rintro _ w1 ⟨oa, oc, ds, rfl, hds, ho1⟩
  refine ⟨_, _, _, rfl, ?_⟩
  have hlen : (dats es).length = ds.length := by rw [← hds, List.length_map]
  have hdl : ds.length = y.2.length := by rw [← hlen, h1]
  rw [hlen, wrap_i64 (by omega) (by omega)]
  refine ⟨ds.length + 1, c5_1 (by omega) (by rw [hds]; exact hd1) (fun w2 h4 => ?_) ds.length 0 w1 _ (Nat.zero_add _) ho1 (by omega)⟩
  intro _g
  simp only [rdI_mk, rdC_mk, rdP_mk]
  rw [hds, h1]
  have hk := kept_take_le ho.size hl y.2.length
  rw [List.take_of_length_le (Nat.le_refl _)] at hk
  have e2 : (put != IntKind.wrap .i64 (free + s.f1 + (kept y.2 : Int))) = false := by
    rw [wrap_i64 (by omega) (by omega), he]; simp
  rw [e2, br_false]
  have s4 : Same w w2 := h4.old
  have h5 : BY W [pt b19 (.cells s.c 48 (0, 0))] L bb rb N y w2 := h'.same' s4
  have h6 : BY W [] L bb rb N y w2 := h5.dropP
  exact hK w2 h6
theorem c5_2 {P : List HP} {Kn : Value → Value → Value → Value → Value → Value → Value → World → Prop} {Kr : Value → World → Prop} {B : Bool} {n7 : Nat} (hr : Rd W sa (os.flatMap opV)) (hN8 : 0 < N ∧ N ≤ 8) (ho : OkB N y.1 y.2) (hj : os[j]? = some o) (h : BY W P L bb rb N y w)
    (hput : 0 ≤ put ∧ put ≤ 10000000) (hB : B = true → y.2.length = n7 + 1 ∧ o.e.data.length ≤ 65536)
    (hK : ∀ w', BY W P L bb rb N y w' → Kn (.slice sa os.length sc) (.pointer (some ⟨bb, 0, none⟩)) (.pointer (some ⟨rb, 0, none⟩)) (.int .i64 (put + if B = true then (o.e.data.length : Int) else 0)) (.int .i64 free) (.int .i64 (j : Int)) (.pointer (some ⟨b19, 0, none⟩)) w') :
    F5_2 Kn Kr (.slice sa os.length sc) (.pointer (some ⟨bb, 0, none⟩)) (.pointer (some ⟨rb, 0, none⟩)) (.int .i64 put) (.int .i64 free) (.int .i64 (j : Int)) (.int .i64 (n7 : Int)) (.pointer (some ⟨b19, 0, none⟩)) (.bool B) w := by
  unfold F5_2
  simp only [rdI_mk, rdC_mk, rdP_mk, rdA_mk, rdB_mk]
  cases B with
  | false =>
    rw [br_false]
    have := hK w h
    rw [if_neg (by decide), Int.add_zero] at this
    exact this
  | true =>
    rw [br_true]
    obtain ⟨hB1, hB2⟩ := hB rfl
    have hlt := (List.getElem?_eq_some_iff.1 hj).1
    have h' := h
    obtain ⟨a, c, es, a', c', ds, h1, h2, h3⟩ := h
    have m1 : Rd w sa (os.flatMap opV) := h3.rd_old hr
    have hes : es.length = y.2.length := by rw [← h1]; simp [dats]
    obtain ⟨ad, had⟩ := m1.some (by rw [flat_length (m := 26) opV_len]; omega)
    have hK' := hK
    rw [had] at m1 ⊢
    refine ixS_to (p := j) rfl hlt ?_
    have m2 := m1.atI opV_len hj
    obtain ⟨ax, hax⟩ : ∃ ax, ax = ad.add (j * 26) := ⟨_, rfl⟩
    rw [← hax] at m2 ⊢
    refine ldC_c (m2 7 (.slice o.da o.e.data.length o.dc) rfl) ?_
    refine clr (c18 (box_rbX h3) (by omega)) ⟨_, rfl, ?_⟩
    have hl := ho.len
    have e1 : ((es.length : Int) != IntKind.wrap .i64 ((n7 : Int) + 1)) = false := by
      rw [wrap_i64 (by omega) (by omega), hes, hB1]; simp
    rw [e1, br_false, wrap_i64 (by omega) (by omega), ← had]
    exact hK w h'
theorem c5_4 {Kn : Value → Value → Value → Value → Value → Value → World → Prop} {Kr : Value → World → Prop} (hr : Rd W sa (os.flatMap opV)) (hok : ∀ o ∈ os, OpxOk W o) (hN8 : 0 < N ∧ N ≤ 8) (ho : OkB N x.1 x.2) (hj : os[j]? = some o) (hj1 : j < 120) (h : BY W [] L bb rb N x w)
    (hput : 0 ≤ put ∧ put ≤ (j : Int) * 65536) (hf : 0 ≤ free) (he : put = free + kept x.2)
    (hK : ∀ w' put' free', BY W [] L bb rb N (actX N o x).1 w' → 0 ≤ put' ∧ put' ≤ ((j + 1 : Nat) : Int) * 65536 → 0 ≤ free' → put' = free' + kept (actX N o x).1.2 → Kn (.slice sa os.length sc) (.pointer (some ⟨bb, 0, none⟩)) (.pointer (some ⟨rb, 0, none⟩)) (.int .i64 put') (.int .i64 free') (.int .i64 ((j + 1 : Nat) : Int)) w') :
    F5_4 Kn Kr (.slice sa os.length sc) (.pointer (some ⟨bb, 0, none⟩)) (.pointer (some ⟨rb, 0, none⟩)) (.int .i64 put) (.int .i64 free) (.int .i64 (j : Int)) w := by
  unfold F5_4
  simp only [rdI_mk, rdC_mk, rdP_mk]
  have h' := h
  obtain ⟨a, c, es, a', c', ds, h1, h2, h3⟩ := h
  have hes : es.length = x.2.length := by rw [← h1]; simp [dats]
  refine clr (c18 (box_rbX (X := []) h3) (by omega)) ⟨_, rfl, ?_⟩
  refine cl (c19 (box_rbX (X := []) h3) (by omega)) ?_
  rintro _ w2 ⟨rfl, s2⟩
  refine ⟨_, rfl, ?_⟩
  have h4 := h'.same' s2
  clear h3 h'
  refine step_act hr hok hN8 ho hj h4 fun s w3 hs h5 => ?_
  obtain ⟨q1, q2, q3, q4⟩ := once_step (N := N) ho (hok o (List.mem_of_getElem? hj))
  have ho2 : OkB N (actX N o x).1.1 (actX N o x).1.2 := act_ok ho (hok o (List.mem_of_getElem? hj))
  obtain ⟨y, hy⟩ : ∃ y, y = (actX N o x).1 := ⟨_, rfl⟩
  obtain ⟨fr, hfr⟩ : ∃ fr, fr = (actX N o x).2 := ⟨_, rfl⟩
  rw [← hy] at h5 q1 q3 q4 ho2 hK
  rw [← hfr] at hs q1 q2
  obtain ⟨a, c, es3, a', c', ds3, r1, r2, h6⟩ := h5
  refine h6.alc fun b19 w4 h7 => h7.stcL 0 rfl rfl fun w5 h8 => ?_
  have h9 : BY W [pt b19 (.cells s.c 48 (0, 0))] L bb rb N y w5 := ⟨a, c, es3, a', c', ds3, r1, r2, h8⟩
  have hes3 : es3.length = y.2.length := by rw [← r1]; simp [dats]
  rw [Bool.not_true, br_false]
  have hlt := (List.getElem?_eq_some_iff.1 hj).1
  have m1 : Rd w5 sa (os.flatMap opV) := h8.rd_old hr
  obtain ⟨ad, had⟩ := m1.some (by rw [flat_length (m := 26) opV_len]; omega)
  have m2 := m1
  rw [had] at m2 ⊢
  refine ixS_to (p := j) rfl hlt ?_
  have m3 := m2.atI opV_len hj
  obtain ⟨ax, hax⟩ : ∃ ax, ax = ad.add (j * 26) := ⟨_, rfl⟩
  rw [← hax] at m3 ⊢
  refine ldI_c (m3 0 (.int .i64 o.kind) rfl) ?_
  rw [← had, hes]
  have e1 : IntKind.wrap .i64 ((j : Int) + 1) = ((j + 1 : Nat) : Int) := by rw [wrap_i64 (by omega) (by omega)]; omega
  have hls := ho2.size
  rw [br_iff]
  refine ⟨fun hk => ?_, fun hk => ?_⟩
  · have hk : o.kind = 1 := by simpa using hk
    refine cl (c19 (box_rbX (X := [_]) h8) (by omega)) ?_
    rintro _ w6 ⟨rfl, s6⟩
    refine ⟨_, rfl, ?_⟩
    have hB : (nxt y.1 es3.length != nxt x.1 x.2.length) = putX N o x := by
      rw [hes3]
      cases hp : putX N o x with
      | true =>
        obtain ⟨p1, p2, _⟩ := q3 hp
        have := ho.len
        rw [p1, p2]
        have : nxt x.1 (x.2.length + 1) ≠ nxt x.1 x.2.length := by unfold nxt; omega
        simpa using this
      | false => rw [q4 hk hp]; simp
    rw [hB]
    refine c5_2 hr hN8 ho2 hj (h9.same' s6) (by omega) (fun hp => ⟨(q3 hp).1, (q3 hp).2.2⟩) fun w7 h10 => ?_
    intro _g
    simp only [rdI_mk, rdC_mk, rdP_mk, rdA_mk]
    have hb : 0 ≤ (if putX N o x = true then (o.e.data.length : Int) else 0) ∧ (if putX N o x = true then (o.e.data.length : Int) else 0) ≤ 65536 := by
      split
      · rename_i hp
        have := (q3 hp).2.2
        omega
      · omega
    refine c5_3 hN8 ho2 h10 (by omega) hf (by omega) (by omega) fun w8 h11 => ?_
    intro _g
    simp only [rdI_mk, rdC_mk, rdP_mk, e1]
    exact hK w8 _ _ h11 (by omega) (by omega) (by omega)
  · have hk : o.kind ≠ 1 := by simpa using hk
    have hp : putX N o x = false := by unfold putX; simp [hk]
    rw [hp, if_neg (by decide)] at q1
    refine c5_2 (B := false) hr hN8 ho2 hj h9 (by omega) (fun hp => by cases hp) fun w7 h10 => ?_
    intro _g
    simp only [rdI_mk, rdC_mk, rdP_mk, rdA_mk]
    rw [if_neg (by decide), Int.add_zero]
    refine c5_3 hN8 ho2 h10 (by omega) hf (by omega) (by omega) fun w8 h11 => ?_
    intro _g
    simp only [rdI_mk, rdC_mk, rdP_mk, e1]
    exact hK w8 _ _ h11 (by omega) (by omega) (by omega)
theorem c5_5 {K0 : World → Prop} {Kr : Value → World → Prop} (hr : Rd W sa (os.flatMap opV)) (hok : ∀ o ∈ os, OpxOk W o) (hN8 : 0 < N ∧ N ≤ 8)
    (hK : ∀ w', Same W w' → K0 w') :
    ∀ (i j : Nat) (w : World) (k : Nat) (x : St) (put free : Int), j + i = 120 → OkB N x.1 x.2 → BY W [] L bb rb N x w → 0 ≤ put ∧ put ≤ (j : Int) * 65536 → 0 ≤ free → put = free + kept x.2 → i < k →
      F5_5 K0 Kr k (.slice sa os.length sc) (.pointer (some ⟨bb, 0, none⟩)) (.pointer (some ⟨rb, 0, none⟩)) (.int .i64 put) (.int .i64 free) (.int .i64 (j : Int)) w := by
  intro i
  induction i with
  | zero =>
    intro j w k x put free hj ho h hp hf he hk
    obtain ⟨k, rfl⟩ : ∃ j, k = j + 1 := ⟨k - 1, by omega⟩
    show F5_5B _ _ _ _ _ _ _ _ _ _
    unfold F5_5B
    simp only [rdP_mk, rdI_mk, rdC_mk, br_dec]
    exact ⟨fun _ => ⟨fun h => by exfalso; omega, fun _ => hK w h.old⟩, fun _ => hK w h.old⟩
  | succ i ih =>
    intro j w k x put free hj ho h hp hf he hk
    obtain ⟨k, rfl⟩ : ∃ j, k = j + 1 := ⟨k - 1, by omega⟩
    show F5_5B _ _ _ _ _ _ _ _ _ _
    unfold F5_5B
    simp only [rdP_mk, rdI_mk, rdC_mk, br_dec]
    refine ⟨fun hl => ⟨fun _ => ?_, fun _ => hK w h.old⟩, fun _ => hK w h.old⟩
    obtain ⟨o, hjo⟩ : ∃ o, os[j]? = some o := ⟨os[j]'(by omega), by simp⟩
    refine c5_4 hr hok hN8 ho hjo (by omega) h hp hf he fun w' put' free' h1 h2 h3 h4 => ?_
    intro _g
    simp only [rdP_mk, rdI_mk, rdC_mk]
    exact ih (j + 1) w' k _ put' free' (by omega) (act_ok ho (hok o (List.mem_of_getElem? hjo))) h1 h2 h3 h4 (by omega)
theorem c5 (hr : Rd W sa (os.flatMap opV)) (hok : ∀ o ∈ os, OpxOk W o) (first paths : Int) :
    Calls Try.prog 5 #[.int .u32 first, .int .i64 paths, .slice sa os.length sc] W (rt fun v w' => v = .bool true ∧ Same W w') := by
  refine F5_ok ?_
  unfold F5
  simp only [rdI_mk, rdC_mk]
  refine cl (c9 (Hs.start W) first paths) ?_
  rintro _ w1 (⟨hn, rfl, rfl⟩ | ⟨hn, bb, rfl, h1⟩)
  · refine ⟨_, _, rfl, cl (c17 (Hs.start w1) first paths) ?_⟩
    rintro _ w2 (⟨_, rfl, rfl⟩ | ⟨hn', _⟩)
    · refine ⟨_, _, rfl, ?_⟩
      rw [show ((1 : Int) != 0) = true from rfl, br_true, beq_self_eq_true, br_true]
      refine cl (c14 w2) ?_
      rintro _ w3 ⟨rfl, s3⟩
      exact ⟨_, rfl, rfl, s3⟩
    · exact absurd hn' hn
  · refine ⟨_, _, rfl, cl (c17 h1 first paths) ?_⟩
    rintro _ w2 (⟨hn', _⟩ | ⟨_, rb, rfl, h2⟩)
    · exact absurd hn hn'
    · refine ⟨_, _, rfl, ?_⟩
      rw [show ((0 : Int) != 0) = false from rfl, br_false, br_false]
      simp only [Option.isNone_some]
      rw [br_false]
      unfold F5_6
      simp only [rdP_mk, rdC_mk]
      obtain ⟨N, hN⟩ : ∃ N : Nat, paths = (N : Int) := ⟨paths.toNat, by omega⟩
      subst hN
      have hN8 : 0 < N ∧ N ≤ 8 := by omega
      have hc : 0 ≤ newC first ∧ newC first < 4294967296 := by unfold newC; omega
      have h3 : BY W [] [] bb rb N (newC first, []) w2 := ⟨none, 0, [], none, 0, [], rfl, rfl, (show Hs W (boxL bb N (newC first) none 0 [] ++ (refL rb N (newC first) none 0 [] ++ [])) w2 from Hs.flip.1 h2)⟩
      have ho : OkB N (newC first) [] := OkB.new N hc
      refine ⟨121, c5_5 hr hok hN8 (fun w3 s3 => ?_) 120 0 w2 _ (newC first, []) 0 0 rfl ho h3 ⟨Int.le_refl _, Int.le_refl _⟩ (Int.le_refl _) rfl (by omega)⟩
      intro _g
      refine cl (c14 w3) ?_
      rintro _ w4 ⟨rfl, s4⟩
      refine ⟨_, rfl, ?_⟩
      simp only [rdB_mk]
      exact fun _ => ⟨trivial, s3.trans s4 fun _ _ x => x⟩
end
end Go.Proofs.Ytmliokbonkndaaa
