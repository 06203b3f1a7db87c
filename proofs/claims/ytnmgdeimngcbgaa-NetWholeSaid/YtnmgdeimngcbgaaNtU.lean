/- Own text: part of the shallow reading of the code and of the contracts that are proved over it. -/
import Derived.Test.YtnmgdeimngcbgaaNtS
namespace Go.Proofs.Ytnmgdeimngcbgaa
open Go Go.Sh
/-! Twice and Spoil; Deliver, with the bytes handed out -/
def NT.dup (n : NT) (e p i : Int) : NT :=
  { n.upd (idx e p) (fun l => match l.ps[i.toNat]? with | some q => { l with sent := inc l.sent, ps := l.ps ++ [{ q with id := n.next }] } | none => l) with next := inc n.next }
def NT.twiceCode (n : NT) (e p i : Int) : Int := if n.atCode e p i = 0 then (if n.many e p ≥ 4096 then 3 else 0) else n.atCode e p i
section
variable {W w : World} {n : Nt} {d : La} {L : List HP} {bf bi i : Nat} {q : Pk}
theorem set_self {α : Type} {l : List α} {k : Nat} {d : α} (h : l[k]? = some d) : l.set k d = l := by
  rw [set_split h]; exact (split_at h).symm
theorem c40 (h : Hs W (ntN n :: pt bf (.cells #[.bool false] 4 (0, 0)) :: pt bi (.cells #[.int .i64 0] 3 (0, 0)) :: L) w) {e p : Int} (hk : n.lanes[idx e p]? = some d) {i : Nat} (hi : i < d.ps.length) :
    Calls Try.prog 40 #[.pointer (some ⟨n.b, 0, none⟩), .pointer (some ⟨d.b, 0, none⟩), .int .i64 (i : Int), .pointer (some ⟨bf, 0, none⟩), .pointer (some ⟨bi, 0, none⟩)] w
    (rt fun v w' => v = .tuple #[] ∧ ∃ n', n'.b = n.b ∧ n'.abs = (if d.ps.length ≥ 4096 then n.abs else n.abs.dup e p i) ∧ Hs W (ntN n' :: pt bf (.cells #[.bool (decide (d.ps.length ≥ 4096))] 4 (0, 0)) :: pt bi (.cells #[.int .i64 (if d.ps.length ≥ 4096 then 0 else n.next)] 3 (0, 0)) :: L) w') := by
  obtain ⟨pk, hp⟩ : ∃ x, d.ps[i]? = some x := ⟨d.ps[i]'hi, by simp⟩
  have hpm := List.mem_of_getElem? hp
  obtain ⟨g1, g2, g3, g4, g5⟩ := pksV_at hp
  obtain ⟨X, h1, back⟩ := net_focus h hk
  obtain ⟨hok, h2⟩ := lane_open.1 h1
  refine F40_ok ?_
  unfold F40
  simp only [rdP_mk, rdA_mk, rdI_mk, nn_some, add_mk]
  refine h2.ldC 0 rfl rfl (h2.stc 3 rfl (by simp) fun w8 h3 => ?_)
  refine h3.ldB 3 rfl rfl ?_
  by_cases hm : d.ps.length ≥ 4096
  · have hm' : (decide ((d.ps.length : Int) ≥ 4096)) = true := decide_eq_true (by omega)
    rw [hm', br_true, if_pos hm, decide_eq_true hm, if_pos hm]
    refine ⟨trivial, n, rfl, rfl, ?_⟩
    rw [hm'] at h3
    have := back d n.next (pt bf (.cells #[.bool true] 4 (0, 0)) :: pt bi (.cells #[.int .i64 0] 3 (0, 0)) :: L) w8 rfl (lane_open.2 ⟨hok, h3⟩)
    rw [set_self hk] at this
    exact this
  · have hm' : (decide ((d.ps.length : Int) ≥ 4096)) = false := decide_eq_false (by omega)
    rw [hm', br_false, if_neg hm, decide_eq_false hm, if_neg hm]
    rw [hm'] at h3
    have hr := h3.rd 1 rfl
    obtain ⟨ad, ha⟩ := hr.some (by rw [pksV_length]; omega)
    rw [ha] at hr
    refine h3.ldC 0 rfl rfl ?_
    rw [ha]
    refine ixS_of (by omega) (by omega) ?_
    simp only [Int.toNat_natCast, add_add]
    refine ldI_c (hr.at g1) (ldI_c (hr.at g2) (ldI_c (hr.at g3) (ldB_c (hr.at g4) (ldC_c (hr.at g5) ?_))))
    refine h3.alc fun b w19 h4 => ?_
    refine h4.stc 0 rfl (by simp) fun w20 h5 => h5.stc 0 rfl (by simp) fun w21 h6 => h6.stc 0 rfl (by simp) fun w22 h7 => h7.stc 0 rfl (by simp) fun w23 h8 => h8.stc 0 rfl (by simp) fun w24 h9 => ?_
    replace h9 : Hs W (pt b (.cells #[.int .i64 pk.id, .int .i64 pk.now, .int .i64 pk.bytes.length, .bool pk.forged, .slice pk.a pk.bytes.length pk.c] 83 (0, 0)) :: lcell d :: lrow d :: ncell n :: pt bf (.cells #[.bool false] 4 (0, 0)) :: pt bi (.cells #[.int .i64 0] 3 (0, 0)) :: ((L ++ X) ++ d.ps.map pkN)) w24 := h9
    clear h8 h7 h6 h5 h4 h3 h2
    refine h9.ldC 0 rfl rfl ?_
    have hpr : Rd w24 pk.a (byV pk.bytes) := h9.rdm (e := 5) (s := 1) (l := pk.bytes.length) (c := pk.c) (by
      repeat (first | exact List.mem_append_right _ (List.mem_map.2 ⟨pk, hpm, rfl⟩) | refine List.mem_cons_of_mem _ ?_))
    refine cl (c41 hpr (hok.1 pk hpm)) ?_
    rintro _ w27 ⟨a', c', rfl, o', s'⟩
    refine ⟨_, _, _, rfl, ?_⟩
    have h10 := h9.own_new s' o'
    refine h10.stc 1 rfl (by simp) fun w29 h11 => ?_
    unfold drw
    have h12 : Hs W (slP 5 1 a' pk.bytes.length c' (byV pk.bytes) :: pt b (.cells #[.int .i64 pk.id, .int .i64 pk.now, .int .i64 pk.bytes.length, .bool pk.forged, .slice a' pk.bytes.length c'] 83 (0, 0)) :: lcell d :: lrow d :: ncell n :: pt bf (.cells #[.bool false] 4 (0, 0)) :: pt bi (.cells #[.int .i64 0] 3 (0, 0)) :: ((L ++ X) ++ d.ps.map pkN)) w29.drew := h11.drew
    clear h11 h10 h9
    have hne : n.b ≠ bi := h12.ne 4 6 rfl rfl
    have hbi := h12.at 6 rfl
    refine ⟨sb w29.drew bi (.cells #[] 3), Pres.empt hbi rfl fun _ _ => rfl, ?_⟩
    refine h12.ldI 4 rfl rfl (ldI_at (by rw [sb_other hne]; exact h12.at 4 rfl) rfl ?_)
    refine stc_at hbi (by simp) ⟨Pres.empt hbi (by simp) fun k hk => sb_other hk, ?_⟩
    have h13 := h12.sb 6 rfl (.cells (#[Value.int .i64 0].setIfInBounds 0 (.int .i64 n.next)) 3 (0, 0))
    generalize sb w29.drew bi _ = w36 at h13 ⊢
    refine h13.stc 1 rfl (by simp) fun w37 h14 => h14.ldI 4 rfl rfl (h14.stc 4 rfl (by simp) fun w41 h15 => h15.ldI 2 rfl rfl (h15.stc 2 rfl (by simp) fun w45 h16 => ?_))
    have h17 : Hs W (slP 5 1 a' pk.bytes.length c' (byV pk.bytes) :: pt b (.cells #[.int .i64 n.next, .int .i64 pk.now, .int .i64 pk.bytes.length, .bool pk.forged, .slice a' pk.bytes.length c'] 83 (0, 0)) :: pt d.b (.cells #[.int .i64 (inc d.sent), .int .i64 d.del, .int .i64 d.lost, .int .i64 d.forged, .slice d.a d.ps.length d.c] 69 (0, 0)) :: slP 83 5 d.a d.ps.length d.c (pksV d.ps) :: ncell { n with next := inc n.next } :: pt bf (.cells #[.bool false] 4 (0, 0)) :: pt bi (.cells #[.int .i64 n.next] 3 (0, 0)) :: ((L ++ X) ++ d.ps.map pkN)) w45.drew := h16.drew
    clear h16 h15 h14 h13 h12
    generalize w45.drew = w46 at h17 ⊢
    refine h17.ldC 2 rfl rfl (h17.ldI 1 rfl rfl (h17.ldI 1 rfl rfl (h17.ldI 1 rfl rfl (h17.ldB 1 rfl rfl (h17.ldC 1 rfl rfl ?_)))))
    unfold alc
    refine ⟨Pres.alloc _ _, ?_⟩
    refine h17.push E67 3 rfl (news := #[_, _, _, _, _]) rfl (by simp [Value.oneCell']) (by omega) (by omega) ?_
    intro a2 c2 w57 h18
    refine h18.stc 2 rfl (by simp) fun w59 h19 => ?_
    refine ⟨trivial, ?_⟩
    have h20 := (h19.erase 1)
    have hb := back { d with sent := inc d.sent, a := a2, c := c2, ps := d.ps ++ [{ pk with id := n.next, a := a', c := c' }] } (inc n.next) (pt bf (.cells #[.bool false] 4 (0, 0)) :: pt bi (.cells #[.int .i64 n.next] 3 (0, 0)) :: L) w59 rfl (lane_open.2 ⟨⟨fun q hq => ?_, by simp; omega⟩, ?_⟩)
    · refine ⟨{ n with lanes := n.lanes.set (idx e p) { d with sent := inc d.sent, a := a2, c := c2, ps := d.ps ++ [{ pk with id := n.next, a := a', c := c' }] }, next := inc n.next }, rfl, ?_, hb⟩
      unfold NT.dup NT.upd
      rw [abs_lane hk]
      simp [Nt.abs, List.map_set, La.abs, hp, Pk.abs]
    · rcases List.mem_append.1 hq with hq | hq
      · exact hok.1 q hq
      · simp at hq; subst hq; exact hok.1 pk hpm
    · have : (d.ps ++ [{ pk with id := n.next, a := a', c := c' }]).map pkN = d.ps.map pkN ++ [slP 5 1 a' pk.bytes.length c' (byV pk.bytes)] := by simp [pkN]
      rw [this]
      have h21 : Hs W (slP 5 1 a' pk.bytes.length c' (byV pk.bytes) :: pt d.b (.cells #[.int .i64 (inc d.sent), .int .i64 d.del, .int .i64 d.lost, .int .i64 d.forged, .slice a2 (d.ps.length + 1) c2] 69 (0, 0)) :: slP 83 5 a2 (d.ps.length + 1) c2 (pksV d.ps ++ pkV { pk with id := n.next, a := a', c := c' }) :: ncell { n with next := inc n.next } :: (pt bf (.cells #[.bool false] 4 (0, 0)) :: pt bi (.cells #[.int .i64 n.next] 3 (0, 0)) :: (L ++ X) ++ d.ps.map pkN)) w59 := h20
      refine h21.of_eq ?_
      have e1 : lcell { d with sent := inc d.sent, a := a2, c := c2, ps := d.ps ++ [{ pk with id := n.next, a := a', c := c' }] } = pt d.b (.cells #[.int .i64 (inc d.sent), .int .i64 d.del, .int .i64 d.lost, .int .i64 d.forged, .slice a2 (d.ps.length + 1) c2] 69 (0, 0)) := by simp [lcell]
      have e2 : lrow { d with sent := inc d.sent, a := a2, c := c2, ps := d.ps ++ [{ pk with id := n.next, a := a', c := c' }] } = slP 83 5 a2 (d.ps.length + 1) c2 (pksV d.ps ++ pkV { pk with id := n.next, a := a', c := c' }) := by simp [lrow, pksV]
      rw [e1, e2]
      refine bigS_perm ((List.perm_append_comm (l₁ := [slP 5 1 a' pk.bytes.length c' (byV pk.bytes)])).trans (List.Perm.of_eq ?_))
      simp
theorem perm_erase {α : Type} {l : List α} {i : Nat} {x : α} (h : l[i]? = some x) : l.Perm (x :: l.eraseIdx i) := by
  have e := split_at h
  rw [List.eraseIdx_eq_take_drop_succ]
  exact (List.Perm.of_eq e).trans List.perm_middle
theorem s36 (hm : d.ps.length ≤ 4096) (h : Hs W (lcell d :: lrow d :: L) w) {i : Nat} (hi : i < d.ps.length) (v0 : Value) : Calls Try.prog 36 #[v0, .pointer (some ⟨d.b, 0, none⟩), .int .i64 (i : Int)] w
    (rt fun v w' => v = .tuple #[] ∧ Hs W (lcell { d with ps := d.ps.eraseIdx i } :: lrow { d with ps := d.ps.eraseIdx i } :: L) w') := by
  refine F36_ok ?_
  unfold F36
  simp only [rdP_mk, rdI_mk, nn_some, add_mk]
  refine h.ldC 0 rfl rfl ?_
  have e1 : IntKind.wrap .i64 ((i : Int) + 1) = ((i + 1 : Nat) : Int) := by rw [wrap_i64 (by omega) (by omega)]; omega
  rw [e1]
  refine cl (c50 (h.own 1 rfl) hi hm) ?_
  rintro _ w1 ⟨rfl, o1, f1⟩
  refine ⟨_, _, _, rfl, ?_⟩
  have h1 := h.slice 1 rfl o1 f1 fun _ hk => .inl hk
  have hel : (d.ps.eraseIdx i).length = d.ps.length - 1 := by rw [List.length_eraseIdx]; simp [hi]
  refine h1.stc 0 rfl (by simp) fun w2 h2 => ⟨trivial, ?_⟩
  have e2 : lcell { d with ps := d.ps.eraseIdx i } = pt d.b (.cells #[.int .i64 d.sent, .int .i64 d.del, .int .i64 d.lost, .int .i64 d.forged, .slice d.a (d.ps.length - 1) d.c] 69 (0, 0)) := by unfold lcell; simp only [hel]
  have e3 : lrow { d with ps := d.ps.eraseIdx i } = slP 83 5 d.a (d.ps.length - 1) d.c (pksV (d.ps.eraseIdx i)) := by unfold lrow; simp only [hel]
  rw [e2, e3]
  exact h2
theorem s35 {bo : Nat} (h : Hs W (ntN n :: pt bo (.cells #[.slice none 0 0] 23 (0, 0)) :: L) w) {e p : Int} (hk : n.lanes[idx e p]? = some d) {i : Nat} (hi : i < d.ps.length) {pk : Pk} (hp : d.ps[i]? = some pk) :
    Calls Try.prog 35 #[.pointer (some ⟨n.b, 0, none⟩), .pointer (some ⟨d.b, 0, none⟩), .int .i64 (i : Int), .pointer (some ⟨bo, 0, none⟩)] w
    (rt fun v w' => v = .tuple #[] ∧ ∃ n', n'.b = n.b ∧ n'.abs = n.abs.deliver e p i ∧ Hs W (pkN pk :: ntN n' :: pt bo (.cells #[.slice pk.a pk.bytes.length pk.c] 23 (0, 0)) :: L) w') := by
  obtain ⟨g1, g2, g3, g4, g5⟩ := pksV_at hp
  obtain ⟨X, h1, back⟩ := net_focus h hk
  obtain ⟨hok, h2⟩ := lane_open.1 h1
  refine F35_ok ?_
  unfold F35
  simp only [rdP_mk, rdA_mk, rdI_mk, nn_some, add_mk]
  refine h2.ldC 0 rfl rfl ?_
  have hr := h2.rd 1 rfl
  obtain ⟨ad, ha⟩ := hr.some (by rw [pksV_length]; omega)
  rw [ha] at hr ⊢
  refine ixS_of (by omega) (by omega) ?_
  simp only [Int.toNat_natCast, add_add]
  refine ldC_c (hr.at g5) (h2.stc 3 rfl (by simp) fun w3 h3 => h3.ldI 0 rfl rfl (h3.stc 0 rfl (by simp) fun w4 h4 => ?_))
  have h5 : Hs W (lcell { d with del := inc d.del } :: lrow { d with del := inc d.del } :: (ncell n :: pt bo (.cells #[.slice pk.a pk.bytes.length pk.c] 23 (0, 0)) :: (L ++ X) ++ d.ps.map pkN)) w4 := h4
  refine cl (s36 (d := { d with del := inc d.del }) hok.2 h5 hi _) ?_
  rintro _ w5 ⟨rfl, h6⟩
  refine ⟨rfl, trivial, { n with lanes := n.lanes.set (idx e p) { d with del := inc d.del, ps := d.ps.eraseIdx i } }, rfl, ?_, ?_⟩
  · unfold NT.deliver NT.upd
    rw [abs_lane hk]
    simp [Nt.abs, List.map_set, La.abs, map_erase]
  · refine Hs.focus (i := 1) (L := ntN _ :: pkN pk :: pt bo _ :: L) ?_ rfl
    refine back { d with del := inc d.del, ps := d.ps.eraseIdx i } n.next (pkN pk :: pt bo (.cells #[.slice pk.a pk.bytes.length pk.c] 23 (0, 0)) :: L) w5 rfl (lane_open.2 ⟨⟨fun q hq => hok.1 q ((List.eraseIdx_sublist _ _).subset hq), Nat.le_trans (List.length_eraseIdx_le _ _) hok.2⟩, h6.perm ?_⟩)
    refine List.Perm.cons _ (List.Perm.cons _ ?_)
    have hpm : (d.ps.map pkN).Perm (pkN pk :: (d.ps.eraseIdx i).map pkN) := by
      have := perm_erase (l := d.ps.map pkN) (i := i) (x := pkN pk) (by simp [hp])
      rwa [← map_erase] at this
    refine ((List.Perm.append_left _ hpm).trans List.perm_middle).trans ?_
    exact List.Perm.swap _ _ _
/-- a lane with one packet taken out, and laid back -/
theorem lane_take (hp : d.ps[i]? = some q) (h : Hs W (lcell d :: lrow d :: (L ++ d.ps.map pkN)) w) : Hs W (pkN q :: lcell d :: lrow d :: (L ++ (d.ps.map pkN).eraseIdx i)) w := by
  have hpm := perm_erase (l := d.ps.map pkN) (i := i) (x := pkN q) (by simp [hp])
  exact h.perm ((List.Perm.append_left (lcell d :: lrow d :: L) hpm).trans List.perm_middle)
theorem lane_swap {q' : Pk} (hp : d.ps[i]? = some q) (hV : pkV q' = pkV q) (hl : q'.bytes.length ≤ 65536) (hok : lok d) (h : Hs W (pkN q' :: lcell d :: lrow d :: (L ++ (d.ps.map pkN).eraseIdx i)) w) : Hs W (laN { d with ps := d.ps.set i q' } :: L) w := by
  have hi := (List.getElem?_eq_some_iff.1 hp).1
  have hpv : pksV (d.ps.set i q') = pksV d.ps := by
    rw [set_split hp]
    conv => rhs; rw [split_at hp]
    simp [pksV, hV]
  refine lane_open.2 ⟨⟨fun x hx => ?_, by simpa using hok.2⟩, ?_⟩
  · rcases List.mem_or_eq_of_mem_set hx with hx | rfl
    · exact hok.1 x hx
    · exact hl
  · have e6 : lcell { d with ps := d.ps.set i q' } = lcell d := by unfold lcell; simp
    have e7 : lrow { d with ps := d.ps.set i q' } = lrow d := by unfold lrow; simp only [List.length_set, hpv]
    rw [e6, e7]
    refine h.perm (List.Perm.symm ?_)
    have hq : (d.ps.set i q')[i]? = some q' := by simp [hi]
    have hpm := perm_erase (l := (d.ps.set i q').map pkN) (i := i) (x := pkN q') (by rw [List.getElem?_map, hq]; rfl)
    have e8 : ((d.ps.set i q').map pkN).eraseIdx i = (d.ps.map pkN).eraseIdx i := by rw [List.map_set, List.eraseIdx_set_eq]
    rw [e8] at hpm
    exact ((List.Perm.append_left (lcell d :: lrow d :: L) hpm).trans List.perm_middle)
/-- the byte is turned -/
def xorB (b x : Int) : Int := bitI .xor .u8 b x
theorem s43 {ba bt bb : Nat} {at' : Int} {bits : Int} (h : Hs W (ntN n :: pt ba (.cells #[.int .i64 at'] 3 (0, 0)) :: pt bt (.cells #[.bool true] 4 (0, 0)) :: pt bb (.cells #[.int .u8 bits] 5 (0, 0)) :: L) w) {e p : Int} (hk : n.lanes[idx e p]? = some d) {i : Nat} (hi : i < d.ps.length) {pk : Pk} (hp : d.ps[i]? = some pk) (v0 : Value) {K : Value → World → Prop}
    (hK : ∀ w' n', n'.b = n.b → n'.abs = (if 0 ≤ at' ∧ at' < (pk.bytes.length : Int) then n.abs.upd (idx e p) (fun l => { l with ps := l.ps.modify i fun q => { q with bytes := q.bytes.modify at'.toNat (xorB · bits) } }) else n.abs) → Hs W (ntN n' :: pt ba (.cells #[.int .i64 at'] 3 (0, 0)) :: pt bt (.cells #[.bool (decide (0 ≤ at' ∧ at' < (pk.bytes.length : Int)))] 4 (0, 0)) :: pt bb (.cells #[.int .u8 bits] 5 (0, 0)) :: L) w' → K (.tuple #[]) w') :
    Calls Try.prog 43 #[v0, .pointer (some ⟨d.b, 0, none⟩), .int .i64 (i : Int), .pointer (some ⟨ba, 0, none⟩), .pointer (some ⟨bt, 0, none⟩), .pointer (some ⟨bb, 0, none⟩)] w
      (rt K) := by
  obtain ⟨g1, g2, g3, g4, g5⟩ := pksV_at hp
  obtain ⟨X, h1, back⟩ := net_focus h hk
  obtain ⟨hok, h2⟩ := lane_open.1 h1
  refine F43_ok ?_
  unfold F43
  simp only [rdP_mk, rdA_mk, rdI_mk, nn_some, add_mk]
  unfold drw
  have h3 := h2.drew
  generalize w.drew = w1 at h3 ⊢
  refine h3.ldI 3 rfl rfl ?_
  have h2' : Hs W (lcell d :: lrow d :: ncell n :: pt ba (.cells #[.int .i64 at'] 3 (0, 0)) :: pt bt (.cells #[.bool true] 4 (0, 0)) :: pt bb (.cells #[.int .u8 bits] 5 (0, 0)) :: ((L ++ X) ++ d.ps.map pkN)) w1 := h3
  clear h3
  have hr := h2'.rd 1 rfl
  obtain ⟨ad, ha⟩ := hr.some (by rw [pksV_length]; omega)
  have stay : ∀ w', ¬ (0 ≤ at' ∧ at' < (pk.bytes.length : Int)) → Hs W (lcell d :: lrow d :: ncell n :: pt ba (.cells #[.int .i64 at'] 3 (0, 0)) :: pt bt (.cells #[.bool false] 4 (0, 0)) :: pt bb (.cells #[.int .u8 bits] 5 (0, 0)) :: ((L ++ X) ++ d.ps.map pkN)) w' →
      F43_1 (fun w15 => ∀ _g16 : Tm, K (.tuple #[]) w15) (.pointer (some ⟨d.b, 0, none⟩)) (.int .i64 (i : Int)) (.pointer (some ⟨ba, 0, none⟩)) (.pointer (some ⟨bt, 0, none⟩)) (.pointer (some ⟨bb, 0, none⟩)) w' := by
    intro w' hn h'
    unfold F43_1
    simp only [rdP_mk, rdA_mk, rdI_mk]
    refine h'.ldB 4 rfl rfl ?_
    simp only [br_false]
    intro _g
    have := back d n.next (pt ba (.cells #[.int .i64 at'] 3 (0, 0)) :: pt bt (.cells #[.bool false] 4 (0, 0)) :: pt bb (.cells #[.int .u8 bits] 5 (0, 0)) :: L) w' rfl (lane_open.2 ⟨hok, h'⟩)
    rw [set_self hk] at this
    exact hK w' n rfl (by rw [if_neg hn]) (by rw [decide_eq_false hn]; exact this)
  by_cases h0 : 0 ≤ at'
  · have e0 : decide (at' ≥ 0) = true := decide_eq_true h0
    rw [e0, br_true]
    refine h2'.ldI 3 rfl rfl (h2'.ldC 0 rfl rfl ?_)
    rw [ha] at hr ⊢
    refine ixS_of (by omega) (by omega) ?_
    simp only [Int.toNat_natCast, add_add]
    refine ldC_c (hr.at g5) (h2'.stc 4 rfl (by simp) fun w4 h4 => ?_)
    by_cases hlt : at' < (pk.bytes.length : Int)
    · have hin : 0 ≤ at' ∧ at' < (pk.bytes.length : Int) := ⟨h0, hlt⟩
      rw [decide_eq_true hlt] at h4
      rw [if_pos hin, decide_eq_true hin] at hK
      unfold F43_1
      simp only [rdP_mk, rdA_mk, rdI_mk, nn_some, add_mk]
      refine h4.ldB 4 rfl rfl ?_
      simp only [br_true]
      unfold drw
      have h5 : Hs W (lcell d :: lrow d :: ncell n :: pt ba (.cells #[.int .i64 at'] 3 (0, 0)) :: pt bt (.cells #[.bool true] 4 (0, 0)) :: pt bb (.cells #[.int .u8 bits] 5 (0, 0)) :: ((L ++ X) ++ d.ps.map pkN)) w4.drew := h4.drew
      generalize w4.drew = w5 at h5 ⊢
      clear h4 stay h2'
      refine h5.ldC 0 rfl rfl ?_
      have hr := h5.rd 1 rfl
      rw [ha] at hr ⊢
      refine ixS_of (by omega) (by omega) ?_
      simp only [Int.toNat_natCast, add_add]
      refine ldC_c (hr.at g5) (h5.ldI 3 rfl rfl ?_)
      have h6 : Hs W (pkN pk :: lcell d :: lrow d :: ((ncell n :: pt ba (.cells #[.int .i64 at'] 3 (0, 0)) :: pt bt (.cells #[.bool true] 4 (0, 0)) :: pt bb (.cells #[.int .u8 bits] 5 (0, 0)) :: (L ++ X)) ++ (d.ps.map pkN).eraseIdx i)) w5 := lane_take hp h5
      have hb := h6.rd 0 rfl
      obtain ⟨bd, hba⟩ := hb.some (by rw [byV_length]; omega)
      obtain ⟨x, hx⟩ : ∃ x, pk.bytes[at'.toNat]? = some x := ⟨pk.bytes[at'.toNat]'(by omega), by simp⟩
      have hlt' : at'.toNat < pk.bytes.length := by omega
      rw [hba] at hb ⊢
      refine ixS_of h0 hlt (ldI_c (n := x) ?_ (h5.ldI 5 rfl rfl (ixS_of h0 hlt ?_)))
      · rw [Nat.mul_one]; exact hb.at (by simp [byV, hx])
      rw [Nat.mul_one]
      have h7 : Hs W (slP 5 1 (some bd) pk.bytes.length pk.c (byV pk.bytes) :: lcell d :: lrow d :: ((ncell n :: pt ba (.cells #[.int .i64 at'] 3 (0, 0)) :: pt bt (.cells #[.bool true] 4 (0, 0)) :: pt bb (.cells #[.int .u8 bits] 5 (0, 0)) :: (L ++ X)) ++ (d.ps.map pkN).eraseIdx i)) w5 := by rw [← hba]; exact h6
      refine h7.put 0 rfl (by rw [byV_length]; omega) fun w6 h8 _g => ?_
      have hby : (byV pk.bytes).set at'.toNat (.int .u8 (bitI .xor .u8 x bits)) = byV (pk.bytes.modify at'.toNat (xorB · bits)) := by
        unfold byV
        apply List.ext_getElem?
        intro j
        by_cases hj : at'.toNat = j
        · subst hj; simp [hlt', (List.getElem?_eq_some_iff.1 hx).2, xorB]
        · simp [hj]
      have h9 : Hs W (pkN { pk with bytes := pk.bytes.modify at'.toNat (xorB · bits) } :: lcell d :: lrow d :: ((ncell n :: pt ba (.cells #[.int .i64 at'] 3 (0, 0)) :: pt bt (.cells #[.bool true] 4 (0, 0)) :: pt bb (.cells #[.int .u8 bits] 5 (0, 0)) :: (L ++ X)) ++ (d.ps.map pkN).eraseIdx i)) w6 := by
        have : pkN { pk with bytes := pk.bytes.modify at'.toNat (xorB · bits) } = slP 5 1 (some bd) pk.bytes.length pk.c ((byV pk.bytes).set at'.toNat (.int .u8 (bitI .xor .u8 x bits))) := by
          unfold pkN; simp only [List.length_modify, hby, hba]
        rw [this]; exact h8
      have h10 := lane_swap (q' := { pk with bytes := pk.bytes.modify at'.toNat (xorB · bits) }) hp (by simp [pkV]) (by simpa using hok.1 pk (List.mem_of_getElem? hp)) hok h9
      refine hK w6 { n with lanes := n.lanes.set (idx e p) { d with ps := d.ps.set i { pk with bytes := pk.bytes.modify at'.toNat (xorB · bits) } } } rfl ?_ ?_
      · unfold NT.upd
        rw [abs_lane hk]
        have e5 : (d.ps.set i { pk with bytes := pk.bytes.modify at'.toNat (xorB · bits) }).map Pk.abs = (d.ps.map Pk.abs).modify i fun q => { q with bytes := q.bytes.modify at'.toNat (xorB · bits) } := by
          apply List.ext_getElem?
          intro j
          by_cases hj : i = j
          · subst hj; simp [hi, (List.getElem?_eq_some_iff.1 hp).2, Pk.abs]
          · simp [hj]
        simp [Nt.abs, List.map_set, La.abs, e5]
      · exact back { d with ps := d.ps.set i { pk with bytes := pk.bytes.modify at'.toNat (xorB · bits) } } n.next (pt ba (.cells #[.int .i64 at'] 3 (0, 0)) :: pt bt (.cells #[.bool true] 4 (0, 0)) :: pt bb (.cells #[.int .u8 bits] 5 (0, 0)) :: L) w6 rfl h10
    · rw [decide_eq_false hlt] at h4
      exact stay w4 (fun h => hlt h.2) h4
  · have e0 : decide (at' ≥ 0) = false := decide_eq_false h0
    rw [e0, br_false]
    refine h2'.stc 4 rfl (by simp) fun w4 h4 => ?_
    exact stay w4 (fun h => h0 h.1) h4
end
end Go.Proofs.Ytnmgdeimngcbgaa
