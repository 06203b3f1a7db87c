/- Own text: part of the shallow reading of the code and of the contracts that are proved over it. -/
import Derived.Test.YtnmgdeimngcbgaaNtU
namespace Go.Proofs.Ytnmgdeimngcbgaa
open Go Go.Sh
/-! the network's calls, with the network as one assertion -/
def netP (b : Nat) (n : NT) : HP := ex fun d : Nt => pr (d.b = b ∧ d.abs = n) (ntN d)
def NT.okCode (n : NT) (e p now : Int) (f : Bool) (bs : List Int) : NT := if n.code e p now bs.length = 0 then n.enter e p now f bs else n
def NT.pid (n : NT) (c : Int) : Int := if c = 0 then n.next else 0
def NT.dlv (n : NT) (e p i : Int) : NT := if n.atCode e p i = 0 then n.deliver e p i else n
def NT.got (n : NT) (e p i : Int) : List Int := if n.atCode e p i = 0 then n.pkt e p i else []
def NT.drp (n : NT) (e p i : Int) : NT := if n.atCode e p i = 0 then n.drop e p i else n
def NT.twc (n : NT) (e p i : Int) : NT := if n.twiceCode e p i = 0 then n.dup e p i else n
def NT.splCode (n : NT) (e p i x : Int) : Int := if n.atCode e p i = 0 then (if 0 ≤ x ∧ x < ((n.pkt e p i).length : Int) then 0 else 92) else n.atCode e p i
def NT.spl (n : NT) (e p i x b : Int) : NT := if n.splCode e p i x = 0 then n.upd (idx e p) (fun l => { l with ps := l.ps.modify i.toNat fun q => { q with bytes := q.bytes.modify x.toNat (xorB · b) } }) else n
def NT.trn (n : NT) (p : Int) (b : Bool) : NT := if n.err 0 p = 0 then n.turn p b else n
def NT.fl (n : NT) (e p : Int) : List PK := if n.err e p = 0 then n.ps e p else []
def NT.trf (n : NT) (e p : Int) : Int × Int × Int × Int := if n.err e p = 0 then n.traffic e p else (0, 0, 0, 0)
def NT.works (n : NT) (p : Int) : Bool := decide (n.has 0 p) && !n.isDown p
section
variable {W w : World} {b : Nat} {n : NT} {L : List HP}
theorem netP_open : Hs W (netP b n :: L) w ↔ ∃ d : Nt, d.b = b ∧ d.abs = n ∧ Hs W (ntN d :: L) w := by
  unfold netP
  rw [Hs.cons_ex]
  simp only [Hs.cons_pr, and_assoc]
theorem netP_step {d d' : Nt} {w' : World} (h : Hs W (ntN d :: L) w) {base : Nat} (S : Step base d d' w w') : Hs W (netP d.b d'.abs :: L) w' := netP_open.2 ⟨d', S.b, rfl, net_step h S⟩
/-- bytes that are handed in: of the first world, or a slice of one's own -/
def Src (W : World) (L : List HP) (a : Option Addr) (c : Nat) (bs : List Int) : Prop := (a = none → c = 0) ∧ (Rd W a (byV bs) ∨ ∃ e s n c, slP e s a n c (byV bs) ∈ L)
theorem Src.rd {M : List HP} {a : Option Addr} {c : Nat} {bs : List Int} (h : Src W L a c bs) (hs : Hs W M w) (hsub : ∀ x ∈ L, x ∈ M) : Rd w a (byV bs) := by
  rcases h.2 with h | ⟨e, s, n, c, h⟩
  · exact hs.rd_old h
  · exact hs.rdm (hsub _ h)
theorem Src.out {d : Nt} {a : Option Addr} {c : Nat} {bs : List Int} (h : Src W L a c bs) (hs : Hs W (ntN d :: L) w) (hne : bs ≠ []) : ∀ k, inB a k → k ∉ d.foot := fun k hk hf => by
  rcases h.2 with h | ⟨e, s, n, c, h⟩
  · obtain ⟨x, r, rfl⟩ : ∃ x r, bs = x :: r := by
      cases bs with
      | nil => exact absurd rfl hne
      | cons x r => exact ⟨x, r, rfl⟩
    obtain ⟨ad, ha, hc⟩ := h 0 (.int .u8 x) rfl
    obtain ⟨ad', ha', rfl⟩ := hk
    rw [ha] at ha'
    cases ha'
    have h1 := World.block_lt_of_cell? W _ hc
    rw [add_block] at h1
    have := ((net_of hs).foot_lt hf).1
    omega
  · obtain ⟨j, hj⟩ := List.getElem?_of_mem h
    exact hs.apart (i := 0) (j := j + 1) (by omega) rfl hj (ntN_dm d) Dm.sl k hf (mem_bk.2 hk)
theorem s9 (h : Hs W (netP b n :: L) w) (e p now : Int) {a : Option Addr} {bs : List Int} {c : Nat} (hs : Src W L a c bs) :
    Calls Try.prog 9 #[.pointer (some ⟨b, 0, none⟩), .int .i64 e, .int .i64 p, .slice a bs.length c, .int .i64 now] w (rt fun v w' => v = .tuple #[.int .i64 (n.pid (n.code e p now bs.length)), .int .i64 (n.code e p now bs.length)] ∧ Hs W (netP b (n.okCode e p now false bs) :: L) w') := by
  obtain ⟨d, rfl, rfl, g⟩ := netP_open.1 h
  replace h := g
  clear g
  refine rt_mono (c9 (net_of h) e p now (hs.rd h fun _ hx => List.mem_cons_of_mem _ hx) (hs.out h) h.size) ?_
  rintro _ w' ⟨rfl, n', S, hn⟩
  refine ⟨rfl, ?_⟩
  have := netP_step h S
  rwa [hn] at this
theorem s16 (h : Hs W (netP b n :: L) w) (e p now : Int) {a : Option Addr} {bs : List Int} {c : Nat} (hs : Src W L a c bs) :
    Calls Try.prog 16 #[.pointer (some ⟨b, 0, none⟩), .int .i64 e, .int .i64 p, .slice a bs.length c, .int .i64 now] w (rt fun v w' => v = .tuple #[.int .i64 (n.pid (n.code e p now bs.length)), .int .i64 (n.code e p now bs.length)] ∧ Hs W (netP b (n.okCode e p now true bs) :: L) w') := by
  obtain ⟨d, rfl, rfl, g⟩ := netP_open.1 h
  replace h := g
  clear g
  refine rt_mono (c16 (net_of h) e p now (hs.rd h fun _ hx => List.mem_cons_of_mem _ hx) (hs.out h) h.size) ?_
  rintro _ w' ⟨rfl, n', S, hn⟩
  refine ⟨rfl, ?_⟩
  have := netP_step h S
  rwa [hn] at this
theorem s18 (h : Hs W (netP b n :: L) w) (e p i : Int) : Calls Try.prog 18 #[.pointer (some ⟨b, 0, none⟩), .int .i64 e, .int .i64 p, .int .i64 i] w (rt fun v w' => v = .int .i64 (n.atCode e p i) ∧ Hs W (netP b (n.drp e p i) :: L) w') := by
  obtain ⟨d, rfl, rfl, g⟩ := netP_open.1 h
  replace h := g
  clear g
  refine rt_mono (c18 (net_of h) e p i) ?_
  rintro _ w' ⟨rfl, n', S, hn⟩
  refine ⟨rfl, ?_⟩
  have := netP_step h S
  rwa [hn] at this
theorem s20 (h : Hs W (netP b n :: L) w) (p : Int) : Calls Try.prog 20 #[.pointer (some ⟨b, 0, none⟩), .int .i64 p] w (rt fun v w' => v = .int .i64 (n.err 0 p) ∧ Hs W (netP b (n.trn p true) :: L) w') := by
  obtain ⟨d, rfl, rfl, g⟩ := netP_open.1 h
  replace h := g
  clear g
  refine rt_mono (c20 (net_of h) p) ?_
  rintro _ w' ⟨rfl, n', S, hn⟩
  refine ⟨rfl, ?_⟩
  have := netP_step h S
  rwa [hn] at this
theorem s21 (h : Hs W (netP b n :: L) w) (p : Int) : Calls Try.prog 21 #[.pointer (some ⟨b, 0, none⟩), .int .i64 p] w (rt fun v w' => v = .int .i64 (n.err 0 p) ∧ Hs W (netP b (n.trn p false) :: L) w') := by
  obtain ⟨d, rfl, rfl, g⟩ := netP_open.1 h
  replace h := g
  clear g
  refine rt_mono (c21 (net_of h) p) ?_
  rintro _ w' ⟨rfl, n', S, hn⟩
  refine ⟨rfl, ?_⟩
  have := netP_step h S
  rwa [hn] at this
theorem s22 (h : Hs W (netP b n :: L) w) (p : Int) : Calls Try.prog 22 #[.pointer (some ⟨b, 0, none⟩), .int .i64 p] w (rt (KR (.bool (n.works p)) w)) := by
  obtain ⟨d, rfl, rfl, g⟩ := netP_open.1 h
  replace h := g
  clear g
  exact c22 (net_of h) p
theorem s23 (h : Hs W (netP b n :: L) w) : Calls Try.prog 23 #[.pointer (some ⟨b, 0, none⟩)] w (rt (KR (.int .i64 (n.down.length : Int)) w)) := by
  obtain ⟨d, rfl, rfl, g⟩ := netP_open.1 h
  replace h := g
  clear g
  exact c23 (net_of h)
theorem s11 (h : Hs W (netP b n :: L) w) (e p : Int) : Calls Try.prog 11 #[.pointer (some ⟨b, 0, none⟩), .int .i64 e, .int .i64 p] w
    (rt fun v w' => ∃ a c, v = .tuple #[.slice a (n.fl e p).length c, .int .i64 (n.err e p)] ∧ Hs W (slP 43 4 a (n.fl e p).length c (flV (n.fl e p)) :: netP b n :: L) w' ∧ Same w w') := by
  have h0 := h
  obtain ⟨d, rfl, rfl, g⟩ := netP_open.1 h
  replace h := g
  clear g
  refine rt_mono (c11 (net_of h) e p) ?_
  rintro _ w' ⟨a, c, rfl, o, s⟩
  exact ⟨a, c, rfl, h0.own_new s o, s⟩
theorem s13 (h : Hs W (netP b n :: L) w) (e p : Int) : Calls Try.prog 13 #[.pointer (some ⟨b, 0, none⟩), .int .i64 e, .int .i64 p] w
    (rt fun v w' => v = .tuple #[trV (n.trf e p), .int .i64 (n.err e p)] ∧ Same w w') := by
  obtain ⟨d, rfl, rfl, g⟩ := netP_open.1 h
  replace h := g
  clear g
  exact c13 (net_of h) e p
theorem s12 (h : Hs W (netP b n :: L) w) (e p i : Int) : Calls Try.prog 12 #[.pointer (some ⟨b, 0, none⟩), .int .i64 e, .int .i64 p, .int .i64 i] w
    (rt fun v w' => ∃ a c, v = .tuple #[.slice a (n.got e p i).length c, .int .i64 (n.atCode e p i)] ∧ Hs W (slP 5 1 a (n.got e p i).length c (byV (n.got e p i)) :: netP b (n.dlv e p i) :: L) w') := by
  obtain ⟨d, rfl, rfl, g⟩ := netP_open.1 h
  replace h := g
  clear g
  refine F12_ok ?_
  unfold F12
  simp only [rdP_mk, rdI_mk]
  refine h.alc fun bo w1 h1 => ?_
  have h2 : Hs W (ntN d :: pt bo (.cells #[.slice none 0 0] 23) :: L) w1 := h1.focus (i := 1) rfl
  refine cl (c34 (net_of h2) e p i (K := fun v w' => v = .int .i64 (d.abs.atCode e p i) ∧ ∃ a c, Hs W (slP 5 1 a (d.abs.got e p i).length c (byV (d.abs.got e p i)) :: netP d.b (d.abs.dlv e p i) :: pt bo (.cells #[.slice a (d.abs.got e p i).length c] 23) :: L) w') (fun hc => ?_) fun hc ho l hk j hj hlt => ?_) ?_
  · refine ⟨rfl, none, 0, ?_⟩
    unfold NT.got NT.dlv
    rw [if_neg hc, if_neg hc]
    exact Hs.nil (netP_open.2 ⟨d, rfl, rfl, h2⟩) 5 1
  · subst hj
    obtain ⟨pk, hp⟩ : ∃ x, l.ps[j]? = some x := ⟨l.ps[j]'hlt, by simp⟩
    refine callV_of (by kernel_rfl) (call_of (s35 h2 hk hlt hp) ?_)
    rintro _ w' ⟨v, rfl, rfl, n', q1, q2, q3⟩
    refine ⟨rfl, rfl, by rw [hc], pk.a, pk.c, ?_⟩
    have e1 : d.abs.got e p j = pk.bytes := by unfold NT.got; rw [if_pos hc]; exact pkt_abs hk hp
    have e2 : d.abs.dlv e p j = n'.abs := by unfold NT.dlv; rw [if_pos hc]; exact q2.symm
    rw [e1, e2, ← q1]
    have q4 : Hs W (netP n'.b n'.abs :: pkN pk :: pt bo (.cells #[.slice pk.a pk.bytes.length pk.c] 23) :: L) w' := netP_open.2 ⟨n', rfl, rfl, q3.focus (i := 1) rfl⟩
    exact q4.focus (i := 1) rfl
  · rintro v w' ⟨rfl, a, c, q⟩
    refine ⟨_, rfl, q.ldC 2 rfl rfl ⟨a, c, rfl, ?_⟩⟩
    exact q.erase 2
theorem many_of {d : Nt} {l : La} {e p : Int} (hk : d.lanes[idx e p]? = some l) : d.abs.many e p = l.ps.length := many_abs hk
theorem s17 (h : Hs W (netP b n :: L) w) (e p i : Int) : Calls Try.prog 17 #[.pointer (some ⟨b, 0, none⟩), .int .i64 e, .int .i64 p, .int .i64 i] w
    (rt fun v w' => v = .tuple #[.int .i64 (n.pid (n.twiceCode e p i)), .int .i64 (n.twiceCode e p i)] ∧ Hs W (netP b (n.twc e p i) :: L) w') := by
  obtain ⟨d, rfl, rfl, g⟩ := netP_open.1 h
  replace h := g
  clear g
  refine F17_ok ?_
  unfold F17
  simp only [rdP_mk, rdI_mk]
  refine h.alc fun bi w1 h1 => h1.alc fun bf w2 h2 => h2.stc 1 rfl (by simp) fun w3 h3 => h3.stc 0 rfl (by simp) fun w4 h4 => ?_
  have h5 : Hs W (ntN d :: pt bf (.cells #[.bool false] 4) :: pt bi (.cells #[.int .i64 0] 3) :: L) w4 := Hs.focus (i := 2) (L := pt bf (.cells #[.bool false] 4) :: pt bi (.cells #[.int .i64 0] 3) :: ntN d :: L) h4 rfl
  refine cl (c34 (net_of h5) e p i (K := fun v w' => v = .int .i64 (d.abs.atCode e p i) ∧ Hs W (netP d.b (d.abs.twc e p i) :: pt bf (.cells #[.bool (decide (d.abs.twiceCode e p i = 3))] 4) :: pt bi (.cells #[.int .i64 (d.abs.pid (d.abs.twiceCode e p i))] 3) :: L) w') (fun hc => ?_) fun hc ho l hk j hj hlt => ?_) ?_
  · refine ⟨rfl, netP_open.2 ⟨d, rfl, ?_, ?_⟩⟩
    · unfold NT.twc NT.twiceCode; rw [if_neg hc, if_neg hc]
    · have e1 : d.abs.twiceCode e p i = d.abs.atCode e p i := by unfold NT.twiceCode; rw [if_neg hc]
      have e3 : d.abs.atCode e p i ≠ 3 := by unfold NT.atCode; split <;> (try split) <;> decide
      have e4 : d.abs.pid (d.abs.atCode e p i) = 0 := by unfold NT.pid; rw [if_neg hc]
      rw [e1, e4, decide_eq_false e3]
      exact h5
  · subst hj
    refine callV_of (by kernel_rfl) (call_of (c40 h5 hk hlt) ?_)
    rintro _ w' ⟨v, rfl, rfl, n', q1, q2, q3⟩
    refine ⟨rfl, rfl, by rw [hc], netP_open.2 ⟨n', q1, ?_, ?_⟩⟩
    · rw [q2]
      unfold NT.twc NT.twiceCode
      rw [if_pos hc, many_of hk]
      by_cases hm : l.ps.length ≥ 4096
      · rw [if_pos hm, if_pos hm, if_neg (by decide)]
      · rw [if_neg hm, if_neg hm, if_pos rfl]
    · have e1 : d.abs.twiceCode e p j = if l.ps.length ≥ 4096 then 3 else 0 := by unfold NT.twiceCode; rw [if_pos hc, many_of hk]
      rw [e1]
      by_cases hm : l.ps.length ≥ 4096
      · rw [if_pos hm, decide_eq_true hm] at q3
        rw [if_pos hm]
        exact q3
      · rw [if_neg hm, decide_eq_false hm] at q3
        rw [if_neg hm]
        exact q3
  · rintro v w' ⟨rfl, q⟩
    refine ⟨_, rfl, q.ldB 1 rfl rfl ?_⟩
    by_cases h3 : d.abs.twiceCode e p i = 3
    · rw [decide_eq_true h3, br_true, h3]
      exact ⟨rfl, (q.erase 1).erase 1⟩
    · rw [decide_eq_false h3, br_false]
      refine q.ldI 2 rfl rfl ⟨?_, (q.erase 1).erase 1⟩
      have : d.abs.atCode e p i = d.abs.twiceCode e p i := by
        unfold NT.twiceCode at h3 ⊢
        split at h3
        · rename_i h0
          split at h3
          · exact absurd rfl h3
          · rename_i h1; rw [if_pos h0, if_neg h1]; exact h0
        · rename_i h0; rw [if_neg h0]
      rw [this]
theorem s19 (h : Hs W (netP b n :: L) w) (e p i x bits : Int) : Calls Try.prog 19 #[.pointer (some ⟨b, 0, none⟩), .int .i64 e, .int .i64 p, .int .i64 i, .int .i64 x, .int .u8 bits] w
    (rt fun v w' => v = .int .i64 (n.splCode e p i x) ∧ Hs W (netP b (n.spl e p i x bits) :: L) w') := by
  obtain ⟨d, rfl, rfl, g⟩ := netP_open.1 h
  replace h := g
  clear g
  refine F19_ok ?_
  unfold F19
  simp only [rdP_mk, rdI_mk]
  refine h.alc fun ba w1 h1 => h1.alc fun bb w2 h2 => h2.alc fun bt w3 h3 => h3.stc 0 rfl (by simp) fun w4 h4 => ?_
  have h5 : Hs W (ntN d :: pt ba (.cells #[.int .i64 x] 3) :: pt bt (.cells #[.bool true] 4) :: pt bb (.cells #[.int .u8 bits] 5) :: L) w4 := by
    have h6 : Hs W (pt bt (.cells #[.bool true] 4) :: pt bb (.cells #[.int .u8 bits] 5) :: pt ba (.cells #[.int .i64 x] 3) :: ntN d :: L) w4 := h4
    exact Hs.focus (i := 3) (h6.focus (i := 2) rfl) rfl
  refine cl (c34 (net_of h5) e p i (K := fun v w' => v = .int .i64 (d.abs.atCode e p i) ∧ Hs W (netP d.b (d.abs.spl e p i x bits) :: pt ba (.cells #[.int .i64 x] 3) :: pt bt (.cells #[.bool (!decide (d.abs.splCode e p i x = 92))] 4) :: pt bb (.cells #[.int .u8 bits] 5) :: L) w') (fun hc => ?_) fun hc ho l hk j hj hlt => ?_) ?_
  · refine ⟨rfl, netP_open.2 ⟨d, rfl, ?_, ?_⟩⟩
    · unfold NT.spl NT.splCode; rw [if_neg hc, if_neg hc]
    · have e1 : d.abs.splCode e p i x = d.abs.atCode e p i := by unfold NT.splCode; rw [if_neg hc]
      have e3 : d.abs.atCode e p i ≠ 92 := by unfold NT.atCode; split <;> (try split) <;> decide
      rw [e1, decide_eq_false e3]
      exact h5
  · subst hj
    obtain ⟨pk, hp⟩ : ∃ x, l.ps[j]? = some x := ⟨l.ps[j]'hlt, by simp⟩
    have e1 : d.abs.pkt e p j = pk.bytes := pkt_abs hk hp
    have e2 : d.abs.splCode e p j x = if 0 ≤ x ∧ x < (pk.bytes.length : Int) then 0 else 92 := by unfold NT.splCode; rw [if_pos hc, e1]
    refine callV_of (by kernel_rfl) (call_of (s43 (K := fun v w' => v = .tuple #[] ∧ Hs W (netP d.b (d.abs.spl e p j x bits) :: pt ba (.cells #[.int .i64 x] 3) :: pt bt (.cells #[.bool (!decide (d.abs.splCode e p j x = 92))] 4) :: pt bb (.cells #[.int .u8 bits] 5) :: L) w') h5 hk hlt hp _ fun w' n' q1 q2 q3 => ⟨rfl, netP_open.2 ⟨n', q1, ?_, ?_⟩⟩) ?_)
    · rw [q2]
      unfold NT.spl
      rw [e2]
      by_cases hx : 0 ≤ x ∧ x < (pk.bytes.length : Int)
      · rw [if_pos hx, if_pos hx, if_pos rfl]; rfl
      · rw [if_neg hx, if_neg hx, if_neg (by decide)]
    · rw [e2]
      by_cases hx : 0 ≤ x ∧ x < (pk.bytes.length : Int)
      · rw [decide_eq_true hx] at q3; rw [if_pos hx]; exact q3
      · rw [decide_eq_false hx] at q3; rw [if_neg hx]; exact q3
    · rintro _ w' ⟨v, rfl, rfl, q⟩
      exact ⟨rfl, rfl, by rw [hc], q⟩
  · rintro v w' ⟨rfl, q⟩
    refine ⟨_, rfl, q.ldB 2 rfl rfl ?_⟩
    rw [Bool.not_not]
    have q' := ((q.erase 1).erase 1).erase 1
    by_cases h3 : d.abs.splCode e p i x = 92
    · rw [decide_eq_true h3, br_true, h3]
      exact ⟨rfl, q'⟩
    · rw [decide_eq_false h3, br_false]
      refine ⟨?_, q'⟩
      have : d.abs.atCode e p i = d.abs.splCode e p i x := by
        unfold NT.splCode at h3 ⊢
        split at h3
        · rename_i h0
          split at h3
          · rename_i h1; rw [if_pos h0, if_pos h1]; exact h0
          · exact absurd rfl h3
        · rename_i h0; rw [if_neg h0]
      rw [this]
theorem s7 (h : Hs W L w) (m : Nat) (hm : 1 ≤ m ∧ m ≤ 8) : Calls Try.prog 7 #[.int .i64 (m : Int)] w (rt fun v w' => ∃ b, v = .tuple #[.pointer (some ⟨b, 0, none⟩), .int .i64 0] ∧ Hs W (netP b (NT.new m) :: L) w') := by
  refine rt_mono (c7 m hm w) ?_
  rintro _ w' ⟨d, rfl, hd, ha, s⟩
  refine ⟨d.b, rfl, netP_open.2 ⟨d, rfl, ha, ?_⟩⟩
  exact h.build s (ntN_put hd) (ntN_dm d) fun k hk => (hd.foot_lt hk).1
end
end Go.Proofs.Ytnmgdeimngcbgaa
