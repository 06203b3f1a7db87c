/- Own text: part of the shallow reading of the code and of the contracts that are proved over it. -/
import Derived.Test.YtnmgdeimngcbgaaNtN
import Derived.Test.YtnmgdeimngcbgaaShT
namespace Go.Proofs.Ytnmgdeimngcbgaa
open Go Go.Sh
/-! the network as an assertion -/
def pkN (p : Pk) : HP := slP 5 1 p.a p.bytes.length p.c (byV p.bytes)
def lcell (d : La) : HP := pt d.b (.cells #[.int .i64 d.sent, .int .i64 d.del, .int .i64 d.lost, .int .i64 d.forged, .slice d.a d.ps.length d.c] 69 (0, 0))
def lrow (d : La) : HP := slP 83 5 d.a d.ps.length d.c (pksV d.ps)
def lok (d : La) : Prop := (∀ p ∈ d.ps, p.bytes.length ≤ 65536) ∧ d.ps.length ≤ 4096
def laN (d : La) : HP := pr (lok d) (bigS (lcell d :: lrow d :: d.ps.map pkN))
def ncell (n : Nt) : HP := pt n.b (.cells #[.slice n.la n.down.length n.lc, .slice n.da n.down.length n.dc, .int .i64 n.next] 57 (0, 0))
def nlrow (n : Nt) : HP := slP 70 2 n.la n.down.length n.lc (ptrV n.lanes)
def ndrow (n : Nt) : HP := slP 4 1 n.da n.down.length n.dc (n.down.map Value.bool)
def nok (n : Nt) : Prop := n.lanes.length = n.down.length * 2 ∧ 1 ≤ n.down.length ∧ n.down.length ≤ 8
def ntN (n : Nt) : HP := pr (nok n) (bigS (ncell n :: nlrow n :: ndrow n :: n.lanes.map laN))
theorem blk_bk (a : Option Addr) : blk a = bk a := by cases a <;> rfl
theorem laN_dm (d : La) : Dm (laN d) d.foot := by
  refine Dm.pr fun _ => ?_
  have h := Dm.cons (Dm.pt d.b (.cells #[.int .i64 d.sent, .int .i64 d.del, .int .i64 d.lost, .int .i64 d.forged, .slice d.a d.ps.length d.c] 69 (0, 0))) (Dm.cons (Dm.sl (e := 83) (s := 5) (l := d.ps.length) (c := d.c) (a := d.a) (xs := pksV d.ps)) (Dm.big pkN (fun p => blk p.a) d.ps fun p _ => by rw [blk_bk]; exact Dm.sl))
  unfold La.foot
  rw [blk_bk]
  exact h
theorem ntN_dm (n : Nt) : Dm (ntN n) n.foot := by
  refine Dm.pr fun _ => ?_
  have h := Dm.cons (Dm.pt n.b (.cells #[.slice n.la n.down.length n.lc, .slice n.da n.down.length n.dc, .int .i64 n.next] 57 (0, 0))) (Dm.cons (Dm.sl (e := 70) (s := 2) (l := n.down.length) (c := n.lc) (a := n.la) (xs := ptrV n.lanes)) (Dm.cons (Dm.sl (e := 4) (s := 1) (l := n.down.length) (c := n.dc) (a := n.da) (xs := n.down.map Value.bool)) (Dm.big laN La.foot n.lanes fun d _ => laN_dm d)))
  unfold Nt.foot
  rw [blk_bk, blk_bk]
  exact h
section
variable {W w w' : World} {base : Nat} {n n' : Nt} {d : La} {L : List HP}
theorem laN_get {x : Hl} (h : laN d x) (a : ag x w) (lo : ∀ k, x k ≠ none → base ≤ k) : LaR w base d := by
  obtain ⟨⟨h1, h2⟩, hb⟩ := h
  obtain ⟨y0, e0, a0, s0⟩ := piece hb a (i := 0) rfl
  obtain ⟨y1, e1, a1, s1⟩ := piece hb a (i := 1) rfl
  refine ⟨a0 d.b _ (by rw [e0]; simp), own_of e1 a1 fun k hk => lo k (s1 k hk), fun p hp => ?_, ?_, h1, h2⟩
  · obtain ⟨j, hj⟩ := List.getElem?_of_mem hp
    obtain ⟨y2, e2, a2, s2⟩ := piece hb a (i := j + 2) (A := pkN p) (by simp [hj])
    exact own_of e2 a2 fun k hk => lo k (s2 k hk)
  · exact lo d.b (s0 d.b (by rw [e0]; simp))
theorem ntN_get {x : Hl} (h : ntN n x) (a : ag x w) (lo : ∀ k, x k ≠ none → base ≤ k) : NtR w base n := by
  have hnd := ((ntN_dm n) x h).1
  obtain ⟨⟨h1, h2⟩, hb⟩ := h
  obtain ⟨y0, e0, a0, s0⟩ := piece hb a (i := 0) rfl
  obtain ⟨y1, e1, a1, s1⟩ := piece hb a (i := 1) rfl
  obtain ⟨y2, e2, a2, s2⟩ := piece hb a (i := 2) rfl
  refine ⟨a0 n.b _ (by rw [e0]; simp), own_of e1 a1 fun k hk => lo k (s1 k hk), own_of e2 a2 fun k hk => lo k (s2 k hk), fun d hd => ?_, hnd, lo n.b (s0 n.b (by rw [e0]; simp)), h1, h2⟩
  obtain ⟨j, hj⟩ := List.getElem?_of_mem hd
  obtain ⟨y3, e3, a3, s3⟩ := piece hb a (i := j + 3) (A := laN d) (by simp [hj])
  exact laN_get e3 a3 fun k hk => lo k (s3 k hk)
theorem laN_put (h : LaR w base d) (hn : d.foot.Nodup) : Bu w (laN d) := by
  unfold La.foot at hn
  have hn1 := List.nodup_cons.1 hn
  have hn2 := List.nodup_append.1 hn1.2
  have dp : ∀ p ∈ d.ps, Dm (pkN p) (blk p.a) := fun p _ => by rw [blk_bk]; exact Dm.sl
  have d2 := Dm.big pkN (fun p => blk p.a) d.ps dp
  have b2 : Bu w (bigS (d.ps.map pkN)) := Bu.big pkN (fun p => blk p.a) d.ps (fun p hp => Bu.sl (h.bytes p hp)) dp hn2.2.1
  have d1 : Dm (lrow d) (blk d.a) := by rw [blk_bk]; exact Dm.sl
  exact Bu.pr ⟨h.short, h.many⟩ (Bu.cons (Bu.pt h.cell) (Bu.cons (Bu.sl h.row) b2 d1 d2 hn1.2) (Dm.pt _ _) (Dm.cons d1 d2) hn)
theorem ntN_put (h : NtR w base n) : Bu w (ntN n) := by
  have hn := h.sep
  unfold Nt.foot at hn
  have hn1 := (List.nodup_cons.1 hn).2
  have hn2 := (List.nodup_append.1 hn1).2.1
  have hn3 := (List.nodup_append.1 hn2).2.1
  have d3 := Dm.big laN La.foot n.lanes fun d _ => laN_dm d
  have b3 : Bu w (bigS (n.lanes.map laN)) := Bu.big laN La.foot n.lanes (fun d hd => laN_put (h.lanes d hd) (by
    obtain ⟨k, hk⟩ := List.getElem?_of_mem hd
    exact lane_nodup h hk)) (fun d _ => laN_dm d) hn3
  have d1 : Dm (nlrow n) (blk n.la) := by rw [blk_bk]; exact Dm.sl
  have d2 : Dm (ndrow n) (blk n.da) := by rw [blk_bk]; exact Dm.sl
  exact Bu.pr ⟨h.len, h.few⟩ (Bu.cons (Bu.pt h.cell) (Bu.cons (Bu.sl h.lrow) (Bu.cons (Bu.sl h.drow) b3 d2 d3 hn2) d1 (Dm.cons d2 d3) hn1) (Dm.pt _ _) (Dm.cons d1 (Dm.cons d2 d3)) hn)
theorem net_of (h : Hs W (ntN n :: L) w) : NtR w W.heap.size n := by
  obtain ⟨x, hx, a, lo⟩ := h.look (i := 0) rfl
  exact ntN_get hx a lo
theorem net_step (h : Hs W (ntN n :: L) w) {base : Nat} (S : Step base n n' w w') : Hs W (ntN n' :: L) w' := h.turn (ntN_dm n) S.fr (ntN_put S.net) (ntN_dm n') S.sub
theorem lane_open : Hs W (laN d :: L) w ↔ lok d ∧ Hs W (lcell d :: lrow d :: (L ++ d.ps.map pkN)) w := by
  unfold laN
  rw [Hs.cons_pr, Hs.cons_bigS]
  refine and_congr Iff.rfl ⟨fun h => h.perm ?_, fun h => h.perm ?_⟩
  · exact (List.perm_append_comm.cons _).cons _
  · exact (List.perm_append_comm.cons _).cons _
theorem net_focus {k : Nat} (h : Hs W (ntN n :: L) w) (hk : n.lanes[k]? = some d) : ∃ X, Hs W (laN d :: ncell n :: (L ++ X)) w ∧ ∀ d' nx L' w', d'.b = d.b → Hs W (laN d' :: ncell { n with next := nx } :: (L' ++ X)) w' → Hs W (ntN { n with lanes := n.lanes.set k d', next := nx } :: L') w' := by
  unfold ntN at h
  rw [Hs.cons_pr, Hs.cons_bigS] at h
  obtain ⟨ho, h⟩ := h
  refine ⟨nlrow n :: ndrow n :: (n.lanes.map laN).eraseIdx k, ?_, fun d' nx L' w' hb h' => ?_⟩
  · refine (h.focus (i := k + 3) (A := laN d) ?_).perm ?_
    · have hlt := (List.getElem?_eq_some_iff.1 hk).1
      show (n.lanes.map laN ++ L)[k]? = _
      rw [List.getElem?_append_left (by simpa using hlt)]
      simp [hk]
    · have hlt := (List.getElem?_eq_some_iff.1 hk).1
      have e : (ncell n :: nlrow n :: ndrow n :: n.lanes.map laN ++ L).eraseIdx (k + 3) = ncell n :: nlrow n :: ndrow n :: ((n.lanes.map laN).eraseIdx k ++ L) := by
        simp only [List.cons_append, List.eraseIdx_cons_succ]
        rw [List.eraseIdx_append_of_lt_length (by simpa using hlt)]
      rw [e]
      refine (List.Perm.cons _ (List.Perm.cons _ ?_))
      rw [← List.cons_append, ← List.cons_append]
      exact List.perm_append_comm
  · unfold ntN
    rw [Hs.cons_pr, Hs.cons_bigS]
    refine ⟨⟨by simpa using ho.1, ho.2⟩, ?_⟩
    have e : (n.lanes.set k d').map laN = (n.lanes.map laN).set k (laN d') := by rw [List.map_set]
    have hlt := (List.getElem?_eq_some_iff.1 hk).1
    have e2 : nlrow { n with lanes := n.lanes.set k d', next := nx } = nlrow n := by
      unfold nlrow
      have : ptrV (n.lanes.set k d') = ptrV n.lanes := by
        rw [set_split hk]
        conv => rhs; rw [split_at hk]
        simp [ptrV, hb]
      simp only [this]
    show Hs W (ncell { n with next := nx } :: nlrow { n with lanes := n.lanes.set k d', next := nx } :: ndrow n :: (n.lanes.set k d').map laN ++ L') w'
    rw [e, e2]
    have h2 : Hs W (laN d' :: (ncell { n with next := nx } :: nlrow n :: ndrow n :: ((n.lanes.map laN).eraseIdx k ++ L'))) w' := by
      refine h'.perm (List.Perm.cons _ (List.Perm.cons _ ?_))
      rw [← List.cons_append, ← List.cons_append]
      exact List.perm_append_comm
    have e3 : (ncell { n with next := nx } :: nlrow n :: ndrow n :: ((n.lanes.map laN) ++ L')).eraseIdx (k + 3) = ncell { n with next := nx } :: nlrow n :: ndrow n :: ((n.lanes.map laN).eraseIdx k ++ L') := by
      simp only [List.eraseIdx_cons_succ]
      rw [List.eraseIdx_append_of_lt_length (by simpa using hlt)]
    rw [← e3] at h2
    have h3 := h2.unfocus (by simp; omega)
    simp only [List.set_cons_succ] at h3
    rw [List.set_append_left _ _ (by simpa using hlt)] at h3
    exact h3
end
end Go.Proofs.Ytnmgdeimngcbgaa
