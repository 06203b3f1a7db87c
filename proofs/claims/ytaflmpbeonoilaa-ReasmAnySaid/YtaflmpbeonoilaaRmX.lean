/-
  The first table: awake.
-/
import Derived.Test.YtaflmpbeonoilaaRmR
namespace Go.Proofs.Ytaflmpbeonoilaa
open Go Go.Sh Go.RowKit
def ckR (t f ssn : Int) (a : Option Addr) : R35 := R35.mk 0 f t 0 ssn 0 0 0 0 0 none 0 0 none 0 0 none 0 0 a 1 1 none 0 0
def ckA (t f ssn : Int) (a : Option Addr) (v : Int) : Ch := ⟨ckR t f ssn a, [v]⟩
def aw1 (a : Option Addr) : St := ⟨100, [ckA 7 2 1 a 99], [], [0], [], []⟩
def aw2 (a b : Option Addr) : St := ⟨100, [ckA 7 2 1 a 99, ckA 5 2 0 b 97], [], [0], [], []⟩
def aw3 (a b c : Option Addr) : St := ⟨100, [ckA 7 2 1 a 99, ckA 5 2 0 b 97, ckA 8 1 1 c 100], [], [0], [[7, 8]], []⟩
def aw4 : St := ⟨100, [], [5, 6, 7, 8], [2], [], [⟨0, 0, 0, false, [97, 98]⟩, ⟨0, 1, 0, false, [99, 100]⟩]⟩
theorem aw_1 (a : Option Addr) : putT (newS 1 100) (ckA 7 2 1 a 99) = aw1 a := by kernel_rfl
theorem aw_2 (a b : Option Addr) : putT (aw1 a) (ckA 5 2 0 b 97) = aw2 a b := by kernel_rfl
theorem aw_3 (a b c : Option Addr) : putT (aw2 a b) (ckA 8 1 1 c 100) = aw3 a b c := by kernel_rfl
theorem aw_4 (a b c d : Option Addr) : putT (aw3 a b c) (ckA 6 1 0 d 98) = aw4 := by kernel_rfl
theorem ae_1 (a : Option Addr) : putE (newS 1 100) (ckA 7 2 1 a 99) = 0 := by kernel_rfl
theorem ae_2 (a b : Option Addr) : putE (aw1 a) (ckA 5 2 0 b 97) = 0 := by kernel_rfl
theorem ae_3 (a b c : Option Addr) : putE (aw2 a b) (ckA 8 1 1 c 100) = 0 := by kernel_rfl
theorem ae_4 (a b c d : Option Addr) : putE (aw3 a b c) (ckA 6 1 0 d 98) = 0 := by kernel_rfl
theorem u22 : Try.prog.underlying 22 = some (.slice 5) := by kernel_rfl
theorem u5 : Try.prog.underlying 5 = some (.int .u8) := by kernel_rfl
theorem u9 : Try.prog.underlying 9 = some .string := by kernel_rfl
def strOf (bs : List Int) : ByteArray := ⟨(bs.map fun x => UInt8.ofNat x.toNat).toArray⟩
theorem run_str {w : World} {a : Option Addr} {bs : List Int} {c : Nat} (hr : Rd w a (inV .u8 bs)) (hb : ∀ x ∈ bs, 0 ≤ x ∧ x < 256) : Sem.run Try.prog (convert 22 9 (.slice a bs.length c)) w = .ok (.string (strOf bs)) w := by
  cases a with
  | none =>
    have : bs = [] := by
      cases bs with
      | nil => rfl
      | cons x r => obtain ⟨ad, e⟩ := hr.some (by simp [inV]); cases e
    subst this
    show Sem.run Try.prog (convert 22 9 (.slice none 0 c)) w = _
    rw [run_convert_bytes_string w 22 9 5 none 0 c u22 u5 u9]
    rfl
  | some ad =>
    have h := run_convert_bytes_back (P := Try.prog) w 22 9 5 ad c (bs.map fun x => UInt8.ofNat x.toNat) u22 u5 u9 (fun j hj => by
      have hj' : j < bs.length := by simpa using hj
      have h1 := hr.at (j := j) (u := .int .u8 bs[j]) (by simp [inV, hj'])
      rw [h1]
      have hx := hb bs[j] (by simp)
      simp only [List.getElem_map]
      congr 2
      have : (UInt8.ofNat bs[j].toNat).toNat = bs[j].toNat := by
        simp [UInt8.toNat_ofNat']
        omega
      rw [this]; omega)
    rw [List.length_map] at h
    exact h

section
variable {W w : World} {L M Z : List HP} {tb mc mf : Nat} {hd : Int} {d : TD} {s : St} {es : List Ec} {F : List Int} {c : Ch}
theorem rd_blk {b : Nat} {cs : Array Value} {T : TypeId} (h : w.heap[b]? = some (.cells cs T (0, 0))) : Rd w (some ⟨b, 0, none⟩) cs.toList := fun j u hj => ⟨_, rfl, At.blk h j u hj⟩
/-- Take, over the table as one part -/
theorem c13n (hM : s.M = []) (h : Hs W (tabP tb hd s :: L) w) : Calls Try.prog 13 #[.pointer (some ⟨tb, 0, none⟩)] w (rt fun v w' => v = .tuple #[R38.z.v, .bool false] ∧ Hs W (tabP tb hd s :: L) w') := by
  obtain ⟨d, hi, h⟩ := tab_open h
  refine rt_mono (c13_none hi hM h) ?_
  rintro v w' ⟨rfl, h'⟩
  exact ⟨rfl, tab_shut hi h'⟩
theorem szM_cons (m : Ms) (r : List Ms) : szM (m :: r) = m.d.length + szM r := by unfold szM; simp
theorem tot_take {m : Ms} {r : List Ms} (hM : s.M = m :: r) : tot s = tot { s with M := r } + m.d.length := by
  unfold tot
  rw [hM, szM_cons]
  simp only
  omega
theorem c13s {m : Ms} {r : List Ms} (hM : s.M = m :: r) (hb : tot s ≤ 1073741824) (h : Hs W (tabP tb (tot s) s :: L) w) : Calls Try.prog 13 #[.pointer (some ⟨tb, 0, none⟩)] w (rt fun v w' => ∃ a c, v = .tuple #[(m.rc a c).v, .bool true] ∧ Hs W (tabP tb (tot { s with M := r }) { s with M := r } :: slP 5 1 a m.d.length c (inV .u8 m.d) :: L) w') := by
  obtain ⟨d, hi, h⟩ := tab_open h
  have ht := tot_take hM
  refine rt_mono (c13 hi hM (by omega) h) ?_
  rintro v w' ⟨a, c, rfl, d', hi', h'⟩
  refine ⟨a, c, rfl, ?_⟩
  have e : ((tot s : Nat) : Int) - (m.d.length : Int) = ((tot { s with M := r } : Nat) : Int) := by omega
  rw [e] at h'
  exact tab_shut hi' (L := slP 5 1 a m.d.length c (inV .u8 m.d) :: L) (h'.behind (L := tabL tb _ d' { s with M := r }))
theorem c14s {cum : Int} (hok : OkB s) (h : Hs W (tabP tb hd s :: Z) w) : Calls Try.prog 14 #[.pointer (some ⟨tb, 0, none⟩), .int .u32 cum] w (rt fun v w' => ∃ a c, v = .slice a (fixS s.F cum).length c ∧ Hs W (slP 30 1 a (fixS s.F cum).length c (inV .u32 (fixS s.F cum)) :: tabP tb hd s :: Z) w') := by
  obtain ⟨d, hi, h⟩ := tab_open h
  have hc := hok.cnt
  refine rt_mono (c14 hok.fix hok.frng (by omega) h) ?_
  rintro v w' ⟨a, c, rfl, h'⟩
  refine ⟨a, c, rfl, ?_⟩
  have h2 := tab_shut hi (L := slP 30 1 a (fixS s.F cum).length c (inV .u32 (fixS s.F cum)) :: Z) (h'.behind (L := tabL tb hd d s))
  exact h2.perm (List.Perm.swap _ _ _)
theorem aw_fix : fixS [5, 6, 7, 8] 4 = [5, 6, 7, 8] := by
  unfold fixS
  have e : [5, 6, 7, 8].filter (nearB 4) = [5, 6, 7, 8] := by kernel_rfl
  rw [e]
  refine eq_strict (k := dif 4) (strictD ?_ ?_ ?_) ?_ ?_
  · exact (List.mergeSort_perm _ _).nodup_iff.2 (by decide)
  · intro t ht
    have := (List.mergeSort_perm _ _).mem_iff.1 ht
    simp at this
    omega
  · refine (List.pairwise_mergeSort (leD_tr 4) (leD_tot 4) _).imp fun {a b} h => ?_
    unfold leD at h
    simpa using h
  · decide
  · intro x; exact (List.mergeSort_perm _ _).mem_iff
theorem ckA_ok {t f ssn v : Int} {a : Option Addr} (h : 0 ≤ t ∧ t < 4294967296) : CkOk (ckA t f ssn a v) := ⟨h, by show 0 ≤ (0 : Int) ∧ (0 : Int) < 65536; decide⟩
theorem c10 (w : World) : Calls Try.prog 10 #[] w (rt fun v w' => v = .bool true ∧ Same w w') := by
  refine F10_ok ?_
  unfold F10
  refine cl (c9 (n := 1) (by omega) (by omega) (Hs.start w)) ?_
  rintro _ w1 ⟨tb, rfl, h1⟩
  refine ⟨_, _, rfl, ?_⟩
  have e0 : ((0 : Int) != 0) = false := rfl
  rw [e0, br_false]
  simp only [Option.isNone_some, br_false]
  unfold F10_2
  simp only [rdP_mk]
  refine h1.alc fun b2 w3 h3 => ?_
  refine cl (c12 7 2 0 1 _ 1 1 w3) ?_
  rintro _ w4 ⟨rfl, s4⟩
  refine exR35_of (ckR 7 2 1 (some ⟨b2, 0, none⟩)) ⟨rfl, ?_⟩
  refine (h3.same s4).alc fun b7 w8 h8 => ?_
  refine cl (c12 5 2 0 0 _ 1 1 w8) ?_
  rintro _ w9 ⟨rfl, s9⟩
  refine exR35_of (ckR 5 2 0 (some ⟨b7, 0, none⟩)) ⟨rfl, ?_⟩
  refine (h8.same s9).alc fun b12 w13 h13 => ?_
  refine cl (c12 8 1 0 1 _ 1 1 w13) ?_
  rintro _ w14 ⟨rfl, s14⟩
  refine exR35_of (ckR 8 1 1 (some ⟨b12, 0, none⟩)) ⟨rfl, ?_⟩
  refine (h13.same s14).alc fun b17 w18 h18 => ?_
  refine cl (c12 6 1 0 0 _ 1 1 w18) ?_
  rintro _ w19 ⟨rfl, s19⟩
  refine exR35_of (ckR 6 1 0 (some ⟨b17, 0, none⟩)) ⟨rfl, ?_⟩
  refine (h18.same s19).alc fun b22 w23 h23 => ?_
  obtain ⟨xs, hxs⟩ : ∃ xs : List R35, xs = [ckR 7 2 1 (some ⟨b2, 0, none⟩), ckR 5 2 0 (some ⟨b7, 0, none⟩), ckR 8 1 1 (some ⟨b12, 0, none⟩), ckR 6 1 0 (some ⟨b17, 0, none⟩)] := ⟨_, rfl⟩
  obtain ⟨ar, har⟩ : ∃ ar : Array Value, ar = (xs.flatMap R35.l).toArray := ⟨_, rfl⟩
  have har' : ar.toList = xs.flatMap R35.l := by rw [har]
  obtain ⟨Z, hZ⟩ : ∃ Z : List HP, Z = [pt b22 (.cells ar 36 (0, 0)), pt b17 (.cells #[.int .u8 98] 5 (0, 0)), pt b12 (.cells #[.int .u8 100] 5 (0, 0)), pt b7 (.cells #[.int .u8 97] 5 (0, 0)), pt b2 (.cells #[.int .u8 99] 5 (0, 0))] := ⟨_, rfl⟩
  have h24 : Hs w (tabP tb (tot (newS 1 100)) (newS 1 100) :: Z) w23 := by
    rw [hZ, har, hxs]
    exact h23.focus (i := 5) rfl
  clear h23
  have hrd : ∀ {i : Nat} {b : Nat} {v : Int} (_ : Z[i]? = some (pt b (.cells #[.int .u8 v] 5 (0, 0)))), ∀ w', Hs w Z w' → Rd w' (some ⟨b, 0, none⟩) (inV .u8 [v]) := fun {i b v} hi w' h' => rd_blk (h'.at i hi)
  have step : ∀ {i : Nat} {x : R35} {v : Int} {b : Nat} {s s' : St} {w1 : World} {Rk : Value → Value → Value → World → Prop} {K0 Kr : Value → World → Prop}, xs[i]? = some x → i < 4 → (∃ q : Nat, Z[q]? = some (pt b (.cells #[.int .u8 v] 5 (0, 0)))) → x.f13a = some ⟨b, 0, none⟩ → x.f13n = 1 → OkB s → CkOk ⟨x, [v]⟩ → (0 ≤ s.lim ∧ s.lim ≤ 1073741824) → s.nx.length ≤ 65536 → putE s ⟨x, [v]⟩ = 0 → putT s ⟨x, [v]⟩ = s' →
      Hs w (tabP tb (tot s) s :: Z) w1 → (∀ w', Hs w (tabP tb (tot s') s' :: Z) w' → Rk (.pointer (some ⟨tb, 0, none⟩)) (.slice (some ⟨b22, 0, none⟩) 4 4) (.int .i64 ((i + 1 : Nat) : Int)) w') → F10_1B Rk K0 Kr (.pointer (some ⟨tb, 0, none⟩)) (.slice (some ⟨b22, 0, none⟩) 4 4) (.int .i64 (i : Int)) w1 := by
    intro i x v b s s' w1 Rk K0 Kr hx hi4 hb ha hn hok hck hlim hnx hE hT h hR
    obtain ⟨q, hq⟩ := hb
    unfold F10_1B
    simp only [rdP_mk, rdC_mk, rdI_mk, br_dec]
    refine ⟨fun _ => ?_, fun hlt => by exfalso; omega⟩
    refine ixS_to rfl hi4 ?_
    have hat : Rd w1 (some ⟨b22, 0, none⟩) (xs.flatMap R35.l) := by
      rw [← har']
      refine rd_blk (T := 36) (h.at 1 ?_)
      rw [hZ]; rfl
    refine ldR35_of (hat.atI (f := R35.l) (m := 15) (fun _ => rfl) hx) ?_
    refine cl (c11 (b := [v]) hok hck (by rw [hn]; rfl) hlim hnx (by rw [ha]; exact hrd hq) h) ?_
    rintro _ w6 ⟨rfl, h6⟩
    refine ⟨_, rfl, ?_⟩
    rw [hE, hT] at *
    rw [e0, br_false]
    have e1 : IntKind.wrap .i64 ((i : Int) + 1) = ((i + 1 : Nat) : Int) := by rw [wrap_i64 (by omega) (by omega)]; omega
    rw [e1]
    exact hR w6 h6
  have ok0 := newS_ok 1 100
  have k1 : CkOk (ckA 7 2 1 (some ⟨b2, 0, none⟩) 99) := ckA_ok (by decide)
  have k2 : CkOk (ckA 5 2 0 (some ⟨b7, 0, none⟩) 97) := ckA_ok (by decide)
  have k3 : CkOk (ckA 8 1 1 (some ⟨b12, 0, none⟩) 100) := ckA_ok (by decide)
  have k4 : CkOk (ckA 6 1 0 (some ⟨b17, 0, none⟩) 98) := ckA_ok (by decide)
  have ok1 := putT_ok ok0 k1 (by decide)
  rw [aw_1] at ok1
  have ok2 := putT_ok ok1 k2 (by show (100 : Int) ≤ _; decide)
  rw [aw_2] at ok2
  have ok3 := putT_ok ok2 k3 (by show (100 : Int) ≤ _; decide)
  rw [aw_3] at ok3
  have ok4 := putT_ok ok3 k4 (by show (100 : Int) ≤ _; decide)
  rw [aw_4] at ok4
  refine ⟨5, ?_⟩
  refine step (i := 0) (v := 99) (b := b2) (by rw [hxs]; rfl) (by omega) ⟨4, by rw [hZ]; rfl⟩ rfl rfl ok0 k1 (by decide) (by decide) (ae_1 _) (aw_1 _) h24 fun w' h' => ?_
  refine step (i := 1) (v := 97) (b := b7) (by rw [hxs]; rfl) (by omega) ⟨3, by rw [hZ]; rfl⟩ rfl rfl ok1 k2 (by show (0 : Int) ≤ 100 ∧ (100 : Int) ≤ _; decide) (by show 1 ≤ 65536; decide) (ae_2 _ _) (aw_2 _ _) h' fun w' h' => ?_
  refine step (i := 2) (v := 100) (b := b12) (by rw [hxs]; rfl) (by omega) ⟨2, by rw [hZ]; rfl⟩ rfl rfl ok2 k3 (by show (0 : Int) ≤ 100 ∧ (100 : Int) ≤ _; decide) (by show 1 ≤ 65536; decide) (ae_3 _ _ _) (aw_3 _ _ _) h' fun w' h' => ?_
  refine step (i := 3) (v := 98) (b := b17) (by rw [hxs]; rfl) (by omega) ⟨1, by rw [hZ]; rfl⟩ rfl rfl ok3 k4 (by show (0 : Int) ≤ 100 ∧ (100 : Int) ≤ _; decide) (by show 1 ≤ 65536; decide) (ae_4 _ _ _ _) (aw_4 _ _ _ _) h' fun w' h' => ?_
  show F10_1B _ _ _ _ _ _ _
  unfold F10_1B
  simp only [rdP_mk, rdC_mk, rdI_mk, br_dec]
  refine ⟨fun hlt => by exfalso; omega, fun _ _g => ?_⟩
  refine cl (c13s (m := ⟨0, 0, 0, false, [97, 98]⟩) (r := [⟨0, 1, 0, false, [99, 100]⟩]) rfl (by decide) h') ?_
  rintro _ w28 ⟨a1, c1, rfl, h28⟩
  refine exR38_of (R38.mk 0 0 0 false a1 2 c1) ⟨true, rfl, ?_⟩
  refine h28.alc fun b32 w33 h33 => ?_
  refine h33.stcL 0 rfl rfl fun w34 h34 => ?_
  refine cl (c13s (m := ⟨0, 1, 0, false, [99, 100]⟩) (r := []) rfl (by decide) (h34.focus (i := 1) rfl)) ?_
  rintro _ w35 ⟨a2, c2, rfl, h35⟩
  refine exR38_of (R38.mk 0 1 0 false a2 2 c2) ⟨true, rfl, ?_⟩
  refine h35.alc fun b39 w40 h40 => ?_
  refine h40.stcL 0 rfl rfl fun w41 h41 => ?_
  have h41 : Hs w (pt b39 (.cells (R38.mk 0 1 0 false a2 2 c2).c 39 (0, 0)) :: tabP tb (tot { aw4 with M := [] }) { aw4 with M := [] } :: slP 5 1 a2 2 c2 (inV .u8 [99, 100]) :: pt b32 (.cells (R38.mk 0 0 0 false a1 2 c1).c 39 (0, 0)) :: slP 5 1 a1 2 c1 (inV .u8 [97, 98]) :: Z) w41 := h41
  simp only [add_mk]
  refine h41.ldC 3 rfl rfl ?_
  refine ⟨_, _, run_str (bs := [97, 98]) (h41.rd 4 rfl) (by simp), ?_⟩
  have e1 : (ByteArray.toList (strOf [97, 98]) == ByteArray.toList ⟨#[97, 98]⟩) = true := by simp [strOf]
  rw [e1, br_true]
  refine h41.ldC 0 rfl rfl ?_
  refine ⟨_, _, run_str (bs := [99, 100]) (h41.rd 2 rfl) (by simp), ?_⟩
  have e2 : (ByteArray.toList (strOf [99, 100]) == ByteArray.toList ⟨#[99, 100]⟩) = true := by simp [strOf]
  rw [e2, br_true]
  refine h41.ldI 0 rfl rfl ?_
  have e3 : ((1 : Int) == 1) = true := rfl
  rw [e3, br_true]
  have ok5 : OkB { aw4 with M := [] } := ⟨⟨ok4.key, ok4.rng, ok4.fix, ok4.fkey, ok4.cnt, ok4.rows, ok4.dis, by simp, by decide⟩, ok4.frng, ok4.whole⟩
  refine cl (c14s (cum := 4) ok5 (h41.focus (i := 1) rfl)) ?_
  have e4 : fixS ({ aw4 with M := [] } : St).F 4 = [5, 6, 7, 8] := aw_fix
  rw [e4]
  rintro _ w49 ⟨a3, c3, rfl, h49⟩
  refine ⟨_, _, _, rfl, ?_⟩
  refine h49.alc fun b52 w53 h53 => ?_
  refine cl (c15 (x := [5, 6, 7, 8]) (y := [5, 6, 7, 8]) (h53.rd 1 rfl) (rd_blk (h53.at 0 rfl)) (by decide)) ?_
  rintro _ w54 ⟨rfl, s54⟩
  refine ⟨_, rfl, fun _g => ?_⟩
  simp only [rdB_mk]
  refine ⟨by first | rfl | trivial | simp, ?_⟩
  exact (h53.same s54).old
end
end Go.Proofs.Ytaflmpbeonoilaa
namespace Go.Proofs.Ytaflmpbeonoilaa
open Go Go.Sh Go.RowKit
section
variable {w : World}
theorem c69 {a : Option Addr} {c : Nat} {X : List Int} {t : Int} (hr : Rd w a (inV .u32 X)) (hl : X.length ≤ 140737488355328) : Calls Try.prog 69 #[.slice a X.length c, .int .u32 t] w (rt (KR (.int .i64 (idxV (X.findIdx? fun x => t == x))) w)) := by
  refine F69_ok ?_
  unfold F69
  simp only [rdC_mk, rdI_mk]
  have loop : ∀ (i j k : Nat) (K0 : World → Prop) (Kr : Value → World → Prop), j + i = X.length → (∀ x ∈ X.take j, (t == x) = false) → i < k → (X.findIdx? (fun x => t == x) = none → K0 w) → (∀ q : Nat, X.findIdx? (fun x => t == x) = some q → Kr (.int .i64 (q : Int)) w) →
      F69_1 K0 Kr k (.slice a X.length c) (.int .u32 t) (.int .i64 (X.length : Int)) (.int .i64 (j : Int)) w := by
    intro i
    induction i with
    | zero =>
      intro j k K0 Kr hj hf hk h0 h1
      obtain ⟨k, rfl⟩ : ∃ j, k = j + 1 := ⟨k - 1, by omega⟩
      show F69_1B _ _ _ _ _ _ _ _
      unfold F69_1B
      simp only [rdC_mk, rdI_mk, br_dec]
      refine ⟨fun hlt => by exfalso; omega, fun _ => h0 ?_⟩
      rw [List.take_of_length_le (by omega)] at hf
      exact List.findIdx?_eq_none_iff.2 hf
    | succ i ih =>
      intro j k K0 Kr hj hf hk h0 h1
      obtain ⟨k, rfl⟩ : ∃ j, k = j + 1 := ⟨k - 1, by omega⟩
      show F69_1B _ _ _ _ _ _ _ _
      unfold F69_1B
      simp only [rdC_mk, rdI_mk, br_dec]
      refine ⟨fun _ => ?_, fun hlt => by exfalso; omega⟩
      obtain ⟨u, hu⟩ : ∃ u, X[j]? = some u := ⟨X[j]'(by omega), by simp⟩
      obtain ⟨ad, ha⟩ := hr.some (by rw [inV_length]; omega)
      have hr' : Rd w (some ad) (inV .u32 X) := by rw [← ha]; exact hr
      rw [ha]
      refine ixS_to rfl (by omega) ?_
      rw [Nat.mul_one]
      refine ldI_c (hr'.at (inV_at hu)) ?_
      rw [br_iff]
      refine ⟨fun hb => h1 j ?_, fun hb => ?_⟩
      · rw [List.findIdx?_eq_some_iff_getElem]
        have hx : X[j] = u := (List.getElem?_eq_some_iff.1 hu).2
        refine ⟨by omega, by rw [hx]; exact hb, fun q hq => ?_⟩
        have := hf X[q] (by rw [List.mem_take_iff_getElem]; exact ⟨q, by omega, rfl⟩)
        rw [this]; simp
      · have e1 : IntKind.wrap .i64 ((j : Int) + 1) = ((j + 1 : Nat) : Int) := by rw [wrap_i64 (by omega) (by omega)]; omega
        rw [e1, ← ha]
        refine ih (j + 1) k K0 Kr (by omega) (fun x hx => ?_) (by omega) h0 h1
        rw [List.take_add_one, hu] at hx
        rcases List.mem_append.1 hx with h | h
        · exact hf x h
        · simp at h; subst h; exact hb
  refine ⟨X.length + 1, loop X.length 0 _ _ _ (by omega) (by simp) (by omega) (fun hn _g => ?_) fun j hj _g => ?_⟩
  · rw [hn]; exact KR.mk _ _
  · simp only [rdI_mk]
    rw [hj]; exact KR.mk _ _
theorem idx_mem {X : List Int} {t : Int} : decide (idxV (X.findIdx? fun x => t == x) ≥ 0) = X.contains t := by
  cases h : X.findIdx? fun x => t == x with
  | none =>
    have : t ∉ X := fun hm => by
      have := List.findIdx?_eq_none_iff.1 h t hm
      simp at this
    simp [idxV, this]
  | some q =>
    obtain ⟨hq, hx, _⟩ := List.findIdx?_eq_some_iff_getElem.1 h
    have : t ∈ X := by
      have e : t = X[q] := by simpa using hx
      rw [e]; exact List.getElem_mem hq
    simp [idxV, this]
theorem c48 {a : Option Addr} {c : Nat} {X : List Int} {t : Int} (hr : Rd w a (inV .u32 X)) (hl : X.length ≤ 140737488355328) : Calls Try.prog 48 #[.slice a X.length c, .int .u32 t] w (rt (KR (.bool (X.contains t)) w)) := by
  refine F48_ok ?_
  unfold F48
  simp only [rdC_mk, rdI_mk]
  refine clr (c69 hr hl) ⟨_, rfl, ?_⟩
  rw [idx_mem]
  exact KR.mk _ _
theorem c47 {a : Option Addr} {c b3 : Nat} {X : List Int} {t : Int} (hr : Rd w a (inV .u32 X)) (hl : X.length ≤ 140737488355328) (hb : w.heap[b3]? = some (.cells #[.int .u32 t] 30 (0, 0))) : Calls Try.prog 47 #[.slice a X.length c, .pointer (some ⟨b3, 0, none⟩)] w (rt (KR (.bool (X.contains t)) w)) := by
  refine F47_ok ?_
  unfold F47
  simp only [rdC_mk, rdA_mk]
  refine ldI_at hb rfl ?_
  exact clr (c48 hr hl) ⟨_, rfl, KR.mk _ _⟩
end
end Go.Proofs.Ytaflmpbeonoilaa
