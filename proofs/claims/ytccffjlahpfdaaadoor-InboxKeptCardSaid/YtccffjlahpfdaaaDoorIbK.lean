/- Own text: part of the shallow reading of the code and of the contracts that are proved over it. -/
import Derived.Test.YtccffjlahpfdaaaDoorIbJ
namespace Go.Proofs.YtccffjlahpfdaaaDoor
open Go Go.Sh Go.Sp
section
variable {W w : World} {L : List HP} {bb rr : Nat} {D : BD} {R : RD} {x : BX}
/-! two reports -/
structure Like (w : World) (c1 c2 : CH) : Prop where
  k : c1.k = c2.k
  fl : c1.fl = c2.fl
  tsn : c1.tsn = c2.tsn
  win : c1.win = c2.win
  bl : c1.bl = c2.bl
  pl : c1.pl = c2.pl
  g : ∃ G, G.length ≤ 65536 ∧ c1.gl = G.length ∧ c2.gl = G.length ∧ Rd w c1.ga (gapV G) ∧ Rd w c2.ga (gapV G)
  n : ∃ G, G.length ≤ 65536 ∧ c1.nl = G.length ∧ c2.nl = G.length ∧ Rd w c1.na (gapV G) ∧ Rd w c2.na (gapV G)
  d : ∃ X, X.length ≤ 65536 ∧ c1.dl = X.length ∧ c2.dl = X.length ∧ Rd w c1.da (nV X) ∧ Rd w c2.da (nV X)
theorem c47 {c1 c2 : CH} (e : Like w c1 c2) : Calls Tryd.prog 47 #[.agg (chA c1), .agg (chA c2)] w (rt fun v w' => v = .bool true ∧ Same w w') := by
  obtain ⟨G, hG, g1, g2, g3, g4⟩ := e.g
  obtain ⟨H, hH, n1, n2, n3, n4⟩ := e.n
  obtain ⟨X, hX, d1, d2, d3, d4⟩ := e.d
  refine F47_ok ?_
  unfold F47
  refine ⟨_, _, _, _, _, _, _, _, _, _, _, _, _, _, _, _, _, _, _, _, _, _, _, _, _, rfl, _, _, _, _, _, _, _, _, _, _, _, _, _, _, _, _, _, _, _, _, _, _, _, _, _, rfl, ?_⟩
  refine (Hs.start w).alc fun b1 w1 h1 => h1.alc fun b2 w2 h2 => ?_
  have h2 : Hs w [pt b2 (.cells (chA c2) 54 (0, 0)), pt b1 (.cells (chA c1) 54 (0, 0))] w2 := h2
  have eI : ∀ x : Int, (x == x) = true := fun x => by simp
  simp only [add_mk]
  refine h2.ldI 1 rfl rfl (h2.ldI 0 rfl rfl ?_)
  rw [e.k, eI, br_true]
  refine h2.ldI 1 rfl rfl (h2.ldI 0 rfl rfl ?_)
  rw [e.tsn, eI, br_true]
  refine h2.ldI 1 rfl rfl (h2.ldI 0 rfl rfl ?_)
  rw [e.win, eI, br_true]
  refine h2.ldC 1 rfl rfl (h2.ldC 0 rfl rfl ?_)
  rw [g1, g2]
  refine cl (c68 (h2.rd_old g3) (h2.rd_old g4) (by omega)) ?_
  rintro _ w3 ⟨rfl, s3⟩
  refine ⟨_, rfl, ?_⟩
  have h3 := h2.same s3
  rw [decide_eq_true rfl, br_true]
  refine h3.ldC 1 rfl rfl (h3.ldC 0 rfl rfl ?_)
  rw [n1, n2]
  refine cl (c68 (h3.rd_old n3) (h3.rd_old n4) (by omega)) ?_
  rintro _ w4 ⟨rfl, s4⟩
  refine ⟨_, rfl, ?_⟩
  have h4 := h3.same s4
  rw [decide_eq_true rfl, br_true]
  refine h4.ldC 1 rfl rfl (h4.ldC 0 rfl rfl ?_)
  rw [d1, d2]
  refine cl (c25 (h4.rd_old d3) (h4.rd_old d4) (by omega)) ?_
  rintro _ w5 ⟨rfl, s5⟩
  refine ⟨_, rfl, ?_⟩
  have h5 := h4.same s5
  rw [decide_eq_true rfl, br_true]
  refine h5.ldC 1 rfl rfl (h5.ldC 1 rfl rfl (h5.ldC 0 rfl rfl (h5.ldC 0 rfl rfl ?_)))
  rw [e.bl, e.pl, eI, br_true]
  refine h5.ldI 1 rfl rfl (h5.ldI 0 rfl rfl ?_)
  rw [e.fl, eI]
  exact ⟨rfl, h5.1⟩
theorem rep_lens (hr : RngX x) (ho : OkX x) (N : Int) : (gpsOf x N).length ≤ 65536 ∧ (nrOf x N).length ≤ 65536 ∧ (dupOf x N).length ≤ 65536 := by
  have key : ∀ q : Nat → Bool, (gapS (x.S.filter q) N).length ≤ 65536 := fun q => by
    have h1 := (gap_facts hr.rise hr.rng (q := q) x.S.length).2
    rw [List.take_length] at h1
    unfold gapS
    rw [List.length_take]; omega
  refine ⟨key _, ?_, ?_⟩
  · unfold nrOf; split
    · exact key _
    · simp
  · unfold dupOf; rw [List.length_take]; have := ho.dups; omega
theorem like_rep (hr : RngX x) (ho : OkX x) {N win : Int} {r1 r2 : RP} {L1 L2 : List HP} (h1 : Hs W (repL x N r1 ++ L1) w) (h2 : Hs W (repL x N r2 ++ L2) w) : Like w (repCH x win N r1) (repCH x win N r2) := by
  obtain ⟨l1, l2, l3⟩ := rep_lens hr ho N
  exact ⟨rfl, rfl, rfl, rfl, rfl, rfl, ⟨_, l1, rfl, rfl, h1.rd 0 rfl, h2.rd 0 rfl⟩, ⟨_, l2, rfl, rfl, h1.rd 1 rfl, h2.rd 1 rfl⟩, ⟨_, l3, rfl, rfl, h1.rd 2 rfl, h2.rd 2 rfl⟩⟩
theorem like_zero : Like w zCH zCH := ⟨rfl, rfl, rfl, rfl, rfl, rfl, ⟨[], by simp, rfl, rfl, Rd.nil _ _, Rd.nil _ _⟩, ⟨[], by simp, rfl, rfl, Rd.nil _ _, Rd.nil _ _⟩, ⟨[], by simp, rfl, rfl, Rd.nil _ _, Rd.nil _ _⟩⟩
/-! the document's report -/
def RefPost (W : World) (L : List HP) (rr : Nat) (R : RD) (x : BX) (win N : Int) (v : Value) (w' : World) : Prop := (¬ (0 ≤ N ∧ N ≤ 4096) ∧ v = .tuple #[.agg (chA zCH), .int .i64 1] ∧ Hs W (refL rr R x ++ L) w') ∨ ((0 ≤ N ∧ N ≤ 4096) ∧ ∃ r R', v = .tuple #[.agg (chA (repCH x win N r)), .int .i64 0] ∧ Hs W (repL x N r ++ (refL rr R' x.rep ++ L)) w')
theorem c46_3 {Kr : Value → Value → World → Prop} {N win : Int} (hN : 0 ≤ N ∧ N ≤ 4096) (ho : OkX x) {rb cb : Nat} {ga na : Option Addr} {gc nc : Nat}
    (h : Hs W (pt cb (.cells (chA ⟨if x.nr = true then 16 else 3, 0, x.cum, 0, 0, 0, 0, win, 0, 0, ga, (gpsOf x N).length, gc, na, (nrOf x N).length, nc, none, 0, 0, none, 0, 0, none, 0, 0⟩) 54 (0, 0)) :: pt rb (.cells (chA zCH) 54 (0, 0)) :: (refL rr R x ++ (slP 60 2 ga (gpsOf x N).length gc (gapV (gpsOf x N)) :: slP 60 2 na (nrOf x N).length nc (gapV (nrOf x N)) :: L))) w)
    (hK : ∀ w' R' r, Hs W (pt rb (.cells (chA (repCH x win N r)) 54 (0, 0)) :: (repL x N r ++ (refL rr R' x.rep ++ L))) w' → Kr (.pointer (some ⟨rb, 0, none⟩)) (.int .i64 0) w') :
    F46_3 Kr (.pointer (some ⟨rr, 0, none⟩)) (.int .i64 N) (.pointer (some ⟨rb, 0, none⟩)) (.pointer (some ⟨cb, 0, none⟩)) w := by
  have hdu := ho.dups
  unfold F46_3
  simp only [rdP_mk, rdI_mk, rdA_mk]
  obtain ⟨ch, hch⟩ : ∃ ch : Option Addr → Nat → Nat → CH, ch = fun da dl dc => ⟨if x.nr = true then 16 else 3, 0, x.cum, 0, 0, 0, 0, win, 0, 0, ga, (gpsOf x N).length, gc, na, (nrOf x N).length, nc, da, dl, dc, none, 0, 0, none, 0, 0⟩ := ⟨_, rfl⟩
  obtain ⟨M, hM⟩ : ∃ M : List HP, M = slP 60 2 ga (gpsOf x N).length gc (gapV (gpsOf x N)) :: slP 60 2 na (nrOf x N).length nc (gapV (nrOf x N)) :: L := ⟨_, rfl⟩
  rw [← hM] at h
  have hdl : (dupOf x N).length = min N.toNat x.dup.length := by unfold dupOf; rw [List.length_take]
  have loop : ∀ (i j : Nat) (da : Option Addr) (dc : Nat) (w1 : World) (k : Nat) (K0 : Value → Value → Value → World → Prop), j + i = (dupOf x N).length → Hs W (slP 22 1 da j dc (nV (x.dup.take j)) :: pt cb (.cells (chA (ch da j dc)) 54 (0, 0)) :: pt rb (.cells (chA zCH) 54 (0, 0)) :: (refL rr R x ++ M)) w1 → i < k →
      (∀ w' a c, Hs W (slP 22 1 a (dupOf x N).length c (nV (dupOf x N)) :: pt cb (.cells (chA (ch a (dupOf x N).length c)) 54 (0, 0)) :: pt rb (.cells (chA zCH) 54 (0, 0)) :: (refL rr R x ++ M)) w' → K0 (.pointer (some ⟨rr, 0, none⟩)) (.pointer (some ⟨rb, 0, none⟩)) (.pointer (some ⟨cb, 0, none⟩)) w') →
      F46_2 K0 k (.pointer (some ⟨rr, 0, none⟩)) (.int .i64 N) (.pointer (some ⟨rb, 0, none⟩)) (.pointer (some ⟨cb, 0, none⟩)) (.int .i64 (j : Int)) w1 := by
    intro i
    induction i with
    | zero =>
      intro j da dc w1 k K0 hj hw hk hK0
      obtain ⟨k, rfl⟩ : ∃ j, k = j + 1 := ⟨k - 1, by omega⟩
      show F46_2B _ _ _ _ _ _ _ _
      unfold F46_2B
      simp only [rdP_mk, rdI_mk, rdA_mk, nn_some, add_mk]
      refine hw.ldC 3 rfl rfl ?_
      have e : x.dup.take j = dupOf x N := by
        unfold dupOf; rw [List.take_eq_take_iff]; omega
      have ej : j = (dupOf x N).length := by omega
      have fin := hK0 w1 da dc (by rw [← ej, ← e]; exact hw)
      rw [br_dec]
      refine ⟨fun h1 => ?_, fun h1 => fin⟩
      rw [br_dec]
      exact ⟨fun h2 => by exfalso; omega, fun _ => fin⟩
    | succ i ih =>
      intro j da dc w1 k K0 hj hw hk hK0
      obtain ⟨k, rfl⟩ : ∃ j, k = j + 1 := ⟨k - 1, by omega⟩
      show F46_2B _ _ _ _ _ _ _ _
      unfold F46_2B
      simp only [rdP_mk, rdI_mk, rdA_mk, nn_some, add_mk]
      refine hw.ldC 3 rfl rfl ?_
      rw [br_dec]
      refine ⟨fun _ => ?_, fun h => by exfalso; omega⟩
      rw [br_dec]
      refine ⟨fun _ => ?_, fun h => by exfalso; omega⟩
      unfold F46_1 drw
      simp only [rdP_mk, rdI_mk, rdA_mk, nn_some, add_mk]
      have h2 := hw.drew
      generalize w1.drew = w2 at h2 ⊢
      refine h2.ldC 1 rfl (by rw [hch]; rfl) (h2.ldC 3 rfl rfl ?_)
      obtain ⟨y, hy⟩ : ∃ y, x.dup[j]? = some y := ⟨x.dup[j]'(by omega), by simp⟩
      have hrd := h2.rd 6 rfl
      obtain ⟨ad, hod⟩ := hrd.some (by rw [nV_length]; omega)
      rw [hod] at hrd ⊢
      refine ixS_of (by omega) (by omega) ?_
      rw [Int.toNat_natCast, Nat.mul_one]
      refine ldI_c (hrd.at (nV_at hy)) ⟨Pres.of_Same ((Fr.refl w2).alloc _), ?_⟩
      dsimp only
      refine h2.push E30 0 rfl (news := #[_]) rfl (by simp [Value.oneCell']) (by omega) (by omega) ?_
      intro a' c' w3 h3
      refine h3.stc 1 rfl (by rw [hch]; exact (show 12 < 15 by decide)) fun w4 h4 _g => ?_
      have e1 : IntKind.wrap .i64 ((j : Int) + 1) = ((j + 1 : Nat) : Int) := by rw [wrap_i64 (by omega) (by omega)]; omega
      rw [e1]
      refine ih (j + 1) a' c' w4 k K0 (by omega) ?_ (by omega) hK0
      have e2 : nV (x.dup.take (j + 1)) = nV (x.dup.take j) ++ [.int .u32 y] := by rw [List.take_add_one, hy]; exact nV_snoc _ _
      rw [e2]
      rw [hch] at h4 ⊢
      exact h4
  refine ⟨(dupOf x N).length + 1, loop (dupOf x N).length 0 none 0 w _ _ (by omega) (by rw [hch]; exact h.nil 22 1) (by omega) fun w1 da dc h1 _g => ?_⟩
  simp only [rdP_mk, rdA_mk, nn_some, add_mk]
  refine h1.stc 3 rfl (by simp) fun w2 h2 => h2.stc 3 rfl (by simp) fun w3 h3 => h3.stc 3 rfl (by simp) fun w4 h4 => h4.stc 3 rfl (by simp) fun w5 h5 => h5.stc 3 rfl (by simp) fun w6 h6 => ?_
  have hc : Hs W (slP 22 1 da (dupOf x N).length dc (nV (dupOf x N)) :: pt cb (.cells (chA (repCH x win N ⟨ga, gc, na, nc, da, dc⟩)) 54 (0, 0)) :: pt rb (.cells (chA zCH) 54 (0, 0)) :: pt rr (.cells #[.pointer (some ⟨R.s, 0, none⟩), .bool x.nr, .int .i64 x.delay, .slice R.fa x.fx.length R.fc, .slice none 0 0, .int .i64 0, .bool true, .bool false, .int .i64 0] 36 (0, 0)) :: refP R.s x.cum x.S :: slP 22 1 R.fa x.fx.length R.fc (nV x.fx) :: slP 22 1 R.da x.dup.length R.dc (nV x.dup) :: slP 60 2 ga (gpsOf x N).length gc (gapV (gpsOf x N)) :: slP 60 2 na (nrOf x N).length nc (gapV (nrOf x N)) :: L) w6 := by
    rw [hch, hM] at h6
    exact h6
  refine lod15_ok (K := fun c => sto15 ⟨rb, 0, none⟩ c w6 fun w => Kr (.pointer (some ⟨rb, 0, none⟩)) (.int .i64 0) w) hc 1 rfl ?_
  refine sto15_ok hc 2 rfl _ fun w11 h11 => hK w11 ⟨R.s, R.fa, R.fc, none, 0⟩ ⟨ga, gc, na, nc, da, dc⟩ ?_
  have h12 := ((h11.nil 22 1).erase 7).erase 2
  exact Hs.re (X := [_, _, _, _, _, _, _, _]) (L := L) (n := 8) h12 rfl (is := [2, 6, 7, 1, 3, 4, 5, 0]) (by decide)
theorem c46 (h : Hs W (refL rr R x ++ L) w) (ho : OkX x) (win N : Int) : Calls Tryd.prog 46 #[.pointer (some ⟨rr, 0, none⟩), .int .u32 win, .int .i64 N] w (rt (RefPost W L rr R x win N)) := by
  refine F46_ok ?_
  unfold F46
  simp only [rdP_mk, rdI_mk]
  refine h.alc fun rb w2 h2 => ?_
  have err : ∀ {K : CH → World → Prop}, (∀ w', Hs W (refL rr R x ++ L) w' → K zCH w') → sto15 ⟨rb, 0, none⟩ zCH w2 fun w' => lod15 ⟨rb, 0, none⟩ w' fun c => K c w' := by
    intro K hK
    refine sto15_ok (c0 := zCH) h2 0 rfl zCH fun w3 h3 => lod15_ok (c := zCH) h3 0 rfl (hK w3 h3.drop)
  rw [br_dec]
  refine ⟨fun hN => err (K := fun c w' => RefPost W L rr R x win N (.tuple #[.agg (chA c), .int .i64 1]) w') fun w' h' => .inl ⟨by omega, rfl, h'⟩, fun hN => ?_⟩
  rw [br_dec]
  refine ⟨fun hN2 => err (K := fun c w' => RefPost W L rr R x win N (.tuple #[.agg (chA c), .int .i64 1]) w') fun w' h' => .inl ⟨by omega, rfl, h'⟩, fun hN2 => ?_⟩
  have hok : 0 ≤ N ∧ N ≤ 4096 := by omega
  have fin : ∀ w' R' r, Hs W (pt rb (.cells (chA (repCH x win N r)) 54 (0, 0)) :: (repL x N r ++ (refL rr R' x.rep ++ L))) w' → lod15 ⟨rb, 0, none⟩ w' fun c => RefPost W L rr R x win N (.tuple #[.agg (chA c), .int .i64 0]) w' :=
    fun w' R' r h' => lod15_ok (c := repCH x win N r) h' 0 rfl (.inr ⟨hok, r, R', rfl, h'.drop⟩)
  unfold F46_4
  simp only [rdP_mk, rdI_mk, rdA_mk, nn_some, add_mk]
  obtain ⟨cs, hcs, hc0⟩ := ref_cum h2.drop
  refine h2.ldP 1 rfl rfl ?_
  simp only [nn_some, add_mk]
  refine ldI_at hcs hc0 (h2.alc fun cb w3 h3 => ?_)
  refine sto15_ok (c0 := zCH) h3 0 rfl ⟨3, 0, x.cum, 0, 0, 0, 0, win, 0, 0, none, 0, 0, none, 0, 0, none, 0, 0, none, 0, 0, none, 0, 0⟩ fun w4 h4 => ?_
  refine h4.ldB 2 rfl rfl ?_
  have hr4 : Hs W (refL rr R x ++ ([pt cb _, pt rb _] ++ L)) w4 := (Hs.flip (X := [_, _]) (Y := refL rr R x)).1 h4
  refine cl (c67 hr4 ho false (!x.nr) (N := N)) ?_
  have eg : (fun d => !x.nr || (decide (nm x.cum d ∈ x.fx) == false)) = (fun d => !x.nr || !decide (nm x.cum d ∈ x.fx)) := by
    funext d; cases decide (nm x.cum d ∈ x.fx) <;> rfl
  rw [eg]
  rintro _ w5 ⟨ga, gc, rfl, o5, s5⟩
  refine ⟨_, _, _, rfl, ?_⟩
  have h5 := h4.own_new s5 o5
  refine h5.stc 1 rfl (show 10 < 15 by decide) fun w6 h6 => h6.ldB 3 rfl rfl ?_
  have h6 : Hs W (pt cb (.cells (chA ⟨3, 0, x.cum, 0, 0, 0, 0, win, 0, 0, ga, (gpsOf x N).length, gc, none, 0, 0, none, 0, 0, none, 0, 0, none, 0, 0⟩) 54 (0, 0)) :: pt rb (.cells (chA zCH) 54 (0, 0)) :: (refL rr R x ++ (slP 60 2 ga (gpsOf x N).length gc (gapV (gpsOf x N)) :: L))) w6 := Hs.behind (L := _ :: _ :: refL rr R x) h6
  cases hnr : x.nr with
  | false =>
    rw [br_false]
    have e1 : nrOf x N = [] := by unfold nrOf; rw [hnr]; rfl
    have h7 : Hs W (pt cb (.cells (chA ⟨3, 0, x.cum, 0, 0, 0, 0, win, 0, 0, ga, (gpsOf x N).length, gc, none, 0, 0, none, 0, 0, none, 0, 0, none, 0, 0⟩) 54 (0, 0)) :: pt rb (.cells (chA zCH) 54 (0, 0)) :: (refL rr R x ++ (slP 60 2 ga (gpsOf x N).length gc (gapV (gpsOf x N)) :: slP 60 2 none 0 0 (gapV []) :: L))) w6 :=
      Hs.cast (Hs.behind (L := (_ :: _ :: refL rr R x) ++ [_]) (M := L) (by have := h6.nil 60 2; simpa using this)) (by simp; rfl)
    refine c46_3 hok ho (win := win) (ga := ga) (gc := gc) (na := none) (nc := 0) (by rw [hnr, e1]; exact h7) fun w' R' r h' _g => ?_
    simp only [rdA_mk, rdI_mk]
    intro _g
    exact fin w' R' r h'
  | true =>
    rw [br_true]
    refine h6.stc 0 rfl (show 0 < 15 by decide) fun w7 h7 => ?_
    have h7 : Hs W (pt cb (.cells (chA ⟨16, 0, x.cum, 0, 0, 0, 0, win, 0, 0, ga, (gpsOf x N).length, gc, none, 0, 0, none, 0, 0, none, 0, 0, none, 0, 0⟩) 54 (0, 0)) :: pt rb (.cells (chA zCH) 54 (0, 0)) :: (refL rr R x ++ (slP 60 2 ga (gpsOf x N).length gc (gapV (gpsOf x N)) :: L))) w7 := h7
    have hr7 : Hs W (refL rr R x ++ ([pt cb _, pt rb _] ++ (slP 60 2 ga (gpsOf x N).length gc (gapV (gpsOf x N)) :: L))) w7 := (Hs.flip (X := [_, _]) (Y := refL rr R x)).1 h7
    refine cl (c67 hr7 ho true false (N := N)) ?_
    have eg2 : (fun d => false || (decide (nm x.cum d ∈ x.fx) == true)) = (fun d => decide (nm x.cum d ∈ x.fx)) := by
      funext d; cases decide (nm x.cum d ∈ x.fx) <;> rfl
    rw [eg2]
    rintro _ w8 ⟨na, nc, rfl, o8, s8⟩
    refine ⟨_, _, _, rfl, ?_⟩
    have e1 : nrOf x N = gapS (x.S.filter fun d => decide (nm x.cum d ∈ x.fx)) N := by unfold nrOf; rw [if_pos hnr]
    rw [← e1] at o8 ⊢
    have h8 := h7.own_new s8 o8
    refine h8.stc 1 rfl (show 11 < 15 by decide) fun w9 h9 => ?_
    have h9 : Hs W (pt cb (.cells (chA ⟨16, 0, x.cum, 0, 0, 0, 0, win, 0, 0, ga, (gpsOf x N).length, gc, na, (nrOf x N).length, nc, none, 0, 0, none, 0, 0, none, 0, 0⟩) 54 (0, 0)) :: pt rb (.cells (chA zCH) 54 (0, 0)) :: (refL rr R x ++ (slP 60 2 ga (gpsOf x N).length gc (gapV (gpsOf x N)) :: slP 60 2 na (nrOf x N).length nc (gapV (nrOf x N)) :: L))) w9 :=
      Hs.cast (Hs.behind (L := (_ :: _ :: refL rr R x) ++ [_]) (M := L) (by simpa using h9)) (by simp; rfl)
    refine c46_3 hok ho (win := win) (ga := ga) (gc := gc) (na := na) (nc := nc) (by rw [if_pos hnr]; exact h9) fun w' R' r h' _g => ?_
    simp only [rdA_mk, rdI_mk]
    intro _g
    exact fin w' R' r h'
end
end Go.Proofs.YtccffjlahpfdaaaDoor
