/- Own text: part of the shallow reading of the code and of the contracts that are proved over it. -/
import Derived.Test.YtccffjlahpfdaaaDoorIbI
namespace Go.Proofs.YtccffjlahpfdaaaDoor
open Go Go.Sh Go.Sp
/-! chunks -/
structure CH where
  k : Int
  fl : Int
  tsn : Int
  a4 : Int
  a5 : Int
  a6 : Int
  a7 : Int
  win : Int
  a9 : Int
  a10 : Int
  ga : Option Addr
  gl : Nat
  gc : Nat
  na : Option Addr
  nl : Nat
  nc : Nat
  da : Option Addr
  dl : Nat
  dc : Nat
  ba : Option Addr
  bl : Nat
  bc : Nat
  pa : Option Addr
  pl : Nat
  pc : Nat
def chA (c : CH) : Array Value := #[.int .u8 c.k, .int .u8 c.fl, .int .u32 c.tsn, .int .u16 c.a4, .int .u16 c.a5, .int .u32 c.a6, .int .u32 c.a7, .int .u32 c.win, .int .u16 c.a9, .int .u16 c.a10, .slice c.ga c.gl c.gc, .slice c.na c.nl c.nc, .slice c.da c.dl c.dc, .slice c.ba c.bl c.bc, .slice c.pa c.pl c.pc]
def zCH : CH := ⟨0, 0, 0, 0, 0, 0, 0, 0, 0, 0, none, 0, 0, none, 0, 0, none, 0, 0, none, 0, 0, none, 0, 0⟩
def sto15 (a : Addr) (c : CH) (w : World) (K : World → Prop) : Prop :=
  stc (a.add 0) (.int .u8 c.k) w fun w => stc (a.add 1) (.int .u8 c.fl) w fun w => stc (a.add 2) (.int .u32 c.tsn) w fun w => stc (a.add 3) (.int .u16 c.a4) w fun w => stc (a.add 4) (.int .u16 c.a5) w fun w => stc (a.add 5) (.int .u32 c.a6) w fun w => stc (a.add 6) (.int .u32 c.a7) w fun w => stc (a.add 7) (.int .u32 c.win) w fun w => stc (a.add 8) (.int .u16 c.a9) w fun w => stc (a.add 9) (.int .u16 c.a10) w fun w => stc (a.add 10) (.slice c.ga c.gl c.gc) w fun w => stc (a.add 11) (.slice c.na c.nl c.nc) w fun w => stc (a.add 12) (.slice c.da c.dl c.dc) w fun w => stc (a.add 13) (.slice c.ba c.bl c.bc) w fun w => stc (a.add 14) (.slice c.pa c.pl c.pc) w K
def lod15 (a : Addr) (w : World) (K : CH → Prop) : Prop :=
  ldI .u8 (a.add 0) w fun k => ldI .u8 (a.add 1) w fun fl => ldI .u32 (a.add 2) w fun tsn => ldI .u16 (a.add 3) w fun a4 => ldI .u16 (a.add 4) w fun a5 => ldI .u32 (a.add 5) w fun a6 => ldI .u32 (a.add 6) w fun a7 => ldI .u32 (a.add 7) w fun win => ldI .u16 (a.add 8) w fun a9 => ldI .u16 (a.add 9) w fun a10 => ldC (a.add 10) w fun ga gl gc => ldC (a.add 11) w fun na nl nc => ldC (a.add 12) w fun da dl dc => ldC (a.add 13) w fun ba bl bc => ldC (a.add 14) w fun pa pl pc => K ⟨k, fl, tsn, a4, a5, a6, a7, win, a9, a10, ga, gl, gc, na, nl, nc, da, dl, dc, ba, bl, bc, pa, pl, pc⟩
section
variable {W w : World} {L : List HP}
theorem sto15_ok {b : Nat} {c0 : CH} (h : Hs W L w) (i : Nat) (hi : L[i]? = some (pt b (.cells (chA c0) 54 (0, 0)))) (c : CH) {K : World → Prop} (hk : ∀ w', Hs W (L.set i (pt b (.cells (chA c) 54 (0, 0)))) w' → K w') : sto15 ⟨b, 0, none⟩ c w K := by
  have hl := (List.getElem?_eq_some_iff.1 hi).1
  have hs : ∀ A : HP, (L.set i A)[i]? = some A := fun A => by simp [hl]
  unfold sto15
  simp only [add_mk]
  refine h.stc i hi (show 0 < 15 by decide) fun w1 h1 => ?_
  have g1 : Hs W (L.set i (pt b (.cells (chA ⟨c.k, c0.fl, c0.tsn, c0.a4, c0.a5, c0.a6, c0.a7, c0.win, c0.a9, c0.a10, c0.ga, c0.gl, c0.gc, c0.na, c0.nl, c0.nc, c0.da, c0.dl, c0.dc, c0.ba, c0.bl, c0.bc, c0.pa, c0.pl, c0.pc⟩) 54 (0, 0)))) w1 := h1
  clear h1
  refine g1.stc i (hs _) (show 1 < 15 by decide) fun w2 h2 => ?_
  rw [List.set_set] at h2
  have g2 : Hs W (L.set i (pt b (.cells (chA ⟨c.k, c.fl, c0.tsn, c0.a4, c0.a5, c0.a6, c0.a7, c0.win, c0.a9, c0.a10, c0.ga, c0.gl, c0.gc, c0.na, c0.nl, c0.nc, c0.da, c0.dl, c0.dc, c0.ba, c0.bl, c0.bc, c0.pa, c0.pl, c0.pc⟩) 54 (0, 0)))) w2 := h2
  clear h2
  refine g2.stc i (hs _) (show 2 < 15 by decide) fun w3 h3 => ?_
  rw [List.set_set] at h3
  have g3 : Hs W (L.set i (pt b (.cells (chA ⟨c.k, c.fl, c.tsn, c0.a4, c0.a5, c0.a6, c0.a7, c0.win, c0.a9, c0.a10, c0.ga, c0.gl, c0.gc, c0.na, c0.nl, c0.nc, c0.da, c0.dl, c0.dc, c0.ba, c0.bl, c0.bc, c0.pa, c0.pl, c0.pc⟩) 54 (0, 0)))) w3 := h3
  clear h3
  refine g3.stc i (hs _) (show 3 < 15 by decide) fun w4 h4 => ?_
  rw [List.set_set] at h4
  have g4 : Hs W (L.set i (pt b (.cells (chA ⟨c.k, c.fl, c.tsn, c.a4, c0.a5, c0.a6, c0.a7, c0.win, c0.a9, c0.a10, c0.ga, c0.gl, c0.gc, c0.na, c0.nl, c0.nc, c0.da, c0.dl, c0.dc, c0.ba, c0.bl, c0.bc, c0.pa, c0.pl, c0.pc⟩) 54 (0, 0)))) w4 := h4
  clear h4
  refine g4.stc i (hs _) (show 4 < 15 by decide) fun w5 h5 => ?_
  rw [List.set_set] at h5
  have g5 : Hs W (L.set i (pt b (.cells (chA ⟨c.k, c.fl, c.tsn, c.a4, c.a5, c0.a6, c0.a7, c0.win, c0.a9, c0.a10, c0.ga, c0.gl, c0.gc, c0.na, c0.nl, c0.nc, c0.da, c0.dl, c0.dc, c0.ba, c0.bl, c0.bc, c0.pa, c0.pl, c0.pc⟩) 54 (0, 0)))) w5 := h5
  clear h5
  refine g5.stc i (hs _) (show 5 < 15 by decide) fun w6 h6 => ?_
  rw [List.set_set] at h6
  have g6 : Hs W (L.set i (pt b (.cells (chA ⟨c.k, c.fl, c.tsn, c.a4, c.a5, c.a6, c0.a7, c0.win, c0.a9, c0.a10, c0.ga, c0.gl, c0.gc, c0.na, c0.nl, c0.nc, c0.da, c0.dl, c0.dc, c0.ba, c0.bl, c0.bc, c0.pa, c0.pl, c0.pc⟩) 54 (0, 0)))) w6 := h6
  clear h6
  refine g6.stc i (hs _) (show 6 < 15 by decide) fun w7 h7 => ?_
  rw [List.set_set] at h7
  have g7 : Hs W (L.set i (pt b (.cells (chA ⟨c.k, c.fl, c.tsn, c.a4, c.a5, c.a6, c.a7, c0.win, c0.a9, c0.a10, c0.ga, c0.gl, c0.gc, c0.na, c0.nl, c0.nc, c0.da, c0.dl, c0.dc, c0.ba, c0.bl, c0.bc, c0.pa, c0.pl, c0.pc⟩) 54 (0, 0)))) w7 := h7
  clear h7
  refine g7.stc i (hs _) (show 7 < 15 by decide) fun w8 h8 => ?_
  rw [List.set_set] at h8
  have g8 : Hs W (L.set i (pt b (.cells (chA ⟨c.k, c.fl, c.tsn, c.a4, c.a5, c.a6, c.a7, c.win, c0.a9, c0.a10, c0.ga, c0.gl, c0.gc, c0.na, c0.nl, c0.nc, c0.da, c0.dl, c0.dc, c0.ba, c0.bl, c0.bc, c0.pa, c0.pl, c0.pc⟩) 54 (0, 0)))) w8 := h8
  clear h8
  refine g8.stc i (hs _) (show 8 < 15 by decide) fun w9 h9 => ?_
  rw [List.set_set] at h9
  have g9 : Hs W (L.set i (pt b (.cells (chA ⟨c.k, c.fl, c.tsn, c.a4, c.a5, c.a6, c.a7, c.win, c.a9, c0.a10, c0.ga, c0.gl, c0.gc, c0.na, c0.nl, c0.nc, c0.da, c0.dl, c0.dc, c0.ba, c0.bl, c0.bc, c0.pa, c0.pl, c0.pc⟩) 54 (0, 0)))) w9 := h9
  clear h9
  refine g9.stc i (hs _) (show 9 < 15 by decide) fun w10 h10 => ?_
  rw [List.set_set] at h10
  have g10 : Hs W (L.set i (pt b (.cells (chA ⟨c.k, c.fl, c.tsn, c.a4, c.a5, c.a6, c.a7, c.win, c.a9, c.a10, c0.ga, c0.gl, c0.gc, c0.na, c0.nl, c0.nc, c0.da, c0.dl, c0.dc, c0.ba, c0.bl, c0.bc, c0.pa, c0.pl, c0.pc⟩) 54 (0, 0)))) w10 := h10
  clear h10
  refine g10.stc i (hs _) (show 10 < 15 by decide) fun w11 h11 => ?_
  rw [List.set_set] at h11
  have g11 : Hs W (L.set i (pt b (.cells (chA ⟨c.k, c.fl, c.tsn, c.a4, c.a5, c.a6, c.a7, c.win, c.a9, c.a10, c.ga, c.gl, c.gc, c0.na, c0.nl, c0.nc, c0.da, c0.dl, c0.dc, c0.ba, c0.bl, c0.bc, c0.pa, c0.pl, c0.pc⟩) 54 (0, 0)))) w11 := h11
  clear h11
  refine g11.stc i (hs _) (show 11 < 15 by decide) fun w12 h12 => ?_
  rw [List.set_set] at h12
  have g12 : Hs W (L.set i (pt b (.cells (chA ⟨c.k, c.fl, c.tsn, c.a4, c.a5, c.a6, c.a7, c.win, c.a9, c.a10, c.ga, c.gl, c.gc, c.na, c.nl, c.nc, c0.da, c0.dl, c0.dc, c0.ba, c0.bl, c0.bc, c0.pa, c0.pl, c0.pc⟩) 54 (0, 0)))) w12 := h12
  clear h12
  refine g12.stc i (hs _) (show 12 < 15 by decide) fun w13 h13 => ?_
  rw [List.set_set] at h13
  have g13 : Hs W (L.set i (pt b (.cells (chA ⟨c.k, c.fl, c.tsn, c.a4, c.a5, c.a6, c.a7, c.win, c.a9, c.a10, c.ga, c.gl, c.gc, c.na, c.nl, c.nc, c.da, c.dl, c.dc, c0.ba, c0.bl, c0.bc, c0.pa, c0.pl, c0.pc⟩) 54 (0, 0)))) w13 := h13
  clear h13
  refine g13.stc i (hs _) (show 13 < 15 by decide) fun w14 h14 => ?_
  rw [List.set_set] at h14
  have g14 : Hs W (L.set i (pt b (.cells (chA ⟨c.k, c.fl, c.tsn, c.a4, c.a5, c.a6, c.a7, c.win, c.a9, c.a10, c.ga, c.gl, c.gc, c.na, c.nl, c.nc, c.da, c.dl, c.dc, c.ba, c.bl, c.bc, c0.pa, c0.pl, c0.pc⟩) 54 (0, 0)))) w14 := h14
  clear h14
  refine g14.stc i (hs _) (show 14 < 15 by decide) fun w15 h15 => ?_
  rw [List.set_set] at h15
  have g15 : Hs W (L.set i (pt b (.cells (chA ⟨c.k, c.fl, c.tsn, c.a4, c.a5, c.a6, c.a7, c.win, c.a9, c.a10, c.ga, c.gl, c.gc, c.na, c.nl, c.nc, c.da, c.dl, c.dc, c.ba, c.bl, c.bc, c.pa, c.pl, c.pc⟩) 54 (0, 0)))) w15 := h15
  clear h15
  exact hk w15 g15
theorem lod15_ok {b : Nat} {c : CH} (h : Hs W L w) (i : Nat) (hi : L[i]? = some (pt b (.cells (chA c) 54 (0, 0)))) {K : CH → Prop} (hk : K c) : lod15 ⟨b, 0, none⟩ w K := by
  unfold lod15
  simp only [add_mk]
  refine h.ldI i hi rfl (h.ldI i hi rfl (h.ldI i hi rfl (h.ldI i hi rfl (h.ldI i hi rfl (h.ldI i hi rfl (h.ldI i hi rfl (h.ldI i hi rfl (h.ldI i hi rfl (h.ldI i hi rfl ?_)))))))))
  exact h.ldC i hi rfl (h.ldC i hi rfl (h.ldC i hi rfl (h.ldC i hi rfl (h.ldC i hi rfl hk))))
end
/-- the parts of a list in another order -/
theorem Hs.re {W w : World} {L X : List HP} {n : Nat} (h : Hs W (X ++ L) w) (hn : X.length = n) {is : List Nat} (hp : (List.range n).Perm is) : Hs W (is.map (fun i => X.getD i emp) ++ L) w := by
  refine h.perm (List.Perm.append_right L ?_)
  have e : (List.range n).map (fun i => X.getD i emp) = X := by
    apply List.ext_getElem
    · simp [hn]
    · intro i h1 h2
      simp [h2]
  have := hp.map (fun i => X.getD i emp)
  rwa [e] at this
/-! what a report tells -/
def gpsOf (x : BX) (N : Int) : List (Nat × Nat) := gapS (x.S.filter fun d => !x.nr || !decide (nm x.cum d ∈ x.fx)) N
def nrOf (x : BX) (N : Int) : List (Nat × Nat) := if x.nr = true then gapS (x.S.filter fun d => decide (nm x.cum d ∈ x.fx)) N else []
def dupOf (x : BX) (N : Int) : List Int := x.dup.take N.toNat
structure RP where
  ga : Option Addr
  gc : Nat
  na : Option Addr
  nc : Nat
  da : Option Addr
  dc : Nat
def repCH (x : BX) (win N : Int) (r : RP) : CH := ⟨if x.nr = true then 16 else 3, 0, x.cum, 0, 0, 0, 0, win, 0, 0, r.ga, (gpsOf x N).length, r.gc, r.na, (nrOf x N).length, r.nc, r.da, (dupOf x N).length, r.dc, none, 0, 0, none, 0, 0⟩
def repL (x : BX) (N : Int) (r : RP) : List HP := [slP 60 2 r.ga (gpsOf x N).length r.gc (gapV (gpsOf x N)), slP 60 2 r.na (nrOf x N).length r.nc (gapV (nrOf x N)), slP 22 1 r.da (dupOf x N).length r.dc (nV (dupOf x N))]
def BX.rep (x : BX) : BX := { x with dup := [], pk := 0, made := true, due := -1 }
theorem rep_ok {x : BX} (ho : OkX x) : OkX x.rep := ⟨ho.nodup, ho.sub, by simp [BX.rep], ho.d0, ho.d1⟩
section
variable {W w : World} {L : List HP} {bb rr : Nat} {D : BD} {R : RD} {x : BX}
theorem c17_1 {Kr : Value → Value → World → Prop} (ht : TB W) {N win : Int} (hN : 0 ≤ N ∧ N ≤ 4096) (ho : OkX x) {g rb cb : Nat} {na : Option Addr} {nc : Nat}
    (h : Hs W (pt cb (.cells (chA ⟨if x.nr = true then 16 else 3, 0, x.cum, 0, 0, 0, 0, win, 0, 0, none, 0, 0, na, (nrOf x N).length, nc, none, 0, 0, none, 0, 0, none, 0, 0⟩) 54 (0, 0)) :: pt rb (.cells (chA zCH) 54 (0, 0)) :: pt g (.cells #[.pointer (some ⟨bb, 0, none⟩)] 25 (0, 0)) :: (boxL bb D x ++ (slP 60 2 na (nrOf x N).length nc (gapV (nrOf x N)) :: L))) w)
    (hK : ∀ w' D' r, Hs W (pt rb (.cells (chA (repCH x win N r)) 54 (0, 0)) :: (repL x N r ++ (boxL bb D' x.rep ++ L))) w' → Kr (.pointer (some ⟨rb, 0, none⟩)) (.int .i64 0) w') :
    F17_1 Kr (.int .i64 N) (.pointer (some ⟨g, 0, none⟩)) (.pointer (some ⟨rb, 0, none⟩)) (.pointer (some ⟨cb, 0, none⟩)) w := by
  unfold F17_1
  simp only [rdI_mk, rdA_mk]
  refine h.ldP 2 rfl rfl ?_
  have hb : Hs W (boxL bb D x ++ ([pt cb _, pt rb _, pt g _] ++ (slP 60 2 na (nrOf x N).length nc (gapV (nrOf x N)) :: L))) w := (Hs.flip (X := [_, _, _]) (Y := boxL bb D x)).1 h
  have hg := h.at 2 rfl
  refine cl (c49 ht hb (p := fun t => !x.nr || !decide (t ∈ x.fx)) (fun t w3 s3 => ?_) hN) ?_
  · refine callV_of (by kernel_rfl) (call_of (c50 (hb.same s3) ((h.same s3).at 2 rfl) t) ?_)
    rintro _ w4 ⟨v, rfl, rfl, rfl⟩
    exact ⟨_, rfl, rfl, rfl⟩
  rintro _ w1 ⟨ga, gc, rfl, o1, s1⟩
  refine ⟨_, _, _, rfl, ?_⟩
  have h1 := h.own_new s1 o1
  simp only [add_mk]
  refine h1.stc 1 rfl (by simp [chA]) fun w2 h2 => ?_
  unfold drw
  have h3 := h2.drew
  generalize w2.drew = w3 at h3 ⊢
  refine h3.ldP 3 rfl rfl ?_
  simp only [nn_some, add_mk]
  refine h3.ldC 4 rfl rfl (h3.ldP 3 rfl rfl ?_)
  simp only [nn_some, add_mk]
  refine h3.ldC 4 rfl rfl ⟨Pres.refl _, ?_⟩
  have hdl : (dupOf x N).length = min N.toNat x.dup.length := by unfold dupOf; rw [List.length_take]
  have em : (if (x.dup.length : Int) < N then (x.dup.length : Int) else N) = ((dupOf x N).length : Int) := by rw [hdl]; split <;> omega
  rw [em]
  have od := h3.own 7 rfl
  have hle := od.le
  have hdu := ho.dups
  have ocut := od.cut (n := (dupOf x N).length) (by omega)
  have ecut : (nV x.dup).take ((dupOf x N).length * 1) = nV (dupOf x N) := by
    rw [Nat.mul_one, hdl]; unfold dupOf nV; rw [List.map_take]
    rw [Nat.min_comm, List.take_eq_take_iff]; simp; omega
  rw [ecut] at ocut
  refine slS_hi (by omega) (cl (c51 ocut.rd (fun e => ?_) (by omega)) ?_)
  · rcases od.cases with ⟨_, _, e2⟩ | ⟨_, _, e2, _⟩
    · exact e2
    · rw [e2] at e; cases e
  rintro _ w4 ⟨da, dc, rfl, o4, s4⟩
  refine ⟨_, _, _, rfl, ?_⟩
  have h4 := h3.own_new s4 o4
  refine h4.stc 2 rfl (by simp [chA]) fun w5 h5 => ?_
  have h6 := h5.drew
  generalize w5.drew = w6 at h6 ⊢
  refine ⟨Sh.lone w6 g (.cells #[.pointer (some ⟨bb, 0, none⟩)] 25 (0, 0)), Pres.lone (h6.at 4 rfl), ?_⟩
  have hlp : ∀ {K : Option Addr → Prop}, K (some ⟨bb, 0, none⟩) → ldP ⟨g, 0, none⟩ (Sh.lone w6 g (.cells #[.pointer (some ⟨bb, 0, none⟩)] 25 (0, 0))) K := fun hk => ldP_at (lone_at _ _ _) rfl hk
  refine h6.ldP 4 rfl rfl (hlp (hlp (hlp ?_)))
  simp only [nn_some, add_mk]
  refine h6.stc 5 rfl (by simp) fun w7 h7 => ⟨Pres.lone (h7.at 4 rfl), h7.stc 5 rfl (by simp) fun w8 h8 => ⟨Pres.lone (h8.at 4 rfl), h8.stc 5 rfl (by simp) fun w9 h9 => ⟨Pres.lone (h9.at 4 rfl), h9.stc 5 rfl (by simp) fun w10 h10 => ?_⟩⟩⟩
  have hc : Hs W (slP 22 1 da (dupOf x N).length dc (nV (dupOf x N)) :: slP 60 2 ga (gpsOf x N).length gc (gapV (gpsOf x N)) :: pt cb (.cells (chA (repCH x win N ⟨ga, gc, na, nc, da, dc⟩)) 54 (0, 0)) :: pt rb (.cells (chA zCH) 54 (0, 0)) :: pt g (.cells #[.pointer (some ⟨bb, 0, none⟩)] 25 (0, 0)) :: pt bb (.cells #[.pointer (some ⟨D.s, 0, none⟩), .map (some D.m), .slice none 0 0, .int .i64 x.delay, .bool x.nr, .int .i64 0, .bool true, .int .i64 (-1)] 80 (0, 0)) :: setP D.s x.cum x.S :: mapP .u32 .i64 D.m (fxF x.fx) :: slP 22 1 D.a x.dup.length D.c (nV x.dup) :: slP 60 2 na (nrOf x N).length nc (gapV (nrOf x N)) :: L) w10 := h10
  refine lod15_ok (K := fun c => sto15 ⟨rb, 0, none⟩ c w10 fun w => Kr (.pointer (some ⟨rb, 0, none⟩)) (.int .i64 0) w) hc 2 rfl ?_
  refine sto15_ok hc 3 rfl _ fun w11 h11 => hK w11 ⟨D.s, D.m, none, 0⟩ ⟨ga, gc, na, nc, da, dc⟩ ?_
  have h12 : Hs W (slP 22 1 none 0 0 [] :: slP 22 1 da (dupOf x N).length dc (nV (dupOf x N)) :: slP 60 2 ga (gpsOf x N).length gc (gapV (gpsOf x N)) :: pt cb (.cells (chA (repCH x win N ⟨ga, gc, na, nc, da, dc⟩)) 54 (0, 0)) :: pt rb (.cells (chA (repCH x win N ⟨ga, gc, na, nc, da, dc⟩)) 54 (0, 0)) :: pt g (.cells #[.pointer (some ⟨bb, 0, none⟩)] 25 (0, 0)) :: pt bb (.cells #[.pointer (some ⟨D.s, 0, none⟩), .map (some D.m), .slice none 0 0, .int .i64 x.delay, .bool x.nr, .int .i64 0, .bool true, .int .i64 (-1)] 80 (0, 0)) :: setP D.s x.cum x.S :: mapP .u32 .i64 D.m (fxF x.fx) :: slP 22 1 D.a x.dup.length D.c (nV x.dup) :: slP 60 2 na (nrOf x N).length nc (gapV (nrOf x N)) :: L) w11 := h11.nil 22 1
  have h13 := ((h12.erase 9).erase 5).erase 3
  exact Hs.re (X := [_, _, _, _, _, _, _, _]) (L := L) (n := 8) h13 rfl (is := [3, 2, 7, 1, 4, 5, 6, 0]) (by decide)
def errOf (N : Int) : Int := if 0 ≤ N ∧ N ≤ 4096 then 0 else 1
def RepPost (W : World) (L : List HP) (bb : Nat) (D : BD) (x : BX) (win N : Int) (v : Value) (w' : World) : Prop := (¬ (0 ≤ N ∧ N ≤ 4096) ∧ v = .tuple #[.agg (chA zCH), .int .i64 1] ∧ Hs W (boxL bb D x ++ L) w') ∨ ((0 ≤ N ∧ N ≤ 4096) ∧ ∃ r D', v = .tuple #[.agg (chA (repCH x win N r)), .int .i64 0] ∧ Hs W (repL x N r ++ (boxL bb D' x.rep ++ L)) w')
theorem c17 (ht : TB W) (h : Hs W (boxL bb D x ++ L) w) (ho : OkX x) (win N : Int) : Calls Tryd.prog 17 #[.pointer (some ⟨bb, 0, none⟩), .int .u32 win, .int .i64 N] w (rt (RepPost W L bb D x win N)) := by
  refine F17_ok ?_
  unfold F17
  simp only [rdP_mk, rdI_mk]
  refine h.alc fun g w1 h1 => h1.alc fun rb w2 h2 => h2.ldP 1 rfl rfl ?_
  have hb2 : Hs W (boxL bb D x ++ ([pt rb _, pt g _] ++ L)) w2 := (Hs.flip (X := [_, _]) (Y := boxL bb D x)).1 h2
  refine clr (c34 hb2) ⟨_, rfl, ?_⟩
  rw [Bool.not_true, br_false]
  have err : ∀ {K : CH → World → Prop}, (∀ w', Hs W (boxL bb D x ++ L) w' → K zCH w') → sto15 ⟨rb, 0, none⟩ zCH w2 fun w' => lod15 ⟨rb, 0, none⟩ w' fun c => K c w' := by
    intro K hK
    refine sto15_ok (c0 := zCH) h2 0 rfl zCH fun w3 h3 => lod15_ok (c := zCH) h3 0 rfl (hK w3 h3.drop.drop)
  rw [br_dec]
  refine ⟨fun hN => err (K := fun c w' => RepPost W L bb D x win N (.tuple #[.agg (chA c), .int .i64 1]) w') fun w' h' => .inl ⟨by omega, rfl, h'⟩, fun hN => ?_⟩
  rw [br_dec]
  refine ⟨fun hN2 => err (K := fun c w' => RepPost W L bb D x win N (.tuple #[.agg (chA c), .int .i64 1]) w') fun w' h' => .inl ⟨by omega, rfl, h'⟩, fun hN2 => ?_⟩
  have hok : 0 ≤ N ∧ N ≤ 4096 := by omega
  have fin : ∀ {Q : Value → World → Prop}, (∀ w' r D', Hs W (repL x N r ++ (boxL bb D' x.rep ++ L)) w' → Q (.tuple #[.agg (chA (repCH x win N r)), .int .i64 0]) w') → ∀ w' D' r, Hs W (pt rb (.cells (chA (repCH x win N r)) 54 (0, 0)) :: (repL x N r ++ (boxL bb D' x.rep ++ L))) w' → lod15 ⟨rb, 0, none⟩ w' fun c => Q (.tuple #[.agg (chA c), .int .i64 0]) w' :=
    fun hQ w' D' r h' => lod15_ok (c := repCH x win N r) h' 0 rfl (hQ w' r D' h'.drop)
  unfold F17_2
  simp only [rdI_mk, rdA_mk]
  refine h2.ldP 1 rfl rfl ?_
  simp only [nn_some, add_mk]
  obtain ⟨m, hm, _⟩ := box_open hb2
  refine h2.ldP 2 rfl rfl (clr (c35 hm) ⟨_, rfl, ?_⟩)
  refine h2.alc fun cb w3 h3 => ?_
  refine sto15_ok (c0 := zCH) h3 0 rfl ⟨3, 0, x.cum, 0, 0, 0, 0, win, 0, 0, none, 0, 0, none, 0, 0, none, 0, 0, none, 0, 0, none, 0, 0⟩ fun w4 h4 => ?_
  refine h4.ldP 2 rfl rfl ?_
  simp only [nn_some, add_mk]
  refine h4.ldB 3 rfl rfl ?_
  cases hnr : x.nr with
  | false =>
    rw [br_false]
    have e1 : nrOf x N = [] := by unfold nrOf; rw [hnr]; rfl
    have h5 : Hs W (pt cb (.cells (chA ⟨3, 0, x.cum, 0, 0, 0, 0, win, 0, 0, none, 0, 0, none, 0, 0, none, 0, 0, none, 0, 0, none, 0, 0⟩) 54 (0, 0)) :: pt rb (.cells (chA zCH) 54 (0, 0)) :: pt g (.cells #[.pointer (some ⟨bb, 0, none⟩)] 25 (0, 0)) :: (boxL bb D x ++ (slP 60 2 none (nrOf x N).length 0 (gapV (nrOf x N)) :: L))) w4 := by
      rw [e1]
      exact Hs.behind (L := _ :: _ :: _ :: boxL bb D x) (h4.nil 60 2)
    refine c17_1 ht hok ho (win := win) (na := none) (nc := 0) (by rw [hnr, e1]; rw [e1] at h5; exact h5) fun w' D' r h' _g => ?_
    simp only [rdA_mk, rdI_mk]
    intro _g
    exact fin (Q := RepPost W L bb D x win N) (fun w' r D' h' => .inr ⟨hok, r, D', rfl, h'⟩) w' D' r h'
  | true =>
    rw [br_true]
    refine h4.stc 0 rfl (show 0 < 15 by decide) fun w5 h5 => ?_
    have h5 : Hs W (pt cb (.cells (chA ⟨16, 0, x.cum, 0, 0, 0, 0, win, 0, 0, none, 0, 0, none, 0, 0, none, 0, 0, none, 0, 0, none, 0, 0⟩) 54 (0, 0)) :: pt rb (.cells (chA zCH) 54 (0, 0)) :: pt g (.cells #[.pointer (some ⟨bb, 0, none⟩)] 25 (0, 0)) :: (boxL bb D x ++ L)) w5 := h5
    refine h5.ldP 2 rfl rfl (h5.ldP 2 rfl rfl ?_)
    have hb5 : Hs W (boxL bb D x ++ ([pt cb _, pt rb _, pt g _] ++ L)) w5 := (Hs.flip (X := [_, _, _]) (Y := boxL bb D x)).1 h5
    refine cl (c49 ht hb5 (p := fun t => decide (t ∈ x.fx)) (fun t w6 s6 => ?_) hok) ?_
    · refine callV_of (by kernel_rfl) (call_of (c39 (hb5.same s6) t) ?_)
      rintro _ w7 ⟨v, rfl, rfl, rfl⟩
      exact ⟨_, rfl, rfl, rfl⟩
    rintro _ w6 ⟨na, nc, rfl, o6, s6⟩
    refine ⟨_, _, _, rfl, ?_⟩
    have e1 : nrOf x N = gapS (x.S.filter fun d => decide (nm x.cum d ∈ x.fx)) N := by unfold nrOf; rw [if_pos hnr]
    rw [← e1] at o6 ⊢
    have h6 := h5.own_new s6 o6
    refine h6.stc 1 rfl (show 11 < 15 by decide) fun w7 h7 => ?_
    have h8 : Hs W (pt cb (.cells (chA ⟨16, 0, x.cum, 0, 0, 0, 0, win, 0, 0, none, 0, 0, na, (nrOf x N).length, nc, none, 0, 0, none, 0, 0, none, 0, 0⟩) 54 (0, 0)) :: pt rb (.cells (chA zCH) 54 (0, 0)) :: pt g (.cells #[.pointer (some ⟨bb, 0, none⟩)] 25 (0, 0)) :: (boxL bb D x ++ (slP 60 2 na (nrOf x N).length nc (gapV (nrOf x N)) :: L))) w7 :=
      Hs.behind (L := _ :: _ :: _ :: boxL bb D x) h7
    refine c17_1 ht hok ho (win := win) (na := na) (nc := nc) (by rw [if_pos hnr]; exact h8) fun w' D' r h' _g => ?_
    simp only [rdA_mk, rdI_mk]
    intro _g
    exact fin (Q := RepPost W L bb D x win N) (fun w' r D' h' => .inr ⟨hok, r, D', rfl, h'⟩) w' D' r h'
end
end Go.Proofs.YtccffjlahpfdaaaDoor
