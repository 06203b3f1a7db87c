/-
  What a right report tells: the three rows, made in whatever order.
-/
import Derived.Test.YtmliokbonkndaaaObH
namespace Go.Proofs.Ytmliokbonkndaaa
open Go Go.Sh
theorem Hs.re {W w : World} {L X : List HP} {n : Nat} (h : Hs W (X ++ L) w) (hn : X.length = n) {is : List Nat} (hp : (List.range n).Perm is) : Hs W (is.map (fun i => X.getD i emp) ++ L) w := by
  refine h.perm (List.Perm.append_right L ?_)
  have e : (List.range n).map (fun i => X.getD i emp) = X := by
    apply List.ext_getElem
    · simp [hn]
    · intro i h1 h2
      simp [h2]
  have := hp.map (fun i => X.getD i emp)
  rwa [e] at this
section
variable {W w : World} {L M : List HP} {bb : Nat} {n cum : Int} {a la : Option Addr} {c lc : Nat} {es : List (Nat × En)} {b m : Nat} {e : En}
def ReadP (W : World) (L : List HP) (bb : Nat) (n cum : Int) (a : Option Addr) (c : Nat) (es : List (Nat × En)) (n0 : Int) (NR G : List Gp) (v : Value) (w' : World) : Prop :=
  ∃ ta tc ga gc na nc, v = (R95.mk ta es.length tc ga es.length gc na es.length nc).v ∧
      Hs W (slP 4 1 ta es.length tc (bV es.length (toldF n0 NR G)) :: slP 4 1 ga es.length gc (bV es.length (goodF n0 NR)) :: slP 4 1 na es.length nc (bV es.length (newF (toldF n0 NR G) (dats es))) :: (boxL bb n cum a c es ++ L)) w'
set_option maxHeartbeats 1000000 in
theorem c33 {s2 : R30} {nra : Option Addr} {nrc : Nat} {NR G : List Gp} {n0 : Int} (hn0 : n0 = sd cum s2.f2) (hr0 : 0 ≤ n0 ∧ n0 ≤ (es.length : Int)) (hm : es.length ≤ 1048576)
    (hG : s2.f10n = G.length) (hgr : RdL W L s2.f10a (gapV G)) (hnr : RdL W L nra (gapV NR)) (hok : gOk G ∧ G.length ≤ 140737488355328) (hok2 : gOk NR ∧ NR.length ≤ 140737488355328)
    (h : Hs W (boxL bb n cum a c es ++ L) w) :
    Calls Try.prog 33 #[.pointer (some ⟨bb, 0, none⟩), s2.v, .slice nra NR.length nrc] w (rt (ReadP W L bb n cum a c es n0 NR G)) := by
  refine F33_ok ?_
  unfold F33
  simp only [rdP_mk, rdC_mk]
  refine exR30_of s2 ⟨rfl, ?_⟩
  refine h.alc fun b4 w1 h1 => h1.alc fun b6 w2 h2 => h2.drw fun w8 h8 => ?_
  clear h1 h2
  simp only [nn_some, add_mk]
  have h8 : Hs W (pt b6 (.cells R95.z.c 96 (0, 0)) :: pt b4 (.cells s2.c 31 (0, 0)) :: (boxL bb n cum a c es ++ L)) w8 := h8
  refine h8.ldC 2 rfl rfl (h8.ldC 2 rfl rfl (h8.ldC 2 rfl rfl ?_))
  have leaf : ∀ {w9 : World} {b21 : Nat} {ta : Option Addr} {tc : Nat} {ga : Option Addr} {gc : Nat} {na : Option Addr} {nc : Nat},
      Hs W (pt b21 (.cells R95.z.c 96 (0, 0)) :: slP 4 1 ta es.length tc (bV es.length fun _ => false) :: slP 4 1 ga es.length gc (bV es.length fun _ => false) :: slP 4 1 na es.length nc (bV es.length fun _ => false) :: pt b6 (.cells R95.z.c 96 (0, 0)) :: pt b4 (.cells s2.c 31 (0, 0)) :: (boxL bb n cum a c es ++ L)) w9 →
      stcL ⟨b21, 0, none⟩ 0 (R95.mk ta es.length tc ga es.length gc na es.length nc).l w9 fun w23 => F33_3 (fun y6 w25 => ∀ _g : Tm, rdA y6 fun a27 => ldR95 a27 w25 fun s28 => ReadP W L bb n cum a c es n0 NR G s28.v w25) (.pointer (some ⟨bb, 0, none⟩)) (.slice nra NR.length nrc) (.pointer (some ⟨b4, 0, none⟩)) (.pointer (some ⟨b6, 0, none⟩)) (.pointer (some ⟨b21, 0, none⟩)) w23 := by
    intro w9 b21 ta tc ga gc na nc h9
    refine h9.stcL 0 rfl rfl fun w10 h10 => ?_
    have h10 : Hs W (newsL b21 ta tc ga gc na nc es.length (fun _ => false) (fun _ => false) (fun _ => false) ++ (pt b4 (.cells s2.c 31 (0, 0)) :: pt b6 (.cells R95.z.c 96 (0, 0)) :: (boxL bb n cum a c es ++ L))) w10 :=
      h10.perm (List.Perm.append_left [_, _, _, _] (List.Perm.swap _ _ _))
    refine c33_3 hn0 hr0 hm hG hgr hnr hok hok2 h10 fun w11 h11 _g => ?_
    simp only [rdA_mk]
    refine ldR95_of (s := R95.mk ta es.length tc ga es.length gc na es.length nc) (h11.atL 5 rfl) ⟨ta, tc, ga, gc, na, nc, rfl, ?_⟩
    exact ((h11.erase 5).erase 4).drop
  have mk : ∀ {w9 : World} {L' : List HP} (h9 : Hs W L' w9) (hp : Same w8 w9) {Q : Option Addr → Nat → Nat → World → Prop} (hk : ∀ a w', Same w8 w' → Hs W (slP 4 1 a es.length es.length (bV es.length fun _ => false) :: L') w' → Q a es.length es.length w'),
      ∃ la ln lc, ∃ w', Sem.run Try.prog (Instr.makeSlice 24 (.int .i64 (es.length : Int)) (.int .i64 (es.length : Int))) w9 = .ok (.slice la ln lc) w' ∧ (Pres w8 w' ∧ Q la ln lc w') := fun h9 hp _ hk => mkB h9 hp hm hk
  have hs8 : Same w8 w8 := Fr.refl w8
  have leaf' : ∀ {A B C D : HP} {w9 : World} {b21 : Nat} {ta : Option Addr} {ga : Option Addr} {na : Option Addr} {i0 i1 i2 i3 : Nat},
      Hs W (A :: B :: C :: D :: pt b6 (.cells R95.z.c 96 (0, 0)) :: pt b4 (.cells s2.c 31 (0, 0)) :: (boxL bb n cum a c es ++ L)) w9 →
      [A, B, C, D].getD i0 emp = pt b21 (.cells (R95.mk none 0 0 none 0 0 none 0 0).c 96 (0, 0)) → [A, B, C, D].getD i1 emp = slP 4 1 ta es.length es.length (bV es.length fun _ => false) → [A, B, C, D].getD i2 emp = slP 4 1 ga es.length es.length (bV es.length fun _ => false) → [A, B, C, D].getD i3 emp = slP 4 1 na es.length es.length (bV es.length fun _ => false) →
      (List.range 4).Perm [i0, i1, i2, i3] →
      stcL ⟨b21, 0, none⟩ 0 (R95.mk ta es.length es.length ga es.length es.length na es.length es.length).l w9 fun w23 => F33_3 (fun y6 w25 => ∀ _g : Tm, rdA y6 fun a27 => ldR95 a27 w25 fun s28 => ReadP W L bb n cum a c es n0 NR G s28.v w25) (.pointer (some ⟨bb, 0, none⟩)) (.slice nra NR.length nrc) (.pointer (some ⟨b4, 0, none⟩)) (.pointer (some ⟨b6, 0, none⟩)) (.pointer (some ⟨b21, 0, none⟩)) w23 := by
    intro A B C D w9 b21 ta ga na i0 i1 i2 i3 h9 e0 e1 e2 e3 hp
    have hh := Hs.re (X := [A, B, C, D]) (L := pt b6 (.cells R95.z.c 96 (0, 0)) :: pt b4 (.cells s2.c 31 (0, 0)) :: (boxL bb n cum a c es ++ L)) h9 rfl hp
    simp only [List.map_cons, List.map_nil, e0, e1, e2, e3, List.cons_append, List.nil_append] at hh
    exact leaf hh
  have g0 : ∀ {A B C D : HP}, [A, B, C, D].getD 0 emp = A := rfl
  have g1 : ∀ {A B C D : HP}, [A, B, C, D].getD 1 emp = B := rfl
  have g2 : ∀ {A B C D : HP}, [A, B, C, D].getD 2 emp = C := rfl
  have g3 : ∀ {A B C D : HP}, [A, B, C, D].getD 3 emp = D := rfl
  clear h
  have h := h8
  have s := hs8
  repeat' first
    | with_reducible refine And.intro ?_ ?_
    | refine mk h s fun a w' s h => ?_
    | refine alcP h s fun b w' s h => ?_
  all_goals
    refine leaf' (i0 := ?_) (i1 := ?_) (i2 := ?_) (i3 := ?_) h ?e0 ?e1 ?e2 ?e3 ?hp
    case e0 => first | with_reducible exact g0 | with_reducible exact g1 | with_reducible exact g2 | with_reducible exact g3
    case e1 => first | with_reducible exact g0 | with_reducible exact g1 | with_reducible exact g2 | with_reducible exact g3
    case e2 => first | with_reducible exact g0 | with_reducible exact g1 | with_reducible exact g2 | with_reducible exact g3
    case e3 => first | with_reducible exact g0 | with_reducible exact g1 | with_reducible exact g2 | with_reducible exact g3
    case hp => decide
end
end Go.Proofs.Ytmliokbonkndaaa
