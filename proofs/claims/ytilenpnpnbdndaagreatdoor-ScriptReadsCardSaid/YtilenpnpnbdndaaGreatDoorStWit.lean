/- Own text: part of the shallow reading of the code and of the contracts that are proved over it. -/
import Derived.Test.YtilenpnpnbdndaaGreatDoorSrW4
import Derived.Test.YtilenpnpnbdndaaGreatDoorShM
import Derived.ProofKit
import Derived.OpenShut
import Derived.SizedLaws
import Derived.Test.YtilenpnpnbdndaaGreatDoorRows
import Derived.Test.YtilenpnpnbdndaaGreatDoorTie
import Derived.Test.YtilenpnpnbdndaaGreatDoorCards
import Derived.LaidMore
import Derived.Lay
import Derived.Deep.DeepHandedRow
import Derived.Lib.LaidTab
namespace Go.Proofs.YtilenpnpnbdndaaGreatDoor
open Go Go.Sh
set_option maxRecDepth 100000
attribute [local instance] Esc.none
def LineA (R : R26) (dat : List UInt8) (S : ByteArray) (N : Int) : Prop := (∃ t,LineOk t R dat /\ S = lineOf (itemsOf t) ⟨R.c,dat⟩ /\ N = 0) \/ ((∀ t,¬ LineOk t R dat) /\ S = ⟨#[]⟩ /\ N = 1)
theorem LineA.one {R : R26} {dat : List UInt8} {S S' : ByteArray} {N N' : Int} (h : LineA R dat S N) (h' : LineA R dat S' N') : S = S' /\ N = N' := by
  rcases h with ⟨t,ht,rfl,rfl⟩ | ⟨hn,rfl,rfl⟩
  · rcases h' with ⟨t',ht',rfl,rfl⟩ | ⟨hn',_⟩
    · have e := ht.one ht'
      subst e
      exact ⟨rfl,rfl⟩
    · exact absurd ht (hn' t)
  · rcases h' with ⟨t',ht',_⟩ | ⟨_,rfl,rfl⟩
    · exact absurd ht' (hn t')
    · exact ⟨rfl,rfl⟩
def DeedA (s : ByteArray) (R : R26) (dat : List UInt8) (N : Int) : Prop := (IsDeed s R dat /\ N = 0) \/ ((¬ ∃ R dat,IsDeed s R dat) /\ R = R26.zz /\ dat = [] /\ N = 250)
theorem DeedA.one {s : ByteArray} {R R' : R26} {d d' : List UInt8} {N N' : Int} (h : DeedA s R d N) (h' : DeedA s R' d' N') : sameB R d R' d' = true /\ N = N' := by
  rcases h with ⟨h,rfl⟩ | ⟨hn,rfl,rfl,rfl⟩
  · rcases h' with ⟨h',rfl⟩ | ⟨hn',_⟩
    · exact ⟨sameB_iff.2 (h.det h'),rfl⟩
    · exact absurd ⟨_,_,h⟩ hn'
  · rcases h' with ⟨h',_⟩ | ⟨_,rfl,rfl,rfl⟩
    · exact absurd ⟨_,_,h'⟩ hn
    · exact ⟨rfl,rfl⟩
def SetA (R : R49) (S : ByteArray) (N : Int) : Prop := (okAll confItems ⟨R.c,[]⟩ /\ S = lineOf confItems ⟨R.c,[]⟩ /\ N = 0) \/ (¬ okAll confItems ⟨R.c,[]⟩ /\ S = ⟨#[]⟩ /\ N = 1)
theorem SetA.one {R : R49} {S S' : ByteArray} {N N' : Int} (h : SetA R S N) (h' : SetA R S' N') : S = S' /\ N = N' := by
  rcases h with ⟨h,rfl,rfl⟩ | ⟨hn,rfl,rfl⟩
  · rcases h' with ⟨_,rfl,rfl⟩ | ⟨hn',_⟩
    · exact ⟨rfl,rfl⟩
    · exact absurd h hn'
  · rcases h' with ⟨h',_⟩ | ⟨_,rfl,rfl⟩
    · exact absurd h' hn
    · exact ⟨rfl,rfl⟩
def ConfA (s : ByteArray) (R : R49) (N : Int) : Prop := (IsConf s R /\ N = 0) \/ ((¬ ∃ R,IsConf s R) /\ R = R49.zz /\ N = 250)
theorem IsConf.one {s : ByteArray} {R R' : R49} (h : IsConf s R) (h' : IsConf s R') : R = R' := (conf_loose h).2.1.symm.trans (conf_loose h').2.1
theorem ConfA.one {s : ByteArray} {R R' : R49} {N N' : Int} (h : ConfA s R N) (h' : ConfA s R' N') : R = R' /\ N = N' := by
  rcases h with ⟨h,rfl⟩ | ⟨hn,rfl,rfl⟩
  · rcases h' with ⟨h',rfl⟩ | ⟨hn',_⟩
    · exact ⟨h.one h',rfl⟩
    · exact absurd ⟨_,h⟩ hn'
  · rcases h' with ⟨h',_⟩ | ⟨_,rfl,rfl⟩
    · exact absurd ⟨_,h'⟩ hn
    · exact ⟨rfl,rfl⟩
section
variable {W w : World} {M : List HP}
theorem c8q {R : R26} {dat : List UInt8} (hT : TB W) (h : Hs W M w) (hG : GoodD ⟨R.c,dat⟩) (hd : Holds26 W R dat) (hdl : dat.length < 4611686018427387904) : Calls Tryz.prog 8 #[R.v] w (rt fun v w' => ∃ S N,v = .tuple #[.string S,.int .i64 N] /\ LineA R dat S N /\ Hs W M w') :=
  rt_mono (c8 hT h hG hd hdl) fun _ _ ⟨h,hv⟩ => by
    rcases hv with ⟨t,ht,hv⟩ | ⟨ht,hv⟩
    · exact ⟨_,_,hv,.inl ⟨t,ht,rfl,rfl⟩,h⟩
    · exact ⟨_,_,hv,.inr ⟨ht,rfl,rfl⟩,h⟩
theorem c9q {R : R26} {dat : List UInt8} (hT : TB W) (h : Hs W M w) (hG : GoodD ⟨R.c,dat⟩) (hd : Holds26 W R dat) : Calls Tryz.prog 9 #[R.v] w (rt fun v w' => ∃ S N,v = .tuple #[.string S,.int .i64 N] /\ LineA R dat S N /\ Hs W M w') :=
  rt_mono (c9 hT h hG hd) fun _ _ ⟨h,hv⟩ => by
    rcases hv with ⟨t,ht,hv⟩ | ⟨ht,hv⟩
    · exact ⟨_,_,hv,.inl ⟨t,ht,rfl,rfl⟩,h⟩
    · exact ⟨_,_,hv,.inr ⟨ht,rfl,rfl⟩,h⟩
theorem dt_zz (h : Hs W M w) : Hs W (dtP W R26.zz.c [] :: M) w := dt_old (a := none) (c := 0) rfl (Rd.nil W none) h
theorem c10q {s : ByteArray} (hT : TB W) (h : Hs W M w) (hs : s.size <= 8000000) : Calls Tryz.prog 10 #[.string s] w (rt fun v w' => ∃ R dat N,v = .tuple #[R26.v R,.int .i64 N] /\ DeedA s R dat N /\ Hs W (dtP W R.c dat :: M) w') :=
  rt_mono (c10 hT h hs) fun _ _ hv => by
    rcases hv with ⟨R,dat,hd,hv,h⟩ | ⟨hn,hv,h⟩
    · exact ⟨R,dat,0,hv,.inl ⟨hd,rfl⟩,h⟩
    · exact ⟨R26.zz,[],250,hv,.inr ⟨hn,rfl,rfl,rfl⟩,dt_zz h⟩
theorem c11q {s : ByteArray} (hT : TB W) (h : Hs W M w) (hs : s.size <= 8000000) : Calls Tryz.prog 11 #[.string s] w (rt fun v w' => ∃ R dat N,v = .tuple #[R26.v R,.int .i64 N] /\ DeedA s R dat N /\ Hs W (dtP W R.c dat :: M) w') :=
  rt_mono (c11 hT h hs) fun _ _ hv => by
    rcases hv with ⟨R,dat,hd,hv,h⟩ | ⟨hn,hv,h⟩
    · exact ⟨R,dat,0,hv,.inl ⟨hd,rfl⟩,h⟩
    · exact ⟨R26.zz,[],250,hv,.inr ⟨hn,rfl,rfl,rfl⟩,dt_zz h⟩
theorem c16q {s : ByteArray} (hT : TB W) (h : Hs W M w) (hs : s.size <= 8000000) : Calls Tryz.prog 16 #[.string s] w (rt fun v w' => ∃ R N,v = .tuple #[R49.v R,.int .i64 N] /\ ConfA s R N /\ Hs W M w') :=
  rt_mono (c16 hT h hs) fun _ _ ⟨h,hv⟩ => by
    rcases hv with ⟨R,hR,hv⟩ | ⟨hn,hv⟩
    · exact ⟨R,0,hv,.inl ⟨hR,rfl⟩,h⟩
    · exact ⟨R49.zz,250,hv,.inr ⟨hn,rfl,rfl⟩,h⟩
theorem c17q {s : ByteArray} (hT : TB W) (h : Hs W M w) (hs : s.size <= 8000000) : Calls Tryz.prog 17 #[.string s] w (rt fun v w' => ∃ R N,v = .tuple #[R49.v R,.int .i64 N] /\ ConfA s R N /\ Hs W M w') :=
  rt_mono (c17 hT h hs) fun _ _ ⟨h,hv⟩ => by
    rcases hv with ⟨R,hR,hv⟩ | ⟨hn,hv⟩
    · exact ⟨R,0,hv,.inl ⟨hR,rfl⟩,h⟩
    · exact ⟨R49.zz,250,hv,.inr ⟨hn,rfl,rfl⟩,h⟩
theorem line_short {t : Vb} {R : R26} {dat : List UInt8} (h : LineOk t R dat) : (lineOf (itemsOf t) ⟨R.c,dat⟩).size <= 786606 := by
  have hsz := items_size (List.all_eq_true.1 (vtab_items t h.mem).2.2.1) h.ok
  have hlen : (itemsOf t).length <= 6 := by have := (vtab_ok t h.mem).2; simp [itemsOf]; omega
  exact Nat.le_trans hsz (by omega)
theorem F3_1_go {R : R26} {dat : List UInt8} {S : ByteArray} {N : Int} {b : Nat} {Kr : Value -> World -> Prop} (hT : TB W) (hd : Holds26 W R dat) (hA : LineA R dat S N) (h : Hs W (pt b (.cells R.c 27 (0,0)) :: M) w)
    (hK : ∀ w',Same W w' -> Kr (.bool true) w') : F3_1 Kr (.pointer (some ⟨b,0,none⟩)) (.string S) (.int .i64 N) w := by
  unfold F3_1
  simp only [rdA_mk,rdS_mk,rdI_mk]
  rcases hA with ⟨t,ht,rfl,rfl⟩ | ⟨hn,rfl,rfl⟩
  · have e0 : ((0 : Int) != 0) = false := rfl
    rw [e0,br_false]
    have hsz := line_short ht
    refine cl (c10q hT h (by omega)) ?_
    rintro _ w2 ⟨R2,d2,N2,rfl,hD,h2⟩
    have hD2 : DeedA (lineOf (itemsOf t) ⟨R.c,dat⟩) R dat 0 := .inl ⟨⟨t,ht.deed⟩,rfl⟩
    obtain ⟨hsame,rfl⟩ := hD.one hD2
    refine exR26_of R2 ⟨_,rfl,h2.alc fun b3 w3 h3 => h3.stcL 0 rfl (by rfl) fun w4 h4 => ?_⟩
    have h4 : Hs W (pt b3 (.cells R2.c 27 (0,0)) :: dtP W R2.c d2 :: pt b (.cells R.c 27 (0,0)) :: M) w4 := h4
    have e1 : ((0 : Int) == 0) = true := rfl
    rw [e1,br_true]
    refine ldR26_of (s := R2) (h4.atL 0 rfl) (ldR26_of (s := R) (h4.atL 2 rfl) ?_)
    refine cl (c12S (dt_holds (h4.focus (i := 1) rfl)) (hd.same h4.old)) ?_
    rintro _ w5 ⟨rfl,hs5⟩
    refine ⟨_,rfl,?_⟩
    rw [hsame,br_true]
    have h5 := h4.same hs5
    refine cl (c13 (Hs.tb h5 hT)) ?_
    rintro _ w6 ⟨rfl,hs6⟩
    exact ⟨_,rfl,hK w6 (h5.same hs6).old⟩
  · have e0 : ((1 : Int) != 0) = true := rfl
    rw [e0,br_true]
    refine cl (c13 (Hs.tb h hT)) ?_
    rintro _ w6 ⟨rfl,hs6⟩
    exact ⟨_,rfl,hK w6 (h.same hs6).old⟩
theorem c3 {R : R26} {dat : List UInt8} {s : ByteArray} (hT : TB w) (hG : GoodD ⟨R.c,dat⟩) (hd : Holds26 w R dat) (hdl : dat.length < 4611686018427387904) (hs : s.size <= 8000000) : Calls Tryz.prog 3 #[R.v,.string s] w (rt fun v w' => v = .bool true /\ Same w w') := by
  refine F3_ok ?_
  unfold F3
  refine exR26_of R ⟨rfl,?_⟩
  simp only [rdS_mk]
  refine (Hs.start w).alc fun b3 w3 h3 => ldR26_of (s := R) (h3.atL 0 rfl) ?_
  refine cl (c8q hT h3 hG hd hdl) ?_
  rintro _ w4 ⟨S1,N1,rfl,hA1,h4⟩
  refine ⟨_,_,rfl,ldR26_of (s := R) (h4.atL 0 rfl) ?_⟩
  refine cl (c9q hT h4 hG hd) ?_
  rintro _ w5 ⟨S2,N2,rfl,hA2,h5⟩
  refine ⟨_,_,rfl,?_⟩
  refine cl (c10q hT h5 hs) ?_
  rintro _ w6 ⟨R1,d1,N3,rfl,hD1,h6⟩
  refine exR26_of R1 ⟨_,rfl,h6.alc fun b19 w7 h7 => h7.stcL 0 rfl (by rfl) fun w8 h8 => ?_⟩
  have h8 : Hs w [pt b19 (.cells R1.c 27 (0,0)),dtP w R1.c d1,pt b3 (.cells R.c 27 (0,0))] w8 := h8
  refine cl (c11q hT h8 hs) ?_
  rintro _ w9 ⟨R2,d2,N4,rfl,hD2,h9⟩
  refine exR26_of R2 ⟨_,rfl,h9.alc fun b26 w10 h10 => h10.stcL 0 rfl (by rfl) fun w11 h11 => ?_⟩
  have h11 : Hs w [pt b26 (.cells R2.c 27 (0,0)),dtP w R2.c d2,pt b19 (.cells R1.c 27 (0,0)),dtP w R1.c d1,pt b3 (.cells R.c 27 (0,0))] w11 := h11
  obtain ⟨rfl,rfl⟩ := hA1.one hA2
  obtain ⟨hsame,rfl⟩ := hD1.one hD2
  have en : ∀ n : Int,(n != n) = false := fun n => by simp
  rw [str_beq,decide_eq_true rfl,Bool.not_true,br_false,en,br_false]
  refine ldR26_of (s := R1) (h11.atL 2 rfl) (ldR26_of (s := R2) (h11.atL 0 rfl) ?_)
  refine cl (c12S (dt_holds (h11.focus (i := 3) rfl)) (dt_holds (h11.focus (i := 1) rfl))) ?_
  rintro _ w12 ⟨rfl,hs12⟩
  refine ⟨_,rfl,?_⟩
  rw [hsame,Bool.not_true,br_false,en,br_false]
  refine F3_1_go hT hd hA1 ((h11.same hs12).focus (i := 4) rfl) fun w' hs' => ?_
  intro _
  simp only [rdB_mk]
  exact ⟨by first | rfl | trivial,hs'⟩
end
end Go.Proofs.YtilenpnpnbdndaaGreatDoor
namespace Go.Sh
open Go
open Go.ChangeShapes Go.WideShapes Go.ChangeAt Go.WideMaps Go.WideElems Go.RowKit
def structIs (P : Program) (t : TypeId) (l : List (TypeId × Nat)) : Bool :=
  match P.underlying t with
  | some (.struct fs) => decide (fs.toList.map (fun f => (f.type,f.offset)) = l)
  | _ => false
end Go.Sh
namespace Go.Sh
open Go
open Go.ChangeShapes Go.WideShapes Go.ChangeAt Go.WideMaps Go.WideElems Go.RowKit
section
variable {H : Type} {enc : TypeId × Value -> H} {P : Program} {w : World}
end
end Go.Sh
namespace Go.Sh
open Go Go.ChangeShapes Go.WideShapes Go.ChangeAt Go.WideMaps Go.WideElems Go.RowKit
section
variable {H : Type} {enc : TypeId × Value -> H} {P : Program} {w : World}
end
end Go.Sh
namespace Go.Proofs.YtilenpnpnbdndaaGreatDoor
open Go Go.Sh
open Go.ChangeShapes Go.WideShapes Go.ChangeAt Go.WideMaps Go.WideElems Go.RowKit
set_option maxRecDepth 100000
namespace Row
theorem own : ownKnob Tryz.prog.godebug = none := by kernel_rfl
theorem laidOut : laidOutB Tryz.prog = true := by kernel_rfl
theorem gTab : Tryz.prog.globalNamed "internal/strconv.uint64pow10" = some 0 := by kernel_rfl
theorem gRange : Tryz.prog.globalNamed "strconv.ErrRange" = some 5 := by kernel_rfl
theorem gSyntax : Tryz.prog.globalNamed "strconv.ErrSyntax" = some 4 := by kernel_rfl
theorem u42 : Tryz.prog.underlying 42 = some (.int .u64) := by kernel_rfl
theorem u4 : Tryz.prog.underlying 4 = some .bool := by kernel_rfl
theorem u9 : Tryz.prog.underlying 9 = some .string := by kernel_rfl
theorem b5 : Tryz.prog.bytesOf 5 = 1 := by kernel_rfl
theorem c3 : Tryz.prog.cellsOf 3 = 1 := by kernel_rfl
theorem c22 : Tryz.prog.cellsOf 22 = 1 := by kernel_rfl
theorem c42 : Tryz.prog.cellsOf 42 = 1 := by kernel_rfl
theorem c9 : Tryz.prog.cellsOf 9 = 1 := by kernel_rfl
theorem c25 : Tryz.prog.cellsOf 25 = 1 := by kernel_rfl
theorem c41 : Tryz.prog.cellsOf 41 = 16 := by kernel_rfl
theorem c44 : Tryz.prog.cellsOf 44 = 25 := by kernel_rfl
theorem c48 : Tryz.prog.cellsOf 48 = 3 := by kernel_rfl
theorem c27 : Tryz.prog.cellsOf 27 = 12 := by kernel_rfl
theorem c50 : Tryz.prog.cellsOf 50 = 41 := by kernel_rfl
theorem s27 : structIs Tryz.prog 27 [(22,0),(3,1),(3,2),(3,3),(3,4),(5,5),(3,6),(23,7),(24,8),(4,9),(25,10),(9,11)] = true := by kernel_rfl
theorem s44 : structIs Tryz.prog 44 [(41,0),(42,16),(3,17),(24,18),(23,19),(23,20),(3,21),(3,22),(23,23),(23,24)] = true := by kernel_rfl
theorem s46 : structIs Tryz.prog 46 [(3,0),(3,1),(3,2)] = true := by kernel_rfl
theorem s48 : structIs Tryz.prog 48 [(3,0),(3,1),(3,2)] = true := by kernel_rfl
theorem s50 : structIs Tryz.prog 50 [(44,0),(3,25),(3,26),(3,27),(46,28),(48,31),(3,34),(3,35),(3,36),(3,37),(4,38),(4,39),(4,40)] = true := by kernel_rfl
end Row
section
variable {H : Type} {enc : TypeId × Value -> H} {w : World}
structure DeedOk (w : World) (R : R26) (d : List UInt8) : Prop where
  good : GoodD ⟨R.c,d⟩
  holds : Holds26 w R d
  len : d.length <= 140737488351232
end
theorem tab_eq : (Rows.laid_internal_strconv_uint64pow10 : DataW Unit) = Lib.tabData .u64 Lib.pow10Tab := by kernel_rfl
namespace Row
theorem tTab : (Tryz.prog.globals[0]?).map (·.type) = some 169 := by kernel_rfl
theorem tSyntax : (Tryz.prog.globals[4]?).map (·.type) = some 145 := by kernel_rfl
theorem tRange : (Tryz.prog.globals[5]?).map (·.type) = some 145 := by kernel_rfl
theorem u169 : Tryz.prog.underlying 169 = some (.array 20 42) := by kernel_rfl
theorem c169 : Tryz.prog.cellsOf 169 = 20 := by kernel_rfl
theorem u145 : ∃ ms, Tryz.prog.underlying 145 = some (.interface ms) := ⟨#[("Error", 88)], by kernel_rfl⟩
end Row
theorem err_of {w : World} {fuel : Nat} {cs : List Value} {x : DataW Unit × List MemPlace} {t : TypeId} {ms : Array (String × TypeId)} (hu : Tryz.prog.underlying t = some (.interface ms)) (h : DataW.trod (fun _ => ()) Tryz.prog w 0 (fun _ => true) false fuel t cs = some x) :
    ∃ ev,cs = [ev] /\ (ev = .nilIface \/ ∃ te pe,ev = .iface te pe) := by
  cases fuel with
  | zero => cases h
  | succ n =>
    unfold DataW.trod at h
    rw [hu] at h
    split at h <;> first | (cases h; done) | skip
    all_goals simp_all
theorem of_laid {W : World} (h : laidMetH Tryz.prog Rows.scriptLinesRow.laid W) : TB W := by
  rw [MakeChecks.laidMetH_plain _ _ _ (by kernel_rfl)] at h
  obtain ⟨ps,⟨_,_,_,_,_,_,_,_,_,_,⟨_,_,_,_,_,_,_,_,_,_,⟨g2,t2,cs2,f2,p2,q2,hg2,ht2,hv2,hd2,⟨_,_,_,_,_,_,_,_,_,_,⟨g4,t4,cs4,f4,p4,q4,hg4,ht4,hv4,hd4,⟨g5,t5,cs5,f5,p5,q5,hg5,ht5,hv5,hd5,_,_⟩,_⟩,_⟩,_⟩,_⟩,_⟩,_⟩ := h
  obtain rfl := Option.some.inj (Row.gTab.symm.trans hg2)
  obtain rfl := Option.some.inj (Row.tTab.symm.trans ht2)
  obtain rfl := Option.some.inj (Row.gRange.symm.trans hg4)
  obtain rfl := Option.some.inj (Row.tRange.symm.trans ht4)
  obtain rfl := Option.some.inj (Row.gSyntax.symm.trans hg5)
  obtain rfl := Option.some.inj (Row.tSyntax.symm.trans ht5)
  obtain ⟨ms,hu⟩ := Row.u145
  refine ⟨?_,?_,?_⟩
  · unfold Lib.TabIs
    rw [tab_eq] at hd2
    rw [hv2,← Lib.cells_of_tab Row.u169 Row.u42 Row.c42 Row.c169 hd2]
  · obtain ⟨ev,he,hc⟩ := err_of hu hd5
    refine ⟨ev,?_,hc⟩
    rw [World.var?_cell hg5 hv5 0,← Array.getElem?_toList,he]
    rfl
  · obtain ⟨ev,he,hc⟩ := err_of hu hd4
    refine ⟨ev,?_,hc⟩
    rw [World.var?_cell hg4 hv4 0,← Array.getElem?_toList,he]
    rfl
end Go.Proofs.YtilenpnpnbdndaaGreatDoor
namespace Go.Proofs.YtilenpnpnbdndaaGreatDoor
open Go Go.Sh
open Go.ChangeShapes Go.WideShapes Go.ChangeAt Go.WideMaps Go.WideElems Go.RowKit
set_option maxRecDepth 100000
noncomputable def laidWorld (os : Os) : World := World.laidAll Tryz.prog os Rows.scriptLinesRow.laid
theorem laid_met (os : Os) (args : Array Value) : laidMetH Tryz.prog Rows.scriptLinesRow.laid ((laidWorld os).forCall (fun _ _ => 0) ⟨#[],args,[]⟩).memory := by
  rw [MakeChecks.laidMetH_plain _ _ _ (by kernel_rfl)]
  exact laidMet_laidAll _ (by kernel_rfl) (by kernel_rfl)
section
variable {H : Type} {enc : TypeId × Value -> H}
theorem witness_at {C : Checked} {os : Os} {f : FuncId} {fn : Func} {s : OpenSpec} {conds : List PathCond} {apart : Bool} {laid : List (String × DataW Unit)} (modest : Bool) (w0 : World) (args : Array Value) (hos : w0.os = os)
    (hv : (w0.forCall (fun _ _ => 0) ⟨#[],args,[]⟩).variablesZipB C.prog = true)
    (hr : ((w0.forCall (fun _ _ => 0) ⟨#[],args,[]⟩).heap.toList.drop C.prog.globals.size).take ((begin C.prog (fun _ _ => 0) default).world.heap.size - C.prog.globals.size) =
      (begin C.prog (fun _ _ => 0) default).world.heap.toList.drop C.prog.globals.size)
    (hok : Input.okWideB C.prog (w0.forCall (fun _ _ => 0) ⟨#[],args,[]⟩) f ⟨#[],args,[]⟩ = true)
    (hrow : s.preRow enc C.prog fn conds apart laid (w0.forCall (fun _ _ => 0) ⟨#[],args,[]⟩).memory args) :
    ∃ (w : World) (tape : Tape) (i : Input),w.os = os /\ (w.forCall tape i).Shaped C.prog /\ i.vars = [] /\ Input.okWide C.prog (w.forCall tape i) .any w.heap.size f i /\
      s.preRow enc C.prog fn conds apart laid (w.forCall tape i).memory i.args /\ ({ modest := modest } : Assume).holds C.prog (lone (Frame.enter C.prog f i.args .normal) [] (w.forCall tape i)) :=
  ⟨w0,fun _ _ => 0,⟨#[],args,[]⟩,hos,World.shaped_of_ZipB hv hr,(Input.okWide_of_okWideB (base := 0) hok).1,(Input.okWide_of_okWideB hok).2,hrow,by
    simp only [Assume.holds]
    exact ⟨by simp,by simp,fun _ => Modest.zero,by simp,by simp⟩⟩
theorem open_text {w : World} {r : Reach} {b0 : Nat} {v : Value} {d : DataW H} {ps : List MemPlace} (hval : Value.okWide Tryz.prog w r b0 9 v) (h : DataW.Trod enc Tryz.prog w 0 (fun _ => true) true 9 v d ps) : ∃ s : ByteArray,v = .string s /\ d = .lit (.string s.data.toList) /\ ps = [] /\ s.size <= maxLen := by
  obtain ⟨s,rfl⟩ := okWide_string Row.u9 hval
  obtain ⟨fuel,hf⟩ := h
  obtain ⟨s',h,hx,hs⟩ := DataW.trod_string Row.u9 hf
  simp [Value.cells] at h
  subst h
  simp only [Prod.mk.injEq] at hx
  exact ⟨s,rfl,hx.1,hx.2,hs⟩
end
end Go.Proofs.YtilenpnpnbdndaaGreatDoor
