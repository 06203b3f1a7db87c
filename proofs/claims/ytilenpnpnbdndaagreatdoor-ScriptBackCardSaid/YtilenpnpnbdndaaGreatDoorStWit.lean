/- Own text: part of the shallow reading of the code and of the contracts that are proved over it. -/
import Derived.Test.YtilenpnpnbdndaaGreatDoorShR
import Derived.SizedLaws
import Derived.Test.YtilenpnpnbdndaaGreatDoorRtO
import Derived.Test.YtilenpnpnbdndaaGreatDoorRows
import Derived.Test.YtilenpnpnbdndaaGreatDoorTie
import Derived.Test.YtilenpnpnbdndaaGreatDoorCards
import Derived.ProofKit
import Derived.OpenShut
import Derived.LaidMore
import Derived.Lay
import Derived.Deep.DeepHandedRow
import Derived.Lib.LaidTab
namespace Go.Sh
open Go
open Go.ChangeShapes Go.WideShapes Go.ChangeAt Go.WideMaps Go.WideElems Go.RowKit
section
variable {H : Type} {enc : TypeId × Value -> H} {P : Program} {w : World}
theorem lits_length (k : IntKind) (l : List Int) : (lits (H := H) k l).length = l.length := by simp [lits]
theorem ints_open {t e : TypeId} {k : IntKind} {n : Nat} {cs : List Value} {x : DataW H × List MemPlace} (ht : P.underlying t = some (.slice e)) (he : P.underlying e = some (.int k)) (hc : P.cellsOf e = 1)
  (h : DataW.trod enc P w 0 (fun _ => true) true n t cs = some x) : ∃ (a : Option Addr) (X : List Int) (c : Nat),cs = [.slice a X.length c] /\ X.length <= c /\ c <= maxLen /\ (a = none -> c = 0) /\ Rd w a (X.map (Value.int k)) /\ (∀ x ∈ X,(Lit.int k x).wf = true) /\ (X = [] \/ ∃ es sp,x.1 = .slice es sp /\ X.length <= es.length + sp.length) := by
 rcases open_ints ht he hc h with ⟨hcs,hx⟩ | ⟨a,len,cap,zs,hcs,_,hl,hm,hz,hx,hcl,hwz⟩
 ·exact ⟨none,[],0,hcs,Nat.le_refl _,Nat.zero_le _,fun _ => rfl,Rd.nil _ _,by simp,.inl rfl⟩
 ·simp only [if_true] at hz
  have hlen : (zs.take len).length = len := by rw [List.length_take]; omega
  refine ⟨some a,zs.take len,cap,by rw [hlen]; exact hcs,by omega,hm,(fun h => by cases h),fun j u hj => ⟨a,rfl,?_⟩,fun x hx => hwz x (List.mem_of_mem_take hx),.inr ⟨_,_,by rw [hx],by rw [lits_length]; omega⟩⟩
  rw [List.getElem?_map,List.getElem?_take] at hj
  split at hj
  ·rename_i hjl
   obtain ⟨x,hx⟩ : ∃ x,zs[j]? = some x := ⟨zs[j]'(by omega),by simp⟩
   rw [hx] at hj
   cases hj
   have := hcl j (by omega)
   rw [List.getD_eq_getElem?_getD,hx] at this
   exact this
  ·cases hj
theorem fld_of {t : TypeId} {l : List (TypeId × Nat)} {n : Nat} {cs : List Value} {x : DataW H × List MemPlace} (hs : structIs P t l = true) (h : DataW.trod enc P w 0 (fun _ => true) true n t cs = some x) :
  ∃ m,∀ (i : Nat) ty off,l[i]? = some (ty,off) -> ∃ y,DataW.trod enc P w 0 (fun _ => true) true m ty ((cs.drop off).take (P.cellsOf ty)) = some y := by
 obtain ⟨fs,hu,hl⟩ := struct_of hs
 obtain ⟨xs,m,_,_,_,hxl,hx⟩ := DataW.trod_struct hu h
 refine ⟨m,fun i ty off hi => ?_⟩
 rw [← hl,List.getElem?_map] at hi
 cases hf : fs.toList[i]? with
 | none => rw [hf] at hi; cases hi
 | some f =>
  rw [hf] at hi
  cases hi
  have hf' : fs[i]? = some f := by rw [← Array.getElem?_toList]; exact hf
  have hlt := (Array.getElem?_eq_some_iff.1 hf').1
  have := hx i f hf'
  obtain ⟨y,hy⟩ : ∃ y,xs[i]? = some y := ⟨xs[i]'(by omega),by simp⟩
  exact ⟨y,by rw [this,hy]⟩
theorem recs_of {α : Type} {f : α -> List Value} {ok : α -> Prop} : ∀ (rows : List (List Value)),(∀ r ∈ rows,∃ q,r = f q /\ ok q) -> ∃ l : List α,l.length = rows.length /\ rows.flatten = l.flatMap f /\ ∀ q ∈ l,ok q
 | [],_ => ⟨[],rfl,rfl,by simp⟩
 | r :: rows,h => by
  obtain ⟨l,h1,h2,h3⟩ := recs_of rows fun q hq => h q (List.mem_cons_of_mem _ hq)
  obtain ⟨q,rfl,hq⟩ := h r List.mem_cons_self
  refine ⟨q :: l,by simp [h1],by rw [List.flatten_cons,h2]; rfl,fun x hx => ?_⟩
  rcases List.mem_cons.1 hx with rfl | hx
  ·exact hq
  ·exact h3 x hx
theorem wf_u8 {x : Int} (h : (Lit.int .u8 x).wf = true) : 0 <= x /\ x < 256 := by
 simp [Lit.wf,IntKind.min,IntKind.max,IntKind.signed,IntKind.bits] at h; omega
end
end Go.Sh
namespace Go.Sh
open Go Go.ChangeShapes Go.WideShapes Go.ChangeAt Go.WideMaps Go.WideElems Go.RowKit
section
variable {H : Type} {enc : TypeId × Value -> H} {P : Program} {w : World}
def light (P : Program) (t : TypeId) (d : DataW H) : Prop := ∀ n ∈ d.weights P t,n <= reachBytes
theorem light_each {ts : List TypeId} {ds : List (DataW H)} (h : (DataW.weightsEach P ts ds).all (· <= reachBytes) = true) {j : Nat} {t : TypeId} {d : DataW H} (ht : ts[j]? = some t) (hd : ds[j]? = some d) : light P t d := fun n hn => by
 have := List.all_eq_true.1 h _ (DataW.weights_mem_each ht hd n hn)
 simpa using this
theorem weightsAll_mem {e : TypeId} : ∀ {ds : List (DataW H)} {d : DataW H},d ∈ ds -> ∀ n ∈ d.weights P e,n ∈ DataW.weightsAll P e ds
 | a :: ds,d,hd,n,hn => by
  rw [DataW.weightsAll,List.mem_append]
  rcases List.mem_cons.1 hd with rfl | hd
  ·exact .inl hn
  ·exact .inr (weightsAll_mem hd n hn)
theorem light_elem {t e : TypeId} {es sp : List (DataW H)} (ht : P.underlying t = some (.slice e)) (h : light P t (.slice es sp)) {d : DataW H} (hd : d ∈ es) : light P e d := fun n hn => by
 refine h n ?_
 rw [DataW.weights,ht]
 simp only [List.mem_cons,List.mem_append]
 exact .inr (.inl (weightsAll_mem hd n hn))
theorem light_len {t e : TypeId} {es sp : List (DataW H)} (ht : P.underlying t = some (.slice e)) (h : light P t (.slice es sp)) : (es.length + sp.length) * P.bytesOf e <= reachBytes := by
 refine h _ ?_
 rw [DataW.weights,ht]
 simp
theorem weightsEach_mem {ts : List TypeId} {ds : List (DataW H)} {j : Nat} {t : TypeId} {d : DataW H} (ht : ts[j]? = some t) (hd : ds[j]? = some d) : ∀ n ∈ d.weights P t,n ∈ DataW.weightsEach P ts ds := DataW.weights_mem_each ht hd
theorem fld_of2 {t : TypeId} {l : List (TypeId × Nat)} {n : Nat} {cs : List Value} {x : DataW H × List MemPlace} (hs : structIs P t l = true) (h : DataW.trod enc P w 0 (fun _ => true) true n t cs = some x) (hw : light P t x.1) :
  ∃ m,∀ (i : Nat) ty off,l[i]? = some (ty,off) -> ∃ y,DataW.trod enc P w 0 (fun _ => true) true m ty ((cs.drop off).take (P.cellsOf ty)) = some y /\ light P ty y.1 := by
 obtain ⟨fs,hu,hl⟩ := struct_of hs
 obtain ⟨xs,m,_,hxe,_,hxl,hx⟩ := DataW.trod_struct hu h
 refine ⟨m,fun i ty off hi => ?_⟩
 rw [← hl,List.getElem?_map] at hi
 cases hf : fs.toList[i]? with
 | none => rw [hf] at hi; cases hi
 | some f =>
  rw [hf] at hi
  cases hi
  have hf' : fs[i]? = some f := by rw [← Array.getElem?_toList]; exact hf
  have hlt := (Array.getElem?_eq_some_iff.1 hf').1
  have := hx i f hf'
  obtain ⟨y,hy⟩ : ∃ y,xs[i]? = some y := ⟨xs[i]'(by omega),by simp⟩
  refine ⟨y,by rw [this,hy],fun k hk => hw k ?_⟩
  have hxa : x.1 = .agg (xs.map (·.1)) := congrArg Prod.fst hxe
  rw [hxa,DataW.weights,hu]
  exact weightsEach_mem (j := i) (by rw [List.getElem?_map,hf]; rfl) (by rw [List.getElem?_map,hy]; rfl) k hk
end
end Go.Sh
namespace Go.Proofs.YtilenpnpnbdndaaGreatDoor
open Go Go.Sh
open Go.ChangeShapes Go.WideShapes Go.ChangeAt Go.WideMaps Go.WideElems Go.RowKit
set_option maxRecDepth 100000
namespace Row
theorem own : ownKnob Tryz.prog.godebug = none := by kernel_rfl
theorem laidOut : laidOutB Tryz.prog = true := by kernel_rfl
theorem gTab : Tryz.prog.globalNamed "internal/strconv.uint64pow10" = some 0 := by kernel_rfl
theorem gRange : Tryz.prog.globalNamed "strconv.ErrRange" = some 5 := by kernel_rfl
theorem gSyntax : Tryz.prog.globalNamed "strconv.ErrSyntax" = some 4 := by kernel_rfl
theorem u3 : Tryz.prog.underlying 3 = some (.int .i64) := by kernel_rfl
theorem u5 : Tryz.prog.underlying 5 = some (.int .u8) := by kernel_rfl
theorem u22 : Tryz.prog.underlying 22 = some (.int .i64) := by kernel_rfl
theorem u23 : Tryz.prog.underlying 23 = some (.int .u16) := by kernel_rfl
theorem u24 : Tryz.prog.underlying 24 = some (.int .u32) := by kernel_rfl
theorem u42 : Tryz.prog.underlying 42 = some (.int .u64) := by kernel_rfl
theorem u4 : Tryz.prog.underlying 4 = some .bool := by kernel_rfl
theorem u9 : Tryz.prog.underlying 9 = some .string := by kernel_rfl
theorem u25 : Tryz.prog.underlying 25 = some (.slice 5) := by kernel_rfl
theorem u59 : Tryz.prog.underlying 59 = some (.slice 27) := by kernel_rfl
theorem u41 : Tryz.prog.underlying 41 = some (.array 16 5) := by kernel_rfl
theorem b5 : Tryz.prog.bytesOf 5 = 1 := by kernel_rfl
theorem c3 : Tryz.prog.cellsOf 3 = 1 := by kernel_rfl
theorem c22 : Tryz.prog.cellsOf 22 = 1 := by kernel_rfl
theorem c5 : Tryz.prog.cellsOf 5 = 1 := by kernel_rfl
theorem c23 : Tryz.prog.cellsOf 23 = 1 := by kernel_rfl
theorem c24 : Tryz.prog.cellsOf 24 = 1 := by kernel_rfl
theorem c42 : Tryz.prog.cellsOf 42 = 1 := by kernel_rfl
theorem c4 : Tryz.prog.cellsOf 4 = 1 := by kernel_rfl
theorem c9 : Tryz.prog.cellsOf 9 = 1 := by kernel_rfl
theorem c25 : Tryz.prog.cellsOf 25 = 1 := by kernel_rfl
theorem c41 : Tryz.prog.cellsOf 41 = 16 := by kernel_rfl
theorem c44 : Tryz.prog.cellsOf 44 = 25 := by kernel_rfl
theorem c46 : Tryz.prog.cellsOf 46 = 3 := by kernel_rfl
theorem c48 : Tryz.prog.cellsOf 48 = 3 := by kernel_rfl
theorem c27 : Tryz.prog.cellsOf 27 = 12 := by kernel_rfl
theorem c50 : Tryz.prog.cellsOf 50 = 41 := by kernel_rfl
theorem s27 : structIs Tryz.prog 27 [(22,0),(3,1),(3,2),(3,3),(3,4),(5,5),(3,6),(23,7),(24,8),(4,9),(25,10),(9,11)] = true := by kernel_rfl
theorem s44 : structIs Tryz.prog 44 [(41,0),(42,16),(3,17),(24,18),(23,19),(23,20),(3,21),(3,22),(23,23),(23,24)] = true := by kernel_rfl
theorem s46 : structIs Tryz.prog 46 [(3,0),(3,1),(3,2)] = true := by kernel_rfl
theorem s48 : structIs Tryz.prog 48 [(3,0),(3,1),(3,2)] = true := by kernel_rfl
theorem s50 : structIs Tryz.prog 50 [(44,0),(3,25),(3,26),(3,27),(46,28),(48,31),(3,34),(3,35),(3,36),(3,37),(4,38),(4,39),(4,40)] = true := by kernel_rfl
theorem wf_u64 {x : Int} (h : (Lit.int .u64 x).wf = true) : 0 <= x /\ x <= 18446744073709551615 := by
 simp [Lit.wf,IntKind.min,IntKind.max,IntKind.signed,IntKind.bits] at h; omega
end Row
theorem i8_back {n : Int} (h0 : 0 <= n) (h1 : n < 256) : ((n.toNat.toUInt8).toNat : Int) = n := by
 have : n.toNat < 256 := by omega
 simp [Nat.toUInt8,UInt8.toNat_ofNat']
 omega
theorem u8v_of {X : List Int} (h : ∀ x ∈ X,0 <= x /\ x < 256) : ∃ l : List UInt8,l.length = X.length /\ X.map (Value.int .u8) = u8v l := by
 refine ⟨X.map fun x => x.toNat.toUInt8,by simp,?_⟩
 unfold u8v
 rw [List.map_map]
 refine List.map_congr_left fun x hx => ?_
 simp only [Function.comp_apply]
 rw [i8_back (h x hx).1 (h x hx).2]
theorem key_good {cs : Array Value} (h : ∀ j,j < 16 -> ∃ n,cs[j]? = some (.int .u8 n) /\ 0 <= n /\ n < 256) : cs.toList.take 16 = u8v (keyAt cs) := by
 apply List.ext_getElem?
 intro j
 rw [List.getElem?_take]
 unfold u8v keyAt
 rw [List.getElem?_map,List.getElem?_map]
 by_cases hj : j < 16
 ·obtain ⟨n,h1,h2,h3⟩ := h j hj
  rw [if_pos hj,Array.getElem?_toList,h1,List.getElem?_range hj]
  simp only [Option.map_some]
  have : iAt cs j = n := by unfold iAt; rw [h1]
  rw [this,i8_back h2 h3]
 ·rw [if_neg hj,List.getElem?_eq_none (l := List.range 16) (by simp; omega)]
  rfl
section
variable {H : Type} {enc : TypeId × Value -> H} {w : World}
theorem key_open {n : Nat} {cs : List Value} {x : DataW H × List MemPlace} (h : DataW.trod enc Tryz.prog w 0 (fun _ => true) true n 41 cs = some x) :
  ∀ j,j < 16 -> ∃ n,cs[j]? = some (.int .u8 n) /\ 0 <= n /\ n < 256 := by
 obtain ⟨xs,m,_,_,hlen,hl,hel⟩ := DataW.trod_array Row.u41 h
 intro j hj
 have hE := hel j hj
 rw [Row.c5,Nat.mul_one,List.getElem?_eq_getElem (by omega)] at hE
 obtain ⟨z,e1,_,e2⟩ := DataW.trod_int Row.u5 hE
 have h0 : ((cs.drop j).take 1)[0]? = some (.int .u8 z) := by rw [e1]; rfl
 have := wf_u8 e2
 exact ⟨z,by simpa using h0,this.1,this.2⟩
structure DeedOk (w : World) (R : R26) (d : List UInt8) : Prop where
 good : GoodD ⟨R.c,d⟩
 holds : Holds26 w R d
 len : d.length <= 140737488351232
theorem deed_open {n : Nat} {cs : List Value} {x : DataW H × List MemPlace} (hl : cs.length = 12) (h : DataW.trod enc Tryz.prog w 0 (fun _ => true) true n 27 cs = some x) (hw : light Tryz.prog 27 x.1) : ∃ (R : R26) (d : List UInt8),cs = R.l /\ DeedOk w R d := by
 obtain ⟨m,hf⟩ := fld_of2 Row.s27 h hw
 match cs,hl with
 | [b0,b1,b2,b3,b4,b5,b6,b7,b8,b9,b10,b11],_ =>
  obtain ⟨y0,h0,l0⟩ := hf 0 22 0 rfl
  rw [Row.c22] at h0
  obtain ⟨y1,h1,l1⟩ := hf 1 3 1 rfl
  rw [Row.c3] at h1
  obtain ⟨y2,h2,l2⟩ := hf 2 3 2 rfl
  rw [Row.c3] at h2
  obtain ⟨y3,h3,l3⟩ := hf 3 3 3 rfl
  rw [Row.c3] at h3
  obtain ⟨y4,h4,l4⟩ := hf 4 3 4 rfl
  rw [Row.c3] at h4
  obtain ⟨y5,h5,l5⟩ := hf 5 5 5 rfl
  rw [Row.c5] at h5
  obtain ⟨y6,h6,l6⟩ := hf 6 3 6 rfl
  rw [Row.c3] at h6
  obtain ⟨y7,h7,l7⟩ := hf 7 23 7 rfl
  rw [Row.c23] at h7
  obtain ⟨y8,h8,l8⟩ := hf 8 24 8 rfl
  rw [Row.c24] at h8
  obtain ⟨y9,h9,l9⟩ := hf 9 4 9 rfl
  rw [Row.c4] at h9
  obtain ⟨y10,h10,l10⟩ := hf 10 25 10 rfl
  rw [Row.c25] at h10
  obtain ⟨y11,h11,l11⟩ := hf 11 9 11 rfl
  rw [Row.c9] at h11
  obtain ⟨k0,e0,_,w0⟩ := DataW.trod_int Row.u22 h0
  obtain ⟨k1,e1,_,w1⟩ := DataW.trod_int Row.u3 h1
  obtain ⟨k2,e2,_,w2⟩ := DataW.trod_int Row.u3 h2
  obtain ⟨k3,e3,_,w3⟩ := DataW.trod_int Row.u3 h3
  obtain ⟨k4,e4,_,w4⟩ := DataW.trod_int Row.u3 h4
  obtain ⟨k5,e5,_,w5⟩ := DataW.trod_int Row.u5 h5
  obtain ⟨k6,e6,_,w6⟩ := DataW.trod_int Row.u3 h6
  obtain ⟨k7,e7,_,w7⟩ := DataW.trod_int Row.u23 h7
  obtain ⟨k8,e8,_,w8⟩ := DataW.trod_int Row.u24 h8
  obtain ⟨k9,e9,_⟩ := DataW.trod_bool Row.u4 h9
  obtain ⟨a10,X,q10,e10,_,_,_,hr,hX,hs⟩ := ints_open Row.u25 Row.u5 Row.c5 h10
  obtain ⟨k11,e11,_⟩ := DataW.trod_string Row.u9 h11
  simp at e0 e1 e2 e3 e4 e5 e6 e7 e8 e9 e10 e11
  subst e0; subst e1; subst e2; subst e3; subst e4; subst e5; subst e6; subst e7; subst e8; subst e9; subst e10; subst e11
  obtain ⟨dd,hdl,hdd⟩ := u8v_of fun v hv => wf_u8 (hX v hv)
  have w5 := wf_u8 w5
  have w7 := wf_u16 w7
  have w8 := wf_u32 w8
  have hlen : dd.length <= 140737488351232 := by
   rw [hdl]
   rcases hs with rfl | ⟨es,sp,e,hle⟩
   ·simp
   ·rw [e] at l10
    have := light_len Row.u25 l10
    rw [Row.b5] at this
    unfold reachBytes at this
    omega
  exact ⟨⟨k0,k1,k2,k3,k4,k5,k6,k7,k8,k9,a10,X.length,q10,k11⟩,dd,rfl,⟨⟨w5.1,by show k5 <= 255; omega⟩,w7,⟨w8.1,by show k8 <= 4294967295; omega⟩⟩,⟨hdl.symm,by rw [← hdd]; exact hr⟩,hlen⟩
theorem three_open {t : TypeId} {n : Nat} {a b c : Value} {x : DataW H × List MemPlace} (hs : structIs Tryz.prog t [(3,0),(3,1),(3,2)] = true) (h : DataW.trod enc Tryz.prog w 0 (fun _ => true) true n t [a,b,c] = some x) : ∃ i j k,a = .int .i64 i /\ b = .int .i64 j /\ c = .int .i64 k := by
 obtain ⟨m,hf⟩ := fld_of hs h
 obtain ⟨y0,h0⟩ := hf 0 3 0 rfl
 obtain ⟨y1,h1⟩ := hf 1 3 1 rfl
 obtain ⟨y2,h2⟩ := hf 2 3 2 rfl
 rw [Row.c3] at h0 h1 h2
 obtain ⟨k0,e0,_⟩ := DataW.trod_int Row.u3 h0
 obtain ⟨k1,e1,_⟩ := DataW.trod_int Row.u3 h1
 obtain ⟨k2,e2,_⟩ := DataW.trod_int Row.u3 h2
 simp at e0 e1 e2
 exact ⟨k0,k1,k2,e0,e1,e2⟩
theorem assoc_open {n : Nat} {cs : List Value} {x : DataW H × List MemPlace} (h : DataW.trod enc Tryz.prog w 0 (fun _ => true) true n 44 cs = some x) :
  (∀ j,j < 16 -> ∃ n,cs[j]? = some (.int .u8 n) /\ 0 <= n /\ n < 256) /\ (∃ n,cs[16]? = some (.int .u64 n) /\ 0 <= n /\ n <= 18446744073709551615) /\ (∃ n,cs[17]? = some (.int .i64 n) /\ True) /\ (∃ n,cs[18]? = some (.int .u32 n) /\ 0 <= n /\ n < 4294967296) /\ (∃ n,cs[19]? = some (.int .u16 n) /\ 0 <= n /\ n <= 65535) /\ (∃ n,cs[20]? = some (.int .u16 n) /\ 0 <= n /\ n <= 65535) /\ (∃ n,cs[21]? = some (.int .i64 n) /\ True) /\ (∃ n,cs[22]? = some (.int .i64 n) /\ True) /\ (∃ n,cs[23]? = some (.int .u16 n) /\ 0 <= n /\ n <= 65535) /\ (∃ n,cs[24]? = some (.int .u16 n) /\ 0 <= n /\ n <= 65535) := by
 obtain ⟨m,hf⟩ := fld_of Row.s44 h
 have hk : ∀ j,j < 16 -> ∃ n,cs[j]? = some (.int .u8 n) /\ 0 <= n /\ n < 256 := fun j hj => by
  obtain ⟨y,hy⟩ := hf 0 41 0 rfl
  rw [Row.c41] at hy
  obtain ⟨z,hz,h2⟩ := key_open hy j hj
  refine ⟨z,?_,h2⟩
  rw [List.getElem?_take,if_pos hj] at hz
  simpa using hz
 have f1 : ∃ n,cs[16]? = some (.int .u64 n) /\ 0 <= n /\ n <= 18446744073709551615 := by
  obtain ⟨y,hy⟩ := hf 1 42 16 rfl
  rw [Row.c42] at hy
  obtain ⟨z,e,_,hz⟩ := DataW.trod_int Row.u42 hy
  have h0 : ((cs.drop 16).take 1)[0]? = some (.int .u64 z) := by rw [e]; rfl
  exact ⟨z,by simpa using h0,Row.wf_u64 hz⟩
 have f2 : ∃ n,cs[17]? = some (.int .i64 n) /\ True := by
  obtain ⟨y,hy⟩ := hf 2 3 17 rfl
  rw [Row.c3] at hy
  obtain ⟨z,e,_,hz⟩ := DataW.trod_int Row.u3 hy
  have h0 : ((cs.drop 17).take 1)[0]? = some (.int .i64 z) := by rw [e]; rfl
  exact ⟨z,by simpa using h0,trivial⟩
 have f3 : ∃ n,cs[18]? = some (.int .u32 n) /\ 0 <= n /\ n < 4294967296 := by
  obtain ⟨y,hy⟩ := hf 3 24 18 rfl
  rw [Row.c24] at hy
  obtain ⟨z,e,_,hz⟩ := DataW.trod_int Row.u24 hy
  have h0 : ((cs.drop 18).take 1)[0]? = some (.int .u32 z) := by rw [e]; rfl
  exact ⟨z,by simpa using h0,wf_u32 hz⟩
 have f4 : ∃ n,cs[19]? = some (.int .u16 n) /\ 0 <= n /\ n <= 65535 := by
  obtain ⟨y,hy⟩ := hf 4 23 19 rfl
  rw [Row.c23] at hy
  obtain ⟨z,e,_,hz⟩ := DataW.trod_int Row.u23 hy
  have h0 : ((cs.drop 19).take 1)[0]? = some (.int .u16 z) := by rw [e]; rfl
  exact ⟨z,by simpa using h0,wf_u16 hz⟩
 have f5 : ∃ n,cs[20]? = some (.int .u16 n) /\ 0 <= n /\ n <= 65535 := by
  obtain ⟨y,hy⟩ := hf 5 23 20 rfl
  rw [Row.c23] at hy
  obtain ⟨z,e,_,hz⟩ := DataW.trod_int Row.u23 hy
  have h0 : ((cs.drop 20).take 1)[0]? = some (.int .u16 z) := by rw [e]; rfl
  exact ⟨z,by simpa using h0,wf_u16 hz⟩
 have f6 : ∃ n,cs[21]? = some (.int .i64 n) /\ True := by
  obtain ⟨y,hy⟩ := hf 6 3 21 rfl
  rw [Row.c3] at hy
  obtain ⟨z,e,_,hz⟩ := DataW.trod_int Row.u3 hy
  have h0 : ((cs.drop 21).take 1)[0]? = some (.int .i64 z) := by rw [e]; rfl
  exact ⟨z,by simpa using h0,trivial⟩
 have f7 : ∃ n,cs[22]? = some (.int .i64 n) /\ True := by
  obtain ⟨y,hy⟩ := hf 7 3 22 rfl
  rw [Row.c3] at hy
  obtain ⟨z,e,_,hz⟩ := DataW.trod_int Row.u3 hy
  have h0 : ((cs.drop 22).take 1)[0]? = some (.int .i64 z) := by rw [e]; rfl
  exact ⟨z,by simpa using h0,trivial⟩
 have f8 : ∃ n,cs[23]? = some (.int .u16 n) /\ 0 <= n /\ n <= 65535 := by
  obtain ⟨y,hy⟩ := hf 8 23 23 rfl
  rw [Row.c23] at hy
  obtain ⟨z,e,_,hz⟩ := DataW.trod_int Row.u23 hy
  have h0 : ((cs.drop 23).take 1)[0]? = some (.int .u16 z) := by rw [e]; rfl
  exact ⟨z,by simpa using h0,wf_u16 hz⟩
 have f9 : ∃ n,cs[24]? = some (.int .u16 n) /\ 0 <= n /\ n <= 65535 := by
  obtain ⟨y,hy⟩ := hf 9 23 24 rfl
  rw [Row.c23] at hy
  obtain ⟨z,e,_,hz⟩ := DataW.trod_int Row.u23 hy
  have h0 : ((cs.drop 24).take 1)[0]? = some (.int .u16 z) := by rw [e]; rfl
  exact ⟨z,by simpa using h0,wf_u16 hz⟩
 exact ⟨hk,f1,f2,f3,f4,f5,f6,f7,f8,f9⟩
theorem conf_open {n : Nat} {cs : List Value} {x : DataW H × List MemPlace} (hl : cs.length = 41) (h : DataW.trod enc Tryz.prog w 0 (fun _ => true) true n 50 cs = some x) : ∃ R : R49,cs = R.l /\ GoodC R.c := by
 obtain ⟨m,hf⟩ := fld_of Row.s50 h
 match cs,hl with
 | b0 :: b1 :: b2 :: b3 :: b4 :: b5 :: b6 :: b7 :: b8 :: b9 :: b10 :: b11 :: b12 :: b13 :: b14 :: b15 :: b16 :: b17 :: b18 :: b19 :: b20 :: b21 :: b22 :: b23 :: b24 :: b25 :: b26 :: b27 :: b28 :: b29 :: b30 :: b31 :: b32 :: b33 :: b34 :: b35 :: b36 :: b37 :: b38 :: b39 :: b40 :: [],_ =>
  obtain ⟨y0,h0⟩ := hf 0 44 0 rfl
  rw [Row.c44] at h0
  obtain ⟨y1,h1⟩ := hf 1 3 25 rfl
  rw [Row.c3] at h1
  obtain ⟨y2,h2⟩ := hf 2 3 26 rfl
  rw [Row.c3] at h2
  obtain ⟨y3,h3⟩ := hf 3 3 27 rfl
  rw [Row.c3] at h3
  obtain ⟨y4,h4⟩ := hf 4 46 28 rfl
  rw [Row.c46] at h4
  obtain ⟨y5,h5⟩ := hf 5 48 31 rfl
  rw [Row.c48] at h5
  obtain ⟨y6,h6⟩ := hf 6 3 34 rfl
  rw [Row.c3] at h6
  obtain ⟨y7,h7⟩ := hf 7 3 35 rfl
  rw [Row.c3] at h7
  obtain ⟨y8,h8⟩ := hf 8 3 36 rfl
  rw [Row.c3] at h8
  obtain ⟨y9,h9⟩ := hf 9 3 37 rfl
  rw [Row.c3] at h9
  obtain ⟨y10,h10⟩ := hf 10 4 38 rfl
  rw [Row.c4] at h10
  obtain ⟨y11,h11⟩ := hf 11 4 39 rfl
  rw [Row.c4] at h11
  obtain ⟨y12,h12⟩ := hf 12 4 40 rfl
  rw [Row.c4] at h12
  obtain ⟨hk,⟨g16,e16,w16⟩,⟨g17,e17,w17⟩,⟨g18,e18,w18⟩,⟨g19,e19,w19⟩,⟨g20,e20,w20⟩,⟨g21,e21,w21⟩,⟨g22,e22,w22⟩,⟨g23,e23,w23⟩,⟨g24,e24,w24⟩⟩ := assoc_open h0
  obtain ⟨g0,e0,w0⟩ := hk 0 (by decide)
  obtain ⟨g1,e1,w1⟩ := hk 1 (by decide)
  obtain ⟨g2,e2,w2⟩ := hk 2 (by decide)
  obtain ⟨g3,e3,w3⟩ := hk 3 (by decide)
  obtain ⟨g4,e4,w4⟩ := hk 4 (by decide)
  obtain ⟨g5,e5,w5⟩ := hk 5 (by decide)
  obtain ⟨g6,e6,w6⟩ := hk 6 (by decide)
  obtain ⟨g7,e7,w7⟩ := hk 7 (by decide)
  obtain ⟨g8,e8,w8⟩ := hk 8 (by decide)
  obtain ⟨g9,e9,w9⟩ := hk 9 (by decide)
  obtain ⟨g10,e10,w10⟩ := hk 10 (by decide)
  obtain ⟨g11,e11,w11⟩ := hk 11 (by decide)
  obtain ⟨g12,e12,w12⟩ := hk 12 (by decide)
  obtain ⟨g13,e13,w13⟩ := hk 13 (by decide)
  obtain ⟨g14,e14,w14⟩ := hk 14 (by decide)
  obtain ⟨g15,e15,w15⟩ := hk 15 (by decide)
  obtain ⟨g25,e25,_⟩ := DataW.trod_int Row.u3 h1
  obtain ⟨g26,e26,_⟩ := DataW.trod_int Row.u3 h2
  obtain ⟨g27,e27,_⟩ := DataW.trod_int Row.u3 h3
  obtain ⟨g28,g29,g30,e28,e29,e30⟩ := three_open (a := b28) (b := b29) (c := b30) Row.s46 h4
  obtain ⟨g31,g32,g33,e31,e32,e33⟩ := three_open (a := b31) (b := b32) (c := b33) Row.s48 h5
  obtain ⟨g34,e34,_⟩ := DataW.trod_int Row.u3 h6
  obtain ⟨g35,e35,_⟩ := DataW.trod_int Row.u3 h7
  obtain ⟨g36,e36,_⟩ := DataW.trod_int Row.u3 h8
  obtain ⟨g37,e37,_⟩ := DataW.trod_int Row.u3 h9
  obtain ⟨g38,e38,_⟩ := DataW.trod_bool Row.u4 h10
  obtain ⟨g39,e39,_⟩ := DataW.trod_bool Row.u4 h11
  obtain ⟨g40,e40,_⟩ := DataW.trod_bool Row.u4 h12
  simp at e0 e1 e2 e3 e4 e5 e6 e7 e8 e9 e10 e11 e12 e13 e14 e15 e16 e17 e18 e19 e20 e21 e22 e23 e24 e25 e26 e27 e34 e35 e36 e37 e38 e39 e40
  subst e0; subst e1; subst e2; subst e3; subst e4; subst e5; subst e6; subst e7; subst e8; subst e9; subst e10; subst e11; subst e12; subst e13; subst e14; subst e15; subst e16; subst e17; subst e18; subst e19; subst e20; subst e21; subst e22; subst e23; subst e24; subst e25; subst e26; subst e27; subst e28; subst e29; subst e30; subst e31; subst e32; subst e33; subst e34; subst e35; subst e36; subst e37; subst e38; subst e39; subst e40
  have hr : GoodC (R49.c ⟨g0,g1,g2,g3,g4,g5,g6,g7,g8,g9,g10,g11,g12,g13,g14,g15,g16,g17,g18,g19,g20,g21,g22,g23,g24,g25,g26,g27,g28,g29,g30,g31,g32,g33,g34,g35,g36,g37,g38,g39,g40⟩) := ⟨w16,⟨w18.1,by show g18 <= 4294967295; omega⟩,w19,w20,w23,w24,key_good fun j hj => by
   match j,hj with
   | 0,_ => exact ⟨g0,rfl,w0⟩
   | 1,_ => exact ⟨g1,rfl,w1⟩
   | 2,_ => exact ⟨g2,rfl,w2⟩
   | 3,_ => exact ⟨g3,rfl,w3⟩
   | 4,_ => exact ⟨g4,rfl,w4⟩
   | 5,_ => exact ⟨g5,rfl,w5⟩
   | 6,_ => exact ⟨g6,rfl,w6⟩
   | 7,_ => exact ⟨g7,rfl,w7⟩
   | 8,_ => exact ⟨g8,rfl,w8⟩
   | 9,_ => exact ⟨g9,rfl,w9⟩
   | 10,_ => exact ⟨g10,rfl,w10⟩
   | 11,_ => exact ⟨g11,rfl,w11⟩
   | 12,_ => exact ⟨g12,rfl,w12⟩
   | 13,_ => exact ⟨g13,rfl,w13⟩
   | 14,_ => exact ⟨g14,rfl,w14⟩
   | 15,_ => exact ⟨g15,rfl,w15⟩
   | (j + 16),hj => exact absurd hj (by omega)⟩
  exact ⟨⟨g0,g1,g2,g3,g4,g5,g6,g7,g8,g9,g10,g11,g12,g13,g14,g15,g16,g17,g18,g19,g20,g21,g22,g23,g24,g25,g26,g27,g28,g29,g30,g31,g32,g33,g34,g35,g36,g37,g38,g39,g40⟩,rfl,hr⟩
end
theorem tab_eq : (Rows.laid_internal_strconv_uint64pow10 : DataW Unit) = Lib.tabData .u64 Lib.pow10Tab := by kernel_rfl
namespace Row
theorem tTab : (Tryz.prog.globals[0]?).map (·.type) = some 169 := by kernel_rfl
theorem tSyntax : (Tryz.prog.globals[4]?).map (·.type) = some 145 := by kernel_rfl
theorem tRange : (Tryz.prog.globals[5]?).map (·.type) = some 145 := by kernel_rfl
theorem u169 : Tryz.prog.underlying 169 = some (.array 20 42) := by kernel_rfl
theorem c169 : Tryz.prog.cellsOf 169 = 20 := by kernel_rfl
theorem u145 : ∃ ms, Tryz.prog.underlying 145 = some (.interface ms) := ⟨#[("Error", 88)], by kernel_rfl⟩
end Row
theorem err_of {w : World} {fuel : Nat} {cs : List Value} {x : DataW Unit × List MemPlace} {t : TypeId} {ms : Array (String × TypeId)} (hu : Tryz.prog.underlying t = some (.interface ms)) (h : DataW.trod (fun _ => ()) Tryz.prog w 0 (fun _ => true) false fuel t cs = some x) :
  ∃ ev,cs = [ev] /\ (ev = .nilIface \/ ∃ te pe,ev = .iface te pe) := by
 cases fuel with
 | zero => cases h
 | succ n =>
  unfold DataW.trod at h
  rw [hu] at h
  split at h <;> first | (cases h; done) | skip
  all_goals simp_all
theorem of_laid {W : World} (h : laidMetH Tryz.prog Rows.scriptLinesRow.laid W) : TB W := by
 rw [MakeChecks.laidMetH_plain _ _ _ (by kernel_rfl)] at h
 obtain ⟨ps,⟨_,_,_,_,_,_,_,_,_,_,⟨_,_,_,_,_,_,_,_,_,_,⟨g2,t2,cs2,f2,p2,q2,hg2,ht2,hv2,hd2,⟨_,_,_,_,_,_,_,_,_,_,⟨g4,t4,cs4,f4,p4,q4,hg4,ht4,hv4,hd4,⟨g5,t5,cs5,f5,p5,q5,hg5,ht5,hv5,hd5,_,_⟩,_⟩,_⟩,_⟩,_⟩,_⟩,_⟩ := h
 obtain rfl := Option.some.inj (Row.gTab.symm.trans hg2)
 obtain rfl := Option.some.inj (Row.tTab.symm.trans ht2)
 obtain rfl := Option.some.inj (Row.gRange.symm.trans hg4)
 obtain rfl := Option.some.inj (Row.tRange.symm.trans ht4)
 obtain rfl := Option.some.inj (Row.gSyntax.symm.trans hg5)
 obtain rfl := Option.some.inj (Row.tSyntax.symm.trans ht5)
 obtain ⟨ms,hu⟩ := Row.u145
 refine ⟨?_,?_,?_⟩
 ·unfold Lib.TabIs
  rw [tab_eq] at hd2
  rw [hv2,← Lib.cells_of_tab Row.u169 Row.u42 Row.c42 Row.c169 hd2]
 ·obtain ⟨ev,he,hc⟩ := err_of hu hd5
  refine ⟨ev,?_,hc⟩
  rw [World.var?_cell hg5 hv5 0,← Array.getElem?_toList,he]
  rfl
 ·obtain ⟨ev,he,hc⟩ := err_of hu hd4
  refine ⟨ev,?_,hc⟩
  rw [World.var?_cell hg4 hv4 0,← Array.getElem?_toList,he]
  rfl
end Go.Proofs.YtilenpnpnbdndaaGreatDoor
namespace Go.Proofs.YtilenpnpnbdndaaGreatDoor
open Go Go.Sh
open Go.ChangeShapes Go.WideShapes Go.ChangeAt Go.WideMaps Go.WideElems Go.RowKit
set_option maxRecDepth 100000
noncomputable def laidWorld (os : Os) : World := World.laidAll Tryz.prog os Rows.scriptLinesRow.laid
theorem laid_met (os : Os) (args : Array Value) : laidMetH Tryz.prog Rows.scriptLinesRow.laid ((laidWorld os).forCall (fun _ _ => 0) ⟨#[],args,[]⟩).memory := by
 rw [MakeChecks.laidMetH_plain _ _ _ (by kernel_rfl)]
 exact laidMet_laidAll _ (by kernel_rfl) (by kernel_rfl)
section
variable {H : Type} {enc : TypeId × Value -> H}
theorem witness_at {C : Checked} {os : Os} {f : FuncId} {fn : Func} {s : OpenSpec} {conds : List PathCond} {apart : Bool} {laid : List (String × DataW Unit)} (modest : Bool) (w0 : World) (args : Array Value) (hos : w0.os = os)
  (hv : (w0.forCall (fun _ _ => 0) ⟨#[],args,[]⟩).variablesZipB C.prog = true)
  (hr : ((w0.forCall (fun _ _ => 0) ⟨#[],args,[]⟩).heap.toList.drop C.prog.globals.size).take ((begin C.prog (fun _ _ => 0) default).world.heap.size - C.prog.globals.size) =
   (begin C.prog (fun _ _ => 0) default).world.heap.toList.drop C.prog.globals.size)
  (hok : Input.okWideB C.prog (w0.forCall (fun _ _ => 0) ⟨#[],args,[]⟩) f ⟨#[],args,[]⟩ = true)
  (hrow : s.preRow enc C.prog fn conds apart laid (w0.forCall (fun _ _ => 0) ⟨#[],args,[]⟩).memory args) :
  ∃ (w : World) (tape : Tape) (i : Input),w.os = os /\ (w.forCall tape i).Shaped C.prog /\ i.vars = [] /\ Input.okWide C.prog (w.forCall tape i) .any w.heap.size f i /\
   s.preRow enc C.prog fn conds apart laid (w.forCall tape i).memory i.args /\ ({ modest := modest } : Assume).holds C.prog (lone (Frame.enter C.prog f i.args .normal) [] (w.forCall tape i)) :=
 ⟨w0,fun _ _ => 0,⟨#[],args,[]⟩,hos,World.shaped_of_ZipB hv hr,(Input.okWide_of_okWideB (base := 0) hok).1,(Input.okWide_of_okWideB hok).2,hrow,by
  simp only [Assume.holds]
  exact ⟨by simp,by simp,fun _ => Modest.zero,by simp,by simp⟩⟩
theorem open_text {w : World} {r : Reach} {b0 : Nat} {v : Value} {d : DataW H} {ps : List MemPlace} (hval : Value.okWide Tryz.prog w r b0 9 v) (h : DataW.Trod enc Tryz.prog w 0 (fun _ => true) true 9 v d ps) : ∃ s : ByteArray,v = .string s /\ d = .lit (.string s.data.toList) /\ ps = [] /\ s.size <= maxLen := by
 obtain ⟨s,rfl⟩ := okWide_string Row.u9 hval
 obtain ⟨fuel,hf⟩ := h
 obtain ⟨s',h,hx,hs⟩ := DataW.trod_string Row.u9 hf
 simp [Value.cells] at h
 subst h
 simp only [Prod.mk.injEq] at hx
 exact ⟨s,rfl,hx.1,hx.2,hs⟩
end
end Go.Proofs.YtilenpnpnbdndaaGreatDoor
