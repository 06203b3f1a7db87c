/- Own text: part of the shallow reading of the code and of the contracts that are proved over it. -/
import Derived.Test.YtilenpnpnbdndaaGreatDoorSqR
import Derived.Test.YtilenpnpnbdndaaGreatDoorShI
namespace Go.Proofs.YtilenpnpnbdndaaGreatDoor
open Go Go.Sh
set_option maxRecDepth 100000
def dtP (W : World) (cs : Array Value) (dat : List UInt8) : HP := fun h => ∃ a c,cs[10]? = some (.slice a dat.length c) /\ (slP 5 1 a dat.length c (u8v dat) h \/ (Rd W a (u8v dat) /\ h = fun _ => none))
def ShD (cs : Array Value) : Prop := ∃ R : R26,cs = R.c
section
variable {W w : World} {M : List HP} {lb db : Nat} {r : Bool} {S : Sc} {ws : List ByteArray} {cs : Array Value} {dat : List UInt8}
theorem dt_open (h : Hs W (dtP W cs dat :: M) w) : ∃ a c,cs[10]? = some (.slice a dat.length c) /\ Rd w a (u8v dat) := by
 obtain ⟨f,g,⟨x,y,⟨a,c,e,hx⟩,hy,d,rfl⟩,ag',b⟩ := h
 refine ⟨a,c,e,?_⟩
 rcases hx with hx | ⟨hx,_⟩
 ·have h' : Hs W (slP 5 1 a dat.length c (u8v dat) :: M) w := ⟨f,_,⟨x,y,hx,hy,d,rfl⟩,ag',b⟩
  exact h'.rd 0 rfl
 ·exact hx.fr f fun _ _ x => x
theorem dt_old {a : Option Addr} {c : Nat} (hc : cs[10]? = some (.slice a dat.length c)) (hr : Rd W a (u8v dat)) (h : Hs W M w) : Hs W (dtP W cs dat :: M) w :=
 h.new (Fr.refl w) (x := fun _ => none) ⟨a,c,hc,.inr ⟨hr,rfl⟩⟩ (fun k o e => by cases e) (fun k e => absurd rfl e)
theorem dt_own {a : Option Addr} {c : Nat} (hc : cs[10]? = some (.slice a dat.length c)) (h : Hs W (slP 5 1 a dat.length c (u8v dat) :: M) w) : Hs W (dtP W cs dat :: M) w :=
 h.weak 0 rfl fun _ hx => ⟨a,c,hc,.inl hx⟩
theorem dt_cs {cs' : Array Value} (e : cs'[10]? = cs[10]?) : dtP W cs' dat = dtP W cs dat := by unfold dtP; rw [e]
theorem rot3 {A B C D : HP} {L : List HP} (h : Hs W (A :: B :: C :: D :: L) w) : Hs W (B :: C :: D :: A :: L) w := ((h.focus (i := 3) rfl).focus (i := 3) rfl).focus (i := 3) rfl
def PP (W : World) (M : List HP) (r : Bool) (lb db : Nat) (it : It) (S : Sc) (ws : List ByteArray) : Value -> World -> Prop := fun v w' =>
 v = .tuple #[] /\ ∃ S' ws',Stp r it S ws S' ws' /\ ShD S'.cs /\ Hs W (lnP lb r ws' :: pt db (.cells S'.cs 27 (0,0)) :: dtP W S'.cs S'.dat :: M) w'
def dfK : List (Nat × IntKind) := [(0,.i64),(1,.i64),(2,.i64),(3,.i64),(4,.i64),(5,.u8),(6,.i64),(7,.u16),(8,.u32)]
theorem ShD.num {cs : Array Value} {o : Nat} {k : IntKind} {n : Int} (h : ShD cs) (hm : (o,k) ∈ dfK) : ShD (cs.setIfInBounds o (.int k n)) /\ (cs.setIfInBounds o (.int k n))[10]? = cs[10]? := by
 obtain ⟨R,rfl⟩ := h
 simp only [dfK,List.mem_cons,Prod.mk.injEq,List.not_mem_nil,or_false] at hm
 rcases hm with ⟨rfl,rfl⟩ | ⟨rfl,rfl⟩ | ⟨rfl,rfl⟩ | ⟨rfl,rfl⟩ | ⟨rfl,rfl⟩ | ⟨rfl,rfl⟩ | ⟨rfl,rfl⟩ | ⟨rfl,rfl⟩ | ⟨rfl,rfl⟩
 ·exact ⟨⟨{ R with f0 := n },rfl⟩,rfl⟩
 ·exact ⟨⟨{ R with f1 := n },rfl⟩,rfl⟩
 ·exact ⟨⟨{ R with f2 := n },rfl⟩,rfl⟩
 ·exact ⟨⟨{ R with f3 := n },rfl⟩,rfl⟩
 ·exact ⟨⟨{ R with f4 := n },rfl⟩,rfl⟩
 ·exact ⟨⟨{ R with f5 := n },rfl⟩,rfl⟩
 ·exact ⟨⟨{ R with f6 := n },rfl⟩,rfl⟩
 ·exact ⟨⟨{ R with f7 := n },rfl⟩,rfl⟩
 ·exact ⟨⟨{ R with f8 := n },rfl⟩,rfl⟩
theorem ShD.ty {cs : Array Value} {o : Nat} {k : IntKind} (h : ShD cs) (hm : (o,k) ∈ dfK) : cs[o]? = some (.int k (iAt cs o)) := by
 obtain ⟨R,rfl⟩ := h
 simp only [dfK,List.mem_cons,Prod.mk.injEq,List.not_mem_nil,or_false] at hm
 rcases hm with ⟨rfl,rfl⟩ | ⟨rfl,rfl⟩ | ⟨rfl,rfl⟩ | ⟨rfl,rfl⟩ | ⟨rfl,rfl⟩ | ⟨rfl,rfl⟩ | ⟨rfl,rfl⟩ | ⟨rfl,rfl⟩ | ⟨rfl,rfl⟩ <;> rfl
theorem Stp.dnum {o m : Nat} {k : IntKind} {S' : Sc} {ws' : List ByteArray} {A : HP} {w' : World} (hs : Stp r (.num o k m) S ws S' ws') (hsh : ShD S.cs) (hm : (o,k) ∈ dfK)
  (h : Hs W (lnP lb r ws' :: pt db (.cells S'.cs 27 (0,0)) :: dtP W S.cs S.dat :: A :: M) w') : ShD S'.cs /\ Hs W (lnP lb r ws' :: pt db (.cells S'.cs 27 (0,0)) :: dtP W S'.cs S'.dat :: M) w' := by
 obtain ⟨n,rfl⟩ := hs.1
 obtain ⟨h1,h2⟩ := hsh.num (n := n) hm
 refine ⟨h1,?_⟩
 have h3 := h.erase 3
 show Hs W (_ :: _ :: dtP W (S.cs.setIfInBounds o (.int k n)) S.dat :: M) w'
 rw [dt_cs h2]
 exact h3
theorem c69 (hT : TB W) (h : Hs W (lnP lb r ws :: pt db (.cells S.cs 27 (0,0)) :: dtP W S.cs S.dat :: M) w) (hsh : ShD S.cs) (hf : Fit r 1 ws) :
  Calls Tryz.prog 69 #[.agg #[.pointer (some ⟨lb,0,none⟩),.pointer (some ⟨db,0,none⟩)]] w (rtp (PP W M r lb db (.num 1 .i64 1099511627776) S ws) (IE W M r (.num 1 .i64 1099511627776) S ws)) := by
 refine escI fun hE => F69_ok ?_
 unfold F69
 refine ⟨_,_,rfl,h.alc fun b w2 h2 => h2.drw fun w3 h3 => h3.ldP 0 rfl rfl (h3.ldP 0 rfl rfl ?_)⟩
 simp only [nn,add_mk,Nat.zero_add]
 refine clp (c90 hT (rot3 h3) (hsh.ty (by simp [dfK])) hf.one hf.2) ?_ ?_
 ·rintro _ w4 ⟨rfl,S',ws',hs,h4⟩
  exact ⟨rfl,by first | rfl | trivial,S',ws',hs,Stp.dnum hs hsh (by simp [dfK]) h4⟩
 ·rintro ch w4 ⟨cc,rfl,hn,h4⟩
  exact hE _ _ ⟨cc,rfl,hn,h4.drop.drop⟩
theorem c70 (hT : TB W) (h : Hs W (lnP lb r ws :: pt db (.cells S.cs 27 (0,0)) :: dtP W S.cs S.dat :: M) w) (hsh : ShD S.cs) (hf : Fit r 1 ws) :
  Calls Tryz.prog 70 #[.agg #[.pointer (some ⟨lb,0,none⟩),.pointer (some ⟨db,0,none⟩)]] w (rtp (PP W M r lb db (.num 2 .i64 1099511627776) S ws) (IE W M r (.num 2 .i64 1099511627776) S ws)) := by
 refine escI fun hE => F70_ok ?_
 unfold F70
 refine ⟨_,_,rfl,h.alc fun b w2 h2 => h2.drw fun w3 h3 => h3.ldP 0 rfl rfl (h3.ldP 0 rfl rfl ?_)⟩
 simp only [nn,add_mk,Nat.zero_add]
 refine clp (c90 hT (rot3 h3) (hsh.ty (by simp [dfK])) hf.one hf.2) ?_ ?_
 ·rintro _ w4 ⟨rfl,S',ws',hs,h4⟩
  exact ⟨rfl,by first | rfl | trivial,S',ws',hs,Stp.dnum hs hsh (by simp [dfK]) h4⟩
 ·rintro ch w4 ⟨cc,rfl,hn,h4⟩
  exact hE _ _ ⟨cc,rfl,hn,h4.drop.drop⟩
theorem c71 (hT : TB W) (h : Hs W (lnP lb r ws :: pt db (.cells S.cs 27 (0,0)) :: dtP W S.cs S.dat :: M) w) (hsh : ShD S.cs) (hf : Fit r 1 ws) :
  Calls Tryz.prog 71 #[.agg #[.pointer (some ⟨lb,0,none⟩),.pointer (some ⟨db,0,none⟩)]] w (rtp (PP W M r lb db (.num 3 .i64 1099511627776) S ws) (IE W M r (.num 3 .i64 1099511627776) S ws)) := by
 refine escI fun hE => F71_ok ?_
 unfold F71
 refine ⟨_,_,rfl,h.alc fun b w2 h2 => h2.drw fun w3 h3 => h3.ldP 0 rfl rfl (h3.ldP 0 rfl rfl ?_)⟩
 simp only [nn,add_mk,Nat.zero_add]
 refine clp (c90 hT (rot3 h3) (hsh.ty (by simp [dfK])) hf.one hf.2) ?_ ?_
 ·rintro _ w4 ⟨rfl,S',ws',hs,h4⟩
  exact ⟨rfl,by first | rfl | trivial,S',ws',hs,Stp.dnum hs hsh (by simp [dfK]) h4⟩
 ·rintro ch w4 ⟨cc,rfl,hn,h4⟩
  exact hE _ _ ⟨cc,rfl,hn,h4.drop.drop⟩
theorem c72 (hT : TB W) (h : Hs W (lnP lb r ws :: pt db (.cells S.cs 27 (0,0)) :: dtP W S.cs S.dat :: M) w) (hsh : ShD S.cs) (hw : r = false -> okI S (.num 7 .u16 65535)) (hf : Fit r 1 ws) :
  Calls Tryz.prog 72 #[.agg #[.pointer (some ⟨lb,0,none⟩),.pointer (some ⟨db,0,none⟩)]] w (rtp (PP W M r lb db (.num 7 .u16 65535) S ws) (IE W M r (.num 7 .u16 65535) S ws)) := by
 refine escI fun hE => F72_ok ?_
 unfold F72
 refine ⟨_,_,rfl,h.alc fun b w2 h2 => h2.drw fun w3 h3 => h3.ldP 0 rfl rfl (h3.ldP 0 rfl rfl ?_)⟩
 simp only [nn,add_mk,Nat.zero_add]
 refine clp (c61 hT (rot3 h3) (hsh.ty (by simp [dfK])) (fun hr => hw hr) hf.one hf.2) ?_ ?_
 ·rintro _ w4 ⟨rfl,S',ws',hs,h4⟩
  exact ⟨rfl,by first | rfl | trivial,S',ws',hs,Stp.dnum hs hsh (by simp [dfK]) h4⟩
 ·rintro ch w4 ⟨cc,rfl,hn,h4⟩
  exact hE _ _ ⟨cc,rfl,hn,h4.drop.drop⟩
theorem c73 (hT : TB W) (h : Hs W (lnP lb r ws :: pt db (.cells S.cs 27 (0,0)) :: dtP W S.cs S.dat :: M) w) (hsh : ShD S.cs) (hw : r = false -> okI S (.num 8 .u32 4294967295)) (hf : Fit r 1 ws) :
  Calls Tryz.prog 73 #[.agg #[.pointer (some ⟨lb,0,none⟩),.pointer (some ⟨db,0,none⟩)]] w (rtp (PP W M r lb db (.num 8 .u32 4294967295) S ws) (IE W M r (.num 8 .u32 4294967295) S ws)) := by
 refine escI fun hE => F73_ok ?_
 unfold F73
 refine ⟨_,_,rfl,h.alc fun b w2 h2 => h2.drw fun w3 h3 => h3.ldP 0 rfl rfl (h3.ldP 0 rfl rfl ?_)⟩
 simp only [nn,add_mk,Nat.zero_add]
 refine clp (c60 hT (rot3 h3) (hsh.ty (by simp [dfK])) (fun hr => hw hr) hf.one hf.2) ?_ ?_
 ·rintro _ w4 ⟨rfl,S',ws',hs,h4⟩
  exact ⟨rfl,by first | rfl | trivial,S',ws',hs,Stp.dnum hs hsh (by simp [dfK]) h4⟩
 ·rintro ch w4 ⟨cc,rfl,hn,h4⟩
  exact hE _ _ ⟨cc,rfl,hn,h4.drop.drop⟩
theorem c77 (hT : TB W) (h : Hs W (lnP lb r ws :: pt db (.cells S.cs 27 (0,0)) :: dtP W S.cs S.dat :: M) w) (hsh : ShD S.cs) (hf : Fit r 1 ws) :
  Calls Tryz.prog 77 #[.agg #[.pointer (some ⟨lb,0,none⟩),.pointer (some ⟨db,0,none⟩)]] w (rtp (PP W M r lb db (.num 6 .i64 1099511627776) S ws) (IE W M r (.num 6 .i64 1099511627776) S ws)) := by
 refine escI fun hE => F77_ok ?_
 unfold F77
 refine ⟨_,_,rfl,h.alc fun b w2 h2 => h2.drw fun w3 h3 => h3.ldP 0 rfl rfl (h3.ldP 0 rfl rfl ?_)⟩
 simp only [nn,add_mk,Nat.zero_add]
 refine clp (c90 hT (rot3 h3) (hsh.ty (by simp [dfK])) hf.one hf.2) ?_ ?_
 ·rintro _ w4 ⟨rfl,S',ws',hs,h4⟩
  exact ⟨rfl,by first | rfl | trivial,S',ws',hs,Stp.dnum hs hsh (by simp [dfK]) h4⟩
 ·rintro ch w4 ⟨cc,rfl,hn,h4⟩
  exact hE _ _ ⟨cc,rfl,hn,h4.drop.drop⟩
theorem c79 (hT : TB W) (h : Hs W (lnP lb r ws :: pt db (.cells S.cs 27 (0,0)) :: dtP W S.cs S.dat :: M) w) (hsh : ShD S.cs) (hf : Fit r 1 ws) :
  Calls Tryz.prog 79 #[.agg #[.pointer (some ⟨lb,0,none⟩),.pointer (some ⟨db,0,none⟩)]] w (rtp (PP W M r lb db (.num 4 .i64 1099511627776) S ws) (IE W M r (.num 4 .i64 1099511627776) S ws)) := by
 refine escI fun hE => F79_ok ?_
 unfold F79
 refine ⟨_,_,rfl,h.alc fun b w2 h2 => h2.drw fun w3 h3 => h3.ldP 0 rfl rfl (h3.ldP 0 rfl rfl ?_)⟩
 simp only [nn,add_mk,Nat.zero_add]
 refine clp (c90 hT (rot3 h3) (hsh.ty (by simp [dfK])) hf.one hf.2) ?_ ?_
 ·rintro _ w4 ⟨rfl,S',ws',hs,h4⟩
  exact ⟨rfl,by first | rfl | trivial,S',ws',hs,Stp.dnum hs hsh (by simp [dfK]) h4⟩
 ·rintro ch w4 ⟨cc,rfl,hn,h4⟩
  exact hE _ _ ⟨cc,rfl,hn,h4.drop.drop⟩
theorem c80 (hT : TB W) (h : Hs W (lnP lb r ws :: pt db (.cells S.cs 27 (0,0)) :: dtP W S.cs S.dat :: M) w) (hsh : ShD S.cs) (hw : r = false -> okI S (.num 5 .u8 255)) (hf : Fit r 1 ws) :
  Calls Tryz.prog 80 #[.agg #[.pointer (some ⟨lb,0,none⟩),.pointer (some ⟨db,0,none⟩)]] w (rtp (PP W M r lb db (.num 5 .u8 255) S ws) (IE W M r (.num 5 .u8 255) S ws)) := by
 refine escI fun hE => F80_ok ?_
 unfold F80
 refine ⟨_,_,rfl,h.alc fun b w2 h2 => h2.drw fun w3 h3 => h3.ldP 0 rfl rfl (h3.ldP 0 rfl rfl ?_)⟩
 simp only [nn,add_mk,Nat.zero_add]
 refine clp (c98 hT (rot3 h3) (hsh.ty (by simp [dfK])) (fun hr => hw hr) hf.one hf.2) ?_ ?_
 ·rintro _ w4 ⟨rfl,S',ws',hs,h4⟩
  exact ⟨rfl,by first | rfl | trivial,S',ws',hs,Stp.dnum hs hsh (by simp [dfK]) h4⟩
 ·rintro ch w4 ⟨cc,rfl,hn,h4⟩
  exact hE _ _ ⟨cc,rfl,hn,h4.drop.drop⟩
theorem c74 (h : Hs W (lnP lb r ws :: pt db (.cells S.cs 27 (0,0)) :: dtP W S.cs S.dat :: M) w) (hsh : ShD S.cs) (hf : Fit r 1 ws) :
  Calls Tryz.prog 74 #[.agg #[.pointer (some ⟨lb,0,none⟩),.pointer (some ⟨db,0,none⟩)]] w (rtp (PP W M r lb db (.flag 9 ⟨#[111]⟩ ⟨#[117]⟩) S ws) (IE W M r (.flag 9 ⟨#[111]⟩ ⟨#[117]⟩) S ws)) := by
 refine escI fun hE => F74_ok ?_
 unfold F74
 refine ⟨_,_,rfl,h.alc fun b w2 h2 => h2.drw fun w3 h3 => h3.ldP 0 rfl rfl (h3.ldP 0 rfl rfl ?_)⟩
 simp only [nn,add_mk,Nat.zero_add]
 have hty : tyI S (.flag 9 ⟨#[111]⟩ ⟨#[117]⟩) := by obtain ⟨R,e⟩ := hsh; show S.cs[9]? = some (.bool (bAt S.cs 9)); rw [e]; rfl
 refine clp (c62 (by decide) (rot3 h3) hty hf.one) ?_ ?_
 ·rintro _ w4 ⟨rfl,S',ws',hs,h4⟩
  obtain ⟨x,rfl⟩ := hs.1
  refine ⟨rfl,by first | rfl | trivial,_,ws',hs,?_,?_⟩
  ·obtain ⟨R,e⟩ := hsh
   exact ⟨{ R with f9 := x },by show S.cs.setIfInBounds 9 (.bool x) = _; rw [e]; rfl⟩
  ·have h5 := h4.erase 3
   show Hs W (_ :: _ :: dtP W (S.cs.setIfInBounds 9 (.bool x)) S.dat :: M) w4
   rw [dt_cs (Array.getElem?_setIfInBounds_ne (by decide))]
   exact h5
 ·rintro ch w4 ⟨cc,rfl,hn,h4⟩
  exact hE _ _ ⟨cc,rfl,hn,h4.drop.drop⟩
theorem c75 (h : Hs W (lnP lb r ws :: pt db (.cells S.cs 27 (0,0)) :: dtP W S.cs S.dat :: M) w) (hsh : ShD S.cs) (hf : Fit r 1 ws) :
  Calls Tryz.prog 75 #[.agg #[.pointer (some ⟨lb,0,none⟩),.pointer (some ⟨db,0,none⟩)]] w (rtp (PP W M r lb db (.dat 10) S ws) (IE W M r (.dat 10) S ws)) := by
 refine escI fun hE => F75_ok ?_
 unfold F75
 refine ⟨_,_,rfl,h.alc fun b w2 h2 => h2.drw fun w3 h3 => ?_⟩
 have hb := h3.at 0 rfl
 have h4 := rot3 h3
 obtain ⟨a,c,hc,_⟩ := dt_open (h4.focus (i := 2) rfl)
 have h10 : 10 < S.cs.size := lt_of_at hc
 refine ⟨Go.Sh.lone w3 b _,Go.Sh.Pres.lone hb,ldP_at (lone_at _ _ _) rfl ?_⟩
 refine h3.ldP 0 rfl rfl (h3.ldP 0 rfl rfl ?_)
 simp only [nn,add_mk,Nat.zero_add]
 refine h4.ldC 1 rfl hc ?_
 cases r with
 | false =>
  have hrd : ∀ w',Hs W (lnP lb false ws :: pt db (.cells S.cs 27 (0,0)) :: dtP W S.cs S.dat :: pt b (.cells #[.pointer (some ⟨lb,0,none⟩),.pointer (some ⟨db,0,none⟩)] 82 (0,0)) :: M) w' -> Rd w' a (u8v S.dat) := fun w' h' => by
   obtain ⟨a',c',hc',hr⟩ := dt_open (h'.focus (i := 2) rfl)
   rw [hc] at hc'
   cases hc'
   exact hr
  refine clp (c58w h4 hrd (hf.one rfl)) ?_ ?_
  ·rintro _ w5 ⟨rfl,hle,h5⟩
   refine ⟨_,_,_,rfl,Go.Sh.Pres.lone (h5.at 3 rfl),?_⟩
   refine h5.stc 1 rfl h10 fun w6 h6 => ?_
   have h6 : Hs W (lnP lb false (ws ++ [bs (hexW S.dat)]) :: pt db (.cells (S.cs.setIfInBounds 10 (.slice a S.dat.length c)) 27 (0,0)) :: dtP W S.cs S.dat :: pt b (.cells #[.pointer (some ⟨lb,0,none⟩),.pointer (some ⟨db,0,none⟩)] 82 (0,0)) :: M) w6 := h6
   rw [set_same hc] at h6
   exact ⟨by first | rfl | trivial,S,_,⟨⟨.slice a S.dat.length c,S.dat,by rw [set_same hc]⟩,hle,h10,fun x => (nomatch x),fun _ => ⟨rfl,rfl⟩⟩,hsh,h6.erase 3⟩
  ·rintro ch w5 ⟨hn,rfl,h5⟩
   exact hE _ _ ⟨1,rfl,⟨fun x => (nomatch x),fun _ => ⟨rfl,hn⟩⟩,h5.drop.drop.drop⟩
 | true =>
  refine clp (c58r h4 (hf.2 rfl)) ?_ ?_
  ·rintro _ w5 ⟨l,rest,a',c',hl,rfl,rfl,h5⟩
   refine ⟨_,_,_,rfl,Go.Sh.Pres.lone (h5.at 4 rfl),?_⟩
   refine h5.stc 2 rfl h10 fun w6 h6 => ?_
   have h6 : Hs W (slP 5 1 a' l.length c' (u8v l) :: lnP lb true rest :: pt db (.cells (S.cs.setIfInBounds 10 (.slice a' l.length c')) 27 (0,0)) :: dtP W S.cs S.dat :: pt b (.cells #[.pointer (some ⟨lb,0,none⟩),.pointer (some ⟨db,0,none⟩)] 82 (0,0)) :: M) w6 := h6
   have h7 := dt_own (cs := S.cs.setIfInBounds 10 (.slice a' l.length c')) (set_at hc) h6
   have h8 : Hs W (dtP W (S.cs.setIfInBounds 10 (.slice a' l.length c')) l :: lnP lb true rest :: pt db (.cells (S.cs.setIfInBounds 10 (.slice a' l.length c')) 27 (0,0)) :: M) w6 := (h7.erase 3).erase 3
   refine ⟨by first | rfl | trivial,⟨S.cs.setIfInBounds 10 (.slice a' l.length c'),l⟩,rest,⟨⟨_,l,rfl⟩,hl,?_,fun _ => rfl,fun x => (nomatch x)⟩,?_,(h8.focus (i := 2) rfl).focus (i := 2) rfl⟩
   ·show 10 < (S.cs.setIfInBounds 10 _).size
    simpa using h10
   ·obtain ⟨R,e⟩ := hsh
    exact ⟨{ R with f10a := a',f10n := l.length,f10c := c' },by show S.cs.setIfInBounds 10 _ = _; rw [e]; rfl⟩
  ·rintro ch w5 ⟨rfl,hn,h5⟩
   exact hE _ _ ⟨250,rfl,⟨fun _ => ⟨rfl,fun s' ws' hok e => hn _ _ hok e⟩,fun x => (nomatch x)⟩,h5.drop.drop.drop⟩
end
end Go.Proofs.YtilenpnpnbdndaaGreatDoor
namespace Go.Proofs.YtilenpnpnbdndaaGreatDoor
open Go Go.Sh
set_option maxRecDepth 100000
theorem sAt_of {cs : Array Value} {o : Nat} {s : ByteArray} (h : cs[o]? = some (.string s)) : sAt cs o = s := by unfold sAt; rw [h]
section
variable {W w : World} {M : List HP} {lb db : Nat} {r : Bool} {S : Sc} {ws : List ByteArray}
theorem bytes_new {s : ByteArray} (h : Hs W M w) : ∃ (o : Obj) (c : Nat),Sem.run Tryz.prog (convert 9 25 (.string s)) w = .ok (.slice (some ⟨w.heap.size,0,none⟩) (bl s).length c) (Lib.bytesWorld w 5 s) /\
  Hs W (pt w.heap.size o :: M) (Lib.bytesWorld w 5 s) /\ ∀ {w' : World} {L : List HP} {i : Nat},Hs W L w' -> L[i]? = some (pt w.heap.size o) -> Rd w' (some ⟨w.heap.size,0,none⟩) (u8v (bl s)) := by
 have hrun := Lib.run_convert_string_bytes (P := Tryz.prog) w 9 25 5 s Tryz.underlying9 Tryz.underlying25 Tryz.underlying5
 rw [← bl_len] at hrun
 refine ⟨.cells (Lib.bytesCells w 5 s) 5 ((Lib.bytesCells w 5 s).size,(Lib.bytesCells w 5 s).size + 1),_,hrun,h.new (same_of_below (Lib.bytesWorld_below w 5 s)) (x := fun k => if k = w.heap.size then some (.cells (Lib.bytesCells w 5 s) 5 ((Lib.bytesCells w 5 s).size,(Lib.bytesCells w 5 s).size + 1)) else none) rfl (fun k o e => ?_) (fun k e => ?_),fun h' hi j u hj => ?_⟩
 ·simp only at e
  split at e
  ·rename_i hk
   subst hk
   rw [Lib.bytesWorld_at_new]
   exact e
  ·cases e
 ·by_cases hk : k = w.heap.size
  ·omega
  ·exact absurd (if_neg hk) e
 ·refine ⟨_,rfl,?_⟩
  have hjl : j < s.size := by
   have := (List.getElem?_eq_some_iff.1 hj).1
   rwa [u8v_len,bl_len] at this
  rw [add_mk,cell_at (h'.at _ hi)]
  have hc := Lib.bytesWorld_cell w 5 s j hjl
  rw [cell_at (Lib.bytesWorld_at_new w 5 s)] at hc
  rw [Nat.zero_add,hc,← hj]
  unfold u8v bl
  have hd : j < s.data.size := hjl
  simp
  rw [Array.getElem?_eq_getElem hd]
  rfl
theorem c76 (h : Hs W (lnP lb r ws :: pt db (.cells S.cs 27 (0,0)) :: dtP W S.cs S.dat :: M) w) (hsh : ShD S.cs) (hf : Fit r 1 ws) :
  Calls Tryz.prog 76 #[.agg #[.pointer (some ⟨lb,0,none⟩),.pointer (some ⟨db,0,none⟩)]] w (rtp (PP W M r lb db (.why 11) S ws) (IE W M r (.why 11) S ws)) := by
 refine escI fun hE => F76_ok ?_
 unfold F76
 refine ⟨_,_,rfl,h.alc fun b w2 h2 => h2.drw fun w3 h3 => ?_⟩
 have hb := h3.at 0 rfl
 have h4 := rot3 h3
 have h11 : S.cs[11]? = some (.string (sAt S.cs 11)) := by obtain ⟨R,e⟩ := hsh; rw [e]; rfl
 refine ⟨Go.Sh.lone w3 b _,Go.Sh.Pres.lone hb,ldP_at (lone_at _ _ _) rfl (ldP_at (lone_at _ _ _) rfl ?_)⟩
 refine h3.ldP 0 rfl rfl ?_
 simp only [nn,add_mk,Nat.zero_add]
 refine h4.ldS 1 rfl h11 ?_
 obtain ⟨s,hs⟩ : ∃ s,s = sAt S.cs 11 := ⟨_,rfl⟩
 rw [← hs] at h11 ⊢
 obtain ⟨o,c,hrun,h5,hrd⟩ := bytes_new (s := s) h4
 refine ⟨_,_,_,_,hrun,Go.Sh.Pres.lone (h5.at 4 rfl),?_⟩
 have h6 : Hs W (lnP lb r ws :: pt db (.cells S.cs 27 (0,0)) :: dtP W S.cs S.dat :: pt w3.heap.size o :: pt b (.cells #[.pointer (some ⟨lb,0,none⟩),.pointer (some ⟨db,0,none⟩)] 82 (0,0)) :: M) _ := rot3 h5
 have hshp : ∀ t,ShD (S.cs.setIfInBounds 11 (.string t)) := fun t => by
  obtain ⟨R,e⟩ := hsh
  exact ⟨{ R with f11 := t },by rw [e]; rfl⟩
 cases r with
 | false =>
  refine clp (c58w h6 (fun w' h' => hrd h' (i := 3) rfl) (hf.one rfl)) ?_ ?_
  ·rintro _ w5 ⟨rfl,hle,h7⟩
   refine ⟨_,_,_,rfl,Go.Sh.Pres.lone (h7.at 4 rfl),?_⟩
   refine ⟨_,_,run_bs (hrd h7 (i := 3) rfl),Go.Sh.Pres.lone (h7.at 4 rfl),?_⟩
   refine h7.stc 1 rfl (lt_of_at h11) fun w6 h8 => ?_
   rw [bs_bl] at h8
   have h8 : Hs W (lnP lb false (ws ++ [bs (hexW (bl s))]) :: pt db (.cells (S.cs.setIfInBounds 11 (.string s)) 27 (0,0)) :: dtP W S.cs S.dat :: pt w3.heap.size o :: pt b (.cells #[.pointer (some ⟨lb,0,none⟩),.pointer (some ⟨db,0,none⟩)] 82 (0,0)) :: M) w6 := h8
   rw [set_same h11] at h8
   rw [bl_len] at hle
   refine ⟨by first | rfl | trivial,S,_,⟨⟨s,by rw [set_same h11]⟩,?_,?_,fun x => (nomatch x),fun _ => ⟨rfl,?_⟩⟩,hsh,(h8.erase 3).erase 3⟩
   ·show (sAt S.cs 11).size <= _
    rw [← hs]; exact hle
   ·show _ = some (Value.string (sAt S.cs 11))
    rw [← hs]; exact h11
   ·show _ = ws ++ [bs (hexW (bl (sAt S.cs 11)))]
    rw [← hs]
  ·rintro ch w5 ⟨hn,rfl,h7⟩
   refine hE _ _ ⟨1,rfl,⟨fun x => (nomatch x),fun _ => ⟨rfl,fun ho => hn ?_⟩⟩,h7.drop.drop.drop.drop⟩
   have ho : (sAt S.cs 11).size <= 65536 := ho
   rw [bl_len,hs]
   exact ho
 | true =>
  refine clp (c58r h6 (hf.2 rfl)) ?_ ?_
  ·rintro _ w5 ⟨l,rest,a',c',hl,rfl,rfl,h7⟩
   refine ⟨_,_,_,rfl,Go.Sh.Pres.lone (h7.at 5 rfl),?_⟩
   refine ⟨_,_,run_bs (h7.rd 0 rfl),Go.Sh.Pres.lone (h7.at 5 rfl),?_⟩
   refine h7.stc 2 rfl (lt_of_at h11) fun w6 h8 => ?_
   have h8 : Hs W (slP 5 1 a' l.length c' (u8v l) :: lnP lb true rest :: pt db (.cells (S.cs.setIfInBounds 11 (.string (bs l))) 27 (0,0)) :: dtP W S.cs S.dat :: pt w3.heap.size o :: pt b (.cells #[.pointer (some ⟨lb,0,none⟩),.pointer (some ⟨db,0,none⟩)] 82 (0,0)) :: M) w6 := h8
   have h9 := ((h8.drop).erase 3).erase 3
   have h9 : Hs W (lnP lb true rest :: pt db (.cells (S.cs.setIfInBounds 11 (.string (bs l))) 27 (0,0)) :: dtP W S.cs S.dat :: M) w6 := h9
   rw [← dt_cs (cs' := S.cs.setIfInBounds 11 (.string (bs l))) (Array.getElem?_setIfInBounds_ne (by decide))] at h9
   refine ⟨by first | rfl | trivial,⟨S.cs.setIfInBounds 11 (.string (bs l)),S.dat⟩,rest,⟨⟨bs l,rfl⟩,?_,?_,fun _ => ?_,fun x => (nomatch x)⟩,hshp _,h9⟩
   ·show (sAt _ 11).size <= _
    rw [sAt_of (set_at h11),← bl_len,bl_bs]
    exact hl
   ·show _ = some (Value.string (sAt _ 11))
    rw [sAt_of (set_at h11)]
    exact set_at h11
   ·show _ = bs (hexW (bl (sAt _ 11))) :: rest
    rw [sAt_of (set_at h11),bl_bs]
  ·rintro ch w5 ⟨rfl,hn,h7⟩
   exact hE _ _ ⟨250,rfl,⟨fun _ => ⟨rfl,fun s' ws' hok e => hn _ _ (by rw [bl_len]; exact hok) e⟩,fun x => (nomatch x)⟩,h7.drop.drop.drop.drop⟩
end
end Go.Proofs.YtilenpnpnbdndaaGreatDoor
namespace Go.Sh
open Go
section
variable [Esc] {P : Program} {all : List Oper} {w0 : World} {ms : List It} {D : List (Nat × Nat × Bool)} {K : Tm -> World -> Prop}
theorem stepAt_mono {i : Nat} {t : Tm} {w : World} {R R' : Tm -> World -> Prop} (h : ∀ t w,R t w -> R' t w) (x : stepAt P all w0 ms i t w R) : stepAt P all w0 ms i t w R' := by
 unfold stepAt at x ⊢
 split at x
 ·exact x.elim
 ·rename_i m hm
  obtain ⟨o,fl,pr⟩ := m
  unfold stepD at x ⊢
  simp only at x ⊢
  rw [gd_iff] at x ⊢
  split at x
  ·rename_i hw
   rw [if_pos hw]
   refine vcOp_mono (fun v w' y => ?_) x
   cases pr with
   | true => exact ⟨y.1,h _ _ y.2⟩
   | false => exact h _ _ y
  ·rename_i hw
   rw [if_neg hw]
   exact h _ _ x
def left (L : Nat) (D : List (Nat × Nat × Bool)) : Nat := (D.filter fun d => !Nat.testBit L d.1).length
omit [Esc] in
theorem testBit_or_pow (L i j : Nat) : Nat.testBit (L ||| 2 ^ i) j = (Nat.testBit L j || decide (i = j)) := by
 rw [Nat.testBit_or,Nat.testBit_two_pow]
omit [Esc] in
theorem left_step {L i : Nat} : ∀ {D : List (Nat × Nat × Bool)},(D.map (·.1)).Nodup -> (∃ d ∈ D,d.1 = i) -> Nat.testBit L i = false -> left L D = left (L ||| 2 ^ i) D + 1
 | [],_,h,_ => by obtain ⟨_,h,_⟩ := h; cases h
 | d :: r,hn,h,hi => by
  rw [List.map_cons,List.nodup_cons] at hn
  unfold left
  by_cases hd : d.1 = i
  ·have h1 : Nat.testBit L d.1 = false := by rw [hd]; exact hi
   have h2 : Nat.testBit (L ||| 2 ^ i) d.1 = true := by rw [testBit_or_pow,hd]; simp
   rw [List.filter_cons,List.filter_cons,h1,h2]
   simp only [Bool.not_false,if_true,Bool.not_true,Bool.false_eq_true,if_false,List.length_cons]
   congr 1
   have : r.filter (fun d => !Nat.testBit L d.1) = r.filter fun d => !Nat.testBit (L ||| 2 ^ i) d.1 := by
    refine List.filter_congr fun x hx => ?_
    have : i ≠ x.1 := fun e => hn.1 (by rw [hd,e]; exact List.mem_map.2 ⟨x,hx,rfl⟩)
    rw [testBit_or_pow,decide_eq_false this,Bool.or_false]
   rw [this]
  ·have h1 : Nat.testBit (L ||| 2 ^ i) d.1 = Nat.testBit L d.1 := by rw [testBit_or_pow,decide_eq_false (fun e => hd e.symm),Bool.or_false]
   have h3 : ∃ x ∈ r,x.1 = i := by
    obtain ⟨x,hx,he⟩ := h
    rcases List.mem_cons.1 hx with rfl | hx
    ·exact absurd he hd
    ·exact ⟨x,hx,he⟩
   have := left_step hn.2 h3 hi
   unfold left at this
   rw [List.filter_cons,List.filter_cons,h1]
   split
   ·rw [List.length_cons,List.length_cons,this]
   ·exact this
omit [Esc] in
theorem ready_some {L : Nat} (hlow : ∀ d ∈ D,∀ j,Nat.testBit d.2.1 j = true -> j < d.1 /\ ∃ e ∈ D,e.1 = j) (h : allReady L D = []) : ∀ d ∈ D,Nat.testBit L d.1 = true := by
 have key : ∀ n,∀ d ∈ D,d.1 = n -> Nat.testBit L d.1 = true := by
  intro n
  induction n using Nat.strongRecOn with
  | _ n ih =>
   intro d hd hn
   cases hb : Nat.testBit L d.1 with
   | true => rfl
   | false =>
    exfalso
    have : d.1 ∈ allReady L D := allReady_mem.2 ⟨d,hd,rfl,by
     unfold readyB
     rw [hb]
     simp only [Bool.not_false,Bool.true_and,nbeq]
     refine Nat.eq_of_testBit_eq fun j => ?_
     rw [show Nat.land d.2.1 L = d.2.1 &&& L from rfl,Nat.testBit_and]
     cases hj : Nat.testBit d.2.1 j with
     | false => rfl
     | true =>
      obtain ⟨hlt,e,he,hej⟩ := hlow d hd j hj
      have := ih j (by omega) e he hej
      rw [hej] at this
      rw [this]; rfl⟩
    rw [h] at this
    cases this
 exact fun d hd => key _ d hd rfl
omit [Esc] in
theorem inj_of : ∀ {D : List (Nat × Nat × Bool)},(D.map (·.1)).Nodup -> ∀ {d e},d ∈ D -> e ∈ D -> d.1 = e.1 -> d = e
 | [],_,_,_,h,_,_ => by cases h
 | x :: r,hn,d,e,hd,he,h => by
  rw [List.map_cons,List.nodup_cons] at hn
  cases hd with
  | head => cases he with
   | head => rfl
   | tail _ he => exact (hn.1 (List.mem_map.2 ⟨e,he,h.symm⟩)).elim
  | tail _ hd => cases he with
   | head => exact (hn.1 (List.mem_map.2 ⟨d,hd,h⟩)).elim
   | tail _ he => exact inj_of hn.2 hd he h
def Dcl (D : List (Nat × Nat × Bool)) (L : Nat) : Prop := ∀ d ∈ D,Nat.testBit L d.1 = true -> ∀ j,Nat.testBit d.2.1 j = true -> Nat.testBit L j = true
omit [Esc] in
theorem Dcl.step {L : Nat} {d : Nat × Nat × Bool} (hnd : (D.map (·.1)).Nodup) (h : Dcl D L) (hd : d ∈ D) (hr : readyB L d = true) : Dcl D (L ||| 2 ^ d.1) := by
 intro e he hb j hj
 rw [testBit_or_pow]
 rw [testBit_or_pow] at hb
 cases hl : Nat.testBit L e.1 with
 | true => rw [h e he hl j hj]; rfl
 | false =>
  rw [hl,Bool.false_or,decide_eq_true_eq] at hb
  have hde : d = e := inj_of hnd hd he hb
  subst hde
  unfold readyB at hr
  simp only [Bool.and_eq_true,nbeq] at hr
  have h2 : Nat.testBit (Nat.land d.2.1 L) j = true := by rw [hr.2]; exact hj
  rw [show Nat.land d.2.1 L = d.2.1 &&& L from rfl,Nat.testBit_and,Bool.and_eq_true] at h2
  rw [h2.2]; rfl
def reachStep (D : List (Nat × Nat × Bool)) (S : Nat) : Nat := D.foldl (fun s d => bif Nat.testBit S d.1 then s ||| d.2.1 else s) S
def reach (D : List (Nat × Nat × Bool)) (S : Nat) : Nat -> Nat
 | 0 => S
 | n + 1 => reach D (reachStep D S) n
omit [Esc] in
theorem reach_sub {L : Nat} (h : Dcl D L) : ∀ (n S : Nat),(∀ j,Nat.testBit S j = true -> Nat.testBit L j = true) -> ∀ j,Nat.testBit (reach D S n) j = true -> Nat.testBit L j = true
 | 0,_,hS,j,hj => hS j hj
 | n + 1,S,hS,j,hj => by
  refine reach_sub h n (reachStep D S) ?_ j hj
  have key : ∀ (l : List (Nat × Nat × Bool)) (s : Nat),(∀ d ∈ l,d ∈ D) -> (∀ j,Nat.testBit s j = true -> Nat.testBit L j = true) -> ∀ j,Nat.testBit (l.foldl (fun s d => bif Nat.testBit S d.1 then s ||| d.2.1 else s) s) j = true -> Nat.testBit L j = true := by
   intro l
   induction l with
   | nil => exact fun _ _ h => h
   | cons d r ih =>
    intro s hl hs
    refine ih _ (fun x hx => hl x (by simp [hx])) fun j hj => ?_
    cases hb : Nat.testBit S d.1 with
    | false =>
     have hj : Nat.testBit (bif Nat.testBit S d.1 then s ||| d.2.1 else s) j = true := hj
     rw [hb] at hj; exact hs j hj
    | true =>
     have hj : Nat.testBit (bif Nat.testBit S d.1 then s ||| d.2.1 else s) j = true := hj
     rw [hb] at hj
     simp only [cond_true,Nat.testBit_or,Bool.or_eq_true] at hj
     rcases hj with hj | hj
     ·exact hs j hj
     ·exact h d (hl d (by simp)) (hS _ hb) j hj
  exact key D S (fun _ h => h) hS
theorem vcT_inv (J : Nat -> Tm -> World -> Prop) (fin : Nat -> Bool) (hnd : (D.map (·.1)).Nodup) (hlow : ∀ d ∈ D,∀ j,Nat.testBit d.2.1 j = true -> j < d.1 /\ ∃ e ∈ D,e.1 = j)
  (hfin : ∀ L t w,J L t w -> (∀ d ∈ D,Nat.testBit L d.1 = true) -> fin L = true)
  (hend : ∀ L t w,J L t w -> fin L = true -> vcT P all w0 ms D K (left L D) L t w)
  (hstep : ∀ L t w d,Dcl D L -> J L t w -> fin L = false -> d ∈ D -> readyB L d = true -> stepAt P all w0 ms d.1 t w (J (L ||| 2 ^ d.1))) : ∀ n L t w,left L D = n -> Dcl D L -> J L t w -> vcT P all w0 ms D K n L t w := by
 intro n
 induction n with
 | zero =>
  intro L t w hn hc hj
  have hall : ∀ d ∈ D,Nat.testBit L d.1 = true := by
   intro d hd
   cases hb : Nat.testBit L d.1 with
   | true => rfl
   | false =>
    have : d ∈ D.filter fun d => !Nat.testBit L d.1 := List.mem_filter.2 ⟨hd,by simp [hb]⟩
    have h0 : D.filter (fun d => !Nat.testBit L d.1) = [] := List.length_eq_zero_iff.1 hn
    rw [h0] at this
    cases this
  have := hend L t w hj (hfin L t w hj hall)
  rwa [hn] at this
 | succ n ih =>
  intro L t w hn hc hj
  cases hf : fin L with
  | true => have := hend L t w hj hf; rwa [hn] at this
  | false =>
   have go : ∀ d ∈ D,readyB L d = true -> stepAt P all w0 ms d.1 t w (vcT P all w0 ms D K n (L ||| 2 ^ d.1)) := by
    intro d hd hr
    refine stepAt_mono (fun t' w' hj' => ih _ t' w' ?_ (hc.step hnd hd hr) hj') (hstep L t w d hc hj hf hd hr)
    have hb : Nat.testBit L d.1 = false := by
     unfold readyB at hr
     simp only [Bool.and_eq_true,Bool.not_eq_true'] at hr
     exact hr.1
    have := left_step hnd ⟨d,hd,rfl⟩ hb
    omega
   unfold vcT
   split
   ·rename_i i hi
    obtain ⟨d,hd,rfl,-,hr⟩ := firstStill_spec hi
    exact go d hd hr
   ·split
    ·rename_i h0
     have := hfin L t w hj (ready_some hlow h0)
     rw [hf] at this
     cases this
    ·rename_i l hl
     refine andAll_iff.2 fun i hi => ?_
     obtain ⟨d,hd,rfl,hr⟩ := allReady_mem.1 hi
     exact go d hd hr
end
end Go.Sh
