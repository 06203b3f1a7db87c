/- Own text: part of the shallow reading of the code and of the contracts that are proved over it. -/
import Derived.Test.YtilenpnpnbdndaaGreatDoorSqU
namespace Go.Proofs.YtilenpnpnbdndaaGreatDoor
open Go Go.Sh
set_option maxRecDepth 100000
def partIt : Nat -> It
 | 69 => .num 1 .i64 1099511627776
 | 70 => .num 2 .i64 1099511627776
 | 71 => .num 3 .i64 1099511627776
 | 72 => .num 7 .u16 65535
 | 73 => .num 8 .u32 4294967295
 | 74 => .flag 9 ⟨#[111]⟩ ⟨#[117]⟩
 | 75 => .dat 10
 | 76 => .why 11
 | 77 => .num 6 .i64 1099511627776
 | 79 => .num 4 .i64 1099511627776
 | 80 => .num 5 .u8 255
 | _ => .lit ⟨#[]⟩
def partIds : List Nat := [69,70,71,72,73,74,75,76,77,79,80]
def GoodD (S : Sc) : Prop := okI S (.num 5 .u8 255) /\ okI S (.num 7 .u16 65535) /\ okI S (.num 8 .u32 4294967295)
theorem okp69 : okFn Tryz.prog 69 = true := by kernel_rfl
theorem okp70 : okFn Tryz.prog 70 = true := by kernel_rfl
theorem okp71 : okFn Tryz.prog 71 = true := by kernel_rfl
theorem okp72 : okFn Tryz.prog 72 = true := by kernel_rfl
theorem okp73 : okFn Tryz.prog 73 = true := by kernel_rfl
theorem okp74 : okFn Tryz.prog 74 = true := by kernel_rfl
theorem okp75 : okFn Tryz.prog 75 = true := by kernel_rfl
theorem okp76 : okFn Tryz.prog 76 = true := by kernel_rfl
theorem okp77 : okFn Tryz.prog 77 = true := by kernel_rfl
theorem okp79 : okFn Tryz.prog 79 = true := by kernel_rfl
theorem okp80 : okFn Tryz.prog 80 = true := by kernel_rfl
theorem ok26 : okFn Tryz.prog 26 = true := by kernel_rfl
theorem ok33 : okFn Tryz.prog 33 = true := by kernel_rfl
section
variable {W w : World} {M : List HP} {lb db : Nat} {r : Bool} {S : Sc} {ws : List ByteArray}
theorem part {k : Nat} (hk : k ∈ partIds) (hT : TB W) (h : Hs W (lnP lb r ws :: pt db (.cells S.cs 27 (0,0)) :: dtP W S.cs S.dat :: M) w) (hsh : ShD S.cs) (hG : r = false -> GoodD S) (hf : Fit r 1 ws) :
  okFn Tryz.prog k = true /\ Calls Tryz.prog k #[.agg #[.pointer (some ⟨lb,0,none⟩),.pointer (some ⟨db,0,none⟩)]] w (rtp (PP W M r lb db (partIt k) S ws) (IE W M r (partIt k) S ws)) := by
 simp only [partIds,List.mem_cons,List.not_mem_nil,or_false] at hk
 rcases hk with rfl | rfl | rfl | rfl | rfl | rfl | rfl | rfl | rfl | rfl | rfl
 ·exact ⟨okp69,c69 hT h hsh hf⟩
 ·exact ⟨okp70,c70 hT h hsh hf⟩
 ·exact ⟨okp71,c71 hT h hsh hf⟩
 ·exact ⟨okp72,c72 hT h hsh (fun hr => (hG hr).2.1) hf⟩
 ·exact ⟨okp73,c73 hT h hsh (fun hr => (hG hr).2.2) hf⟩
 ·exact ⟨okp74,c74 h hsh hf⟩
 ·exact ⟨okp75,c75 h hsh hf⟩
 ·exact ⟨okp76,c76 h hsh hf⟩
 ·exact ⟨okp77,c77 hT h hsh hf⟩
 ·exact ⟨okp79,c79 hT h hsh hf⟩
 ·exact ⟨okp80,c80 hT h hsh (fun hr => (hG hr).1) hf⟩
theorem F25_loop [Esc] {q1 q2 : Option Addr} {ba : Addr} {rs : List R85} {j : Nat} {kd : Int} {nm : ByteArray} {ps : List Nat} {rr : R85} {c : Nat} {K0 : World -> Prop} (hT : TB W) (hv : vtab[j]? = some (kd,nm,ps)) (hr : rs[j]? = some rr) (hq1 : q1 = some ⟨lb,0,none⟩) (hq2 : q2 = some ⟨db,0,none⟩) (hps : ∀ k ∈ ps,k ∈ partIds) :
  ∀ (ps2 ps1 : List Nat) (k : Nat) (S : Sc) (ws : List ByteArray) (w : World),ps = ps1 ++ ps2 -> ps.length <= 10 -> ps2.length < k ->
   Hs W (lnP lb r ws :: pt db (.cells S.cs 27 (0,0)) :: dtP W S.cs S.dat :: tabP q1 q2 ba rs :: M) w -> ShD S.cs -> (r = false -> GoodD S) -> Fit r ps2.length ws ->
   (∀ S' ws' w',Sts r (ps2.map partIt) S ws S' ws' -> ShD S'.cs -> Hs W (lnP lb r ws' :: pt db (.cells S'.cs 27 (0,0)) :: dtP W S'.cs S'.dat :: tabP q1 q2 ba rs :: M) w' -> K0 w') ->
   (∀ ch w' c,ch = PE c -> Bad r (ps2.map partIt) S ws c -> Hs W (tabP q1 q2 ba rs :: M) w' -> Esc.E ch w') ->
   F25_1 K0 k (.slice rr.f2a ps.length c) (.int .i64 (ps.length : Int)) (.int .i64 (ps1.length : Int)) w := by
 intro ps2
 induction ps2 with
 | nil =>
  intro ps1 k S ws w hp h10 hk h hsh hG hf hK hE
  obtain ⟨k,rfl⟩ : ∃ i,k = i + 1 := ⟨k - 1,by omega⟩
  rw [List.append_nil] at hp
  subst hp
  show F25_1B _ _ _ _ _ _
  unfold F25_1B
  simp only [rdC_mk,rdI_mk]
  rw [decide_eq_false (by omega),br_false]
  exact hK S ws w ⟨rfl,rfl⟩ hsh h
 | cons p ps2 ih =>
  intro ps1 k S ws w hp h10 hk h hsh hG hf hK hE
  obtain ⟨k,rfl⟩ : ∃ i,k = i + 1 := ⟨k - 1,by omega⟩
  have hlen : ps.length = ps1.length + (ps2.length + 1) := by rw [hp]; simp
  show F25_1B _ _ _ _ _ _
  unfold F25_1B
  simp only [rdC_mk,rdI_mk]
  rw [decide_eq_true (by omega),br_true]
  obtain ⟨r2,e2,_,_,_,hrd⟩ := tab_at (h.focus (i := 3) rfl) hv
  rw [hr] at e2
  cases e2
  obtain ⟨ad,had⟩ := hrd.some (by simp; omega)
  rw [had] at hrd ⊢
  refine ixS_to (p := ps1.length) rfl (by omega) ?_
  rw [Nat.mul_one]
  refine ⟨fv q1 q2 p,hrd.at (by rw [hp]; simp),?_⟩
  obtain ⟨ho,hc⟩ := part (M := tabP q1 q2 ba rs :: M) (hps p (by rw [hp]; simp)) hT h hsh hG (hf.less (by simp))
  refine callV_of ho ?_
  have e : (#[.agg #[.pointer q1,.pointer q2]] ++ #[] ++ #[] : Array Value) = #[.agg #[.pointer q1,.pointer q2]] := by simp
  rw [e,hq1,hq2]
  rw [hq1,hq2] at hc
  refine call_of hc ?_
  intro e w2 q
  rcases q with ⟨v,rfl,rfl,S',ws',hs,hsh',h2⟩ | ⟨ch,rfl,cc,rfl,hn,h2⟩
  ·refine ⟨rfl,rfl,?_⟩
   have e3 : IntKind.wrap .i64 ((ps1.length : Int) + 1) = (((ps1 ++ [p]).length : Nat) : Int) := by rw [wrap_i64 (by omega) (by omega)]; simp
   rw [e3]
   have hG' : r = false -> GoodD S' := fun hr => by rw [(hs.2.2.2.2 hr).1]; exact hG hr
   have hst : Sts r [partIt p] S ws S' ws' := ⟨_,_,hs,rfl,rfl⟩
   rw [← had]
   rw [← hq1,← hq2] at h2
   refine ih (ps1 ++ [p]) k S' ws' w2 (by rw [hp]; simp) h10 (by simp at hk; omega) h2 hsh' hG' (hf.step hs) (fun S2 ws2 w4 hs4 hsh4 h4 => hK S2 ws2 w4 (Sts.app hst hs4) hsh4 h4) (fun ch w4 cc hc hb h4 => hE ch w4 cc hc (Bad.wide _ [] hst hb (by simp)) h4)
  ·show Esc.E _ _
   rw [← hq1,← hq2] at h2
   exact hE _ _ cc rfl (Sts.no (s := S) (ps2.map partIt) (l := []) ⟨rfl,rfl⟩ hn rfl) h2
end
end Go.Proofs.YtilenpnpnbdndaaGreatDoor
namespace Go.Proofs.YtilenpnpnbdndaaGreatDoor
open Go Go.Sh
set_option maxRecDepth 100000
theorem find_none {α : Type} {p : α -> Bool} : ∀ {l : List α},l.findIdx? p = none -> l.find? p = none
 | [],_ => rfl
 | a :: l,h => by
  rw [List.findIdx?_cons] at h
  cases hp : p a with
  | true => rw [hp] at h; cases h
  | false =>
   rw [hp] at h
   simp at h
   rw [List.find?_cons,hp]
   exact find_none (by rw [List.findIdx?_eq_none_iff]; intro x hx; simpa using h x hx)
theorem find_some {α : Type} {p : α -> Bool} : ∀ {l : List α} {j : Nat},l.findIdx? p = some j -> ∃ t,l[j]? = some t /\ l.find? p = some t
 | [],_,h => by cases h
 | a :: l,j,h => by
  rw [List.findIdx?_cons] at h
  cases hp : p a with
  | true =>
   rw [hp] at h
   cases h
   exact ⟨a,rfl,by rw [List.find?_cons,hp]⟩
  | false =>
   rw [hp] at h
   cases e : l.findIdx? p with
   | none => rw [e] at h; cases h
   | some i =>
    rw [e] at h
    cases h
    obtain ⟨t,h1,h2⟩ := find_some e
    exact ⟨t,h1,by rw [List.find?_cons,hp]; exact h2⟩
abbrev Vb := Int × ByteArray × List Nat
def itemsOf (t : Vb) : List It := .lit t.2.1 :: t.2.2.map partIt
def vfind (pv : Int -> ByteArray -> Bool) : Option Vb := vtab.find? fun t => pv t.1 t.2.1
def setKind (S : Sc) (k : Int) : Sc := ⟨S.cs.setIfInBounds 0 (.int .i64 k),S.dat⟩
theorem vtab_ok : ∀ t ∈ vtab,(∀ k ∈ t.2.2,k ∈ partIds) /\ t.2.2.length <= 5 := by
 have : vtab.all (fun t => t.2.2.all (fun k => partIds.contains k) && decide (t.2.2.length <= 5)) = true := by decide
 intro t ht
 have h := List.all_eq_true.1 this t ht
 simp only [Bool.and_eq_true,decide_eq_true_eq] at h
 refine ⟨fun k hk => ?_,h.2⟩
 have := List.all_eq_true.1 h.1 k hk
 simpa using this
section
variable {W w : World} {M : List HP} {lb db : Nat} {r : Bool} {S : Sc} {ws : List ByteArray}
theorem c25 {pf : Nat} {pa : Addr} {pv : Int -> ByteArray -> Bool} {cc : Int} (hT : TB W) (h : Hs W (lnP lb r ws :: pt db (.cells S.cs 27 (0,0)) :: dtP W S.cs S.dat :: M) w) (hsh : ShD S.cs) (hG : r = false -> ∀ k,GoodD (setKind S k)) (hf : Fit r 10 ws) (hpf : okFn Tryz.prog pf = true)
  (hp : ∀ (q : R85) (w' : World) (A B C D E : HP),Hs W (A :: B :: C :: D :: E :: M) w' -> Calls Tryz.prog pf #[q.v,.pointer (some pa)] w' (rt fun v w'' => v = .bool (pv q.f0 q.f1) /\ Hs W (A :: B :: C :: D :: E :: M) w'')) :
  Calls Tryz.prog 25 #[.agg #[.pointer (some ⟨lb,0,none⟩),.pointer (some ⟨db,0,none⟩)],.int .i64 cc,.func (.func pf) #[] #[.pointer (some pa)]] w
   (rtp (fun v w' => v = .tuple #[] /\ ∃ t,vfind pv = some t /\ ∃ S' ws',Sts r (itemsOf t) (setKind S t.1) ws S' ws' /\ ShD S'.cs /\ Hs W (lnP lb r ws' :: pt db (.cells S'.cs 27 (0,0)) :: dtP W S'.cs S'.dat :: M) w')
    (fun ch w' => Hs W M w' /\ ((vfind pv = none /\ ch = PE cc) \/ ∃ t c,vfind pv = some t /\ ch = PE c /\ Bad r (itemsOf t) (setKind S t.1) ws c))) := by
 refine escI fun hE => F25_ok ?_
 unfold F25
 refine ⟨_,_,rfl,?_⟩
 simp only [rdI_mk]
 refine h.alc fun pb w2 h2 => ?_
 refine h2.ldP 0 rfl rfl (h2.ldP 0 rfl rfl ?_)
 refine cl (c48t h2) ?_
 rintro _ w3 ⟨ba,rs,rfl,h3⟩
 refine ⟨_,_,_,rfl,?_⟩
 refine cl (c49 (pd := fun q => pv q.f0 q.f1) hpf (fun q w' h' => hp q w' _ _ _ _ _ h') h3) ?_
 rintro _ w4 ⟨h4,rfl⟩
 refine ⟨_,rfl,?_⟩
 have hsig := tab_sig h4
 have hfi : rs.findIdx? (fun q => pv q.f0 q.f1) = vtab.findIdx? (fun t => pv t.1 t.2.1) := by
  have h1 : (rs.map (fun r => (r.f0,r.f1))).findIdx? (fun x => pv x.1 x.2) = rs.findIdx? (fun q => pv q.f0 q.f1) := by rw [List.findIdx?_map]; rfl
  have h2 : (vtab.map (fun t => (t.1,t.2.1))).findIdx? (fun x => pv x.1 x.2) = vtab.findIdx? (fun t => pv t.1 t.2.1) := by rw [List.findIdx?_map]; rfl
  rw [← h1,hsig,h2]
 rw [hfi]
 cases hx : vtab.findIdx? (fun t => pv t.1 t.2.1) with
 | none =>
  refine clp c28 ?_ ?_
  ·rintro _ _ ⟨hb,_⟩
   cases hb
  ·rintro ch _ ⟨_,rfl,rfl⟩
   exact hE _ _ ⟨h4.drop.drop.drop.drop.drop,.inl ⟨find_none hx,rfl⟩⟩
 | some j =>
  obtain ⟨⟨kd,nm,ps⟩,hv,hvf⟩ := find_some hx
  have hvf : vfind pv = some (kd,nm,ps) := hvf
  obtain ⟨hpi,hp5⟩ := vtab_ok _ (List.mem_of_getElem? hv)
  refine clp c28 ?_ ?_
  ·rintro _ w5 ⟨_,rfl,rfl⟩
   have h5 : Hs W (lnP lb r ws :: pt db (.cells S.cs 27 (0,0)) :: dtP W S.cs S.dat :: tabP (some ⟨lb,0,none⟩) (some ⟨db,0,none⟩) ba rs :: pt pb (.cells #[.pointer (some ⟨lb,0,none⟩),.pointer (some ⟨db,0,none⟩)] 82 (0,0)) :: M) w5 := ((h4.focus (i := 4) rfl).focus (i := 4) rfl).focus (i := 4) rfl
   refine ⟨rfl,h5.drw fun w6 h6 => h6.ldP 4 rfl rfl ?_⟩
   obtain ⟨rr,hr,rfl,rfl,hn,_⟩ := tab_at (h6.focus (i := 3) rfl) hv
   have hj : j < 14 := by
    have := (List.getElem?_eq_some_iff.1 hv).1
    exact this
   have hat : ∀ {w' : World} {L : List HP},Hs W (tabP (some ⟨lb,0,none⟩) (some ⟨db,0,none⟩) ba rs :: L) w' -> At w' (ba.add (j * 3)) rr.l := fun h' => Rd.atI (tab_rows h') (fun _ => rfl) hr
   refine ixS_to (p := j) rfl hj ?_
   refine ldI_c (hat (h6.focus (i := 3) rfl) 0 _ rfl) ?_
   simp only [nn,add_mk,Nat.zero_add]
   obtain ⟨hsh1,h10⟩ := hsh.num (n := rr.f0) (o := 0) (k := .i64) (by simp [dfK])
   have h0 : S.cs[0]? = some (.int .i64 (iAt S.cs 0)) := hsh.ty (by simp [dfK])
   refine h6.stc 1 rfl (lt_of_at h0) fun w7 h7 => ?_
   have h7 : Hs W (lnP lb r ws :: pt db (.cells (setKind S rr.f0).cs 27 (0,0)) :: dtP W S.cs S.dat :: tabP (some ⟨lb,0,none⟩) (some ⟨db,0,none⟩) ba rs :: pt pb (.cells #[.pointer (some ⟨lb,0,none⟩),.pointer (some ⟨db,0,none⟩)] 82 (0,0)) :: M) w7 := h7
   rw [← dt_cs (cs' := (setKind S rr.f0).cs) h10] at h7
   refine h7.drw fun w8 h8 => h8.ldP 4 rfl rfl ?_
   refine ixS_to (p := j) rfl hj ?_
   refine ldS_c (hat (h8.focus (i := 3) rfl) 1 _ rfl) ?_
   have hf1 : Fit r (9 + 1) ws := hf
   refine clp (c50 (S := setKind S rr.f0) h8 hf1.one) ?_ ?_
   ·rintro _ w9 ⟨rfl,ws1,hs1,h9⟩
    refine ⟨rfl,ixS_to (p := j) rfl hj ?_⟩
    refine ldC_c (hat (h9.focus (i := 3) rfl) 2 _ rfl) ?_
    rw [hn]
    refine ⟨ps.length + 1,F25_loop hT hv hr rfl rfl hpi ps [] (ps.length + 1) (setKind S rr.f0) ws1 w9 rfl (by simp only at hp5; omega) (by omega) h9 hsh1 (fun hr => hG hr _) ((hf1.step hs1).less (by simp only at hp5; omega)) (fun S' ws' w' hs' hsh' h' => ?_) (fun ch w' c hc hb h' => ?_)⟩
    ·intro _
     exact ⟨by first | rfl | trivial,_,hvf,S',ws',⟨_,_,hs1,hs'⟩,hsh',(h'.erase 3).erase 3⟩
    ·have hb2 : Bad r (itemsOf (rr.f0,rr.f1,ps)) (setKind S rr.f0) ws c := Bad.wide [.lit rr.f1] [] ⟨_,_,hs1,rfl,rfl⟩ hb (by simp [itemsOf])
     exact hE _ _ ⟨h'.drop.drop,.inr ⟨_,c,hvf,hc,hb2⟩⟩
   ·rintro ch w9 ⟨c,rfl,hno,h9⟩
    have hb2 : Bad r (itemsOf (rr.f0,rr.f1,ps)) (setKind S rr.f0) ws c := Sts.no (s := setKind S rr.f0) (ps.map partIt) (l := []) ⟨rfl,rfl⟩ hno rfl
    exact hE _ _ ⟨h9.drop.drop.drop.drop,.inr ⟨_,c,hvf,rfl,hb2⟩⟩
  ·rintro ch _ ⟨hb,_⟩
   exfalso
   have h2 : ¬ ((j : Int) >= 0) := of_decide_eq_false hb
   omega
end
end Go.Proofs.YtilenpnpnbdndaaGreatDoor
namespace Go.Proofs.YtilenpnpnbdndaaGreatDoor
open Go Go.Sh
set_option maxRecDepth 100000
def R26.zz : R26 := R26.mk 0 0 0 0 0 0 0 0 0 false none 0 0 ⟨#[]⟩
def hasFoot (t : Vb) (o : Nat) : Prop := ∃ it ∈ itemsOf t,o ∈ foot it
structure IsDeedT (t : Vb) (s : ByteArray) (R : R26) (dat : List UInt8) : Prop where
 mem : t ∈ vtab
 ok : okAll (itemsOf t) ⟨R.c,dat⟩
 words : words s = (itemsOf t).map (wd ⟨R.c,dat⟩)
 kind : R.f0 = t.1
 away : ∀ o,o ≠ 0 -> o ≠ 10 -> ¬ hasFoot t o -> R.c[o]? = R26.zz.c[o]?
 data : ¬ hasFoot t 1000000 -> dat = []
def IsDeed (s : ByteArray) (R : R26) (dat : List UInt8) : Prop := ∃ t,IsDeedT t s R dat
def notKey : It -> Bool
 | .key => false
 | _ => true
theorem Chg.cell {it : It} {S S' : Sc} (h : Chg S S' it) (hk : notKey it = true) {o : Nat} (ho : o ∉ foot it) : (o ≠ 1000000 -> S'.cs[o]? = S.cs[o]?) /\ (o = 1000000 -> S'.dat = S.dat) := by
 cases it with
 | lit x => cases h; exact ⟨fun _ => rfl,fun _ => rfl⟩
 | num o' k m => obtain ⟨n,rfl⟩ := h; simp [foot] at ho; exact ⟨fun _ => Array.getElem?_setIfInBounds_ne (fun e => ho e.symm),fun _ => rfl⟩
 | flag o' a b => obtain ⟨n,rfl⟩ := h; simp [foot] at ho; exact ⟨fun _ => Array.getElem?_setIfInBounds_ne (fun e => ho e.symm),fun _ => rfl⟩
 | why o' => obtain ⟨n,rfl⟩ := h; simp [foot] at ho; exact ⟨fun _ => Array.getElem?_setIfInBounds_ne (fun e => ho e.symm),fun _ => rfl⟩
 | key => cases hk
 | dat o' =>
  obtain ⟨v,l,rfl⟩ := h
  simp [foot] at ho
  exact ⟨fun _ => Array.getElem?_setIfInBounds_ne (fun e => ho.1 e.symm),fun e => absurd e ho.2⟩
theorem Sts.cell {r : Bool} {o : Nat} : ∀ {l : List It} {S S' : Sc} {ws ws' : List ByteArray},Sts r l S ws S' ws' -> (∀ it ∈ l,notKey it = true) -> (∀ it ∈ l,o ∉ foot it) -> (o ≠ 1000000 -> S'.cs[o]? = S.cs[o]?) /\ (o = 1000000 -> S'.dat = S.dat)
 | [],_,_,_,_,⟨e,_⟩,_,_ => by subst e; exact ⟨fun _ => rfl,fun _ => rfl⟩
 | it :: l,_,_,_,_,⟨_,_,h1,h2⟩,hn,ho => by
  obtain ⟨a,b⟩ := h1.1.cell (hn it (by simp)) (ho it (by simp))
  obtain ⟨c,d⟩ := Sts.cell h2 (fun x hx => hn x (by simp [hx])) (fun x hx => ho x (by simp [hx]))
  exact ⟨fun e => (c e).trans (a e),fun e => (d e).trans (b e)⟩
theorem vtab_items : ∀ t ∈ vtab,apartB (itemsOf t) = true /\ (itemsOf t).all notKey = true /\ (itemsOf t).all smallIt = true /\ (itemsOf t).all (fun it => !(foot it).contains 0) = true := by
 have : vtab.all (fun t => apartB (itemsOf t) && (itemsOf t).all notKey && (itemsOf t).all smallIt && (itemsOf t).all (fun it => !(foot it).contains 0)) = true := by decide +kernel
 intro t ht
 have h := List.all_eq_true.1 this t ht
 simp only [Bool.and_eq_true] at h
 exact ⟨h.1.1.1,h.1.1.2,h.1.2,h.2⟩
theorem vtab_names : ∀ t1 ∈ vtab,∀ t2 ∈ vtab,t1.2.1 = t2.2.1 -> t1 = t2 := by
 have : vtab.all (fun t1 => vtab.all fun t2 => !(bl t1.2.1 == bl t2.2.1) || (t1.1 == t2.1 && t1.2.2 == t2.2.2)) = true := by decide +kernel
 intro t1 h1 t2 h2 e
 have h := List.all_eq_true.1 (List.all_eq_true.1 this t1 h1) t2 h2
 rw [e] at h
 simp at h
 obtain ⟨a,b,c⟩ := t1
 obtain ⟨a',b',c'⟩ := t2
 simp only at e h
 rw [e,h.1,h.2]
theorem vtab_kinds : ∀ t1 ∈ vtab,∀ t2 ∈ vtab,t1.1 = t2.1 -> t1 = t2 := by
 have : vtab.all (fun t1 => vtab.all fun t2 => !(t1.1 == t2.1) || (bl t1.2.1 == bl t2.2.1)) = true := by decide +kernel
 intro t1 h1 t2 h2 e
 have h := List.all_eq_true.1 (List.all_eq_true.1 this t1 h1) t2 h2
 rw [e] at h
 simp at h
 refine vtab_names t1 h1 t2 h2 ?_
 rw [← bs_bl t1.2.1,h,bs_bl]
theorem vfind_mem {pv : Int -> ByteArray -> Bool} {t : Vb} (h : vfind pv = some t) : t ∈ vtab /\ pv t.1 t.2.1 = true := ⟨List.mem_of_find?_eq_some h,by have := List.find?_some h; exact this⟩
theorem vfind_none {pv : Int -> ByteArray -> Bool} (h : vfind pv = none) : ∀ t ∈ vtab,pv t.1 t.2.1 = false := fun t ht => by
 have := List.find?_eq_none.1 h t ht
 simpa using this
theorem hb10 : Tryz.f10.body = some (.seq (getAt F10_code [0]) (.seq (.region 1 #[{ dst := none, op := .defer { callee := .value (.func 24), args := #[.tmp 3], argTypes := #[75] }, type := 0, pos := "script.go:277", after := #[], guard := none }] false) (getAt F10_code [1, 1]))) := by kernel_rfl
theorem res10 (t : Tm) (w : World) (K : List Value -> Prop) : resL Tryz.prog t w Tryz.f10.results.toList K = (match t 2 with | .pointer (some a) => ldR26 a w fun s => (match t 3 with | .pointer (some b) => ldI .i64 b w fun n => K [s.v,.int .i64 n] | _ => False) | _ => False) := by kernel_rfl
theorem nt10 : Tryz.f10.ntmps = 26 := by kernel_rfl
theorem setKind_c (S : Sc) {R : R26} (k : Int) (h : S.cs = R.c) : (setKind S k).cs = ({ R with f0 := k } : R26).c := by unfold setKind; rw [h]; rfl
section
variable {W w : World} {M : List HP} {lb cb kb rb : Nat} {x : Int}
theorem F10_1_go [Esc] {s : ByteArray} {Kr : Value -> Value -> World -> Prop} (hT : TB W) (hs : s.size <= 8000000) (h : Hs W (pt kb (.cells #[.int .i64 0] 28 (0,0)) :: pt rb (.cells R26.zz.c 27 (0,0)) :: M) w)
  (hE : ∀ ch w',ch = PE 250 -> (¬ ∃ R dat,IsDeed s R dat) -> Hs W (pt kb (.cells #[.int .i64 0] 28 (0,0)) :: pt rb (.cells R26.zz.c 27 (0,0)) :: M) w' -> Esc.E ch w')
  (hK : ∀ w' R dat,IsDeed s R dat -> Hs W (pt kb (.cells #[.int .i64 0] 28 (0,0)) :: pt rb (.cells R.c 27 (0,0)) :: dtP W R.c dat :: M) w' -> Kr (.pointer (some ⟨rb,0,none⟩)) (.pointer (some ⟨kb,0,none⟩)) w') :
  F10_1 Kr (.string s) (.pointer (some ⟨rb,0,none⟩)) (.pointer (some ⟨kb,0,none⟩)) w := by
 unfold F10_1
 simp only [rdA_mk,rdS_mk]
 refine h.alc fun ob w2 h2 => ?_
 refine cl (c32 hs h2) ?_
 rintro _ w3 ⟨a,rfl,h3⟩
 refine ⟨_,_,_,rfl,h3.alc fun lb w4 h4 => h4.alc fun pb w5 h5 => h5.stc 0 rfl (by simp) fun w6 h6 => ?_⟩
 refine h6.stc 0 rfl (by simp) fun w7 h7 => ?_
 have h7 : Hs W (pt pb (.cells #[.pointer (some ⟨lb,0,none⟩),.pointer (some ⟨ob,0,none⟩)] 82 (0,0)) :: pt lb (.cells #[.slice a (words s).length (words s).length,.bool true] 79 (0,0)) :: slP 9 1 a (words s).length (words s).length (wsV (words s)) :: pt ob (.cells R26.zz.c 27 (0,0)) :: pt kb (.cells #[.int .i64 0] 28 (0,0)) :: pt rb (.cells R26.zz.c 27 (0,0)) :: M) w7 := h7
 refine h7.ldP 0 rfl rfl ?_
 simp only [nn]
 refine h7.ldC 1 rfl rfl ?_
 obtain ⟨hd,tl,hw⟩ : ∃ hd tl,words s = hd :: tl := by
  cases e : words s with
  | nil => exact absurd e (words_ne s)
  | cons x y => exact ⟨x,y,rfl⟩
 have hr := h7.rd 2 rfl
 obtain ⟨ad,rfl⟩ := hr.some (by rw [hw]; simp [wsV])
 refine ixS_to (p := 0) rfl (by rw [hw]; simp) ?_
 refine ldS_c (n := hd) (hr.at (j := 0) (by rw [hw]; rfl)) ?_
 refine h7.alc fun nb w8 h8 => h8.stc 0 rfl (by simp) fun w9 h9 => ?_
 have h9 : Hs W (pt nb (.cells #[.string hd] 9 (0,0)) :: pt pb (.cells #[.pointer (some ⟨lb,0,none⟩),.pointer (some ⟨ob,0,none⟩)] 82 (0,0)) :: pt lb (.cells #[.slice (some ad) (words s).length (words s).length,.bool true] 79 (0,0)) :: slP 9 1 (some ad) (words s).length (words s).length (wsV (words s)) :: pt ob (.cells R26.zz.c 27 (0,0)) :: pt kb (.cells #[.int .i64 0] 28 (0,0)) :: pt rb (.cells R26.zz.c 27 (0,0)) :: M) w9 := h9
 refine h9.ldP 1 rfl rfl (h9.ldP 1 rfl rfl ?_)
 have h10 : Hs W (pt lb (.cells #[.slice (some ad) (words s).length (words s).length,.bool true] 79 (0,0)) :: slP 9 1 (some ad) (words s).length (words s).length (wsV (words s)) :: pt nb (.cells #[.string hd] 9 (0,0)) :: pt pb (.cells #[.pointer (some ⟨lb,0,none⟩),.pointer (some ⟨ob,0,none⟩)] 82 (0,0)) :: pt ob (.cells R26.zz.c 27 (0,0)) :: pt kb (.cells #[.int .i64 0] 28 (0,0)) :: pt rb (.cells R26.zz.c 27 (0,0)) :: M) w9 := (h9.focus (i := 3) rfl).focus (i := 3) rfl
 have h11 := dt_old (cs := R26.zz.c) (dat := []) (a := none) (c := 0) rfl (Rd.nil W none) (ln_shut (h10.toO 1 rfl))
 have h12 : Hs W (lnP lb true (words s) :: pt ob (.cells R26.zz.c 27 (0,0)) :: dtP W R26.zz.c [] :: pt nb (.cells #[.string hd] 9 (0,0)) :: pt pb (.cells #[.pointer (some ⟨lb,0,none⟩),.pointer (some ⟨ob,0,none⟩)] 82 (0,0)) :: pt kb (.cells #[.int .i64 0] 28 (0,0)) :: pt rb (.cells R26.zz.c 27 (0,0)) :: M) w9 := (h11.focus (i := 4) rfl).focus (i := 2) rfl
 refine clp (c25 (S := ⟨R26.zz.c,[]⟩) (pv := fun _ nm => decide (nm = hd)) hT h12 ⟨R26.zz,rfl⟩ (fun x => (nomatch x)) ⟨fun x => (nomatch x),fun _ => words_small (by omega)⟩ ok33 (fun q w' A B C D E h' => c33 h' 5 rfl)) ?_ ?_
 ·rintro _ w13 ⟨rfl,t,hv,S',ws',hsts,hsh,h13⟩
  obtain ⟨htm,hnm⟩ := vfind_mem hv
  have hnm := of_decide_eq_true hnm
  obtain ⟨hap,hnk,hsm,h0⟩ := vtab_items t htm
  have hnk := List.all_eq_true.1 hnk
  obtain ⟨hw2,hok⟩ := hsts.r (apart_of hap)
  refine ⟨rfl,h13.ldP 4 rfl rfl ?_⟩
  obtain ⟨R,hR⟩ := hsh
  obtain ⟨cs,dat⟩ := S'
  simp only at hR
  subst hR
  have hD : ws' = [] -> IsDeed s R dat := fun e => by
   subst e
   rw [List.append_nil] at hw2
   have hc := fun o => hsts.cell (o := o) hnk
   have hz := setKind_c ⟨R26.zz.c,[]⟩ t.1 rfl
   refine ⟨t,htm,hok,hw2,?_,fun o ho0 ho10 hf => ?_,fun hf => ?_⟩
   ·have := (hc 0 (fun it hi => by have := List.all_eq_true.1 h0 it hi; simpa using this)).1 (by decide)
    rw [hz] at this
    have : some (Value.int .i64 R.f0) = some (Value.int .i64 t.1) := this
    injection this with this
    injection this
   ·have hcz : R26.zz.c[o]? = (setKind ⟨R26.zz.c,[]⟩ t.1).cs[o]? := (Array.getElem?_setIfInBounds_ne (fun e => ho0 e.symm)).symm
    rw [hcz]
    by_cases hm : o = 1000000
    ·subst hm; rw [hz]; rfl
    ·exact (hc o fun it hi ho => hf ⟨it,hi,ho⟩).1 hm
   ·exact (hc 1000000 fun it hi ho => hf ⟨it,hi,ho⟩).2 rfl
  refine clp (c34 h13) ?_ ?_
  ·rintro _ w14 ⟨e,rfl,h14⟩
   refine ⟨rfl,ldR26_of (s := R) (h14.atL 0 rfl) ?_⟩
   refine h14.stcL 5 rfl (by rfl) fun w15 h15 => ?_
   have h15 : Hs W (pt ob (.cells R.c 27 (0,0)) :: dtP W R.c dat :: pt nb (.cells #[.string hd] 9 (0,0)) :: pt pb (.cells #[.pointer (some ⟨lb,0,none⟩),.pointer (some ⟨ob,0,none⟩)] 82 (0,0)) :: pt kb (.cells #[.int .i64 0] 28 (0,0)) :: pt rb (.cells R.c 27 (0,0)) :: M) w15 := h15
   refine h15.stc 4 rfl (by simp) fun w16 h16 => hK w16 R dat (hD e) ?_
   have h17 : Hs W (dtP W R.c dat :: pt kb (.cells #[.int .i64 0] 28 (0,0)) :: pt rb (.cells R.c 27 (0,0)) :: M) w16 := ((h16.drop).erase 1).erase 1
   exact (h17.focus (i := 2) rfl).focus (i := 2) rfl
  ·rintro ch w14 ⟨hne,rfl,h14⟩
   refine hE _ _ rfl ?_ (h14.drop.drop.drop.drop)
   rintro ⟨R2,d2,t2,h2⟩
   have e1 : t2 = t := by
    refine vtab_names _ h2.mem _ htm ?_
    have := h2.words
    rw [hw] at this
    injection this with this _
    rw [hnm,this]
    rfl
   subst e1
   have := h2.words
   rw [hw2] at this
   have := congrArg List.length this
   rw [List.length_append,List.length_map,List.length_map] at this
   exact hne (List.length_eq_zero_iff.1 (by omega))
 ·rintro ch w13 ⟨h13,hx⟩
  have h14 := h13.drop.drop
  rcases hx with ⟨hn,rfl⟩ | ⟨t,c,hv,rfl,hb⟩
  ·refine hE _ _ rfl ?_ h14
   rintro ⟨R2,d2,t2,h2⟩
   have h3 := vfind_none hn t2 h2.mem
   have h3 := of_decide_eq_false h3
   have := h2.words
   rw [hw] at this
   injection this with this _
   exact h3 this.symm
  ·obtain ⟨e,hb2⟩ := hb.1 rfl
   subst e
   refine hE _ _ rfl ?_ h14
   rintro ⟨R2,d2,t2,h2⟩
   obtain ⟨htm,hnm⟩ := vfind_mem hv
   have hnm := of_decide_eq_true hnm
   have e1 : t2 = t := by
    refine vtab_names _ h2.mem _ htm ?_
    have := h2.words
    rw [hw] at this
    injection this with this _
    rw [hnm,this]
    rfl
   subst e1
   exact hb2 ⟨R2.c,d2⟩ [] h2.ok (by rw [List.append_nil]; exact h2.words)
theorem c10 {s : ByteArray} (hT : TB W) (h : Hs W M w) (hs : s.size <= 8000000) : Calls Tryz.prog 10 #[.string s] w (rt fun v w' =>
  (∃ R dat,IsDeed s R dat /\ v = .tuple #[R.v,.int .i64 0] /\ Hs W (dtP W R.c dat :: M) w') \/ ((¬ ∃ R dat,IsDeed s R dat) /\ v = .tuple #[R26.zz.v,.int .i64 250] /\ Hs W M w')) := by
 refine calls_ofD Tryz.func10 hb10 rfl rfl rfl ok24 (by rw [nt10]; show 1 <= 26; omega) ?_
 refine F10_0_ok0 _ _ _ ?_
 show F10_0 _ (.string s) w
 unfold F10_0
 simp only [rdS_mk]
 refine h.alc fun b2 w2 h2 => h2.alc fun b4 w4 h4 => ?_
 have h4 : Hs W (pt b4 (.cells #[.int .i64 0] 28 (0,0)) :: pt b2 (.cells R26.zz.c 27 (0,0)) :: M) w4 := h4
 intro g
 refine ⟨_,rfl,_,rfl,_,rfl,?_⟩
 refine gen3 0 2 3 (v1 := .string s) (v2 := .pointer (some ⟨b2,0,none⟩)) (v3 := .pointer (some ⟨b4,0,none⟩)) ?_ ?_ ?_ fun t t1 t2 t3 => ?_
 ·rfl
 ·rfl
 ·rfl
 show Behind _ _ _ _ _ _ t _
 have hx : (#[Operand.tmp 3]).map (ev t) = #[.pointer (some ⟨b4,0,none⟩)] := by simp [ev,t3]
 refine ⟨[2,3],fun ch w' => ch = PE 250 /\ (¬ ∃ R dat,IsDeed s R dat) /\ Hs W (pt b4 (.cells #[.int .i64 0] 28 (0,0)) :: pt b2 (.cells R26.zz.c 27 (0,0)) :: M) w',?_,?_⟩
 ·refine @F10_1_ok ⟨_⟩ _ _ _ _ ?_
  unfold F10_1O
  rw [t1,t2,t3]
  refine @F10_1_go W w4 M b4 b2 ⟨_⟩ s _ hT hs h4 (fun ch w' hc hb hs => ⟨hc,hb,hs⟩) fun w6 R dat hok h6 => ?_
  intro g2
  refine ⟨_,rfl,_,rfl,?_⟩
  show dcl Tryz.prog 24 _ .returning w6 _
  rw [hx]
  refine c24r ?_
  rw [res10]
  show ldR26 ⟨b2,0,none⟩ w6 (fun s => ldI .i64 ⟨b4,0,none⟩ w6 _)
  refine ldR26_of (s := R) (h6.atL 1 rfl) ?_
  refine h6.ldI 0 rfl rfl ?_
  exact .inl ⟨R,dat,hok,rfl,h6.drop.drop⟩
 ·rintro ch w6 ⟨rfl,hb,h6⟩
  rw [hx]
  refine c24p h6 fun w7 h7 t' ht' => ?_
  rw [res10,ht' 3 (by simp),ht' 2 (by simp),t3,t2]
  show ldR26 ⟨b2,0,none⟩ w7 (fun s => ldI .i64 ⟨b4,0,none⟩ w7 _)
  refine ldR26_of (s := R26.zz) (h7.atL 1 rfl) ?_
  refine h7.ldI 0 rfl rfl ?_
  exact .inr ⟨hb,rfl,h7.drop.drop⟩
end
end Go.Proofs.YtilenpnpnbdndaaGreatDoor
