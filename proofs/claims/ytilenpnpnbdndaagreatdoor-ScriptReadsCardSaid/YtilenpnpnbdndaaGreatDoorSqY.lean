/- Own text: part of the shallow reading of the code and of the contracts that are proved over it. -/
import Derived.Test.YtilenpnpnbdndaaGreatDoorSqV
namespace Go.Proofs.YtilenpnpnbdndaaGreatDoor
open Go Go.Sh
set_option maxRecDepth 100000
theorem find_none {α : Type} {p : α -> Bool} : ∀ {l : List α},l.findIdx? p = none -> l.find? p = none
  | [],_ => rfl
  | a :: l,h => by
    rw [List.findIdx?_cons] at h
    cases hp : p a with
    | true => rw [hp] at h; cases h
    | false =>
      rw [hp] at h
      simp at h
      rw [List.find?_cons,hp]
      exact find_none (by rw [List.findIdx?_eq_none_iff]; intro x hx; simpa using h x hx)
theorem find_some {α : Type} {p : α -> Bool} : ∀ {l : List α} {j : Nat},l.findIdx? p = some j -> ∃ t,l[j]? = some t /\ l.find? p = some t
  | [],_,h => by cases h
  | a :: l,j,h => by
    rw [List.findIdx?_cons] at h
    cases hp : p a with
    | true =>
      rw [hp] at h
      cases h
      exact ⟨a,rfl,by rw [List.find?_cons,hp]⟩
    | false =>
      rw [hp] at h
      cases e : l.findIdx? p with
      | none => rw [e] at h; cases h
      | some i =>
        rw [e] at h
        cases h
        obtain ⟨t,h1,h2⟩ := find_some e
        exact ⟨t,h1,by rw [List.find?_cons,hp]; exact h2⟩
abbrev Vb := Int × ByteArray × List Nat
def itemsOf (t : Vb) : List It := .lit t.2.1 :: t.2.2.map partIt
def vfind (pv : Int -> ByteArray -> Bool) : Option Vb := vtab.find? fun t => pv t.1 t.2.1
def setKind (S : Sc) (k : Int) : Sc := ⟨S.cs.setIfInBounds 0 (.int .i64 k),S.dat⟩
theorem vtab_ok : ∀ t ∈ vtab,(∀ k ∈ t.2.2,k ∈ partIds) /\ t.2.2.length <= 5 := by
  have : vtab.all (fun t => t.2.2.all (fun k => partIds.contains k) && decide (t.2.2.length <= 5)) = true := by decide
  intro t ht
  have h := List.all_eq_true.1 this t ht
  simp only [Bool.and_eq_true,decide_eq_true_eq] at h
  refine ⟨fun k hk => ?_,h.2⟩
  have := List.all_eq_true.1 h.1 k hk
  simpa using this
section
variable {W w : World} {M : List HP} {lb db : Nat} {r : Bool} {S : Sc} {ws : List ByteArray}
theorem c25 {pf : Nat} {pa : Addr} {pv : Int -> ByteArray -> Bool} {cc : Int} (hT : TB W) (h : Hs W (lnP lb r ws :: pt db (.cells S.cs 27 (0,0)) :: dtP W S.cs S.dat :: M) w) (hsh : ShD S.cs) (hG : r = false -> ∀ k,GoodD (setKind S k)) (hf : Fit r 10 ws) (hpf : okFn Tryz.prog pf = true)
    (hp : ∀ (q : R85) (w' : World) (A B C D E : HP),Hs W (A :: B :: C :: D :: E :: M) w' -> Calls Tryz.prog pf #[q.v,.pointer (some pa)] w' (rt fun v w'' => v = .bool (pv q.f0 q.f1) /\ Hs W (A :: B :: C :: D :: E :: M) w'')) :
    Calls Tryz.prog 25 #[.agg #[.pointer (some ⟨lb,0,none⟩),.pointer (some ⟨db,0,none⟩)],.int .i64 cc,.func (.func pf) #[] #[.pointer (some pa)]] w
      (rtp (fun v w' => v = .tuple #[] /\ ∃ t,vfind pv = some t /\ ∃ S' ws',Sts r (itemsOf t) (setKind S t.1) ws S' ws' /\ ShD S'.cs /\ Hs W (lnP lb r ws' :: pt db (.cells S'.cs 27 (0,0)) :: dtP W S'.cs S'.dat :: M) w')
        (fun ch w' => Hs W M w' /\ ((vfind pv = none /\ ch = PE cc) \/ ∃ t c,vfind pv = some t /\ ch = PE c /\ Bad r (itemsOf t) (setKind S t.1) ws c))) := by
  refine escI fun hE => F25_ok ?_
  unfold F25
  refine ⟨_,_,rfl,?_⟩
  simp only [rdI_mk]
  refine h.alc fun pb w2 h2 => ?_
  refine h2.ldP 0 rfl rfl (h2.ldP 0 rfl rfl ?_)
  refine cl (c48t h2) ?_
  rintro _ w3 ⟨ba,rs,rfl,h3⟩
  refine ⟨_,_,_,rfl,?_⟩
  refine cl (c49 (pd := fun q => pv q.f0 q.f1) hpf (fun q w' h' => hp q w' _ _ _ _ _ h') h3) ?_
  rintro _ w4 ⟨h4,rfl⟩
  refine ⟨_,rfl,?_⟩
  have hsig := tab_sig h4
  have hfi : rs.findIdx? (fun q => pv q.f0 q.f1) = vtab.findIdx? (fun t => pv t.1 t.2.1) := by
    have h1 : (rs.map (fun r => (r.f0,r.f1))).findIdx? (fun x => pv x.1 x.2) = rs.findIdx? (fun q => pv q.f0 q.f1) := by rw [List.findIdx?_map]; rfl
    have h2 : (vtab.map (fun t => (t.1,t.2.1))).findIdx? (fun x => pv x.1 x.2) = vtab.findIdx? (fun t => pv t.1 t.2.1) := by rw [List.findIdx?_map]; rfl
    rw [← h1,hsig,h2]
  rw [hfi]
  cases hx : vtab.findIdx? (fun t => pv t.1 t.2.1) with
  | none =>
    refine clp c28 ?_ ?_
    · rintro _ _ ⟨hb,_⟩
      cases hb
    · rintro ch _ ⟨_,rfl,rfl⟩
      exact hE _ _ ⟨h4.drop.drop.drop.drop.drop,.inl ⟨find_none hx,rfl⟩⟩
  | some j =>
    obtain ⟨⟨kd,nm,ps⟩,hv,hvf⟩ := find_some hx
    have hvf : vfind pv = some (kd,nm,ps) := hvf
    obtain ⟨hpi,hp5⟩ := vtab_ok _ (List.mem_of_getElem? hv)
    refine clp c28 ?_ ?_
    · rintro _ w5 ⟨_,rfl,rfl⟩
      have h5 : Hs W (lnP lb r ws :: pt db (.cells S.cs 27 (0,0)) :: dtP W S.cs S.dat :: tabP (some ⟨lb,0,none⟩) (some ⟨db,0,none⟩) ba rs :: pt pb (.cells #[.pointer (some ⟨lb,0,none⟩),.pointer (some ⟨db,0,none⟩)] 82 (0,0)) :: M) w5 := ((h4.focus (i := 4) rfl).focus (i := 4) rfl).focus (i := 4) rfl
      refine ⟨rfl,h5.drw fun w6 h6 => h6.ldP 4 rfl rfl ?_⟩
      obtain ⟨rr,hr,rfl,rfl,hn,_⟩ := tab_at (h6.focus (i := 3) rfl) hv
      have hj : j < 14 := by
        have := (List.getElem?_eq_some_iff.1 hv).1
        exact this
      have hat : ∀ {w' : World} {L : List HP},Hs W (tabP (some ⟨lb,0,none⟩) (some ⟨db,0,none⟩) ba rs :: L) w' -> At w' (ba.add (j * 3)) rr.l := fun h' => Rd.atI (tab_rows h') (fun _ => rfl) hr
      refine ixS_to (p := j) rfl hj ?_
      refine ldI_c (hat (h6.focus (i := 3) rfl) 0 _ rfl) ?_
      simp only [nn,add_mk,Nat.zero_add]
      obtain ⟨hsh1,h10⟩ := hsh.num (n := rr.f0) (o := 0) (k := .i64) (by simp [dfK])
      have h0 : S.cs[0]? = some (.int .i64 (iAt S.cs 0)) := hsh.ty (by simp [dfK])
      refine h6.stc 1 rfl (lt_of_at h0) fun w7 h7 => ?_
      have h7 : Hs W (lnP lb r ws :: pt db (.cells (setKind S rr.f0).cs 27 (0,0)) :: dtP W S.cs S.dat :: tabP (some ⟨lb,0,none⟩) (some ⟨db,0,none⟩) ba rs :: pt pb (.cells #[.pointer (some ⟨lb,0,none⟩),.pointer (some ⟨db,0,none⟩)] 82 (0,0)) :: M) w7 := h7
      rw [← dt_cs (cs' := (setKind S rr.f0).cs) h10] at h7
      refine h7.drw fun w8 h8 => h8.ldP 4 rfl rfl ?_
      refine ixS_to (p := j) rfl hj ?_
      refine ldS_c (hat (h8.focus (i := 3) rfl) 1 _ rfl) ?_
      have hf1 : Fit r (9 + 1) ws := hf
      refine clp (c50 (S := setKind S rr.f0) h8 hf1.one) ?_ ?_
      · rintro _ w9 ⟨rfl,ws1,hs1,h9⟩
        refine ⟨rfl,ixS_to (p := j) rfl hj ?_⟩
        refine ldC_c (hat (h9.focus (i := 3) rfl) 2 _ rfl) ?_
        rw [hn]
        refine ⟨ps.length + 1,F25_loop hT hv hr rfl rfl hpi ps [] (ps.length + 1) (setKind S rr.f0) ws1 w9 rfl (by simp only at hp5; omega) (by omega) h9 hsh1 (fun hr => hG hr _) ((hf1.step hs1).less (by simp only at hp5; omega)) (fun S' ws' w' hs' hsh' h' => ?_) (fun ch w' c hc hb h' => ?_)⟩
        · intro _
          exact ⟨by first | rfl | trivial,_,hvf,S',ws',⟨_,_,hs1,hs'⟩,hsh',(h'.erase 3).erase 3⟩
        · have hb2 : Bad r (itemsOf (rr.f0,rr.f1,ps)) (setKind S rr.f0) ws c := Bad.wide [.lit rr.f1] [] ⟨_,_,hs1,rfl,rfl⟩ hb (by simp [itemsOf])
          exact hE _ _ ⟨h'.drop.drop,.inr ⟨_,c,hvf,hc,hb2⟩⟩
      · rintro ch w9 ⟨c,rfl,hno,h9⟩
        have hb2 : Bad r (itemsOf (rr.f0,rr.f1,ps)) (setKind S rr.f0) ws c := Sts.no (s := setKind S rr.f0) (ps.map partIt) (l := []) ⟨rfl,rfl⟩ hno rfl
        exact hE _ _ ⟨h9.drop.drop.drop.drop,.inr ⟨_,c,hvf,rfl,hb2⟩⟩
    · rintro ch _ ⟨hb,_⟩
      exfalso
      have h2 : ¬ ((j : Int) >= 0) := of_decide_eq_false hb
      omega
end
end Go.Proofs.YtilenpnpnbdndaaGreatDoor
namespace Go.Proofs.YtilenpnpnbdndaaGreatDoor
open Go Go.Sh
set_option maxRecDepth 100000
def R26.zz : R26 := R26.mk 0 0 0 0 0 0 0 0 0 false none 0 0 ⟨#[]⟩
def hasFoot (t : Vb) (o : Nat) : Prop := ∃ it ∈ itemsOf t,o ∈ foot it
structure IsDeedT (t : Vb) (s : ByteArray) (R : R26) (dat : List UInt8) : Prop where
  mem : t ∈ vtab
  ok : okAll (itemsOf t) ⟨R.c,dat⟩
  words : words s = (itemsOf t).map (wd ⟨R.c,dat⟩)
  kind : R.f0 = t.1
  away : ∀ o,o ≠ 0 -> o ≠ 10 -> ¬ hasFoot t o -> R.c[o]? = R26.zz.c[o]?
  data : ¬ hasFoot t 1000000 -> dat = []
def IsDeed (s : ByteArray) (R : R26) (dat : List UInt8) : Prop := ∃ t,IsDeedT t s R dat
def notKey : It -> Bool
  | .key => false
  | _ => true
theorem Chg.cell {it : It} {S S' : Sc} (h : Chg S S' it) (hk : notKey it = true) {o : Nat} (ho : o ∉ foot it) : (o ≠ 1000000 -> S'.cs[o]? = S.cs[o]?) /\ (o = 1000000 -> S'.dat = S.dat) := by
  cases it with
  | lit x => cases h; exact ⟨fun _ => rfl,fun _ => rfl⟩
  | num o' k m => obtain ⟨n,rfl⟩ := h; simp [foot] at ho; exact ⟨fun _ => Array.getElem?_setIfInBounds_ne (fun e => ho e.symm),fun _ => rfl⟩
  | flag o' a b => obtain ⟨n,rfl⟩ := h; simp [foot] at ho; exact ⟨fun _ => Array.getElem?_setIfInBounds_ne (fun e => ho e.symm),fun _ => rfl⟩
  | why o' => obtain ⟨n,rfl⟩ := h; simp [foot] at ho; exact ⟨fun _ => Array.getElem?_setIfInBounds_ne (fun e => ho e.symm),fun _ => rfl⟩
  | key => cases hk
  | dat o' =>
    obtain ⟨v,l,rfl⟩ := h
    simp [foot] at ho
    exact ⟨fun _ => Array.getElem?_setIfInBounds_ne (fun e => ho.1 e.symm),fun e => absurd e ho.2⟩
theorem Sts.cell {r : Bool} {o : Nat} : ∀ {l : List It} {S S' : Sc} {ws ws' : List ByteArray},Sts r l S ws S' ws' -> (∀ it ∈ l,notKey it = true) -> (∀ it ∈ l,o ∉ foot it) -> (o ≠ 1000000 -> S'.cs[o]? = S.cs[o]?) /\ (o = 1000000 -> S'.dat = S.dat)
  | [],_,_,_,_,⟨e,_⟩,_,_ => by subst e; exact ⟨fun _ => rfl,fun _ => rfl⟩
  | it :: l,_,_,_,_,⟨_,_,h1,h2⟩,hn,ho => by
    obtain ⟨a,b⟩ := h1.1.cell (hn it (by simp)) (ho it (by simp))
    obtain ⟨c,d⟩ := Sts.cell h2 (fun x hx => hn x (by simp [hx])) (fun x hx => ho x (by simp [hx]))
    exact ⟨fun e => (c e).trans (a e),fun e => (d e).trans (b e)⟩
theorem vtab_items : ∀ t ∈ vtab,apartB (itemsOf t) = true /\ (itemsOf t).all notKey = true /\ (itemsOf t).all smallIt = true /\ (itemsOf t).all (fun it => !(foot it).contains 0) = true := by
  have : vtab.all (fun t => apartB (itemsOf t) && (itemsOf t).all notKey && (itemsOf t).all smallIt && (itemsOf t).all (fun it => !(foot it).contains 0)) = true := by decide +kernel
  intro t ht
  have h := List.all_eq_true.1 this t ht
  simp only [Bool.and_eq_true] at h
  exact ⟨h.1.1.1,h.1.1.2,h.1.2,h.2⟩
theorem vtab_names : ∀ t1 ∈ vtab,∀ t2 ∈ vtab,t1.2.1 = t2.2.1 -> t1 = t2 := by
  have : vtab.all (fun t1 => vtab.all fun t2 => !(bl t1.2.1 == bl t2.2.1) || (t1.1 == t2.1 && t1.2.2 == t2.2.2)) = true := by decide +kernel
  intro t1 h1 t2 h2 e
  have h := List.all_eq_true.1 (List.all_eq_true.1 this t1 h1) t2 h2
  rw [e] at h
  simp at h
  obtain ⟨a,b,c⟩ := t1
  obtain ⟨a',b',c'⟩ := t2
  simp only at e h
  rw [e,h.1,h.2]
theorem vtab_kinds : ∀ t1 ∈ vtab,∀ t2 ∈ vtab,t1.1 = t2.1 -> t1 = t2 := by
  have : vtab.all (fun t1 => vtab.all fun t2 => !(t1.1 == t2.1) || (bl t1.2.1 == bl t2.2.1)) = true := by decide +kernel
  intro t1 h1 t2 h2 e
  have h := List.all_eq_true.1 (List.all_eq_true.1 this t1 h1) t2 h2
  rw [e] at h
  simp at h
  refine vtab_names t1 h1 t2 h2 ?_
  rw [← bs_bl t1.2.1,h,bs_bl]
theorem vfind_mem {pv : Int -> ByteArray -> Bool} {t : Vb} (h : vfind pv = some t) : t ∈ vtab /\ pv t.1 t.2.1 = true := ⟨List.mem_of_find?_eq_some h,by have := List.find?_some h; exact this⟩
theorem vfind_none {pv : Int -> ByteArray -> Bool} (h : vfind pv = none) : ∀ t ∈ vtab,pv t.1 t.2.1 = false := fun t ht => by
  have := List.find?_eq_none.1 h t ht
  simpa using this
theorem hb10 : Tryz.f10.body = some (.seq (getAt F10_code [0]) (.seq (.region 1 #[{ dst := none, op := .defer { callee := .value (.func 24), args := #[.tmp 3], argTypes := #[75] }, type := 0, pos := "script.go:277", after := #[], guard := none }] false) (getAt F10_code [1, 1]))) := by kernel_rfl
theorem res10 (t : Tm) (w : World) (K : List Value -> Prop) : resL Tryz.prog t w Tryz.f10.results.toList K = (match t 2 with | .pointer (some a) => ldR26 a w fun s => (match t 3 with | .pointer (some b) => ldI .i64 b w fun n => K [s.v,.int .i64 n] | _ => False) | _ => False) := by kernel_rfl
theorem nt10 : Tryz.f10.ntmps = 26 := by kernel_rfl
theorem setKind_c (S : Sc) {R : R26} (k : Int) (h : S.cs = R.c) : (setKind S k).cs = ({ R with f0 := k } : R26).c := by unfold setKind; rw [h]; rfl
section
variable {W w : World} {M : List HP} {lb cb kb rb : Nat} {x : Int}
theorem F10_1_go [Esc] {s : ByteArray} {Kr : Value -> Value -> World -> Prop} (hT : TB W) (hs : s.size <= 8000000) (h : Hs W (pt kb (.cells #[.int .i64 0] 28 (0,0)) :: pt rb (.cells R26.zz.c 27 (0,0)) :: M) w)
    (hE : ∀ ch w',ch = PE 250 -> (¬ ∃ R dat,IsDeed s R dat) -> Hs W (pt kb (.cells #[.int .i64 0] 28 (0,0)) :: pt rb (.cells R26.zz.c 27 (0,0)) :: M) w' -> Esc.E ch w')
    (hK : ∀ w' R dat,IsDeed s R dat -> Hs W (pt kb (.cells #[.int .i64 0] 28 (0,0)) :: pt rb (.cells R.c 27 (0,0)) :: dtP W R.c dat :: M) w' -> Kr (.pointer (some ⟨rb,0,none⟩)) (.pointer (some ⟨kb,0,none⟩)) w') :
    F10_1 Kr (.string s) (.pointer (some ⟨rb,0,none⟩)) (.pointer (some ⟨kb,0,none⟩)) w := by
  unfold F10_1
  simp only [rdA_mk,rdS_mk]
  refine h.alc fun ob w2 h2 => ?_
  refine cl (c32 hs h2) ?_
  rintro _ w3 ⟨a,rfl,h3⟩
  refine ⟨_,_,_,rfl,h3.alc fun lb w4 h4 => h4.alc fun pb w5 h5 => h5.stc 0 rfl (by simp) fun w6 h6 => ?_⟩
  refine h6.stc 0 rfl (by simp) fun w7 h7 => ?_
  have h7 : Hs W (pt pb (.cells #[.pointer (some ⟨lb,0,none⟩),.pointer (some ⟨ob,0,none⟩)] 82 (0,0)) :: pt lb (.cells #[.slice a (words s).length (words s).length,.bool true] 79 (0,0)) :: slP 9 1 a (words s).length (words s).length (wsV (words s)) :: pt ob (.cells R26.zz.c 27 (0,0)) :: pt kb (.cells #[.int .i64 0] 28 (0,0)) :: pt rb (.cells R26.zz.c 27 (0,0)) :: M) w7 := h7
  refine h7.ldP 0 rfl rfl ?_
  simp only [nn]
  refine h7.ldC 1 rfl rfl ?_
  obtain ⟨hd,tl,hw⟩ : ∃ hd tl,words s = hd :: tl := by
    cases e : words s with
    | nil => exact absurd e (words_ne s)
    | cons x y => exact ⟨x,y,rfl⟩
  have hr := h7.rd 2 rfl
  obtain ⟨ad,rfl⟩ := hr.some (by rw [hw]; simp [wsV])
  refine ixS_to (p := 0) rfl (by rw [hw]; simp) ?_
  refine ldS_c (n := hd) (hr.at (j := 0) (by rw [hw]; rfl)) ?_
  refine h7.alc fun nb w8 h8 => h8.stc 0 rfl (by simp) fun w9 h9 => ?_
  have h9 : Hs W (pt nb (.cells #[.string hd] 9 (0,0)) :: pt pb (.cells #[.pointer (some ⟨lb,0,none⟩),.pointer (some ⟨ob,0,none⟩)] 82 (0,0)) :: pt lb (.cells #[.slice (some ad) (words s).length (words s).length,.bool true] 79 (0,0)) :: slP 9 1 (some ad) (words s).length (words s).length (wsV (words s)) :: pt ob (.cells R26.zz.c 27 (0,0)) :: pt kb (.cells #[.int .i64 0] 28 (0,0)) :: pt rb (.cells R26.zz.c 27 (0,0)) :: M) w9 := h9
  refine h9.ldP 1 rfl rfl (h9.ldP 1 rfl rfl ?_)
  have h10 : Hs W (pt lb (.cells #[.slice (some ad) (words s).length (words s).length,.bool true] 79 (0,0)) :: slP 9 1 (some ad) (words s).length (words s).length (wsV (words s)) :: pt nb (.cells #[.string hd] 9 (0,0)) :: pt pb (.cells #[.pointer (some ⟨lb,0,none⟩),.pointer (some ⟨ob,0,none⟩)] 82 (0,0)) :: pt ob (.cells R26.zz.c 27 (0,0)) :: pt kb (.cells #[.int .i64 0] 28 (0,0)) :: pt rb (.cells R26.zz.c 27 (0,0)) :: M) w9 := (h9.focus (i := 3) rfl).focus (i := 3) rfl
  have h11 := dt_old (cs := R26.zz.c) (dat := []) (a := none) (c := 0) rfl (Rd.nil W none) (ln_shut (h10.toO 1 rfl))
  have h12 : Hs W (lnP lb true (words s) :: pt ob (.cells R26.zz.c 27 (0,0)) :: dtP W R26.zz.c [] :: pt nb (.cells #[.string hd] 9 (0,0)) :: pt pb (.cells #[.pointer (some ⟨lb,0,none⟩),.pointer (some ⟨ob,0,none⟩)] 82 (0,0)) :: pt kb (.cells #[.int .i64 0] 28 (0,0)) :: pt rb (.cells R26.zz.c 27 (0,0)) :: M) w9 := (h11.focus (i := 4) rfl).focus (i := 2) rfl
  refine clp (c25 (S := ⟨R26.zz.c,[]⟩) (pv := fun _ nm => decide (nm = hd)) hT h12 ⟨R26.zz,rfl⟩ (fun x => (nomatch x)) ⟨fun x => (nomatch x),fun _ => words_small (by omega)⟩ ok33 (fun q w' A B C D E h' => c33 h' 5 rfl)) ?_ ?_
  · rintro _ w13 ⟨rfl,t,hv,S',ws',hsts,hsh,h13⟩
    obtain ⟨htm,hnm⟩ := vfind_mem hv
    have hnm := of_decide_eq_true hnm
    obtain ⟨hap,hnk,hsm,h0⟩ := vtab_items t htm
    have hnk := List.all_eq_true.1 hnk
    obtain ⟨hw2,hok⟩ := hsts.r (apart_of hap)
    refine ⟨rfl,h13.ldP 4 rfl rfl ?_⟩
    obtain ⟨R,hR⟩ := hsh
    obtain ⟨cs,dat⟩ := S'
    simp only at hR
    subst hR
    have hD : ws' = [] -> IsDeed s R dat := fun e => by
      subst e
      rw [List.append_nil] at hw2
      have hc := fun o => hsts.cell (o := o) hnk
      have hz := setKind_c ⟨R26.zz.c,[]⟩ t.1 rfl
      refine ⟨t,htm,hok,hw2,?_,fun o ho0 ho10 hf => ?_,fun hf => ?_⟩
      · have := (hc 0 (fun it hi => by have := List.all_eq_true.1 h0 it hi; simpa using this)).1 (by decide)
        rw [hz] at this
        have : some (Value.int .i64 R.f0) = some (Value.int .i64 t.1) := this
        injection this with this
        injection this
      · have hcz : R26.zz.c[o]? = (setKind ⟨R26.zz.c,[]⟩ t.1).cs[o]? := (Array.getElem?_setIfInBounds_ne (fun e => ho0 e.symm)).symm
        rw [hcz]
        by_cases hm : o = 1000000
        · subst hm; rw [hz]; rfl
        · exact (hc o fun it hi ho => hf ⟨it,hi,ho⟩).1 hm
      · exact (hc 1000000 fun it hi ho => hf ⟨it,hi,ho⟩).2 rfl
    refine clp (c34 h13) ?_ ?_
    · rintro _ w14 ⟨e,rfl,h14⟩
      refine ⟨rfl,ldR26_of (s := R) (h14.atL 0 rfl) ?_⟩
      refine h14.stcL 5 rfl (by rfl) fun w15 h15 => ?_
      have h15 : Hs W (pt ob (.cells R.c 27 (0,0)) :: dtP W R.c dat :: pt nb (.cells #[.string hd] 9 (0,0)) :: pt pb (.cells #[.pointer (some ⟨lb,0,none⟩),.pointer (some ⟨ob,0,none⟩)] 82 (0,0)) :: pt kb (.cells #[.int .i64 0] 28 (0,0)) :: pt rb (.cells R.c 27 (0,0)) :: M) w15 := h15
      refine h15.stc 4 rfl (by simp) fun w16 h16 => hK w16 R dat (hD e) ?_
      have h17 : Hs W (dtP W R.c dat :: pt kb (.cells #[.int .i64 0] 28 (0,0)) :: pt rb (.cells R.c 27 (0,0)) :: M) w16 := ((h16.drop).erase 1).erase 1
      exact (h17.focus (i := 2) rfl).focus (i := 2) rfl
    · rintro ch w14 ⟨hne,rfl,h14⟩
      refine hE _ _ rfl ?_ (h14.drop.drop.drop.drop)
      rintro ⟨R2,d2,t2,h2⟩
      have e1 : t2 = t := by
        refine vtab_names _ h2.mem _ htm ?_
        have := h2.words
        rw [hw] at this
        injection this with this _
        rw [hnm,this]
        rfl
      subst e1
      have := h2.words
      rw [hw2] at this
      have := congrArg List.length this
      rw [List.length_append,List.length_map,List.length_map] at this
      exact hne (List.length_eq_zero_iff.1 (by omega))
  · rintro ch w13 ⟨h13,hx⟩
    have h14 := h13.drop.drop
    rcases hx with ⟨hn,rfl⟩ | ⟨t,c,hv,rfl,hb⟩
    · refine hE _ _ rfl ?_ h14
      rintro ⟨R2,d2,t2,h2⟩
      have h3 := vfind_none hn t2 h2.mem
      have h3 := of_decide_eq_false h3
      have := h2.words
      rw [hw] at this
      injection this with this _
      exact h3 this.symm
    · obtain ⟨e,hb2⟩ := hb.1 rfl
      subst e
      refine hE _ _ rfl ?_ h14
      rintro ⟨R2,d2,t2,h2⟩
      obtain ⟨htm,hnm⟩ := vfind_mem hv
      have hnm := of_decide_eq_true hnm
      have e1 : t2 = t := by
        refine vtab_names _ h2.mem _ htm ?_
        have := h2.words
        rw [hw] at this
        injection this with this _
        rw [hnm,this]
        rfl
      subst e1
      exact hb2 ⟨R2.c,d2⟩ [] h2.ok (by rw [List.append_nil]; exact h2.words)
theorem c10 {s : ByteArray} (hT : TB W) (h : Hs W M w) (hs : s.size <= 8000000) : Calls Tryz.prog 10 #[.string s] w (rt fun v w' =>
    (∃ R dat,IsDeed s R dat /\ v = .tuple #[R.v,.int .i64 0] /\ Hs W (dtP W R.c dat :: M) w') \/ ((¬ ∃ R dat,IsDeed s R dat) /\ v = .tuple #[R26.zz.v,.int .i64 250] /\ Hs W M w')) := by
  refine calls_ofD Tryz.func10 hb10 rfl rfl rfl ok24 (by rw [nt10]; show 1 <= 26; omega) ?_
  refine F10_0_ok0 _ _ _ ?_
  show F10_0 _ (.string s) w
  unfold F10_0
  simp only [rdS_mk]
  refine h.alc fun b2 w2 h2 => h2.alc fun b4 w4 h4 => ?_
  have h4 : Hs W (pt b4 (.cells #[.int .i64 0] 28 (0,0)) :: pt b2 (.cells R26.zz.c 27 (0,0)) :: M) w4 := h4
  intro g
  refine ⟨_,rfl,_,rfl,_,rfl,?_⟩
  refine gen3 0 2 3 (v1 := .string s) (v2 := .pointer (some ⟨b2,0,none⟩)) (v3 := .pointer (some ⟨b4,0,none⟩)) ?_ ?_ ?_ fun t t1 t2 t3 => ?_
  · rfl
  · rfl
  · rfl
  show Behind _ _ _ _ _ _ t _
  have hx : (#[Operand.tmp 3]).map (ev t) = #[.pointer (some ⟨b4,0,none⟩)] := by simp [ev,t3]
  refine ⟨[2,3],fun ch w' => ch = PE 250 /\ (¬ ∃ R dat,IsDeed s R dat) /\ Hs W (pt b4 (.cells #[.int .i64 0] 28 (0,0)) :: pt b2 (.cells R26.zz.c 27 (0,0)) :: M) w',?_,?_⟩
  · refine @F10_1_ok ⟨_⟩ _ _ _ _ ?_
    unfold F10_1O
    rw [t1,t2,t3]
    refine @F10_1_go W w4 M b4 b2 ⟨_⟩ s _ hT hs h4 (fun ch w' hc hb hs => ⟨hc,hb,hs⟩) fun w6 R dat hok h6 => ?_
    intro g2
    refine ⟨_,rfl,_,rfl,?_⟩
    show dcl Tryz.prog 24 _ .returning w6 _
    rw [hx]
    refine c24r ?_
    rw [res10]
    show ldR26 ⟨b2,0,none⟩ w6 (fun s => ldI .i64 ⟨b4,0,none⟩ w6 _)
    refine ldR26_of (s := R) (h6.atL 1 rfl) ?_
    refine h6.ldI 0 rfl rfl ?_
    exact .inl ⟨R,dat,hok,rfl,h6.drop.drop⟩
  · rintro ch w6 ⟨rfl,hb,h6⟩
    rw [hx]
    refine c24p h6 fun w7 h7 t' ht' => ?_
    rw [res10,ht' 3 (by simp),ht' 2 (by simp),t3,t2]
    show ldR26 ⟨b2,0,none⟩ w7 (fun s => ldI .i64 ⟨b4,0,none⟩ w7 _)
    refine ldR26_of (s := R26.zz) (h7.atL 1 rfl) ?_
    refine h7.ldI 0 rfl rfl ?_
    exact .inr ⟨hb,rfl,h7.drop.drop⟩
end
end Go.Proofs.YtilenpnpnbdndaaGreatDoor
namespace Go.Proofs.YtilenpnpnbdndaaGreatDoor
open Go Go.Sh
set_option maxRecDepth 100000
theorem dec_blank (u : Nat) : ∀ b ∈ Lib.decDigits u,b ≠ 32 := by
  induction u using Nat.strongRecOn with
  | _ u ih =>
    intro b hb
    by_cases h : u < 10
    · rw [Lib.decDigits,dif_pos h] at hb
      rw [List.mem_singleton.1 hb]
      intro e
      have := congrArg UInt8.toNat e
      rw [dec_one h] at this
      have : 48 + u = 32 := this
      omega
    · rw [Lib.decDigits,dif_neg h] at hb
      rcases List.mem_append.1 hb with hb | hb
      · exact ih (u / 10) (by omega) b hb
      · rw [List.mem_singleton.1 hb]
        intro e
        have := congrArg UInt8.toNat e
        rw [dec_one (Nat.mod_lt _ (by omega))] at this
        have : 48 + u % 10 = 32 := this
        omega
theorem hexs_blank : ∀ (l : List UInt8),32 ∉ hexs l
  | [] => by simp [hexs_nil]
  | b :: l => by
    have hb := b.toNat_lt
    have h1 := (hxd_ne ⟨b.toNat / 16,by omega⟩).2
    have h2 := (hxd_ne ⟨b.toNat % 16,by omega⟩).2
    simp only at h1 h2
    rw [hexs_cons]
    simp [hexs_blank l,Ne.symm h1,Ne.symm h2]
theorem hexW_blank (l : List UInt8) : 32 ∉ hexW l := by
  unfold hexW
  split
  · simp
  · exact hexs_blank l
def clearIt : It -> Bool
  | .lit x => !(bl x).contains 32
  | .flag _ a b => !(bl a).contains 32 && !(bl b).contains 32 && !(bl a == bl b)
  | _ => true
theorem wd_blank {s : Sc} {it : It} (h : clearIt it = true) : 32 ∉ bl (wd s it) := by
  cases it with
  | lit x => show 32 ∉ bl x; simpa [clearIt] using h
  | num o k m =>
    show 32 ∉ bl (bs _)
    rw [bl_bs]
    exact fun hm => dec_blank _ _ hm rfl
  | flag o a b =>
    simp only [clearIt,Bool.and_eq_true] at h
    show 32 ∉ bl (if bAt s.cs o then b else a)
    split
    · have := h.1.2; simpa using this
    · have := h.1.1; simpa using this
  | key => show 32 ∉ bl (bs _); rw [bl_bs]; exact hexW_blank _
  | dat o => show 32 ∉ bl (bs _); rw [bl_bs]; exact hexW_blank _
  | why o => show 32 ∉ bl (bs _); rw [bl_bs]; exact hexW_blank _
theorem words_line {its : List It} {s : Sc} (h0 : its ≠ []) (h : its.all clearIt = true) : words (lineOf its s) = its.map (wd s) := by
  refine words_joined (by simpa using h0) fun x hx => ?_
  obtain ⟨it,hi,rfl⟩ := List.mem_map.1 hx
  exact wd_blank (List.all_eq_true.1 h it hi)
theorem conf_clear : confItems.all clearIt = true := by decide +kernel
theorem vtab_clear : ∀ t ∈ vtab,(itemsOf t).all clearIt = true := by
  have : vtab.all (fun t => (itemsOf t).all clearIt) = true := by decide +kernel
  exact fun t ht => List.all_eq_true.1 this t ht
theorem wd_inj {s1 s2 : Sc} {it : It} (hs : smallIt it = true) (hc : clearIt it = true) (hk : notKey it = true) (o1 : okI s1 it) (o2 : okI s2 it) (t1 : tyI s1 it) (t2 : tyI s2 it) (hd : ∀ o,it = .dat o -> o = 10) (h : wd s1 it = wd s2 it) :
    (∀ o,o ∈ foot it -> o ≠ 10 -> o ≠ 1000000 -> s1.cs[o]? = s2.cs[o]?) /\ (1000000 ∈ foot it -> (∃ o,it = .dat o) -> s1.dat = s2.dat) := by
  cases it with
  | lit x => exact ⟨fun o ho => by simp [foot] at ho,fun ho => by simp [foot] at ho⟩
  | num o k m =>
    refine ⟨fun o' ho _ _ => ?_,fun _ ⟨_,e⟩ => by cases e⟩
    have : o' = o := by simpa [foot] using ho
    subst this
    have hm := of_decide_eq_true hs
    obtain ⟨a1,a2⟩ := o1
    obtain ⟨b1,b2⟩ := o2
    have h2 := decDigits_inj (by omega) (by omega) (bs_inj h)
    have h3 : iAt s1.cs o' = iAt s2.cs o' := by omega
    have t1 : s1.cs[o']? = some (.int k (iAt s1.cs o')) := t1
    have t2 : s2.cs[o']? = some (.int k (iAt s2.cs o')) := t2
    rw [t1,t2,h3]
  | flag o a b =>
    refine ⟨fun o' ho _ _ => ?_,fun _ ⟨_,e⟩ => by cases e⟩
    have : o' = o := by simpa [foot] using ho
    subst this
    have t1 : s1.cs[o']? = some (.bool (bAt s1.cs o')) := t1
    have t2 : s2.cs[o']? = some (.bool (bAt s2.cs o')) := t2
    have h : (if bAt s1.cs o' then b else a) = (if bAt s2.cs o' then b else a) := h
    have hne : a ≠ b := fun e => by
      simp only [clearIt,Bool.and_eq_true] at hc
      have := hc.2
      rw [e] at this
      simp at this
    rw [t1,t2]
    cases hb1 : bAt s1.cs o' <;> cases hb2 : bAt s2.cs o' <;> rw [hb1,hb2] at h
    · exact absurd h hne
    · exact absurd h.symm hne
  | key => cases hk
  | dat o =>
    refine ⟨fun o' ho h1 h2 => ?_,fun _ _ => hexW_inj (bs_inj h)⟩
    have := hd o rfl
    subst this
    simp only [foot,List.mem_cons,List.not_mem_nil,or_false] at ho
    exact absurd ho (by omega)
  | why o =>
    refine ⟨fun o' ho _ _ => ?_,fun _ ⟨_,e⟩ => by cases e⟩
    have : o' = o := by simpa [foot] using ho
    subst this
    have t1 : s1.cs[o']? = some (.string (sAt s1.cs o')) := t1
    have t2 : s2.cs[o']? = some (.string (sAt s2.cs o')) := t2
    have h2 := hexW_inj (bs_inj h)
    have h3 : sAt s1.cs o' = sAt s2.cs o' := by rw [← bs_bl (sAt s1.cs o'),h2,bs_bl]
    rw [t1,t2,h3]
def isDat : It -> Bool
  | .dat _ => true
  | _ => false
theorem vtab_dat : ∀ t ∈ vtab,∀ it ∈ itemsOf t,(1000000 ∈ foot it -> isDat it = true) /\ (∀ o,it = .dat o -> o = 10) := by
  have : vtab.all (fun t => (itemsOf t).all fun it => (!(foot it).contains 1000000 || isDat it) && (match it with | .dat o => o == 10 | _ => true)) = true := by decide +kernel
  intro t ht it hi
  have h := List.all_eq_true.1 (List.all_eq_true.1 this t ht) it hi
  simp only [Bool.and_eq_true] at h
  refine ⟨fun hm => ?_,fun o e => ?_⟩
  · have h1 := h.1
    simp [hm] at h1
    exact h1
  · subst e
    have h2 := h.2
    simpa using h2
theorem part_ty {k : Nat} (hk : k ∈ partIds) (R : R26) (d : List UInt8) : tyI ⟨R.c,d⟩ (partIt k) := by
  simp only [partIds,List.mem_cons,List.not_mem_nil,or_false] at hk
  rcases hk with rfl | rfl | rfl | rfl | rfl | rfl | rfl | rfl | rfl | rfl | rfl
  all_goals first | rfl | (show 10 < 12; omega)
theorem items_ty {t : Vb} (ht : t ∈ vtab) (R : R26) (d : List UInt8) : ∀ it ∈ itemsOf t,tyI ⟨R.c,d⟩ it := fun it hi => by
  rcases List.mem_cons.1 hi with rfl | hi
  · trivial
  · obtain ⟨k,hk,rfl⟩ := List.mem_map.1 hi
    exact part_ty ((vtab_ok t ht).1 k hk) R d
structure Deq (R1 : R26) (d1 : List UInt8) (R2 : R26) (d2 : List UInt8) : Prop where
  cells : ∀ o,o ≠ 10 -> R1.c[o]? = R2.c[o]?
  dat : d1 = d2
theorem deed_name {t : Vb} {s : ByteArray} {R : R26} {d : List UInt8} (h : IsDeedT t s R d) : (words s).head? = some t.2.1 := by rw [h.words]; rfl
theorem deed_same {t t' : Vb} {s : ByteArray} {R R' : R26} {d d' : List UInt8} (h : IsDeedT t s R d) (h' : IsDeedT t' s R' d') : t' = t := by
  refine vtab_names _ h'.mem _ h.mem ?_
  have := deed_name h
  rw [deed_name h'] at this
  exact Option.some.inj this
theorem IsDeed.det {s : ByteArray} {R1 R2 : R26} {d1 d2 : List UInt8} (h1 : IsDeed s R1 d1) (h2 : IsDeed s R2 d2) : Deq R1 d1 R2 d2 := by
  obtain ⟨t,h1⟩ := h1
  obtain ⟨t',h2⟩ := h2
  have e := deed_same h1 h2
  subst e
  obtain ⟨_,hnk,hsm,_⟩ := vtab_items t' h1.mem
  have hcl := vtab_clear t' h1.mem
  have hw : ∀ it ∈ itemsOf t',wd ⟨R1.c,d1⟩ it = wd ⟨R2.c,d2⟩ it := List.map_inj_left.1 (h1.words.symm.trans h2.words)
  have hinj := fun it (hi : it ∈ itemsOf t') => wd_inj (s1 := ⟨R1.c,d1⟩) (s2 := ⟨R2.c,d2⟩) (List.all_eq_true.1 hsm it hi) (List.all_eq_true.1 hcl it hi) (List.all_eq_true.1 hnk it hi) (h1.ok it hi) (h2.ok it hi) (items_ty h1.mem R1 d1 it hi) (items_ty h1.mem R2 d2 it hi) (vtab_dat t' h1.mem it hi).2 (hw it hi)
  refine ⟨fun o ho => ?_,?_⟩
  · by_cases hm : o = 1000000
    · subst hm
      rw [Array.getElem?_eq_none (by show 12 <= 1000000; omega),Array.getElem?_eq_none (by show 12 <= 1000000; omega)]
    · rcases Classical.em (hasFoot t' o) with ⟨it,hi,hf⟩ | hf
      · exact (hinj it hi).1 o hf ho hm
      · by_cases h0 : o = 0
        · subst h0
          show some (Value.int .i64 R1.f0) = some (Value.int .i64 R2.f0)
          rw [h1.kind,h2.kind]
        · rw [h1.away o h0 ho hf,h2.away o h0 ho hf]
  · rcases Classical.em (hasFoot t' 1000000) with ⟨it,hi,hf⟩ | hf
    · refine (hinj it hi).2 hf ?_
      have := (vtab_dat t' h1.mem it hi).1 hf
      cases it with
      | dat o => exact ⟨o,rfl⟩
      | _ => cases this
    · rw [h1.data hf,h2.data hf]
def sameB (R1 : R26) (d1 : List UInt8) (R2 : R26) (d2 : List UInt8) : Bool :=
  decide (d1 = d2) && ((R1.f0 == R2.f0) && ((R1.f1 == R2.f1) && ((R1.f2 == R2.f2) && ((R1.f3 == R2.f3) && ((R1.f4 == R2.f4) && ((R1.f5 == R2.f5) && ((R1.f6 == R2.f6) && ((R1.f7 == R2.f7) && ((R1.f8 == R2.f8) && ((R1.f9 == R2.f9) && decide (R1.f11 = R2.f11)))))))))))
theorem sameB_iff {R1 R2 : R26} {d1 d2 : List UInt8} : sameB R1 d1 R2 d2 = true ↔ Deq R1 d1 R2 d2 := by
  constructor
  · intro h
    simp only [sameB,Bool.and_eq_true,decide_eq_true_eq,beq_iff_eq] at h
    obtain ⟨hd,e0,e1,e2,e3,e4,e5,e6,e7,e8,e9,e11⟩ := h
    refine ⟨fun o ho => ?_,hd⟩
    match o,ho with
    | 0,_ => show some (Value.int .i64 R1.f0) = some (Value.int .i64 R2.f0); rw [e0]
    | 1,_ => show some (Value.int .i64 R1.f1) = some (Value.int .i64 R2.f1); rw [e1]
    | 2,_ => show some (Value.int .i64 R1.f2) = some (Value.int .i64 R2.f2); rw [e2]
    | 3,_ => show some (Value.int .i64 R1.f3) = some (Value.int .i64 R2.f3); rw [e3]
    | 4,_ => show some (Value.int .i64 R1.f4) = some (Value.int .i64 R2.f4); rw [e4]
    | 5,_ => show some (Value.int .u8 R1.f5) = some (Value.int .u8 R2.f5); rw [e5]
    | 6,_ => show some (Value.int .i64 R1.f6) = some (Value.int .i64 R2.f6); rw [e6]
    | 7,_ => show some (Value.int .u16 R1.f7) = some (Value.int .u16 R2.f7); rw [e7]
    | 8,_ => show some (Value.int .u32 R1.f8) = some (Value.int .u32 R2.f8); rw [e8]
    | 9,_ => show some (Value.bool R1.f9) = some (Value.bool R2.f9); rw [e9]
    | 10,ho => exact absurd rfl ho
    | 11,_ => show some (Value.string R1.f11) = some (Value.string R2.f11); rw [e11]
    | o + 12,_ => rw [Array.getElem?_eq_none (by show 12 <= o + 12; omega),Array.getElem?_eq_none (by show 12 <= o + 12; omega)]
  · rintro ⟨h,hd⟩
    have i1 : ∀ {k : IntKind} {a b : Int},some (Value.int k a) = some (Value.int k b) -> a = b := fun e => by cases e; rfl
    have e0 := i1 (k := .i64) (h 0 (by decide))
    have e1 := i1 (k := .i64) (h 1 (by decide))
    have e2 := i1 (k := .i64) (h 2 (by decide))
    have e3 := i1 (k := .i64) (h 3 (by decide))
    have e4 := i1 (k := .i64) (h 4 (by decide))
    have e5 := i1 (k := .u8) (h 5 (by decide))
    have e6 := i1 (k := .i64) (h 6 (by decide))
    have e7 := i1 (k := .u16) (h 7 (by decide))
    have e8 := i1 (k := .u32) (h 8 (by decide))
    have e9 : R1.f9 = R2.f9 := by
      have : some (Value.bool R1.f9) = some (Value.bool R2.f9) := h 9 (by decide)
      injection this with this
      injection this
    have e11 : R1.f11 = R2.f11 := by
      have : some (Value.string R1.f11) = some (Value.string R2.f11) := h 11 (by decide)
      injection this with this
      injection this
    simp only [sameB,Bool.and_eq_true,decide_eq_true_eq,beq_iff_eq]
    exact ⟨hd,e0,e1,e2,e3,e4,e5,e6,e7,e8,e9,e11⟩
structure LineOk (t : Vb) (R : R26) (dat : List UInt8) : Prop where
  mem : t ∈ vtab
  ok : okAll (itemsOf t) ⟨R.c,dat⟩
  kind : R.f0 = t.1
  away : ∀ o,o ≠ 0 -> o ≠ 10 -> ¬ hasFoot t o -> R.c[o]? = R26.zz.c[o]?
  data : ¬ hasFoot t 1000000 -> dat = []
theorem LineOk.words_eq {t : Vb} (ht : t ∈ vtab) (s : Sc) : words (lineOf (itemsOf t) s) = (itemsOf t).map (wd s) := words_line (by simp [itemsOf]) (vtab_clear t ht)
theorem LineOk.deed {t : Vb} {R : R26} {dat : List UInt8} (h : LineOk t R dat) : IsDeedT t (lineOf (itemsOf t) ⟨R.c,dat⟩) R dat := ⟨h.mem,h.ok,LineOk.words_eq h.mem _,h.kind,h.away,h.data⟩
theorem LineOk.of {t : Vb} {R R2 : R26} {dat d2 : List UInt8} (ht : t ∈ vtab) (hk : R.f0 = t.1) (ho : okAll (itemsOf t) ⟨R.c,dat⟩) (h : IsDeed (lineOf (itemsOf t) ⟨R.c,dat⟩) R2 d2) (e : Deq R2 d2 R dat) : LineOk t R dat := by
  obtain ⟨t2,h⟩ := h
  have e1 : t2 = t := by
    refine vtab_names _ h.mem _ ht ?_
    have h1 := deed_name h
    rw [LineOk.words_eq ht] at h1
    have h1 : some t.2.1 = some t2.2.1 := h1
    exact (Option.some.inj h1).symm
  subst e1
  exact ⟨ht,ho,hk,fun o h0 h10 hf => by rw [← e.cells o h10]; exact h.away o h0 h10 hf,fun hf => by rw [← e.dat]; exact h.data hf⟩
theorem LineOk.one {t t' : Vb} {R : R26} {d d' : List UInt8} (h : LineOk t R d) (h' : LineOk t' R d') : t' = t := vtab_kinds _ h'.mem _ h.mem (by rw [← h'.kind,h.kind])
end Go.Proofs.YtilenpnpnbdndaaGreatDoor
