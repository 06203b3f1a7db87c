/- Own text: part of the shallow reading of the code and of the contracts that are proved over it. -/
import Derived.Test.YtilenpnpnbdndaaGreatDoorSqF
namespace Go.Proofs.YtilenpnpnbdndaaGreatDoor
open Go Go.Sh
set_option maxRecDepth 100000
theorem parseM_append (M : Nat) : ∀ (l1 l2 : List UInt8) (acc : Nat),Lib.parseUintM M acc (l1 ++ l2) = (match Lib.parseUintM M acc l1 with | .ok a => Lib.parseUintM M a l2 | r => r)
 | [],l2,acc => rfl
 | c :: l1,l2,acc => by
  obtain ⟨z,hz,e⟩ : ∃ z,(∀ a,z ≠ .ok a) /\ ∀ l,Lib.parseUintM M acc (c :: l) = if 48 <= c.toNat /\ c.toNat <= 57 then (if 1844674407370955162 <= acc then .range else if M < acc * 10 + (c.toNat - 48) then .range else Lib.parseUintM M (acc * 10 + (c.toNat - 48)) l) else z := ⟨_,fun _ h => by (first | cases h | (injection h)),fun _ => rfl⟩
  rw [List.cons_append,e,e]
  split
  ·split
   ·rfl
   ·split
    ·rfl
    ·exact parseM_append M l1 l2 _
  ·cases z with
   | ok a => exact absurd rfl (hz a)
   | _ => rfl
theorem dec_one {d : Nat} (h : d < 10) : (UInt8.ofNat (48 + d)).toNat = 48 + d := by
 rw [UInt8.toNat_ofNat']; omega
theorem parseM_dec (u : Nat) (hu : u < 18446744073709551616) : Lib.parseUintM 18446744073709551615 0 (Lib.decDigits u) = .ok u := by
 induction u using Nat.strongRecOn with
 | _ u ih =>
  by_cases h : u < 10
  ·rw [Lib.decDigits,dif_pos h]
   unfold Lib.parseUintM
   rw [dec_one h,if_pos (by omega),if_neg (by omega),if_neg (by omega)]
   unfold Lib.parseUintM
   congr 1
   omega
  ·rw [Lib.decDigits,dif_neg h,parseM_append,ih (u / 10) (by omega) (by omega)]
   show Lib.parseUintM _ _ _ = _
   unfold Lib.parseUintM
   rw [dec_one (Nat.mod_lt _ (by omega)),if_pos (by omega),if_neg (by omega),if_neg (by omega)]
   unfold Lib.parseUintM
   congr 1
   omega
theorem dec_ne (u : Nat) : Lib.decDigits u ≠ [] := by
 rw [Lib.decDigits]
 split <;> simp
theorem parse_dec {u : Nat} (hu : u < 18446744073709551616) : Lib.parseUintB 64 (Lib.decDigits u) = .ok u := by
 unfold Lib.parseUintB
 rw [if_neg (dec_ne u)]
 exact parseM_dec u hu
theorem decDigits_inj {a b : Nat} (ha : a < 18446744073709551616) (hb : b < 18446744073709551616) (h : Lib.decDigits a = Lib.decDigits b) : a = b := by
 have h1 := parse_dec ha
 rw [h,parse_dec hb] at h1
 injection h1 with h2
 exact h2.symm
theorem bs_inj {a b : List UInt8} (h : bs a = bs b) : a = b := by
 have := congrArg bl h
 simpa [bl_bs] using this
def hxd (n : Nat) : UInt8 := UInt8.ofNat (if n < 10 then 48 + n else 87 + n)
def hexs (l : List UInt8) : List UInt8 := l.flatMap fun b => [hxd (b.toNat / 16),hxd (b.toNat % 16)]
def hexW (l : List UInt8) : List UInt8 := if l = [] then [45] else hexs l
structure Sc where
 cs : Array Value
 dat : List UInt8
inductive It where
 | lit (s : ByteArray)
 | num (o : Nat) (k : IntKind) (most : Nat)
 | flag (o : Nat) (a b : ByteArray)
 | key
 | dat (o : Nat)
 | why (o : Nat)
def iAt (cs : Array Value) (o : Nat) : Int := match cs[o]? with | some (.int _ n) => n | _ => 0
def bAt (cs : Array Value) (o : Nat) : Bool := match cs[o]? with | some (.bool b) => b | _ => false
def sAt (cs : Array Value) (o : Nat) : ByteArray := match cs[o]? with | some (.string s) => s | _ => ⟨#[]⟩
def keyAt (cs : Array Value) : List UInt8 := (List.range 16).map fun j => (iAt cs j).toNat.toUInt8
def u8v (l : List UInt8) : List Value := l.map fun b => Value.int .u8 (b.toNat : Int)
def setK (cs : Array Value) (l : List UInt8) : Array Value := (u8v l ++ cs.toList.drop 16).toArray
def dec (n : Int) : ByteArray := bs (Lib.decDigits n.toNat)
def wd (s : Sc) : It -> ByteArray
 | .lit x => x
 | .num o _ _ => dec (iAt s.cs o)
 | .flag o a b => if bAt s.cs o then b else a
 | .key => bs (hexW (keyAt s.cs))
 | .dat _ => bs (hexW s.dat)
 | .why o => bs (hexW (bl (sAt s.cs o)))
def okI (s : Sc) : It -> Prop
 | .num o _ most => 0 <= iAt s.cs o /\ iAt s.cs o <= (most : Int)
 | .dat _ => s.dat.length <= 65536
 | .why o => (sAt s.cs o).size <= 65536
 | _ => True
def tyI (s : Sc) : It -> Prop
 | .num o k _ => s.cs[o]? = some (.int k (iAt s.cs o))
 | .flag o _ _ => s.cs[o]? = some (.bool (bAt s.cs o))
 | .why o => s.cs[o]? = some (.string (sAt s.cs o))
 | .key => ∀ j,j < 16 -> ∃ b : UInt8,s.cs[j]? = some (.int .u8 (b.toNat : Int))
 | .dat o => o < s.cs.size
 | .lit _ => True
def Chg (s s' : Sc) : It -> Prop
 | .lit _ => s' = s
 | .num o k _ => ∃ n : Int,s' = ⟨s.cs.setIfInBounds o (.int k n),s.dat⟩
 | .flag o _ _ => ∃ b,s' = ⟨s.cs.setIfInBounds o (.bool b),s.dat⟩
 | .key => ∃ l : List UInt8,l.length = 16 /\ s' = ⟨setK s.cs l,s.dat⟩
 | .dat o => ∃ v l,s' = ⟨s.cs.setIfInBounds o v,l⟩
 | .why o => ∃ t,s' = ⟨s.cs.setIfInBounds o (.string t),s.dat⟩
def Stp (r : Bool) (it : It) (s : Sc) (ws : List ByteArray) (s' : Sc) (ws' : List ByteArray) : Prop :=
 Chg s s' it /\ okI s' it /\ tyI s' it /\ (r = true -> ws = wd s' it :: ws') /\ (r = false -> s' = s /\ ws' = ws ++ [wd s it])
def Nop (r : Bool) (it : It) (s : Sc) (ws : List ByteArray) (c : Int) : Prop :=
 (r = true -> c = 250 /\ ∀ s' ws',okI s' it -> ws ≠ wd s' it :: ws') /\ (r = false -> c = 1 /\ ¬ okI s it)
def Sts (r : Bool) : List It -> Sc -> List ByteArray -> Sc -> List ByteArray -> Prop
 | [],s,ws,s',ws' => s' = s /\ ws' = ws
 | it :: l,s,ws,s',ws' => ∃ s1 ws1,Stp r it s ws s1 ws1 /\ Sts r l s1 ws1 s' ws'
def Bad (r : Bool) (its : List It) (s : Sc) (ws : List ByteArray) (c : Int) : Prop :=
 (r = true -> c = 250 /\ ∀ s' ws',(∀ it ∈ its,okI s' it) -> ws ≠ its.map (wd s') ++ ws') /\ (r = false -> c = 1 /\ ∃ it ∈ its,¬ okI s it)
theorem Sts.snoc {r : Bool} {it : It} : ∀ {l : List It} {s : Sc} {ws : List ByteArray} {s1 : Sc} {ws1 : List ByteArray} {s2 : Sc} {ws2 : List ByteArray},Sts r l s ws s1 ws1 -> Stp r it s1 ws1 s2 ws2 -> Sts r (l ++ [it]) s ws s2 ws2
 | [],_,_,_,_,_,_,⟨h1,h2⟩,h => by subst h1; subst h2; exact ⟨_,_,h,rfl,rfl⟩
 | x :: l,_,_,_,_,_,_,⟨a,b,h1,h2⟩,h => ⟨a,b,h1,Sts.snoc h2 h⟩
theorem Sts.app {r : Bool} {l2 : List It} : ∀ {l : List It} {s : Sc} {ws : List ByteArray} {s1 : Sc} {ws1 : List ByteArray} {s2 : Sc} {ws2 : List ByteArray},Sts r l s ws s1 ws1 -> Sts r l2 s1 ws1 s2 ws2 -> Sts r (l ++ l2) s ws s2 ws2
 | [],_,_,_,_,_,_,⟨h1,h2⟩,h => by subst h1; subst h2; exact h
 | x :: l,_,_,_,_,_,_,⟨a,b,h1,h2⟩,h => ⟨a,b,h1,Sts.app h2 h⟩
theorem Sts.len {l : List It} : ∀ {s : Sc} {ws : List ByteArray} {s' : Sc} {ws' : List ByteArray},Sts true l s ws s' ws' -> ∃ p,ws = p ++ ws' /\ p.length = l.length := by
 induction l with
 | nil => rintro s ws s' ws' ⟨_,rfl⟩; exact ⟨[],rfl,rfl⟩
 | cons it l ih =>
  rintro s ws s' ws' ⟨s1,ws1,⟨_,_,_,h,_⟩,h2⟩
  obtain ⟨p,rfl,hp⟩ := ih h2
  exact ⟨_ :: p,h rfl,by simp [hp]⟩
theorem Sts.w {l : List It} : ∀ {s : Sc} {ws : List ByteArray} {s' : Sc} {ws' : List ByteArray},Sts false l s ws s' ws' -> s' = s /\ ws' = ws ++ l.map (wd s) /\ ∀ it ∈ l,okI s it := by
 induction l with
 | nil => rintro s ws s' ws' ⟨rfl,rfl⟩; exact ⟨rfl,by simp,by simp⟩
 | cons it l ih =>
  rintro s ws s' ws' ⟨s1,ws1,⟨_,h0,_,_,h⟩,h2⟩
  obtain ⟨rfl,rfl⟩ := h rfl
  obtain ⟨rfl,rfl,h3⟩ := ih h2
  refine ⟨rfl,by simp,fun it hi => ?_⟩
  rcases List.mem_cons.1 hi with rfl | hi
  ·exact h0
  ·exact h3 _ hi
theorem Sts.no {r : Bool} {it : It} {l its : List It} (rest : List It) {s : Sc} {ws : List ByteArray} {s1 : Sc} {ws1 : List ByteArray} {c : Int} (h : Sts r l s ws s1 ws1) (hn : Nop r it s1 ws1 c) (e : its = l ++ it :: rest) : Bad r its s ws c := by
 subst e
 refine ⟨fun hr => ?_,fun hr => ?_⟩
 ·subst hr
  obtain ⟨p,rfl,hp⟩ := h.len
  refine ⟨(hn.1 rfl).1,fun s' ws' hok he => ?_⟩
  refine (hn.1 rfl).2 s' (rest.map (wd s') ++ ws') (hok it (by simp)) ?_
  have := congrArg (List.drop l.length) he
  rw [List.drop_append_of_le_length (by omega),List.drop_of_length_le (by omega)] at this
  rw [List.map_append,List.append_assoc,List.drop_append_of_le_length (by simp),List.drop_of_length_le (by simp)] at this
  simpa using this
 ·subst hr
  obtain ⟨rfl,_,_⟩ := h.w
  exact ⟨(hn.2 rfl).1,it,by simp,(hn.2 rfl).2⟩
theorem Bad.wide {r : Bool} {l its : List It} (a b : List It) {s s1 : Sc} {ws ws1 : List ByteArray} {c : Int} (h : Sts r a s ws s1 ws1) (hb : Bad r l s1 ws1 c) (e : its = a ++ (l ++ b)) : Bad r its s ws c := by
 subst e
 refine ⟨fun hr => ?_,fun hr => ?_⟩
 ·subst hr
  obtain ⟨p,rfl,hp⟩ := h.len
  refine ⟨(hb.1 rfl).1,fun s' ws' hok he => ?_⟩
  refine (hb.1 rfl).2 s' (b.map (wd s') ++ ws') (fun it hi => hok it (by simp [hi])) ?_
  have := congrArg (List.drop a.length) he
  rw [List.drop_append_of_le_length (by omega),List.drop_of_length_le (by omega)] at this
  rw [List.map_append,List.append_assoc,List.drop_append_of_le_length (by simp),List.drop_of_length_le (by simp)] at this
  simpa using this
 ·subst hr
  obtain ⟨rfl,_,_⟩ := h.w
  obtain ⟨e1,it,hi,hn⟩ := hb.2 rfl
  exact ⟨e1,it,by simp [hi],hn⟩
def foot : It -> List Nat
 | .lit _ => []
 | .num o _ _ => [o]
 | .flag o _ _ => [o]
 | .key => List.range 16
 | .dat o => [o,1000000]
 | .why o => [o]
theorem iAt_set {cs : Array Value} {o o' : Nat} {v : Value} (h : o ≠ o') : iAt (cs.setIfInBounds o v) o' = iAt cs o' := by
 unfold iAt; rw [Array.getElem?_setIfInBounds_ne h]
theorem bAt_set {cs : Array Value} {o o' : Nat} {v : Value} (h : o ≠ o') : bAt (cs.setIfInBounds o v) o' = bAt cs o' := by
 unfold bAt; rw [Array.getElem?_setIfInBounds_ne h]
theorem sAt_set {cs : Array Value} {o o' : Nat} {v : Value} (h : o ≠ o') : sAt (cs.setIfInBounds o v) o' = sAt cs o' := by
 unfold sAt; rw [Array.getElem?_setIfInBounds_ne h]
theorem keyAt_set {cs : Array Value} {o : Nat} {v : Value} (h : 16 <= o) : keyAt (cs.setIfInBounds o v) = keyAt cs := by
 unfold keyAt
 refine List.map_congr_left fun j hj => ?_
 rw [iAt_set]
 have := List.mem_range.1 hj
 omega
theorem setK_at {cs : Array Value} {l : List UInt8} {o : Nat} (hl : l.length = 16) (h : 16 <= o) : (setK cs l)[o]? = cs[o]? := by
 unfold setK
 rw [List.getElem?_toArray,List.getElem?_append_right (by simp [u8v,hl,h]),List.getElem?_drop]
 simp [u8v,hl]
 congr 1
 omega
theorem setK_in {cs : Array Value} {l : List UInt8} {o : Nat} (hl : l.length = 16) (h : o < 16) : (setK cs l)[o]? = some (.int .u8 ((l[o]'(by omega)).toNat : Int)) := by
 unfold setK
 rw [List.getElem?_toArray,List.getElem?_append_left (by simp [u8v,hl,h])]
 simp [u8v,hl,h]
theorem keyAt_setK {cs : Array Value} {l : List UInt8} (hl : l.length = 16) : keyAt (setK cs l) = l := by
 unfold keyAt
 refine List.ext_getElem (by simp [hl]) fun j h1 h2 => ?_
 simp only [List.getElem_map,List.getElem_range]
 unfold iAt
 rw [setK_in hl (by omega)]
 simp
theorem Chg.wd_eq {s s' : Sc} {it it' : It} (h : Chg s s' it) (hd : ∀ o,o ∈ foot it -> o ∉ foot it') : wd s' it' = wd s it' /\ (okI s' it' ↔ okI s it') := by
 have key : (∀ o,o ∈ foot it -> o ∉ foot it') -> ∀ o,o ∈ foot it' -> o ∉ foot it := fun h o ho hi => h o hi ho
 have hd' := key hd
 cases it with
 | lit x => cases h; exact ⟨rfl,Iff.rfl⟩
 | num o k m =>
  obtain ⟨n,rfl⟩ := h
  have ho : o ∉ foot it' := hd o (by simp [foot])
  cases it' with
  | lit _ => exact ⟨rfl,Iff.rfl⟩
  | num o' k' m' =>
    have : o ≠ o' := by simpa [foot] using ho
    simp [wd,okI,iAt_set this]
  | flag o' a b =>
    have : o ≠ o' := by simpa [foot] using ho
    simp [wd,okI,bAt_set this]
  | key =>
    have : 16 <= o := by simpa [foot] using ho
    simp [wd,okI,keyAt_set this]
  | dat o' => exact ⟨rfl,Iff.rfl⟩
  | why o' =>
    have : o ≠ o' := by simpa [foot] using ho
    simp [wd,okI,sAt_set this]
 | flag o a b =>
  obtain ⟨n,rfl⟩ := h
  have ho : o ∉ foot it' := hd o (by simp [foot])
  cases it' with
  | lit _ => exact ⟨rfl,Iff.rfl⟩
  | num o' k' m' =>
    have : o ≠ o' := by simpa [foot] using ho
    simp [wd,okI,iAt_set this]
  | flag o' a b =>
    have : o ≠ o' := by simpa [foot] using ho
    simp [wd,okI,bAt_set this]
  | key =>
    have : 16 <= o := by simpa [foot] using ho
    simp [wd,okI,keyAt_set this]
  | dat o' => exact ⟨rfl,Iff.rfl⟩
  | why o' =>
    have : o ≠ o' := by simpa [foot] using ho
    simp [wd,okI,sAt_set this]
 | why o =>
  obtain ⟨n,rfl⟩ := h
  have ho : o ∉ foot it' := hd o (by simp [foot])
  cases it' with
  | lit _ => exact ⟨rfl,Iff.rfl⟩
  | num o' k' m' =>
    have : o ≠ o' := by simpa [foot] using ho
    simp [wd,okI,iAt_set this]
  | flag o' a b =>
    have : o ≠ o' := by simpa [foot] using ho
    simp [wd,okI,bAt_set this]
  | key =>
    have : 16 <= o := by simpa [foot] using ho
    simp [wd,okI,keyAt_set this]
  | dat o' => exact ⟨rfl,Iff.rfl⟩
  | why o' =>
    have : o ≠ o' := by simpa [foot] using ho
    simp [wd,okI,sAt_set this]
 | dat o =>
  obtain ⟨v,l,rfl⟩ := h
  have ho : o ∉ foot it' := hd o (by simp [foot])
  cases it' with
  | lit _ => exact ⟨rfl,Iff.rfl⟩
  | num o' k' m' =>
    have : o ≠ o' := by simpa [foot] using ho
    simp [wd,okI,iAt_set this]
  | flag o' a b =>
    have : o ≠ o' := by simpa [foot] using ho
    simp [wd,okI,bAt_set this]
  | key =>
    have : 16 <= o := by simpa [foot] using ho
    simp [wd,okI,keyAt_set this]
  | dat o' => exact absurd (by simp [foot]) (hd 1000000 (by simp [foot]))
  | why o' =>
    have : o ≠ o' := by simpa [foot] using ho
    simp [wd,okI,sAt_set this]
 | key =>
  obtain ⟨l,hl,rfl⟩ := h
  have ha : ∀ o,o ∈ foot it' -> 16 <= o := fun o ho => by
   have := hd' o ho
   simp [foot] at this
   exact this
  cases it' with
  | lit _ => exact ⟨rfl,Iff.rfl⟩
  | num o' k' m' =>
    have := ha o' (by simp [foot])
    simp [wd,okI,iAt,setK_at hl this]
  | flag o' a b =>
    have := ha o' (by simp [foot])
    have hb : bAt (setK s.cs l) o' = bAt s.cs o' := by unfold bAt; rw [setK_at hl this]
    exact ⟨by show (if bAt (setK s.cs l) o' then b else a) = _; rw [hb]; rfl,Iff.rfl⟩
  | key => exact absurd (ha 0 (by simp [foot])) (by omega)
  | dat o' => exact ⟨rfl,Iff.rfl⟩
  | why o' =>
    have := ha o' (by simp [foot])
    simp [wd,okI,sAt,setK_at hl this]
def Apart (l : List It) : Prop := l.Pairwise fun a b => ∀ o,o ∈ foot b -> o ∉ foot a
theorem Sts.kept {r : Bool} {it' : It} : ∀ {l : List It} {s : Sc} {ws : List ByteArray} {s' : Sc} {ws' : List ByteArray},Sts r l s ws s' ws' -> (∀ it ∈ l,∀ o,o ∈ foot it -> o ∉ foot it') -> wd s' it' = wd s it' /\ (okI s' it' ↔ okI s it') := by
 intro l
 induction l with
 | nil => rintro s ws s' ws' ⟨rfl,_⟩ _; exact ⟨rfl,Iff.rfl⟩
 | cons it l ih =>
  rintro s ws s' ws' ⟨s1,ws1,⟨h1,_⟩,h2⟩ hd
  obtain ⟨a,b⟩ := ih h2 fun it hi => hd it (by simp [hi])
  obtain ⟨c,d⟩ := h1.wd_eq (hd it (by simp))
  exact ⟨a.trans c,b.trans d⟩
theorem Sts.r {l : List It} : ∀ {s : Sc} {ws : List ByteArray} {s' : Sc} {ws' : List ByteArray},Sts true l s ws s' ws' -> Apart l -> ws = l.map (wd s') ++ ws' /\ ∀ it ∈ l,okI s' it := by
 induction l with
 | nil => rintro s ws s' ws' ⟨rfl,rfl⟩ _; exact ⟨rfl,by simp⟩
 | cons it l ih =>
  rintro s ws s' ws' ⟨s1,ws1,⟨_,h0,_,h1,_⟩,h2⟩ hp
  obtain ⟨hp1,hp2⟩ := List.pairwise_cons.1 hp
  obtain ⟨e,h3⟩ := ih h2 hp2
  have hk := h2.kept (it' := it) hp1
  refine ⟨?_,fun x hx => ?_⟩
  ·rw [h1 rfl,e]
   simp [hk.1]
  ·rcases List.mem_cons.1 hx with rfl | hx
   ·exact hk.2.2 h0
   ·exact h3 _ hx
end Go.Proofs.YtilenpnpnbdndaaGreatDoor
namespace Go.Proofs.YtilenpnpnbdndaaGreatDoor
open Go Go.Sh
set_option maxRecDepth 100000
theorem set_same {cs : Array Value} {o : Nat} {v : Value} (h : cs[o]? = some v) : cs.setIfInBounds o v = cs := by
 apply Array.ext
 ·simp
 ·intro i h1 h2
  rw [Array.getElem_setIfInBounds]
  split
  ·rename_i e
   subst e
   rw [Array.getElem?_eq_getElem h2] at h
   exact (Option.some.inj h).symm
  ·rfl
theorem lt_of_at {cs : Array Value} {o : Nat} {v : Value} (h : cs[o]? = some v) : o < cs.size := by
 rcases Nat.lt_or_ge o cs.size with h1 | h1
 ·exact h1
 ·rw [Array.getElem?_eq_none h1] at h; cases h
theorem set_at {cs : Array Value} {o : Nat} {u v : Value} (h : cs[o]? = some u) : (cs.setIfInBounds o v)[o]? = some v := by
 rw [Array.getElem?_setIfInBounds_self,if_pos (lt_of_at h)]
theorem iAt_of {cs : Array Value} {o : Nat} {k : IntKind} {n : Int} (h : cs[o]? = some (.int k n)) : iAt cs o = n := by unfold iAt; rw [h]
theorem bAt_of {cs : Array Value} {o : Nat} {n : Bool} (h : cs[o]? = some (.bool n)) : bAt cs o = n := by unfold bAt; rw [h]
theorem dec_nat (n : Nat) : dec (n : Int) = bs (Lib.decDigits n) := rfl
def IP (W : World) (M : List HP) (r : Bool) (lb cb : Nat) (T : TypeId) (it : It) (S : Sc) (ws : List ByteArray) : Value -> World -> Prop := fun v w' =>
 v = .tuple #[] /\ ∃ S' ws',Stp r it S ws S' ws' /\ Hs W (lnP lb r ws' :: pt cb (.cells S'.cs T (0,0)) :: M) w'
def IE (W : World) (M : List HP) (r : Bool) (it : It) (S : Sc) (ws : List ByteArray) : List PanicEntry -> World -> Prop := fun ch w' => ∃ c,ch = PE c /\ Nop r it S ws c /\ Hs W M w'
def small (ws : List ByteArray) : Prop := ∀ x ∈ ws,x.size <= 281474976710656
section
variable {W w : World} {M : List HP} {lb cb o m : Nat} {r : Bool} {T : TypeId} {S : Sc} {ws : List ByteArray}
theorem Stp.num {k : IntKind} {n0 : Int} {S5 : Sc} {ws' : List ByteArray} (h : Stp r (.num 0 .u64 m) ⟨#[.int .u64 n0],[]⟩ ws S5 ws') (ht : tyI S (.num o k m)) (h0 : r = false -> n0 = iAt S.cs o) :
  ∃ n : Int,S5.cs = #[.int .u64 n] /\ 0 <= n /\ n <= (m : Int) /\ Stp r (.num o k m) S ws ⟨S.cs.setIfInBounds o (.int k n),S.dat⟩ ws' := by
 obtain ⟨⟨n,rfl⟩,⟨h1,h2⟩,_,h3,h4⟩ := h
 refine ⟨n,rfl,h1,h2,⟨n,rfl⟩,?_,?_,?_,?_⟩
 ·show 0 <= iAt _ o /\ iAt _ o <= _
  rw [iAt_of (set_at ht)]
  exact ⟨h1,h2⟩
 ·show _ = some _
  rw [set_at ht,iAt_of (set_at ht)]
 ·intro hr
  rw [h3 hr]
  show _ = dec (iAt _ o) :: _
  rw [iAt_of (set_at ht)]
  rfl
 ·intro hr
  obtain ⟨e1,e2⟩ := h4 hr
  have e3 : n = n0 := by
   have := congrArg (fun s : Sc => iAt s.cs 0) e1
   exact this
  subst e3
  have e4 := h0 hr
  refine ⟨?_,?_⟩
  ·rw [e4,set_same ht]
  ·rw [e2]
   show _ ++ [dec n] = _ ++ [dec (iAt S.cs o)]
   rw [e4]
theorem Nop.num {k : IntKind} {n0 : Int} {c : Int} (h : Nop r (.num 0 .u64 m) ⟨#[.int .u64 n0],[]⟩ ws c) (h0 : r = false -> n0 = iAt S.cs o) : Nop r (.num o k m) S ws c := by
 refine ⟨fun hr => ?_,fun hr => ?_⟩
 ·obtain ⟨e,h1⟩ := h.1 hr
  refine ⟨e,fun s' ws' hok => ?_⟩
  exact h1 ⟨#[.int .u64 (iAt s'.cs o)],[]⟩ ws' hok
 ·obtain ⟨e,h1⟩ := h.2 hr
  refine ⟨e,fun hok => h1 ?_⟩
  show 0 <= n0 /\ n0 <= _
  rw [h0 hr]
  exact hok
theorem put1 [Esc] {s : ByteArray} {K : Ending -> World -> Prop} (h : Hs W (lnP lb r ws :: M) w) (hl : ws.length <= 1000) (hk : ∀ w',Hs W (lnP lb r (ws ++ [s]) :: M) w' -> K (.returned (.tuple #[])) w') :
  alc (.cells #[.string s] 9) w fun b w1 => Calls Tryz.prog 82 #[.pointer (some ⟨lb,0,none⟩),.slice (some (Addr.mk b 0 none)) 1 1] w1 (en K) := by
 refine h.alc fun b w2 h2 => ?_
 have h3 : Hs W (lnP lb r ws :: pt b (.cells #[.string s] 9 (0,0)) :: M) w2 := h2.perm (List.Perm.swap _ _ _)
 refine cl (c82 (us := [s]) h3 (fun j u hj => ?_) (by simp; omega)) ?_
 ·refine ⟨_,rfl,?_⟩
  have := h3.at 1 rfl
  rw [add_mk,cell_at this]
  cases j with
  | zero => simpa [wsV] using hj
  | succ j => simp [wsV] at hj
 ·rintro _ w4 ⟨rfl,h4⟩
  exact hk w4 (h4.erase 1)
theorem c50 {s : ByteArray} (h : Hs W (lnP lb r ws :: M) w) (hl : r = false -> ws.length <= 1000) : Calls Tryz.prog 50 #[.pointer (some ⟨lb,0,none⟩),.string s] w
  (rtp (fun v w' => v = .tuple #[] /\ ∃ ws',Stp r (.lit s) S ws S ws' /\ Hs W (lnP lb r ws' :: M) w') (IE W M r (.lit s) S ws)) := by
 cases r with
 | false =>
  refine (c50w h (hl rfl)).mono fun e w' q => ?_
  rcases q with ⟨v,he,rfl,h2⟩ | ⟨ch,he,x⟩
  ·exact .inl ⟨_,he,rfl,_,⟨rfl,trivial,trivial,fun x => (nomatch x),fun _ => ⟨rfl,rfl⟩⟩,h2⟩
  ·exact x.elim
 | true =>
  refine (c50r h).mono fun e w' q => ?_
  rcases q with ⟨v,he,rest,rfl,rfl,h2⟩ | ⟨ch,he,hn,rfl,h2⟩
  ·exact .inl ⟨_,he,rfl,_,⟨rfl,trivial,trivial,fun _ => rfl,fun x => (nomatch x)⟩,h2⟩
  ·exact .inr ⟨_,he,250,rfl,⟨fun _ => ⟨rfl,fun s' ws' _ => hn ws'⟩,fun x => (nomatch x)⟩,h2⟩
theorem bin_nil : ∀ w : World,Sem.run Tryz.prog (binF Tryz.prog .eql 145 (.tmp 28) (.const .nilIface) .nilIface .nilIface) w = .ok (.bool true) w := by intro w; kernel_rfl
theorem bin_ifc : ∀ (w : World) (q : TypeId) (v : Value),Sem.run Tryz.prog (binF Tryz.prog .eql 145 (.tmp 28) (.const .nilIface) (.iface q v) .nilIface) w = .ok (.bool false) w := by intro w q v; kernel_rfl
theorem c57 (hT : TB W) (h : Hs W (lnP lb r ws :: pt cb (.cells S.cs T (0,0)) :: M) w) (ht : tyI S (.num o .u64 m)) (hw : r = false -> okI S (.num o .u64 m)) (hl : r = false -> ws.length <= 1000) (hm : m < 18446744073709551616) (hsz : r = true -> small ws) :
  Calls Tryz.prog 57 #[.pointer (some ⟨lb,0,none⟩),.pointer (some ⟨cb,o,none⟩),.int .u64 (m : Int)] w (rtp (IP W M r lb cb T (.num o .u64 m) S ws) (IE W M r (.num o .u64 m) S ws)) := by
 refine escI fun hE => F57_ok ?_
 obtain ⟨a,c,h1⟩ := ln_open h
 unfold F57
 simp only [rdP_mk,rdI_mk,nn]
 refine h1.ldB 0 rfl rfl ?_
 cases r with
 | false =>
  rw [Bool.not_false,br_true]
  refine h.ldI 1 rfl ht ?_
  obtain ⟨g0,g1⟩ := hw rfl
  obtain ⟨n,hn⟩ : ∃ n : Nat,iAt S.cs o = n := ⟨(iAt S.cs o).toNat,by omega⟩
  rw [hn]
  refine cl (c40 (Hs.tb h hT) (by omega)) ?_
  rintro _ w2 ⟨rfl,hs⟩
  refine ⟨_,rfl,put1 (h.same hs) (hl rfl) fun w3 h3 => ⟨rfl,?_⟩⟩
  exact ⟨by first | rfl | trivial,S,_,⟨⟨iAt S.cs o,by rw [set_same ht]⟩,hw rfl,ht,fun x => (nomatch x),fun _ => ⟨rfl,by show _ = _ ++ [dec (iAt S.cs o)]; rw [hn,dec_nat]⟩⟩,h3⟩
 | true =>
  rw [Bool.not_true,br_false]
  refine clp (c81 h) ?_ ?_
  ·rintro _ w2 ⟨s,rest,rfl,rfl,h2⟩
   refine ⟨s,rfl,?_⟩
   have hno : (∀ n : Nat,n <= m -> s ≠ bs (Lib.decDigits n)) -> Nop true (.num o .u64 m) S (s :: rest) 250 := fun hx =>
    ⟨fun _ => ⟨rfl,fun s' ws' hok he => by
     injection he with h1 _
     obtain ⟨g0,g1⟩ := hok
     exact hx (iAt s'.cs o).toNat (by omega) h1⟩,fun x => (nomatch x)⟩
   refine cl (c89 (Hs.tb h2 hT) (hsz rfl s (by simp))) ?_
   rintro v w3 ⟨hs,hv⟩
   have h3 := h2.same hs
   rcases hv with ⟨u,hp,rfl⟩ | ⟨hp,n,q,x,rfl⟩
   ·refine ⟨_,.inl ⟨rfl,true,w3,bin_nil w3,?_⟩⟩
    rw [br_true,br_dec]
    refine ⟨fun hle => ?_,fun hgt => ?_⟩
    ·refine cl (c40 (Hs.tb h3 hT) (by omega)) ?_
     rintro _ w4 ⟨rfl,hs4⟩
     have h4 := h3.same hs4
     refine ⟨_,rfl,?_⟩
     rw [str_beq]
     refine clp c28 ?_ ?_
     ·rintro _ _ ⟨hb,rfl,rfl⟩
      rw [decide_eq_true_eq] at hb
      refine ⟨rfl,h4.stc 1 rfl (lt_of_at ht) fun w5 h5 => ⟨by first | rfl | trivial,⟨S.cs.setIfInBounds o (.int .u64 u),S.dat⟩,rest,⟨⟨_,rfl⟩,?_,?_,?_,fun x => (nomatch x)⟩,h5⟩⟩
      ·show 0 <= iAt _ o /\ iAt _ o <= _
       rw [iAt_of (set_at ht)]
       omega
      ·show _ = some _
       rw [set_at ht,iAt_of (set_at ht)]
      ·intro _
       show _ = dec (iAt _ o) :: _
       rw [iAt_of (set_at ht),dec_nat,hb]
     ·rintro ch _ ⟨hb,rfl,rfl⟩
      rw [decide_eq_false_iff_not] at hb
      refine hE _ _ ⟨250,rfl,hno fun n hn he => hb ?_,h4.drop.drop⟩
      subst he
      rw [bl_bs,parse_dec (by omega)] at hp
      injection hp with e
      rw [e]
    ·refine clp c28 ?_ ?_
     ·rintro _ _ ⟨hb,_⟩
      cases hb
     ·rintro ch _ ⟨_,rfl,rfl⟩
      refine hE _ _ ⟨250,rfl,hno fun n hn he => hgt ?_,h3.drop.drop⟩
      subst he
      rw [bl_bs,parse_dec (by omega)] at hp
      injection hp with e
      omega
   ·refine ⟨_,.inr ⟨_,_,rfl,false,w3,bin_ifc w3 _ _,?_⟩⟩
    rw [br_false]
    refine clp c28 ?_ ?_
    ·rintro _ _ ⟨hb,_⟩
     cases hb
    ·rintro ch _ ⟨_,rfl,rfl⟩
     refine hE _ _ ⟨250,rfl,hno fun n hn he => ?_,h3.drop.drop⟩
     subst he
     rw [bl_bs] at hp
     exact hp n (parse_dec (by omega))
  ·rintro ch w2 ⟨rfl,rfl,h2⟩
   exact hE _ _ ⟨250,rfl,⟨fun _ => ⟨rfl,fun s' ws' _ he => by cases he⟩,fun x => (nomatch x)⟩,h2.drop⟩
end
end Go.Proofs.YtilenpnpnbdndaaGreatDoor
