/- Own text: part of the shallow reading of the code and of the contracts that are proved over it. -/
import Derived.Test.YtilenpnpnbdndaaGreatDoorSqX
namespace Go.Proofs.YtilenpnpnbdndaaGreatDoor
open Go Go.Sh
set_option maxRecDepth 100000
theorem dec_blank (u : Nat) : ∀ b ∈ Lib.decDigits u,b ≠ 32 := by
 induction u using Nat.strongRecOn with
 | _ u ih =>
  intro b hb
  by_cases h : u < 10
  ·rw [Lib.decDigits,dif_pos h] at hb
   rw [List.mem_singleton.1 hb]
   intro e
   have := congrArg UInt8.toNat e
   rw [dec_one h] at this
   have : 48 + u = 32 := this
   omega
  ·rw [Lib.decDigits,dif_neg h] at hb
   rcases List.mem_append.1 hb with hb | hb
   ·exact ih (u / 10) (by omega) b hb
   ·rw [List.mem_singleton.1 hb]
    intro e
    have := congrArg UInt8.toNat e
    rw [dec_one (Nat.mod_lt _ (by omega))] at this
    have : 48 + u % 10 = 32 := this
    omega
theorem hexs_blank : ∀ (l : List UInt8),32 ∉ hexs l
 | [] => by simp [hexs_nil]
 | b :: l => by
  have hb := b.toNat_lt
  have h1 := (hxd_ne ⟨b.toNat / 16,by omega⟩).2
  have h2 := (hxd_ne ⟨b.toNat % 16,by omega⟩).2
  simp only at h1 h2
  rw [hexs_cons]
  simp [hexs_blank l,Ne.symm h1,Ne.symm h2]
theorem hexW_blank (l : List UInt8) : 32 ∉ hexW l := by
 unfold hexW
 split
 ·simp
 ·exact hexs_blank l
def clearIt : It -> Bool
 | .lit x => !(bl x).contains 32
 | .flag _ a b => !(bl a).contains 32 && !(bl b).contains 32 && !(bl a == bl b)
 | _ => true
theorem wd_blank {s : Sc} {it : It} (h : clearIt it = true) : 32 ∉ bl (wd s it) := by
 cases it with
 | lit x => show 32 ∉ bl x; simpa [clearIt] using h
 | num o k m =>
  show 32 ∉ bl (bs _)
  rw [bl_bs]
  exact fun hm => dec_blank _ _ hm rfl
 | flag o a b =>
  simp only [clearIt,Bool.and_eq_true] at h
  show 32 ∉ bl (if bAt s.cs o then b else a)
  split
  ·have := h.1.2; simpa using this
  ·have := h.1.1; simpa using this
 | key => show 32 ∉ bl (bs _); rw [bl_bs]; exact hexW_blank _
 | dat o => show 32 ∉ bl (bs _); rw [bl_bs]; exact hexW_blank _
 | why o => show 32 ∉ bl (bs _); rw [bl_bs]; exact hexW_blank _
theorem words_line {its : List It} {s : Sc} (h0 : its ≠ []) (h : its.all clearIt = true) : words (lineOf its s) = its.map (wd s) := by
 refine words_joined (by simpa using h0) fun x hx => ?_
 obtain ⟨it,hi,rfl⟩ := List.mem_map.1 hx
 exact wd_blank (List.all_eq_true.1 h it hi)
theorem conf_clear : confItems.all clearIt = true := by decide +kernel
theorem vtab_clear : ∀ t ∈ vtab,(itemsOf t).all clearIt = true := by
 have : vtab.all (fun t => (itemsOf t).all clearIt) = true := by decide +kernel
 exact fun t ht => List.all_eq_true.1 this t ht
theorem wd_inj {s1 s2 : Sc} {it : It} (hs : smallIt it = true) (hc : clearIt it = true) (hk : notKey it = true) (o1 : okI s1 it) (o2 : okI s2 it) (t1 : tyI s1 it) (t2 : tyI s2 it) (hd : ∀ o,it = .dat o -> o = 10) (h : wd s1 it = wd s2 it) :
  (∀ o,o ∈ foot it -> o ≠ 10 -> o ≠ 1000000 -> s1.cs[o]? = s2.cs[o]?) /\ (1000000 ∈ foot it -> (∃ o,it = .dat o) -> s1.dat = s2.dat) := by
 cases it with
 | lit x => exact ⟨fun o ho => by simp [foot] at ho,fun ho => by simp [foot] at ho⟩
 | num o k m =>
  refine ⟨fun o' ho _ _ => ?_,fun _ ⟨_,e⟩ => by cases e⟩
  have : o' = o := by simpa [foot] using ho
  subst this
  have hm := of_decide_eq_true hs
  obtain ⟨a1,a2⟩ := o1
  obtain ⟨b1,b2⟩ := o2
  have h2 := decDigits_inj (by omega) (by omega) (bs_inj h)
  have h3 : iAt s1.cs o' = iAt s2.cs o' := by omega
  have t1 : s1.cs[o']? = some (.int k (iAt s1.cs o')) := t1
  have t2 : s2.cs[o']? = some (.int k (iAt s2.cs o')) := t2
  rw [t1,t2,h3]
 | flag o a b =>
  refine ⟨fun o' ho _ _ => ?_,fun _ ⟨_,e⟩ => by cases e⟩
  have : o' = o := by simpa [foot] using ho
  subst this
  have t1 : s1.cs[o']? = some (.bool (bAt s1.cs o')) := t1
  have t2 : s2.cs[o']? = some (.bool (bAt s2.cs o')) := t2
  have h : (if bAt s1.cs o' then b else a) = (if bAt s2.cs o' then b else a) := h
  have hne : a ≠ b := fun e => by
   simp only [clearIt,Bool.and_eq_true] at hc
   have := hc.2
   rw [e] at this
   simp at this
  rw [t1,t2]
  cases hb1 : bAt s1.cs o' <;> cases hb2 : bAt s2.cs o' <;> rw [hb1,hb2] at h
  ·exact absurd h hne
  ·exact absurd h.symm hne
 | key => cases hk
 | dat o =>
  refine ⟨fun o' ho h1 h2 => ?_,fun _ _ => hexW_inj (bs_inj h)⟩
  have := hd o rfl
  subst this
  simp only [foot,List.mem_cons,List.not_mem_nil,or_false] at ho
  exact absurd ho (by omega)
 | why o =>
  refine ⟨fun o' ho _ _ => ?_,fun _ ⟨_,e⟩ => by cases e⟩
  have : o' = o := by simpa [foot] using ho
  subst this
  have t1 : s1.cs[o']? = some (.string (sAt s1.cs o')) := t1
  have t2 : s2.cs[o']? = some (.string (sAt s2.cs o')) := t2
  have h2 := hexW_inj (bs_inj h)
  have h3 : sAt s1.cs o' = sAt s2.cs o' := by rw [← bs_bl (sAt s1.cs o'),h2,bs_bl]
  rw [t1,t2,h3]
def isDat : It -> Bool
 | .dat _ => true
 | _ => false
theorem vtab_dat : ∀ t ∈ vtab,∀ it ∈ itemsOf t,(1000000 ∈ foot it -> isDat it = true) /\ (∀ o,it = .dat o -> o = 10) := by
 have : vtab.all (fun t => (itemsOf t).all fun it => (!(foot it).contains 1000000 || isDat it) && (match it with | .dat o => o == 10 | _ => true)) = true := by decide +kernel
 intro t ht it hi
 have h := List.all_eq_true.1 (List.all_eq_true.1 this t ht) it hi
 simp only [Bool.and_eq_true] at h
 refine ⟨fun hm => ?_,fun o e => ?_⟩
 ·have h1 := h.1
  simp [hm] at h1
  exact h1
 ·subst e
  have h2 := h.2
  simpa using h2
theorem part_ty {k : Nat} (hk : k ∈ partIds) (R : R26) (d : List UInt8) : tyI ⟨R.c,d⟩ (partIt k) := by
 simp only [partIds,List.mem_cons,List.not_mem_nil,or_false] at hk
 rcases hk with rfl | rfl | rfl | rfl | rfl | rfl | rfl | rfl | rfl | rfl | rfl
 all_goals first | rfl | (show 10 < 12; omega)
theorem items_ty {t : Vb} (ht : t ∈ vtab) (R : R26) (d : List UInt8) : ∀ it ∈ itemsOf t,tyI ⟨R.c,d⟩ it := fun it hi => by
 rcases List.mem_cons.1 hi with rfl | hi
 ·trivial
 ·obtain ⟨k,hk,rfl⟩ := List.mem_map.1 hi
  exact part_ty ((vtab_ok t ht).1 k hk) R d
structure Deq (R1 : R26) (d1 : List UInt8) (R2 : R26) (d2 : List UInt8) : Prop where
 cells : ∀ o,o ≠ 10 -> R1.c[o]? = R2.c[o]?
 dat : d1 = d2
theorem deed_name {t : Vb} {s : ByteArray} {R : R26} {d : List UInt8} (h : IsDeedT t s R d) : (words s).head? = some t.2.1 := by rw [h.words]; rfl
theorem deed_same {t t' : Vb} {s : ByteArray} {R R' : R26} {d d' : List UInt8} (h : IsDeedT t s R d) (h' : IsDeedT t' s R' d') : t' = t := by
 refine vtab_names _ h'.mem _ h.mem ?_
 have := deed_name h
 rw [deed_name h'] at this
 exact Option.some.inj this
theorem IsDeed.det {s : ByteArray} {R1 R2 : R26} {d1 d2 : List UInt8} (h1 : IsDeed s R1 d1) (h2 : IsDeed s R2 d2) : Deq R1 d1 R2 d2 := by
 obtain ⟨t,h1⟩ := h1
 obtain ⟨t',h2⟩ := h2
 have e := deed_same h1 h2
 subst e
 obtain ⟨_,hnk,hsm,_⟩ := vtab_items t' h1.mem
 have hcl := vtab_clear t' h1.mem
 have hw : ∀ it ∈ itemsOf t',wd ⟨R1.c,d1⟩ it = wd ⟨R2.c,d2⟩ it := List.map_inj_left.1 (h1.words.symm.trans h2.words)
 have hinj := fun it (hi : it ∈ itemsOf t') => wd_inj (s1 := ⟨R1.c,d1⟩) (s2 := ⟨R2.c,d2⟩) (List.all_eq_true.1 hsm it hi) (List.all_eq_true.1 hcl it hi) (List.all_eq_true.1 hnk it hi) (h1.ok it hi) (h2.ok it hi) (items_ty h1.mem R1 d1 it hi) (items_ty h1.mem R2 d2 it hi) (vtab_dat t' h1.mem it hi).2 (hw it hi)
 refine ⟨fun o ho => ?_,?_⟩
 ·by_cases hm : o = 1000000
  ·subst hm
   rw [Array.getElem?_eq_none (by show 12 <= 1000000; omega),Array.getElem?_eq_none (by show 12 <= 1000000; omega)]
  ·rcases Classical.em (hasFoot t' o) with ⟨it,hi,hf⟩ | hf
   ·exact (hinj it hi).1 o hf ho hm
   ·by_cases h0 : o = 0
    ·subst h0
     show some (Value.int .i64 R1.f0) = some (Value.int .i64 R2.f0)
     rw [h1.kind,h2.kind]
    ·rw [h1.away o h0 ho hf,h2.away o h0 ho hf]
 ·rcases Classical.em (hasFoot t' 1000000) with ⟨it,hi,hf⟩ | hf
  ·refine (hinj it hi).2 hf ?_
   have := (vtab_dat t' h1.mem it hi).1 hf
   cases it with
   | dat o => exact ⟨o,rfl⟩
   | _ => cases this
  ·rw [h1.data hf,h2.data hf]
def sameB (R1 : R26) (d1 : List UInt8) (R2 : R26) (d2 : List UInt8) : Bool :=
 decide (d1 = d2) && ((R1.f0 == R2.f0) && ((R1.f1 == R2.f1) && ((R1.f2 == R2.f2) && ((R1.f3 == R2.f3) && ((R1.f4 == R2.f4) && ((R1.f5 == R2.f5) && ((R1.f6 == R2.f6) && ((R1.f7 == R2.f7) && ((R1.f8 == R2.f8) && ((R1.f9 == R2.f9) && decide (R1.f11 = R2.f11)))))))))))
theorem sameB_iff {R1 R2 : R26} {d1 d2 : List UInt8} : sameB R1 d1 R2 d2 = true ↔ Deq R1 d1 R2 d2 := by
 constructor
 ·intro h
  simp only [sameB,Bool.and_eq_true,decide_eq_true_eq,beq_iff_eq] at h
  obtain ⟨hd,e0,e1,e2,e3,e4,e5,e6,e7,e8,e9,e11⟩ := h
  refine ⟨fun o ho => ?_,hd⟩
  match o,ho with
  | 0,_ => show some (Value.int .i64 R1.f0) = some (Value.int .i64 R2.f0); rw [e0]
  | 1,_ => show some (Value.int .i64 R1.f1) = some (Value.int .i64 R2.f1); rw [e1]
  | 2,_ => show some (Value.int .i64 R1.f2) = some (Value.int .i64 R2.f2); rw [e2]
  | 3,_ => show some (Value.int .i64 R1.f3) = some (Value.int .i64 R2.f3); rw [e3]
  | 4,_ => show some (Value.int .i64 R1.f4) = some (Value.int .i64 R2.f4); rw [e4]
  | 5,_ => show some (Value.int .u8 R1.f5) = some (Value.int .u8 R2.f5); rw [e5]
  | 6,_ => show some (Value.int .i64 R1.f6) = some (Value.int .i64 R2.f6); rw [e6]
  | 7,_ => show some (Value.int .u16 R1.f7) = some (Value.int .u16 R2.f7); rw [e7]
  | 8,_ => show some (Value.int .u32 R1.f8) = some (Value.int .u32 R2.f8); rw [e8]
  | 9,_ => show some (Value.bool R1.f9) = some (Value.bool R2.f9); rw [e9]
  | 10,ho => exact absurd rfl ho
  | 11,_ => show some (Value.string R1.f11) = some (Value.string R2.f11); rw [e11]
  | o + 12,_ => rw [Array.getElem?_eq_none (by show 12 <= o + 12; omega),Array.getElem?_eq_none (by show 12 <= o + 12; omega)]
 ·rintro ⟨h,hd⟩
  have i1 : ∀ {k : IntKind} {a b : Int},some (Value.int k a) = some (Value.int k b) -> a = b := fun e => by cases e; rfl
  have e0 := i1 (k := .i64) (h 0 (by decide))
  have e1 := i1 (k := .i64) (h 1 (by decide))
  have e2 := i1 (k := .i64) (h 2 (by decide))
  have e3 := i1 (k := .i64) (h 3 (by decide))
  have e4 := i1 (k := .i64) (h 4 (by decide))
  have e5 := i1 (k := .u8) (h 5 (by decide))
  have e6 := i1 (k := .i64) (h 6 (by decide))
  have e7 := i1 (k := .u16) (h 7 (by decide))
  have e8 := i1 (k := .u32) (h 8 (by decide))
  have e9 : R1.f9 = R2.f9 := by
   have : some (Value.bool R1.f9) = some (Value.bool R2.f9) := h 9 (by decide)
   injection this with this
   injection this
  have e11 : R1.f11 = R2.f11 := by
   have : some (Value.string R1.f11) = some (Value.string R2.f11) := h 11 (by decide)
   injection this with this
   injection this
  simp only [sameB,Bool.and_eq_true,decide_eq_true_eq,beq_iff_eq]
  exact ⟨hd,e0,e1,e2,e3,e4,e5,e6,e7,e8,e9,e11⟩
structure LineOk (t : Vb) (R : R26) (dat : List UInt8) : Prop where
 mem : t ∈ vtab
 ok : okAll (itemsOf t) ⟨R.c,dat⟩
 kind : R.f0 = t.1
 away : ∀ o,o ≠ 0 -> o ≠ 10 -> ¬ hasFoot t o -> R.c[o]? = R26.zz.c[o]?
 data : ¬ hasFoot t 1000000 -> dat = []
theorem LineOk.words_eq {t : Vb} (ht : t ∈ vtab) (s : Sc) : words (lineOf (itemsOf t) s) = (itemsOf t).map (wd s) := words_line (by simp [itemsOf]) (vtab_clear t ht)
theorem LineOk.deed {t : Vb} {R : R26} {dat : List UInt8} (h : LineOk t R dat) : IsDeedT t (lineOf (itemsOf t) ⟨R.c,dat⟩) R dat := ⟨h.mem,h.ok,LineOk.words_eq h.mem _,h.kind,h.away,h.data⟩
theorem LineOk.of {t : Vb} {R R2 : R26} {dat d2 : List UInt8} (ht : t ∈ vtab) (hk : R.f0 = t.1) (ho : okAll (itemsOf t) ⟨R.c,dat⟩) (h : IsDeed (lineOf (itemsOf t) ⟨R.c,dat⟩) R2 d2) (e : Deq R2 d2 R dat) : LineOk t R dat := by
 obtain ⟨t2,h⟩ := h
 have e1 : t2 = t := by
  refine vtab_names _ h.mem _ ht ?_
  have h1 := deed_name h
  rw [LineOk.words_eq ht] at h1
  have h1 : some t.2.1 = some t2.2.1 := h1
  exact (Option.some.inj h1).symm
 subst e1
 exact ⟨ht,ho,hk,fun o h0 h10 hf => by rw [← e.cells o h10]; exact h.away o h0 h10 hf,fun hf => by rw [← e.dat]; exact h.data hf⟩
theorem LineOk.one {t t' : Vb} {R : R26} {d d' : List UInt8} (h : LineOk t R d) (h' : LineOk t' R d') : t' = t := vtab_kinds _ h'.mem _ h.mem (by rw [← h'.kind,h.kind])
end Go.Proofs.YtilenpnpnbdndaaGreatDoor
namespace Go.Proofs.YtilenpnpnbdndaaGreatDoor
open Go Go.Sh
set_option maxRecDepth 100000
section
variable {W w : World} {M : List HP} {lb cb kb rb ab : Nat} {x : Int}
section
attribute [local instance] Esc.none
theorem u8v_at {l : List UInt8} {j : Nat} {x : UInt8} (h : l[j]? = some x) : (u8v l)[j]? = some (.int .u8 (x.toNat : Int)) := by simp [u8v,h]
theorem F52_loop {a b : Option Addr} {c1 c2 : Nat} {l m : List UInt8} {K0 : World -> Prop} {Kr : Value -> World -> Prop} {w0 : World} (h1 : Rd w0 a (u8v l)) (h2 : Rd w0 b (u8v m)) (hm : m.length = l.length) (hl : l.length < 4611686018427387904)
  (hK : ∀ w',l = m -> Same w0 w' -> K0 w') (hR : ∀ w',l ≠ m -> Same w0 w' -> Kr (.bool false) w') :
  ∀ (l2 l1 m2 : List UInt8) (k : Nat) (w : World),l = l1 ++ l2 -> m = l1 ++ m2 -> l2.length < k -> Same w0 w ->
   F52_1 K0 Kr k (.slice a l.length c1) (.slice b l.length c2) (.int .i64 (l.length : Int)) (.int .i64 (l1.length : Int)) w := by
 intro l2
 induction l2 with
 | nil =>
  intro l1 m2 k w e1 e2 hk hs
  obtain ⟨k,rfl⟩ : ∃ i,k = i + 1 := ⟨k - 1,by omega⟩
  rw [List.append_nil] at e1
  have : m2 = [] := List.length_eq_zero_iff.1 (by have := congrArg List.length e2; rw [List.length_append,hm,e1] at this; omega)
  subst this
  rw [List.append_nil] at e2
  show F52_1B _ _ _ _ _ _ _ _
  unfold F52_1B
  simp only [rdC_mk,rdI_mk]
  rw [decide_eq_false (by rw [e1]; omega),br_false]
  exact hK w (e1.trans e2.symm) hs
 | cons x l2 ih =>
  intro l1 m2 k w e1 e2 hk hs
  obtain ⟨k,rfl⟩ : ∃ i,k = i + 1 := ⟨k - 1,by omega⟩
  have hll : l.length = l1.length + (l2.length + 1) := by rw [e1]; simp
  obtain ⟨y,m2,rfl⟩ : ∃ y t,m2 = y :: t := by
   cases m2 with
   | nil => have := congrArg List.length e2; simp at this; omega
   | cons y t => exact ⟨y,t,rfl⟩
  show F52_1B _ _ _ _ _ _ _ _
  unfold F52_1B
  simp only [rdC_mk,rdI_mk]
  rw [decide_eq_true (by omega),br_true]
  have hs2 : Same w0 w.drew := hs.trans (Fr.refl w).drew fun _ _ x => x
  obtain ⟨ad,rfl⟩ := h1.some (by rw [u8v_len]; omega)
  obtain ⟨bd,rfl⟩ := h2.some (by rw [u8v_len]; omega)
  unfold Go.Sh.drw
  refine ixS_to (p := l1.length) (l := l.length) rfl (by omega) ?_
  rw [Nat.mul_one]
  have hx : l[l1.length]? = some x := by rw [e1]; simp
  have hy : m[l1.length]? = some y := by rw [e2]; simp
  refine ldI_c ((h1.fr hs2 fun _ _ x => x).at (u8v_at hx)) ?_
  refine ixS_to (p := l1.length) rfl (by omega) ?_
  rw [Nat.mul_one]
  refine ldI_c ((h2.fr hs2 fun _ _ x => x).at (u8v_at hy)) ?_
  by_cases e : x = y
  ·subst e
   have : ((x.toNat : Int) != (x.toNat : Int)) = false := by simp
   rw [this,br_false]
   have e3 : IntKind.wrap .i64 ((l1.length : Int) + 1) = (((l1 ++ [x]).length : Nat) : Int) := by rw [wrap_i64 (by omega) (by omega)]; simp
   rw [e3]
   exact ih (l1 ++ [x]) m2 k _ (by rw [e1]; simp) (by rw [e2]; simp) (by simp at hk; omega) hs2
  ·have : ((x.toNat : Int) != (y.toNat : Int)) = true := by
    rw [bne_iff_ne]
    intro e'
    exact e (UInt8.toNat.inj (by omega))
   rw [this,br_true]
   refine hR _ (fun he => e ?_) hs2
   rw [he,hy] at hx
   exact (Option.some.inj hx).symm
theorem c52 {a b : Option Addr} {c1 c2 : Nat} {l m : List UInt8} (h1 : Rd w a (u8v l)) (h2 : Rd w b (u8v m)) (hl : l.length < 4611686018427387904) :
  Calls Tryz.prog 52 #[.slice a l.length c1,.slice b m.length c2] w (rt fun v w' => v = .bool (decide (l = m)) /\ Same w w') := by
 refine F52_ok ?_
 unfold F52
 simp only [rdC_mk]
 by_cases e : l.length = m.length
 ·have e1 : ((l.length : Int) != (m.length : Int)) = false := by simp; omega
  rw [e1,br_false,← e]
  refine ⟨l.length + 1,F52_loop h1 h2 e.symm hl (fun w' he hs => ?_) (fun w' he hs => ?_) l [] m (l.length + 1) w rfl rfl (by omega) (Fr.refl w)⟩
  ·intro _
   exact ⟨by rw [decide_eq_true he],hs⟩
  ·intro _
   simp only [rdB_mk]
   exact ⟨by rw [decide_eq_false he],hs⟩
 ·have e1 : ((l.length : Int) != (m.length : Int)) = true := by rw [bne_iff_ne]; omega
  rw [e1,br_true]
  exact ⟨by rw [decide_eq_false fun he => e (by rw [he])],Fr.refl w⟩
structure Holds26 (w : World) (R : R26) (d : List UInt8) : Prop where
 len : R.f10n = d.length
 rd : Rd w R.f10a (u8v d)
theorem Holds26.same {w' : World} {R : R26} {d : List UInt8} (h : Holds26 w R d) (hs : Same w w') : Holds26 w' R d := ⟨h.len,h.rd.fr hs fun _ _ x => x⟩
theorem alcS (h : Hs W M w) {o : Obj} {K : Nat -> World -> Prop} (hk : ∀ b w',Hs W (pt b o :: M) w' -> Same w w' -> K b w') : Sh.alc o w K := hk _ _ (h.alloc o) ((Fr.refl w).alloc o)
theorem br_and {b : Bool} {A B : Prop} (ha : b = true -> A) (hb : b = false -> B) : br b A B := by cases b with | true => rw [br_true]; exact ha rfl | false => rw [br_false]; exact hb rfl
theorem c29 {R1 R2 : R26} {d1 d2 : List UInt8} (h : Hs W M w) (h1 : Holds26 w R1 d1) (h2 : Holds26 w R2 d2) (hl : d1.length < 4611686018427387904) : Calls Tryz.prog 29 #[R1.v,R2.v] w (rt fun v w' => v = .bool (sameB R1 d1 R2 d2) /\ Hs W M w') := by
 refine F29_ok ?_
 unfold F29
 refine exR26_of R1 ⟨rfl,exR26_of R2 ⟨rfl,?_⟩⟩
 refine alcS h fun b3 w3 h3 hs3 => alcS h3 fun b5 w5 h5 hs5 => ?_
 have hs : Same w w5 := hs3.trans hs5 fun _ _ x => x
 refine h5.ldC 1 rfl rfl (h5.ldC 0 rfl rfl ?_)
 have hc := c52 (c1 := R1.f10c) (c2 := R2.f10c) (h1.same hs).rd (h2.same hs).rd hl
 rw [← h1.len,← h2.len] at hc
 refine cl hc ?_
 rintro _ w9 ⟨rfl,hs9⟩
 have h9 := h5.same hs9
 have hM := h9.drop.drop
 refine ⟨_,rfl,br_and (fun ed => ?_) (fun ed => ⟨by unfold sameB; rw [ed]; simp only [Bool.false_and],hM⟩)⟩
 refine h9.ldI 1 rfl rfl (h9.ldI 0 rfl rfl (br_and (fun e0 => ?_) (fun e0 => ⟨by unfold sameB; rw [e0]; simp only [Bool.false_and,Bool.and_false],hM⟩)))
 refine h9.ldI 1 rfl rfl (h9.ldI 0 rfl rfl (br_and (fun e1 => ?_) (fun e1 => ⟨by unfold sameB; rw [e1]; simp only [Bool.false_and,Bool.and_false],hM⟩)))
 refine h9.ldI 1 rfl rfl (h9.ldI 0 rfl rfl (br_and (fun e2 => ?_) (fun e2 => ⟨by unfold sameB; rw [e2]; simp only [Bool.false_and,Bool.and_false],hM⟩)))
 refine h9.ldI 1 rfl rfl (h9.ldI 0 rfl rfl (br_and (fun e3 => ?_) (fun e3 => ⟨by unfold sameB; rw [e3]; simp only [Bool.false_and,Bool.and_false],hM⟩)))
 refine h9.ldI 1 rfl rfl (h9.ldI 0 rfl rfl (br_and (fun e4 => ?_) (fun e4 => ⟨by unfold sameB; rw [e4]; simp only [Bool.false_and,Bool.and_false],hM⟩)))
 refine h9.ldI 1 rfl rfl (h9.ldI 0 rfl rfl (br_and (fun e5 => ?_) (fun e5 => ⟨by unfold sameB; rw [e5]; simp only [Bool.false_and,Bool.and_false],hM⟩)))
 refine h9.ldI 1 rfl rfl (h9.ldI 0 rfl rfl (br_and (fun e6 => ?_) (fun e6 => ⟨by unfold sameB; rw [e6]; simp only [Bool.false_and,Bool.and_false],hM⟩)))
 refine h9.ldI 1 rfl rfl (h9.ldI 0 rfl rfl (br_and (fun e7 => ?_) (fun e7 => ⟨by unfold sameB; rw [e7]; simp only [Bool.false_and,Bool.and_false],hM⟩)))
 refine h9.ldI 1 rfl rfl (h9.ldI 0 rfl rfl (br_and (fun e8 => ?_) (fun e8 => ⟨by unfold sameB; rw [e8]; simp only [Bool.false_and,Bool.and_false],hM⟩)))
 refine h9.ldB 1 rfl rfl (h9.ldB 0 rfl rfl (br_and (fun e9 => ?_) (fun e9 => ⟨by unfold sameB; rw [e9]; simp only [Bool.false_and,Bool.and_false],hM⟩)))
 refine h9.ldS 1 rfl rfl (h9.ldS 0 rfl rfl ?_)
 rw [str_beq]
 exact ⟨by unfold sameB; rw [ed,e0,e1,e2,e3,e4,e5,e6,e7,e8,e9]; simp only [Bool.true_and],hM⟩
end
end
end Go.Proofs.YtilenpnpnbdndaaGreatDoor
namespace Go.Proofs.YtilenpnpnbdndaaGreatDoor
open Go Go.Sh
set_option maxRecDepth 100000
theorem hb8 : Tryz.f8.body = some (.seq (getAt F8_code [0]) (.seq (.region 1 #[{ dst := none, op := .defer { callee := .value (.func 24), args := #[.tmp 3], argTypes := #[75] }, type := 0, pos := "script.go:265", after := #[], guard := none }] false) (getAt F8_code [1, 1]))) := by kernel_rfl
theorem res8 (t : Tm) (w : World) (K : List Value -> Prop) : resL Tryz.prog t w Tryz.f8.results.toList K = (match t 3 with | .pointer (some b) => ldI .i64 b w fun n => K [t 2,.int .i64 n] | _ => False) := by kernel_rfl
theorem nt8 : Tryz.f8.ntmps = 33 := by kernel_rfl
section
variable {W w : World} {M : List HP} {kb ab : Nat} {x : Int}
section
attribute [local instance] Esc.none
theorem F8_1_go {s : ByteArray} {Kr : Value -> Value -> World -> Prop} {A : HP} (h : Hs W (pt kb (.cells #[.int .i64 x] 28 (0,0)) :: A :: M) w)
  (hK : ∀ w',Hs W (pt kb (.cells #[.int .i64 0] 28 (0,0)) :: A :: M) w' -> Kr (.string s) (.pointer (some ⟨kb,0,none⟩)) w') : F8_1 Kr (.pointer (some ⟨kb,0,none⟩)) (.string s) w := by
 unfold F8_1
 simp only [rdA_mk,rdS_mk]
 exact h.stc 0 rfl (by simp) fun w3 h3 => hK w3 h3
end
theorem GoodD.kind {R : R26} {dat : List UInt8} (h : GoodD ⟨R.c,dat⟩) (k : Int) : GoodD (setKind ⟨R.c,dat⟩ k) := h
theorem F8_2_go [Esc] {R : R26} {dat : List UInt8} {Kr : Value -> Value -> World -> Prop} (hT : TB W) (hG : GoodD ⟨R.c,dat⟩) (hd : Holds26 W R dat) (_ : dat.length < 4611686018427387904) (h : Hs W (pt kb (.cells #[.int .i64 0] 28 (0,0)) :: pt ab (.cells R.c 27 (0,0)) :: M) w)
  (hE : ∀ ch w',ch = PE 1 -> (∀ t,¬ LineOk t R dat) -> Hs W (pt kb (.cells #[.int .i64 0] 28 (0,0)) :: pt ab (.cells R.c 27 (0,0)) :: M) w' -> Esc.E ch w')
  (hK : ∀ w' t,LineOk t R dat -> Hs W (pt kb (.cells #[.int .i64 0] 28 (0,0)) :: pt ab (.cells R.c 27 (0,0)) :: M) w' -> Kr (.string (lineOf (itemsOf t) ⟨R.c,dat⟩)) (.pointer (some ⟨kb,0,none⟩)) w') :
  F8_2 Kr (.pointer (some ⟨ab,0,none⟩)) (.pointer (some ⟨kb,0,none⟩)) w := by
 unfold F8_2
 simp only [rdA_mk]
 refine ldR26_of (s := R) (h.atL 1 rfl) ?_
 refine h.alc fun ob w2 h2 => h2.stcL 0 rfl (by rfl) fun w3 h3 => ?_
 have h3 : Hs W (pt ob (.cells R.c 27 (0,0)) :: pt kb (.cells #[.int .i64 0] 28 (0,0)) :: pt ab (.cells R.c 27 (0,0)) :: M) w3 := h3
 refine h3.alc fun lb w4 h4 => h4.alc fun pb w5 h5 => h5.stc 0 rfl (by simp) fun w6 h6 => h6.stc 0 rfl (by simp) fun w7 h7 => ?_
 have h7 : Hs W (pt pb (.cells #[.pointer (some ⟨lb,0,none⟩),.pointer (some ⟨ob,0,none⟩)] 82 (0,0)) :: pt lb (.cells #[.slice none 0 0,.bool false] 79 (0,0)) :: pt ob (.cells R.c 27 (0,0)) :: pt kb (.cells #[.int .i64 0] 28 (0,0)) :: pt ab (.cells R.c 27 (0,0)) :: M) w7 := h7
 refine h7.ldP 0 rfl rfl (h7.ldP 0 rfl rfl ?_)
 have h8 := ln_new (h7.focus (i := 1) rfl)
 have h9 := dt_old (cs := R.c) (dat := dat) (a := R.f10a) (c := R.f10c) (by rw [← hd.len]; rfl) hd.rd h8
 have h10 : Hs W (lnP lb false [] :: pt ob (.cells R.c 27 (0,0)) :: dtP W R.c dat :: pt pb (.cells #[.pointer (some ⟨lb,0,none⟩),.pointer (some ⟨ob,0,none⟩)] 82 (0,0)) :: pt kb (.cells #[.int .i64 0] 28 (0,0)) :: pt ab (.cells R.c 27 (0,0)) :: M) w7 := (h9.focus (i := 3) rfl).focus (i := 2) rfl
 refine clp (c25 (S := ⟨R.c,dat⟩) (pv := fun k _ => k == R.f0) hT h10 ⟨R,rfl⟩ (fun _ k => hG.kind k) ⟨fun _ => by simp,fun x => (nomatch x)⟩ ok26 (fun q w' A B C D E h' => c26 h' 7 rfl rfl)) ?_ ?_
 ·rintro _ w13 ⟨rfl,t,hv,S',ws',hsts,hsh,h13⟩
  obtain ⟨htm,hkd⟩ := vfind_mem hv
  have hkd : t.1 = R.f0 := by simpa using hkd
  have hS : setKind ⟨R.c,dat⟩ t.1 = ⟨R.c,dat⟩ := by rw [hkd]; rfl
  rw [hS] at hsts
  obtain ⟨rfl,rfl,hok⟩ := hsts.w
  rw [List.nil_append] at h13
  refine ⟨rfl,h13.ldP 3 rfl rfl ?_⟩
  have hsz := items_size (List.all_eq_true.1 (vtab_items t htm).2.2.1) hok
  have hlen : (itemsOf t).length <= 6 := by have := (vtab_ok t htm).2; simp [itemsOf]; omega
  have hsz : (lineOf (itemsOf t) ⟨R.c,dat⟩).size <= 786606 := Nat.le_trans hsz (by omega)
  refine cl (c27 h13 (by rw [List.length_map]; omega) (Nat.le_trans hsz (by omega))) ?_
  rintro _ w14 ⟨rfl,h14⟩
  refine ⟨_,rfl,?_⟩
  have h14' : Hs W (pt kb (.cells #[.int .i64 0] 28 (0,0)) :: pt ab (.cells R.c 27 (0,0)) :: M) w14 := h14.drop.drop.drop.drop
  refine cl (c10 (s := lineOf (itemsOf t) ⟨R.c,dat⟩) hT h14' (by omega)) ?_
  rintro v w15 (⟨R2,d2,hD,rfl,h15⟩ | ⟨hno,rfl,h15⟩)
  ·refine exR26_of R2 ⟨_,rfl,?_⟩
   refine h15.alc fun b25 w16 h16 => h16.stcL 0 rfl (by rfl) fun w17 h17 => ?_
   have h17 : Hs W (pt b25 (.cells R2.c 27 (0,0)) :: dtP W R2.c d2 :: pt kb (.cells #[.int .i64 0] 28 (0,0)) :: pt ab (.cells R.c 27 (0,0)) :: M) w17 := h17
   have e0 : ((0 : Int) == 0) = true := rfl
   rw [e0,br_true]
   refine ldR26_of (s := R2) (h17.atL 0 rfl) (ldR26_of (s := R) (h17.atL 3 rfl) ?_)
   obtain ⟨a2,c2,hc2,hr2⟩ := dt_open (h17.focus (i := 1) rfl)
   have hH2 : Holds26 w17 R2 d2 := by
    have e1 : some (Value.slice R2.f10a R2.f10n R2.f10c) = some (Value.slice a2 d2.length c2) := hc2
    injection e1 with e1
    injection e1 with e1 e2 e3
    exact ⟨e2,by rw [e1]; exact hr2⟩
   have hl2 : d2.length < 4611686018427387904 := by
    obtain ⟨t2,hD⟩ := hD
    rcases Classical.em (hasFoot t2 1000000) with ⟨it,hi,hf⟩ | hf
    ·have h1 := (vtab_dat t2 hD.mem it hi).1 hf
     cases it with
     | dat o => have := hD.ok _ hi; have : d2.length <= 65536 := this; omega
     | _ => cases h1
    ·rw [hD.data hf]; simp
   refine cl (c29 h17 hH2 (hd.same h17.old) hl2) ?_
   rintro _ w18 ⟨rfl,h18⟩
   refine ⟨_,rfl,?_⟩
   have h18' : Hs W (pt kb (.cells #[.int .i64 0] 28 (0,0)) :: pt ab (.cells R.c 27 (0,0)) :: M) w18 := h18.drop.drop
   refine clp c28 ?_ ?_
   ·rintro _ w19 ⟨hb,rfl,rfl⟩
    refine ⟨rfl,F8_1_go h18' fun w20 h20 => ?_⟩
    intro _
    simp only [rdS_mk,rdA_mk]
    exact hK w20 t (LineOk.of htm hkd.symm hok hD (sameB_iff.1 hb)) h20
   ·rintro ch w19 ⟨hb,rfl,rfl⟩
    refine hE _ _ rfl (fun t' ht' => ?_) h18'
    have e1 : t' = t := vtab_kinds _ ht'.mem _ htm (by rw [← ht'.kind,hkd])
    subst e1
    have := sameB_iff.2 (IsDeed.det hD ⟨t',ht'.deed⟩)
    rw [hb] at this
    cases this
  ·refine exR26_of R26.zz ⟨_,rfl,?_⟩
   refine h15.alc fun b25 w16 h16 => h16.stcL 0 rfl (by rfl) fun w17 h17 => ?_
   have h17 : Hs W (pt b25 (.cells R26.zz.c 27 (0,0)) :: pt kb (.cells #[.int .i64 0] 28 (0,0)) :: pt ab (.cells R.c 27 (0,0)) :: M) w17 := h17
   have e0 : ((250 : Int) == 0) = false := rfl
   rw [e0,br_false]
   refine clp c28 ?_ ?_
   ·rintro _ _ ⟨hb,_⟩
    cases hb
   ·rintro ch w19 ⟨_,rfl,rfl⟩
    refine hE _ _ rfl (fun t' ht' => ?_) h17.drop
    have e1 : t' = t := vtab_kinds _ ht'.mem _ htm (by rw [← ht'.kind,hkd])
    subst e1
    exact hno ⟨R,dat,t',ht'.deed⟩
 ·rintro ch w13 ⟨h13,hx⟩
  rcases hx with ⟨hn,rfl⟩ | ⟨t,c,hv,rfl,hb⟩
  ·refine hE _ _ rfl (fun t' ht' => ?_) h13.drop
   have h3 := vfind_none hn t' ht'.mem
   rw [ht'.kind] at h3
   simp at h3
  ·obtain ⟨htm,hkd⟩ := vfind_mem hv
   have hkd : t.1 = R.f0 := by simpa using hkd
   have hS : setKind ⟨R.c,dat⟩ t.1 = ⟨R.c,dat⟩ := by rw [hkd]; rfl
   rw [hS] at hb
   obtain ⟨e,it,hi,hn⟩ := hb.2 rfl
   subst e
   refine hE _ _ rfl (fun t' ht' => ?_) h13.drop
   have e1 : t' = t := vtab_kinds _ ht'.mem _ htm (by rw [← ht'.kind,hkd])
   subst e1
   exact hn (ht'.ok it hi)
theorem c8 {R : R26} {dat : List UInt8} (hT : TB W) (h : Hs W M w) (hG : GoodD ⟨R.c,dat⟩) (hd : Holds26 W R dat) (hdl : dat.length < 4611686018427387904) : Calls Tryz.prog 8 #[R.v] w (rt fun v w' => Hs W M w' /\
  ((∃ t,LineOk t R dat /\ v = .tuple #[.string (lineOf (itemsOf t) ⟨R.c,dat⟩),.int .i64 0]) \/ ((∀ t,¬ LineOk t R dat) /\ v = .tuple #[.string ⟨#[]⟩,.int .i64 1]))) := by
 refine calls_ofD Tryz.func8 hb8 rfl rfl rfl ok24 (by rw [nt8]; show 1 <= 33; omega) ?_
 refine F8_0_ok0 _ _ _ ?_
 show F8_0 _ R.v w
 unfold F8_0
 refine exR26_of R ⟨rfl,?_⟩
 refine h.alc fun b2 w2 h2 => h2.alc fun b4 w4 h4 => ?_
 intro g
 refine ⟨_,rfl,_,rfl,_,rfl,?_⟩
 refine gen3 1 2 3 (v1 := .pointer (some ⟨b2,0,none⟩)) (v2 := .string ⟨#[]⟩) (v3 := .pointer (some ⟨b4,0,none⟩)) ?_ ?_ ?_ fun t t1 t2 t3 => ?_
 ·rfl
 ·rfl
 ·rfl
 show Behind _ _ _ _ _ _ t _
 have hx : (#[Operand.tmp 3]).map (ev t) = #[.pointer (some ⟨b4,0,none⟩)] := by simp [ev,t3]
 refine ⟨[2,3],fun ch w' => ch = PE 1 /\ (∀ t,¬ LineOk t R dat) /\ Hs W (pt b4 (.cells #[.int .i64 0] 28 (0,0)) :: pt b2 (.cells R.c 27 (0,0)) :: M) w',?_,?_⟩
 ·refine @F8_2_ok ⟨_⟩ _ _ _ _ ?_
  unfold F8_2O
  rw [t1,t3]
  refine @F8_2_go W w4 M b4 b2 ⟨_⟩ R dat _ hT hG hd hdl h4 (fun ch w' hc hb hs => ⟨hc,hb,hs⟩) fun w6 t' hok h6 => ?_
  intro g2
  refine ⟨_,rfl,_,rfl,?_⟩
  show dcl Tryz.prog 24 _ .returning w6 _
  rw [hx]
  refine c24r ?_
  rw [res8]
  show ldI .i64 ⟨b4,0,none⟩ w6 _
  refine h6.ldI 0 rfl rfl ?_
  exact ⟨h6.drop.drop,.inl ⟨t',hok,rfl⟩⟩
 ·rintro ch w6 ⟨rfl,hb,h6⟩
  rw [hx]
  refine c24p h6 fun w7 h7 t' ht' => ?_
  rw [res8,ht' 3 (by simp),ht' 2 (by simp),t3,t2]
  show ldI .i64 ⟨b4,0,none⟩ w7 _
  refine h7.ldI 0 rfl rfl ?_
  exact ⟨h7.drop.drop,.inr ⟨hb,rfl⟩⟩
end
end Go.Proofs.YtilenpnpnbdndaaGreatDoor
