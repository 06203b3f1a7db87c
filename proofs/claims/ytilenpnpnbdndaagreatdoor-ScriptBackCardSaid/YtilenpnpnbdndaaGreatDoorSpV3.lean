/- Own text: part of the shallow reading of the code and of the contracts that are proved over it. -/
import Derived.Test.YtilenpnpnbdndaaGreatDoorSpV1
import Derived.Test.YtilenpnpnbdndaaGreatDoorSrL
import Derived.Test.YtilenpnpnbdndaaGreatDoorSqA
namespace Go.Proofs.YtilenpnpnbdndaaGreatDoor
open Go Go.Sh
set_option maxRecDepth 100000
attribute [local instance] Esc.none
def lv (L k : Nat) : Bool := Nat.testBit L k && !(Nat.beq k 45 && Nat.testBit L 51)
def Ae (q1 q2 : Option Addr) (bb : Nat -> Option Addr × Nat) (L k : Nat) : HP := if lv L k = true then slP 1 1 (bb k).1 (AN k) (bb k).2 (AP q1 q2 k) else emp
structure Jb (W : World) (M : List HP) (bx : Nat) (q1 q2 x3 : Option Addr) (c3 : Nat) (bb : Nat -> Option Addr × Nat) (L : Nat) (t : Tm) (w : World) : Prop where
 vals : ∀ v ∈ VL q1 q2 x3 c3,Nat.testBit L v.i = true -> t v.dst = v.V (bb v.dep) /\ (v.dep = 99 \/ Nat.testBit L v.dep = true)
 t1 : t 1 = .pointer (some ⟨bx,0,none⟩)
 t3 : t 3 = .slice x3 3 c3
 hs : Hs W (pt bx (.cells #[.pointer q1,.pointer q2] 82) :: slP 1 1 x3 3 c3 (pkt q1 q2) :: (AL.map (Ae q1 q2 bb L) ++ M)) w
section
variable {W w w' : World} {M : List HP} {bx : Nat} {q1 q2 x3 : Option Addr} {c3 : Nat} {bb : Nat -> Option Addr × Nat} {L : Nat} {t : Tm}
theorem VL_i : (VL q1 q2 x3 c3).map (·.i) = List.range 69 := rfl
theorem VL_dst : ((VL q1 q2 x3 c3).map (·.dst)).Nodup := by
 have : (VL q1 q2 x3 c3).map (·.dst) = (VL none none none 0).map (·.dst) := rfl
 rw [this]; decide
theorem VL_dst13 : ∀ v ∈ VL q1 q2 x3 c3,v.dst ≠ 1 /\ v.dst ≠ 3 := by
 have h : ∀ d ∈ (VL none none none 0).map (·.dst),d ≠ 1 /\ d ≠ 3 := by decide
 intro v hv
 exact h v.dst (by
  have : (VL q1 q2 x3 c3).map (·.dst) = (VL none none none 0).map (·.dst) := rfl
  rw [← this]; exact List.mem_map.2 ⟨v,hv,rfl⟩)
theorem VL_inj : ∀ {l : List Vt},(l.map (·.dst)).Nodup -> ∀ {u v},u ∈ l -> v ∈ l -> u.dst = v.dst -> u = v
 | [],_,_,_,h,_,_ => by cases h
 | x :: r,hn,u,v,hu,hv,h => by
  rw [List.map_cons,List.nodup_cons] at hn
  cases hu with
  | head => cases hv with
   | head => rfl
   | tail _ hv => exact (hn.1 (List.mem_map.2 ⟨v,hv,h.symm⟩)).elim
  | tail _ hu => cases hv with
   | head => exact (hn.1 (List.mem_map.2 ⟨u,hu,h⟩)).elim
   | tail _ hv => exact VL_inj hn.2 hu hv h
theorem VL_inji : ∀ {l : List Vt},(l.map (·.i)).Nodup -> ∀ {u v},u ∈ l -> v ∈ l -> u.i = v.i -> u = v
 | [],_,_,_,h,_,_ => by cases h
 | x :: r,hn,u,v,hu,hv,h => by
  rw [List.map_cons,List.nodup_cons] at hn
  cases hu with
  | head => cases hv with
   | head => rfl
   | tail _ hv => exact (hn.1 (List.mem_map.2 ⟨v,hv,h.symm⟩)).elim
  | tail _ hu => cases hv with
   | head => exact (hn.1 (List.mem_map.2 ⟨u,hu,h⟩)).elim
   | tail _ hv => exact VL_inji hn.2 hu hv h
theorem VL_same {u v : Vt} (hu : u ∈ VL q1 q2 x3 c3) (hv : v ∈ VL q1 q2 x3 c3) (h : u.i = v.i) : u = v := VL_inji (by rw [VL_i]; exact List.nodup_range) hu hv h
theorem VL_ne {u v : Vt} (hu : u ∈ VL q1 q2 x3 c3) (hv : v ∈ VL q1 q2 x3 c3) (h : u.i ≠ v.i) : u.dst ≠ v.dst := fun e => h (by rw [VL_inj VL_dst hu hv e])
theorem Jb.still (hj : Jb W M bx q1 q2 x3 c3 bb L t w) {v : Vt} (hv : v ∈ VL q1 q2 x3 c3) (ha : v.i ∉ AL) (hd : v.dep = 99 \/ Nat.testBit L v.dep = true) {u : Value} (hu : u = v.V (bb v.dep)) :
  Jb W M bx q1 q2 x3 c3 bb (L ||| 2 ^ v.i) (upd t v.dst u) w := by
 have hbit : ∀ k,k ≠ v.i -> Nat.testBit (L ||| 2 ^ v.i) k = Nat.testBit L k := fun k hk => by rw [testBit_or_pow,decide_eq_false (fun e => hk e.symm),Bool.or_false]
 have hup : ∀ k,Nat.testBit L k = true -> Nat.testBit (L ||| 2 ^ v.i) k = true := fun k hk => by rw [testBit_or_pow,hk]; rfl
 refine ⟨fun x hx hl => ?_,?_,?_,?_⟩
 ·by_cases hxi : x.i = v.i
  ·have := VL_same hx hv hxi
   subst this
   exact ⟨by rw [upd_eq]; exact hu,hd.imp id (hup _)⟩
  ·rw [hbit _ hxi] at hl
   obtain ⟨h1,h2⟩ := hj.vals x hx hl
   exact ⟨by rw [upd_ne _ (VL_ne hx hv hxi)]; exact h1,h2.imp id (hup _)⟩
 ·rw [upd_ne _ (VL_dst13 v hv).1.symm]; exact hj.t1
 ·rw [upd_ne _ (VL_dst13 v hv).2.symm]; exact hj.t3
 ·have : AL.map (Ae q1 q2 bb (L ||| 2 ^ v.i)) = AL.map (Ae q1 q2 bb L) := by
   refine List.map_congr_left fun k hk => ?_
   unfold Ae lv
   have h51 : (51 : Nat) ≠ v.i := fun e => ha (by rw [← e]; decide)
   rw [hbit k (fun e => ha (by rw [← e]; exact hk)),hbit 51 h51]
  rw [this]
  exact hj.hs
theorem big_put {X A B : HP} {f f' : Nat -> HP} {k : Nat} {l : List Nat} (hn : l.Nodup) (hk : k ∈ l) (he : f k = emp) (hX : f' k = X) (hf : ∀ j ∈ l,j ≠ k -> f' j = f j) (h : Hs W (X :: A :: B :: (l.map f ++ M)) w) : Hs W (A :: B :: (l.map f' ++ M)) w := by
 obtain ⟨l1,l2,rfl⟩ := List.append_of_mem hk
 rw [List.nodup_append] at hn
 obtain ⟨n1,n2,n3⟩ := hn
 rw [List.nodup_cons] at n2
 have e1 : l1.map f' = l1.map f := List.map_congr_left fun j hj => hf j (by simp [hj]) fun e => n3 j hj k (by simp) e
 have e2 : l2.map f' = l2.map f := List.map_congr_left fun j hj => hf j (by simp [hj]) fun e => n2.1 (by rw [← e]; exact hj)
 rw [List.map_append,List.map_cons,e1,e2,hX]
 rw [List.map_append,List.map_cons,he] at h
 have h1 : Hs W (emp :: X :: A :: B :: (l1.map f ++ l2.map f ++ M)) w := h.perm (by
  simp only [List.append_assoc,List.cons_append]
  exact ((List.perm_middle (l₁ := X :: A :: B :: l1.map f)).trans (List.Perm.refl _)))
 have h2 := h1.erase 0
 exact h2.perm (by
  simp only [List.eraseIdx_zero,List.tail_cons,List.append_assoc,List.cons_append]
  exact (List.perm_middle (l₁ := A :: B :: l1.map f)).symm)
theorem Jb.make (hj : Jb W M bx q1 q2 x3 c3 bb L t w) {v : Vt} (hv : v ∈ VL q1 q2 x3 c3) (ha : v.i ∈ AL) (h51 : v.i ≠ 51) (h45 : v.i = 45 -> Nat.testBit L 51 = false) (hd : v.dep = v.i) (hl : Nat.testBit L v.i = false) {x : Option Addr × Nat}
  (hs : Hs W (slP 1 1 x.1 (AN v.i) x.2 (AP q1 q2 v.i) :: pt bx (.cells #[.pointer q1,.pointer q2] 82) :: slP 1 1 x3 3 c3 (pkt q1 q2) :: (AL.map (Ae q1 q2 bb L) ++ M)) w') :
  Jb W M bx q1 q2 x3 c3 (fun j => if j = v.i then x else bb j) (L ||| 2 ^ v.i) (upd t v.dst (v.V x)) w' := by
 have hbit : ∀ k,k ≠ v.i -> Nat.testBit (L ||| 2 ^ v.i) k = Nat.testBit L k := fun k hk => by rw [testBit_or_pow,decide_eq_false (fun e => hk e.symm),Bool.or_false]
 have hup : ∀ k,Nat.testBit L k = true -> Nat.testBit (L ||| 2 ^ v.i) k = true := fun k hk => by rw [testBit_or_pow,hk]; rfl
 have hself : Nat.testBit (L ||| 2 ^ v.i) v.i = true := by rw [testBit_or_pow]; simp
 refine ⟨fun y hy hyl => ?_,?_,?_,?_⟩
 ·by_cases hyi : y.i = v.i
  ·have := VL_same hy hv hyi
   subst this
   exact ⟨by rw [upd_eq,hd,if_pos rfl],.inr (by rw [hd]; exact hself)⟩
  ·rw [hbit _ hyi] at hyl
   obtain ⟨h1,h2⟩ := hj.vals y hy hyl
   have hne : y.dep ≠ v.i := by
    rcases h2 with h2 | h2
    ·intro e
     rw [h2] at e
     rw [← e] at ha
     exact absurd ha (by decide)
    ·intro e
     rw [e,hl] at h2
     cases h2
   exact ⟨by rw [upd_ne _ (VL_ne hy hv hyi),if_neg hne]; exact h1,h2.imp id (hup _)⟩
 ·rw [upd_ne _ (VL_dst13 v hv).1.symm]; exact hj.t1
 ·rw [upd_ne _ (VL_dst13 v hv).2.symm]; exact hj.t3
 ·refine big_put (f := Ae q1 q2 bb L) (f' := Ae q1 q2 _ _) (k := v.i) (by decide) ha ?_ ?_ ?_ hs
  ·unfold Ae lv
   rw [hl]; rfl
  ·unfold Ae lv
   rw [hself]
   have : (Nat.beq v.i 45 && Nat.testBit (L ||| 2 ^ v.i) 51) = false := by
    cases hb : Nat.beq v.i 45 with
    | false => rfl
    | true =>
     rw [nbeq] at hb
     rw [hbit 51 (Ne.symm h51),h45 hb]; rfl
   rw [this]
   simp
  ·intro j _ hjk
   unfold Ae lv
   rw [hbit j hjk,hbit 51 (Ne.symm h51)]
   simp only [if_neg hjk]
end
end Go.Proofs.YtilenpnpnbdndaaGreatDoor
namespace Go.Proofs.YtilenpnpnbdndaaGreatDoor
open Go Go.Sh
set_option maxRecDepth 100000
attribute [local instance] Esc.none
noncomputable def E84i : TypeInfo := (Tryz.prog.info? 1).getD default
theorem E84 : ElemT Tryz.prog 84 1 1 8 .nilFunc E84i := ⟨by kernel_rfl,by kernel_rfl,by kernel_rfl,by kernel_rfl,by kernel_rfl,rfl,by decide⟩
section
variable {W w w' : World} {M N : List HP} {bx : Nat} {q1 q2 x3 : Option Addr} {c3 : Nat} {bb : Nat -> Option Addr × Nat} {L : Nat} {t : Tm}
theorem pt_sl {e : TypeId} {size n b : Nat} {cs : Array Value} (h : Hs W (pt b (.cells cs e (0,0)) :: N) w) (hs : cs.size = n * size) (hn : n <= maxLen) : Hs W (slP e size (some ⟨b,0,none⟩) n n cs.toList :: N) w :=
 h.weak 0 rfl fun x hx => ⟨by simp [hs],.inr ⟨b,cs,rfl,hx,Nat.le_refl _,hn,hs,by rw [List.take_of_length_le (by simp [hs])]⟩⟩
theorem run_b84 (w : World) : Sem.run Tryz.prog (Instr.buildSlice 84 0 #[]) w = .ok (.slice (some ⟨w.heap.size,0,none⟩) 0 0) (w.alloc (.cells #[] 1)) := by kernel_rfl
theorem c78 {a : Option Addr} {xs : List Value} {c : Nat} (h : Hs W N w) (hr : Rd w a xs) (h1 : ∀ u ∈ xs,u.oneCell' = true) (hl : xs.length <= 1000000) : Calls Tryz.prog 78 #[.slice a xs.length c] w (rt fun v w' => ∃ a' c',v = .slice a' xs.length c' /\ Hs W (slP 1 1 a' xs.length c' xs :: N) w') := by
 refine F78_ok ?_
 unfold F78
 simp only [rdC_mk]
 cases a with
 | none =>
  have : xs = [] := by
   cases xs with
   | nil => rfl
   | cons x r => obtain ⟨ad,e⟩ := hr.some (by simp); cases e
  subst this
  simp only [Option.isNone_none,br_true]
  exact ⟨none,0,rfl,h.nil 1 1⟩
 | some ad =>
  simp only [Option.isNone_some,br_false]
  refine ⟨_,_,_,_,run_b84 w,?_⟩
  have f1 : Same w (w.alloc (.cells #[] 1)) := (Fr.refl w).alloc _
  have o1 : Own (w.alloc (.cells #[] 1)) w.heap.size 1 1 (some ⟨w.heap.size,0,none⟩) 0 0 [] := ⟨rfl,.inr ⟨_,0,#[],rfl,Nat.le_refl _,alloc_new _ _,Nat.le_refl _,Nat.zero_le _,rfl,rfl⟩⟩
  obtain ⟨a',l',c',w',hrun,rfl,ho,hf,_⟩ := append_own (ty := 84) E84 o1 (b := ad) (m := xs.length) (d := c) (news := xs) (by simp) (hr.fr f1 fun _ _ x => x) h1 (by omega) (by omega) (by simp)
  refine ⟨_,_,_,_,hrun,a',c',by simp,?_⟩
  have hs : Same w w' := ((f1.mono (S' := fun k => w.heap.size <= k) fun _ _ x => x.elim).trans hf fun i _ x => (o1.base_le x).1).mono fun i hi x => by omega
  refine h.own_new hs ?_
  simpa using ho
theorem big_take {A B : HP} {f f' : Nat -> HP} {k : Nat} {l : List Nat} (hn : l.Nodup) (hk : k ∈ l) (he : f' k = emp) (hf : ∀ j ∈ l,j ≠ k -> f' j = f j) (h : Hs W (A :: B :: (l.map f ++ M)) w) : Hs W (f k :: A :: B :: (l.map f' ++ M)) w := by
 obtain ⟨l1,l2,rfl⟩ := List.append_of_mem hk
 rw [List.nodup_append] at hn
 obtain ⟨n1,n2,n3⟩ := hn
 rw [List.nodup_cons] at n2
 have e1 : l1.map f' = l1.map f := List.map_congr_left fun j hj => hf j (by simp [hj]) fun e => n3 j hj k (by simp) e
 have e2 : l2.map f' = l2.map f := List.map_congr_left fun j hj => hf j (by simp [hj]) fun e => n2.1 (by rw [← e]; exact hj)
 rw [List.map_append,List.map_cons,e1,e2,he]
 rw [List.map_append,List.map_cons] at h
 have h1 : Hs W (f k :: A :: B :: (l1.map f ++ l2.map f ++ M)) w := h.perm (by
  simp only [List.append_assoc,List.cons_append]
  exact (List.perm_middle (l₁ := A :: B :: l1.map f)))
 have h2 : Hs W (emp :: f k :: A :: B :: (l1.map f ++ l2.map f ++ M)) w := h1.of_eq (by rw [emp_intro])
 exact h2.perm (by
  simp only [List.append_assoc,List.cons_append]
  exact (List.perm_middle (l₁ := f k :: A :: B :: l1.map f)).symm)
theorem Jb.app (hj : Jb W M bx q1 q2 x3 c3 bb L t w) (h45 : Nat.testBit L 45 = true) (h50 : Nat.testBit L 50 = true) (hl : Nat.testBit L 51 = false) {K : Value -> World -> Prop}
  (hK : ∀ a c w',Jb W M bx q1 q2 x3 c3 (fun j => if j = 51 then (a,c) else bb j) (L ||| 2 ^ 51) (upd t 62 (.slice a 5 c)) w' -> K (.slice a 5 c) w') :
  ∃ x n c w',Sem.run Tryz.prog (Builtin.append_ #[84,84] 84 #[t 56,t 61]) w = .ok (.slice x n c) w' /\ K (.slice x n c) w' := by
 obtain ⟨e56,-⟩ := hj.vals ⟨45,56,45,fun x => .slice x.1 3 x.2⟩ (List.mem_of_getElem? (i := 45) rfl) h45
 obtain ⟨e61,-⟩ := hj.vals ⟨50,61,50,fun x => .slice x.1 2 x.2⟩ (List.mem_of_getElem? (i := 50) rfl) h50
 rw [e56,e61]
 simp only
 have l45 : Ae q1 q2 bb L 45 = slP 1 1 (bb 45).1 3 (bb 45).2 (pkt q1 q2) := by unfold Ae lv; rw [h45,hl]; rfl
 have l50 : Ae q1 q2 bb L 50 = slP 1 1 (bb 50).1 2 (bb 50).2 [fv q1 q2 79,fv q1 q2 80] := by unfold Ae lv; rw [h50]; rfl
 have hr : Rd w (bb 50).1 [fv q1 q2 79,fv q1 q2 80] := hj.hs.rdm (e := 1) (s := 1) (l := 2) (c := (bb 50).2) (by rw [← l50]; exact List.mem_cons_of_mem _ (List.mem_cons_of_mem _ (List.mem_append_left _ (List.mem_map.2 ⟨50,by decide,rfl⟩))))
 obtain ⟨ad,ha⟩ := hr.some (by simp)
 rw [ha] at hr ⊢
 have h1 := big_take (f := Ae q1 q2 bb L) (f' := fun j => if j = 45 then emp else Ae q1 q2 bb L j) (k := 45) (l := AL) (by decide) (by decide) rfl (fun j _ hjk => if_neg hjk) hj.hs
 rw [l45] at h1
 refine h1.append E84 0 rfl (by rfl) hr (fun u hu => ?_) (by omega) (by omega) fun a' c' w' h2 _ => hK a' c' w' ?_
 ·rcases List.mem_cons.1 hu with rfl | hu
  ·rfl
  ·rcases List.mem_cons.1 hu with rfl | hu
   ·rfl
   ·cases hu
 have h2 : Hs W (slP 1 1 a' 5 c' (AP q1 q2 51) :: pt bx (.cells #[.pointer q1,.pointer q2] 82) :: slP 1 1 x3 3 c3 (pkt q1 q2) :: (AL.map (fun j => if j = 45 then emp else Ae q1 q2 bb L j) ++ M)) w' := h2
 have hbit : ∀ k,k ≠ 51 -> Nat.testBit (L ||| 2 ^ 51) k = Nat.testBit L k := fun k hk => by rw [testBit_or_pow,decide_eq_false (fun e => hk e.symm),Bool.or_false]
 have hup : ∀ k,Nat.testBit L k = true -> Nat.testBit (L ||| 2 ^ 51) k = true := fun k hk => by rw [testBit_or_pow,hk]; rfl
 have hself : Nat.testBit (L ||| 2 ^ 51) 51 = true := by rw [testBit_or_pow]; simp
 have hv : (⟨51,62,51,fun x => .slice x.1 5 x.2⟩ : Vt) ∈ VL q1 q2 x3 c3 := List.mem_of_getElem? (i := 51) rfl
 refine ⟨fun y hy hyl => ?_,?_,?_,?_⟩
 ·by_cases hyi : y.i = 51
  ·have := VL_same hy hv hyi
   subst this
   exact ⟨by rw [upd_eq]; rfl,.inr hself⟩
  ·rw [hbit _ hyi] at hyl
   obtain ⟨g1,g2⟩ := hj.vals y hy hyl
   have hne : y.dep ≠ 51 := by
    rcases g2 with g2 | g2
    ·omega
    ·intro e
     rw [e,hl] at g2
     cases g2
   exact ⟨by rw [upd_ne _ (VL_ne hy hv hyi),if_neg hne]; exact g1,g2.imp id (hup _)⟩
 ·rw [upd_ne _ (by decide)]; exact hj.t1
 ·rw [upd_ne _ (by decide)]; exact hj.t3
 ·refine big_put (f := fun j => if j = 45 then emp else Ae q1 q2 bb L j) (f' := Ae q1 q2 _ _) (k := 51) (by decide) (by decide) ?_ ?_ ?_ h2
  ·unfold Ae lv
   rw [hl]; rfl
  ·unfold Ae lv
   rw [hself]; rfl
  ·intro j _ hjk
   unfold Ae lv
   rw [hbit j hjk,hself]
   simp only [if_neg hjk]
   by_cases h45' : j = 45
   ·subst h45'
    simp
   ·rw [if_neg h45']
    have : Nat.beq j 45 = false := by
     cases hb : Nat.beq j 45 with
     | false => rfl
     | true => rw [nbeq] at hb; exact absurd hb h45'
    rw [this]; rfl
end
end Go.Proofs.YtilenpnpnbdndaaGreatDoor
