/- Own text: part of the shallow reading of the code and of the contracts that are proved over it. -/
import Derived.Test.YtilenpnpnbdndaaGreatDoorShE
namespace Go.Sh
open Go
def befG (acc : List Nat) (o : Oper) : Nat := o.after.toList.foldl (fun s e => match Region.binds .any e with | true => s ||| (2 ^ e.on) ||| (acc.getD e.on 0) | false => s) 0
theorem befores_snoc (l : List Oper) (o : Oper) : befores (l ++ [o]) = befores l ++ [befG (befores l) o] := by
 unfold befores befG
 rw [List.foldl_append]
 rfl
theorem snoc_ind {α : Type} {M : List α -> Prop} (h0 : M []) (h1 : ∀ l a,M l -> M (l ++ [a])) (l : List α) : M l := by
 have : ∀ r : List α,M r.reverse := by
  intro r
  induction r with
  | nil => exact h0
  | cons a r ih => rw [List.reverse_cons]; exact h1 _ _ ih
 simpa using this l.reverse
theorem befores_len (l : List Oper) : (befores l).length = l.length := by
 induction l using snoc_ind with
 | h0 => rfl
 | h1 l o ih => rw [befores_snoc,List.length_append,List.length_append,ih]; rfl
theorem befores_at (l : List Oper) : ∀ j o,l[j]? = some o -> (befores l)[j]? = some (befG ((befores l).take j) o) := by
 induction l using snoc_ind with
 | h0 => intro j o h; simp at h
 | h1 l x ih =>
  intro j o h
  rw [befores_snoc]
  by_cases hj : j < l.length
  ·rw [List.getElem?_append_left hj] at h
   rw [List.getElem?_append_left (by rw [befores_len]; exact hj),ih j o h,List.take_append_of_le_length (by rw [befores_len]; omega)]
  ·have hj' : j = l.length := by
    have := (List.getElem?_eq_some_iff.1 h).1
    simp at this
    omega
   subst hj'
   have hx : x = o := by simpa using h
   subst hx
   rw [← befores_len l,List.getElem?_append_right (Nat.le_refl _),Nat.sub_self,List.take_left]
   rfl
theorem befG_bit {acc : List Nat} {i : Nat} : ∀ (l : List Edge) (s : Nat),Nat.testBit (l.foldl (fun s e => match Region.binds .any e with | true => s ||| (2 ^ e.on) ||| (acc.getD e.on 0) | false => s) s) i = true ->
  Nat.testBit s i = true \/ ∃ e ∈ l,Region.binds .any e = true /\ (i = e.on \/ Nat.testBit (acc.getD e.on 0) i = true)
 | [],s,h => .inl h
 | e :: l,s,h => by
  rw [List.foldl_cons] at h
  rcases befG_bit l _ h with h | ⟨e',he',h⟩
  ·split at h
   ·rename_i hb
    rw [Nat.testBit_or,Nat.testBit_or,Nat.testBit_two_pow] at h
    simp only [Bool.or_eq_true,decide_eq_true_eq] at h
    rcases h with (h | h) | h
    ·exact .inl h
    ·exact .inr ⟨e,List.mem_cons_self,hb,.inl h.symm⟩
    ·exact .inr ⟨e,List.mem_cons_self,hb,.inr h⟩
   ·exact .inl h
  ·exact .inr ⟨e',List.mem_cons_of_mem _ he',h⟩
def Down (ops : Array Oper) (listed : Array Bool) : Prop :=
 ∀ m o,ops[m]? = some o -> listed.getD m false = true -> ∀ e ∈ o.after,Region.binds .any e = true -> listed.getD e.on false = true
theorem bef_listed {ops : Array Oper} {listed : Array Bool} (hD : Down ops listed) : ∀ (j : Nat) (o : Oper),ops[j]? = some o ->
  (∀ e ∈ o.after,Region.binds .any e = true -> listed.getD e.on false = true) -> ∀ i,bef (befores ops.toList) i j = true -> listed.getD i false = true := by
 intro j
 induction j using Nat.strongRecOn with
 | _ j ih =>
  intro o ho hall i hb
  unfold bef at hb
  have ho' : ops.toList[j]? = some o := by simpa using ho
  rw [List.getD_eq_getElem?_getD,befores_at _ j o ho',Option.getD_some] at hb
  rcases befG_bit _ _ hb with hb | ⟨e,he,hbe,hb⟩
  ·simp at hb
  ·have hl := hall e (by simpa using he) hbe
   rcases hb with rfl | hb
   ·exact hl
   ·rw [List.getD_eq_getElem?_getD] at hb
    by_cases hlt : e.on < j
    ·rw [List.getElem?_take_of_lt hlt] at hb
     have hn : e.on < ops.size := by have := (Array.getElem?_eq_some_iff.1 ho).1; omega
     exact ih e.on hlt ops[e.on] (by simp [hn]) (fun e' he' hb' => hD e.on ops[e.on] (by simp [hn]) hl e' he' hb') i (by unfold bef; rw [List.getD_eq_getElem?_getD]; exact hb)
    ·rw [List.getElem?_take,if_neg hlt] at hb
     simp at hb
section
variable {P : Program} {ops : Array Oper} {w0 : World}
def stepI [Esc] (P : Program) (ops : Array Oper) (w0 : World) (ms : List It) (i : Nat) (K : Tm -> World -> Prop) (t : Tm) (w : World) : Prop :=
 match ms[i]? with
 | none => K t w
 | some m => stepV P ops.toList w0 m K t w
theorem stepI_mono [Esc] {ms : List It} {i : Nat} {K K' : Tm -> World -> Prop} {t : Tm} {w : World} (h : ∀ t w,K t w -> K' t w) (x : stepI P ops w0 ms i K t w) : stepI P ops w0 ms i K' t w := by
 unfold stepI at *
 split
 ·rename_i hm; rw [hm] at x; exact h _ _ x
 ·rename_i m hm; rw [hm] at x; exact stepV_mono h x
def vAny [Esc] (P : Program) (ops : Array Oper) (w0 : World) (ms : List It) (K : Tm -> World -> Prop) : Nat -> Array Bool -> Tm -> World -> Prop
 | 0,listed,t,w => Region.ready .any ops listed = [] /\ K t w
 | fuel + 1,listed,t,w =>
  (Region.ready .any ops listed = [] -> K t w) /\
  ∀ i ∈ Region.ready .any ops listed,stepI P ops w0 ms i (vAny P ops w0 ms K fuel (listed.setIfInBounds i true)) t w
theorem Down.step {listed : Array Bool} {i : Nat} (hD : Down ops listed) (hi : i ∈ Region.ready .any ops listed) : Down ops (listed.setIfInBounds i true) := by
 intro m o hm hl e he hb
 obtain ⟨hu,o',ho',hall⟩ := mem_ready.1 hi
 by_cases hmi : i = m
 ·subst hmi
  rw [hm] at ho'
  cases ho'
  exact getD_set_true (hall e he hb)
 ·rw [getD_set_ne false hmi] at hl
  exact getD_set_true (hD m o hm hl e he hb)
theorem unlisted_false {listed : Array Bool} {i : Nat} (h : listed.getD i true = false) : listed.getD i false ≠ true := by
 intro h'
 rcases Nat.lt_or_ge i listed.size with hl | hl
 ·simp [hl] at h h'; rw [h] at h'; cases h'
 ·simp [Array.getElem?_eq_none hl] at h'
def edgesB (ops : Array Oper) : Bool := (List.range ops.size).all fun i => match ops[i]? with | some o => o.after.toList.all fun e => !Region.binds .any e || Nat.blt e.on i | none => true
def okD (P : Program) (ops : Array Oper) : Bool :=
 let ms := marked P ops.toList
 let B := befores ops.toList
 edgesB ops && Nat.beq ms.length ops.size && (ms.all fun m => flOk P m && okOp P m.1) &&
 (List.range ms.length).all fun i => (match ms[i]? with
  | some m => !stillB P m || ((List.range ms.length).all fun j => Nat.beq i j || bef B i j || bef B j i || (match ms[j]? with | some n => swapB P ops.toList m n | none => true))
  | none => true)
theorem okD_swap (h : okD P ops = true) {i j : Nat} {m n : It} (hm : (marked P ops.toList)[i]? = some m) (hn : (marked P ops.toList)[j]? = some n) (hst : stillB P m = true) (hij : i ≠ j)
  (h1 : bef (befores ops.toList) i j = false) (h2 : bef (befores ops.toList) j i = false) : swapB P ops.toList m n = true := by
 unfold okD at h
 simp only [Bool.and_eq_true] at h
 have hi := (List.getElem?_eq_some_iff.1 hm).1
 have hj := (List.getElem?_eq_some_iff.1 hn).1
 have h3 := List.all_eq_true.1 h.2 i (by simp [hi])
 simp only [hm,hst,Bool.not_true,Bool.false_or] at h3
 have h4 := List.all_eq_true.1 h3 j (by simp [hj])
 simp only [h1,h2,hn,Bool.or_false,Bool.or_eq_true] at h4
 exact h4.resolve_left (fun e => hij (by rw [nbeq] at e; exact e))
theorem stepV_const [Esc] {m : It} {t : Tm} {w : World} {C : Prop} (hst : stillB P m = true) (h : stepV P ops.toList w0 m (fun _ _ => C) t w) : C := by
 unfold stillB at hst
 rw [Bool.or_eq_true] at hst
 unfold stepV at h
 split at h
 ·obtain ⟨_,_,h⟩ := still hst h
  exact h.2
 ·exact h
theorem okD_item (h : okD P ops = true) {i : Nat} {m : It} (hm : (marked P ops.toList)[i]? = some m) : flOk P m = true /\ okOp P m.1 = true := by
 unfold okD at h
 simp only [Bool.and_eq_true] at h
 have := List.all_eq_true.1 h.1.2 m (List.mem_of_getElem? hm)
 simpa using this
theorem stepI_const [Esc] {i : Nat} {t : Tm} {w : World} {C : Prop} (hst : ∀ m,(marked P ops.toList)[i]? = some m -> stillB P m = true) (h : stepI P ops w0 (marked P ops.toList) i (fun _ _ => C) t w) : C := by
 unfold stepI at h
 split at h
 ·exact h
 ·rename_i m hm
  exact stepV_const (hst m hm) h
theorem vAny_first [Esc] (hok : okD P ops = true) {K : Tm -> World -> Prop} {k : Nat} (hst : ∀ m,(marked P ops.toList)[k]? = some m -> stillB P m = true) : ∀ (fuel : Nat) (listed : Array Bool) (t : Tm) (w : World),Down ops listed -> k ∈ Region.ready .any ops listed ->
  stepI P ops w0 (marked P ops.toList) k (vAny P ops w0 (marked P ops.toList) K fuel (listed.setIfInBounds k true)) t w -> vAny P ops w0 (marked P ops.toList) K (fuel + 1) listed t w := by
 have hone : ∀ (fuel : Nat) (listed : Array Bool) (t : Tm) (w : World),Down ops listed -> k ∈ Region.ready .any ops listed -> ∀ j ∈ Region.ready .any ops listed,j ≠ k ->
   ∀ R : Tm -> World -> Prop,stepI P ops w0 (marked P ops.toList) k (stepI P ops w0 (marked P ops.toList) j R) t w -> stepI P ops w0 (marked P ops.toList) j (stepI P ops w0 (marked P ops.toList) k R) t w := by
  intro fuel listed t w hD hk j hj hne R h
  obtain ⟨huk,ok,hok',hallk⟩ := mem_ready.1 hk
  obtain ⟨huj,oj,hoj,hallj⟩ := mem_ready.1 hj
  unfold stepI at h ⊢
  cases hmk : (marked P ops.toList)[k]? with
  | none => rw [hmk] at h; cases hmj : (marked P ops.toList)[j]? <;> rw [hmj] at h <;> simpa [hmj] using h
  | some m =>
   cases hmj : (marked P ops.toList)[j]? with
   | none => rw [hmk] at h; simpa [hmj] using h
   | some n =>
    simp only [hmk,hmj] at h ⊢
    have hb1 : bef (befores ops.toList) k j = false := by
     cases hb : bef (befores ops.toList) k j with
     | false => rfl
     | true => exact absurd (bef_listed hD j oj hoj hallj k hb) (unlisted_false huk)
    have hb2 : bef (befores ops.toList) j k = false := by
     cases hb : bef (befores ops.toList) j k with
     | false => rfl
     | true => exact absurd (bef_listed hD k ok hok' hallk j hb) (unlisted_false huj)
    exact swap (okD_swap hok hmk hmj (hst m hmk) (Ne.symm hne) hb1 hb2) h
 intro fuel
 induction fuel with
 | zero =>
  intro listed t w hD hk H
  refine ⟨fun h => (by rw [h] at hk; cases hk),fun j hj => ?_⟩
  by_cases hjk : j = k
  ·subst hjk; exact H
  ·have hj' := ready_mono (i := k) hj hjk
   exact (stepI_const hst (C := False) (stepI_mono (fun t' w' x => by rw [x.1] at hj'; cases hj') H)).elim
 | succ fuel ih =>
  intro listed t w hD hk H
  refine ⟨fun h => (by rw [h] at hk; cases hk),fun j hj => ?_⟩
  by_cases hjk : j = k
  ·subst hjk; exact H
  ·have h1 := hone fuel listed t w hD hk j hj hjk (vAny P ops w0 (marked P ops.toList) K fuel ((listed.setIfInBounds k true).setIfInBounds j true)) (stepI_mono (fun t' w' x => x.2 j (ready_mono hj hjk)) H)
   refine stepI_mono (fun t' w' x => ih (listed.setIfInBounds j true) t' w' (hD.step hj) (ready_mono hk (Ne.symm hjk)) ?_) h1
   rw [Array.setIfInBounds_comm _ _ hjk]
   exact x
def Agree (ops : Array Oper) (L : Nat) (listed : Array Bool) : Prop := listed.size = ops.size /\ ∀ i,Nat.testBit L i = listed.getD i false
theorem depsOf_bit (o : Oper) (i : Nat) : Nat.testBit (depsOf o) i = true ↔ ∃ e ∈ o.after,Region.binds .any e = true /\ e.on = i := by
 unfold depsOf
 have key : ∀ (l : List Edge) (s : Nat),Nat.testBit (l.foldl (fun s e => match Region.binds .any e with | true => s ||| 2 ^ e.on | false => s) s) i = true ↔ Nat.testBit s i = true \/ ∃ e ∈ l,Region.binds .any e = true /\ e.on = i := by
  intro l
  induction l with
  | nil => intro s; simp
  | cons e l ih =>
   intro s
   rw [List.foldl_cons,ih]
   cases hb : Region.binds .any e with
   | false => simp [hb]
   | true =>
    simp only [Nat.testBit_or,Nat.testBit_two_pow,Bool.or_eq_true,decide_eq_true_eq,List.mem_cons]
    constructor
    ·rintro ((h | h) | ⟨e',he',h⟩)
     ·exact .inl h
     ·exact .inr ⟨e,.inl rfl,hb,h⟩
     ·exact .inr ⟨e',.inr he',h⟩
    ·rintro (h | ⟨e',rfl | he',h⟩)
     ·exact .inl (.inl h)
     ·exact .inl (.inr h.2)
     ·exact .inr ⟨e',he',h⟩
 exact Iff.trans (key o.after.toList 0) (by simp)
theorem land_sub {a L : Nat} : Nat.beq (Nat.land a L) a = true ↔ ∀ i,Nat.testBit a i = true -> Nat.testBit L i = true := by
 rw [nbeq]
 constructor
 ·intro h i hi
  have : Nat.testBit (a &&& L) i = true := by show Nat.testBit (Nat.land a L) i = true; rw [h]; exact hi
  rw [Nat.testBit_and] at this
  simp only [Bool.and_eq_true] at this
  exact this.2
 ·intro h
  apply Nat.eq_of_testBit_eq
  intro i
  show Nat.testBit (a &&& L) i = _
  rw [Nat.testBit_and]
  cases ha : Nat.testBit a i with
  | false => simp
  | true => simp [h i ha]
theorem readyB_iff {L : Nat} {listed : Array Bool} (hA : Agree ops L listed) {i : Nat} {o : Oper} (ho : ops[i]? = some o) (b : Bool) : readyB L (i,depsOf o,b) = true ↔ i ∈ Region.ready .any ops listed := by
 have hi := (Array.getElem?_eq_some_iff.1 ho).1
 rw [mem_ready]
 unfold readyB
 simp only [Bool.and_eq_true,Bool.not_eq_true',land_sub]
 have hsz : i < listed.size := by rw [hA.1]; exact hi
 have e1 : listed.getD i true = listed.getD i false := by simp [hsz]
 rw [hA.2 i,e1]
 refine and_congr Iff.rfl ⟨fun h => ⟨o,ho,fun e he hb => ?_⟩,fun ⟨o',ho',h⟩ j hj => ?_⟩
 ·rw [← hA.2]; exact h _ ((depsOf_bit o e.on).2 ⟨e,he,hb,rfl⟩)
 ·rw [ho] at ho'
  cases ho'
  obtain ⟨e,he,hb,rfl⟩ := (depsOf_bit o j).1 hj
  rw [hA.2]; exact h e he hb
theorem Agree.step {L : Nat} {listed : Array Bool} (hA : Agree ops L listed) {i : Nat} (hi : i < ops.size) : Agree ops (L ||| 2 ^ i) (listed.setIfInBounds i true) := by
 refine ⟨by simp [hA.1],fun j => ?_⟩
 rw [Nat.testBit_or,Nat.testBit_two_pow]
 by_cases hij : i = j
 ·subst hij
  have : i < listed.size := by rw [hA.1]; exact hi
  simp [this]
 ·rw [getD_set_ne false hij,← hA.2 j]
  simp [hij]
theorem firstStill_spec {L i : Nat} : ∀ {D : List (Nat × Nat × Bool)},firstStill L D = some i -> ∃ d ∈ D,d.1 = i /\ d.2.2 = true /\ readyB L d = true
 | [],h => by cases h
 | d :: r,h => by
  unfold firstStill at h
  split at h
  ·rename_i hd
   simp only [Bool.and_eq_true] at hd
   cases h
   exact ⟨d,List.mem_cons_self,rfl,hd.1,hd.2⟩
  ·obtain ⟨d',hd',h⟩ := firstStill_spec h
   exact ⟨d',List.mem_cons_of_mem _ hd',h⟩
theorem allReady_mem {L i : Nat} : ∀ {D : List (Nat × Nat × Bool)},i ∈ allReady L D ↔ ∃ d ∈ D,d.1 = i /\ readyB L d = true
 | [] => by simp [allReady]
 | d :: r => by
  unfold allReady
  split
  ·rename_i hd
   rw [List.mem_cons,allReady_mem]
   constructor
   ·rintro (rfl | ⟨d',hd',h⟩)
    ·exact ⟨d,List.mem_cons_self,rfl,hd⟩
    ·exact ⟨d',List.mem_cons_of_mem _ hd',h⟩
   ·rintro ⟨d',hd',h1,h2⟩
    rcases List.mem_cons.1 hd' with rfl | hd'
    ·exact .inl h1.symm
    ·exact .inr ⟨d',hd',h1,h2⟩
  ·rename_i hd
   rw [allReady_mem]
   constructor
   ·rintro ⟨d',hd',h⟩; exact ⟨d',List.mem_cons_of_mem _ hd',h⟩
   ·rintro ⟨d',hd',h1,h2⟩
    rcases List.mem_cons.1 hd' with rfl | hd'
    ·rw [h2] at hd; cases hd
    ·exact ⟨d',hd',h1,h2⟩
theorem andAll_iff {f : Nat -> Prop} : ∀ {l : List Nat},andAll f l ↔ ∀ i ∈ l,f i
 | [] => by simp [andAll]
 | [a] => by simp [andAll]
 | a :: b :: r => by
  unfold andAll
  rw [andAll_iff]
  simp
theorem dlist_mem {d : Nat × Nat × Bool} (h : d ∈ dlist P (marked P ops.toList)) : ∃ m,(marked P ops.toList)[d.1]? = some m /\ d.2.1 = depsOf m.1 /\ d.2.2 = stillB P m := by
 unfold dlist at h
 obtain ⟨k,hk⟩ := List.mem_iff_getElem?.1 h
 rw [List.getElem?_zip_eq_some] at hk
 obtain ⟨h1,h2⟩ := hk
 rw [List.getElem?_range (by have := (List.getElem?_eq_some_iff.1 h1).1; simpa using this)] at h1
 simp only [Option.some.injEq] at h1
 subst h1
 rw [List.getElem?_map] at h2
 obtain ⟨m,hm,he⟩ := Option.map_eq_some_iff.1 h2
 exact ⟨m,hm,by rw [← he],by rw [← he]⟩
theorem mem_dlist {i : Nat} {m : It} (h : (marked P ops.toList)[i]? = some m) : (i,depsOf m.1,stillB P m) ∈ dlist P (marked P ops.toList) := by
 unfold dlist
 rw [List.mem_iff_getElem?]
 have hi := (List.getElem?_eq_some_iff.1 h).1
 exact ⟨i,by rw [List.getElem?_zip_eq_some]; exact ⟨by rw [List.getElem?_range hi],by rw [List.getElem?_map,h]; rfl⟩⟩
theorem marked_op {i : Nat} {m : It} (h : (marked P ops.toList)[i]? = some m) : ops[i]? = some m.1 := by
 unfold marked at h
 rw [List.getElem?_zip_eq_some] at h
 simpa using h.1
theorem vAny_tree [Esc] (hok : okD P ops = true) {K : Tm -> World -> Prop} : ∀ (n L : Nat) (listed : Array Bool) (t : Tm) (w : World),Agree ops L listed -> Down ops listed ->
  vcT P ops.toList w0 (marked P ops.toList) (dlist P (marked P ops.toList)) K n L t w -> vAny P ops w0 (marked P ops.toList) K n listed t w := by
 have hlen : (marked P ops.toList).length = ops.size := by
  have h := hok
  unfold okD at h
  simp only [Bool.and_eq_true] at h
  have := h.1.1.2
  rwa [nbeq] at this
 have hready : ∀ {L : Nat} {listed : Array Bool},Agree ops L listed -> ∀ i,i ∈ Region.ready .any ops listed ↔ i ∈ allReady L (dlist P (marked P ops.toList)) := by
  intro L listed hA i
  rw [allReady_mem]
  constructor
  ·intro h
   obtain ⟨_,o,ho,_⟩ := mem_ready.1 h
   have hi := (Array.getElem?_eq_some_iff.1 ho).1
   obtain ⟨m,hm⟩ : ∃ m,(marked P ops.toList)[i]? = some m := ⟨_,List.getElem?_eq_getElem (by omega)⟩
   exact ⟨_,mem_dlist hm,rfl,(readyB_iff hA (marked_op hm) _).2 h⟩
  ·rintro ⟨d,hd,rfl,h⟩
   obtain ⟨m,hm,e1,_⟩ := dlist_mem hd
   obtain ⟨d1,d2,d3⟩ := d
   simp only at e1
   subst e1
   exact (readyB_iff hA (marked_op hm) _).1 h
 have hnil : ∀ {L : Nat} {listed : Array Bool},Agree ops L listed -> allReady L (dlist P (marked P ops.toList)) = [] -> Region.ready .any ops listed = [] := by
  intro L listed hA h
  cases hr : Region.ready .any ops listed with
  | nil => rfl
  | cons x xs =>
   have := (hready hA x).1 (by rw [hr]; exact List.mem_cons_self)
   rw [h] at this
   cases this
 intro n
 induction n with
 | zero =>
  intro L listed t w hA hD h
  unfold vcT at h
  split at h
  ·rename_i hr
   exact ⟨hnil hA hr,h⟩
  ·exact h.elim
 | succ n ih =>
  intro L listed t w hA hD h
  have step : ∀ i,i ∈ Region.ready .any ops listed -> stepAt P ops.toList w0 (marked P ops.toList) i t w (vcT P ops.toList w0 (marked P ops.toList) (dlist P (marked P ops.toList)) K n (L ||| 2 ^ i)) ->
    stepI P ops w0 (marked P ops.toList) i (vAny P ops w0 (marked P ops.toList) K n (listed.setIfInBounds i true)) t w := by
   intro i hi h
   obtain ⟨_,o,ho,_⟩ := mem_ready.1 hi
   have hlt := (Array.getElem?_eq_some_iff.1 ho).1
   unfold stepAt at h
   unfold stepI
   split at h
   ·exact h.elim
   ·rename_i m hm
    rw [hm]
    exact stepV_mono (fun t' w' x => ih _ _ t' w' (hA.step hlt) (hD.step hi) x) (stepD_stepV h)
  unfold vcT at h
  split at h
  ·rename_i i hf
   obtain ⟨d,hd,rfl,hst,hr⟩ := firstStill_spec hf
   have hi := (hready hA d.1).2 (allReady_mem.2 ⟨d,hd,rfl,hr⟩)
   obtain ⟨m,hm,-,e2⟩ := dlist_mem hd
   exact vAny_first hok (fun m' hm' => by rw [hm] at hm'; cases hm'; rw [← e2]; exact hst) n listed t w hD hi (step _ hi h)
  ·split at h
   ·rename_i hr
    refine ⟨fun _ => h,fun i hi => ?_⟩
    rw [hnil hA hr] at hi
    cases hi
   ·rename_i hl
    refine ⟨fun h0 => ?_,fun i hi => ?_⟩
    ·exfalso
     cases hx : allReady L (dlist P (marked P ops.toList)) with
     | nil => exact hl hx
     | cons x xs =>
      have := (hready hA x).2 (by rw [hx]; exact List.mem_cons_self)
      rw [h0] at this
      cases this
    ·exact step i hi (andAll_iff.1 h i ((hready hA i).1 hi))
structure Fm where
 n : Nat
 S : List Nat
 σ : Nat -> Value
instance : Coe Nat Fm := ⟨fun n => ⟨n,[],fun _ => undef⟩⟩
def Fm.ok (N : Fm) (d : Nat) : Bool := Nat.blt d N.n && N.S.all fun i => !Nat.beq i d
theorem Fm.lt {N : Fm} {d : Nat} (h : N.ok d = true) : d < N.n := by
 unfold Fm.ok at h
 rw [Bool.and_eq_true,Nat.blt_eq] at h
 exact h.1
theorem Fm.ne {N : Fm} {d : Nat} (h : N.ok d = true) {i : Nat} (hi : i ∈ N.S) : i ≠ d := by
 unfold Fm.ok at h
 rw [Bool.and_eq_true] at h
 have := List.all_eq_true.1 h.2 i hi
 intro e
 rw [show Nat.beq i d = true by rw [nbeq]; exact e] at this
 cases this
def Mt (N : Fm) (ds : List Deferred) (a : Act) (t : Tm) : Prop := a.tmps.size = N.n /\ a.defers = ds /\ (∀ i,a.tmps.getD i undef = t i) /\ ∀ i ∈ N.S,t i = N.σ i
theorem Mt.free {N : Fm} {ds : List Deferred} {a : Act} {t : Tm} (h : Mt N ds a t) : Mt N.n ds a t := ⟨h.1,h.2.1,h.2.2.1,fun i hi => by cases hi⟩
theorem Mt.eval {N : Fm} {ds : List Deferred} {a : Act} {t : Tm} (h : Mt N ds a t) : a.eval = ev t := by
 funext x
 cases x with
 | tmp i => exact h.2.2.1 i
 | _ => rfl
theorem Mt.put {N : Fm} {ds : List Deferred} {a : Act} {t : Tm} (h : Mt N ds a t) {d : Option Nat} (hd : ∀ i,d = some i -> N.ok i = true) (v : Value) : Mt N ds (a.put d v) (putO t d v) := by
 cases d with
 | none => exact h
 | some i =>
  obtain ⟨h1,h2,h3,h4⟩ := h
  have hk := hd i rfl
  have hi := Fm.lt hk
  refine ⟨by simp [Act.put,h1],h2,fun j => ?_,fun j hj => ?_⟩
  ·show (a.tmps.setIfInBounds i v).getD j undef = upd t i v j
   by_cases hj : j = i
   ·subst hj; rw [upd_eq]; simp [h1,hi]
   ·rw [upd_ne v hj,← h3 j]; simp [Array.getElem?_setIfInBounds_ne (Ne.symm hj)]
  ·show upd t i v j = N.σ j
   rw [upd_ne v (Fm.ne hk hj)]; exact h4 j hj
theorem Mt.yielded {N : Fm} {ds : List Deferred} {a : Act} {t : Tm} (h : Mt N ds a t) (o : Oper) : Region.wanted o (yielded ops a.tmps) = wantT (guardOf ops.toList o) t := by
 unfold Region.wanted guardOf wantT
 cases hg : o.guard with
 | none => rfl
 | some g =>
  obtain ⟨j,b⟩ := g
  simp only [Option.map_some]
  unfold Go.yielded guardTmp
  have hl : ops.toList[j]? = ops[j]? := by simp
  rw [hl]
  cases hj : ops[j]? with
  | none => cases b <;> rfl
  | some p =>
   simp only [Option.bind_some]
   cases hd : p.dst with
   | none => cases b <;> rfl
   | some i =>
    simp only [Option.bind_some]
    have h3 := h.2.2.1 i
    rw [Array.getD_eq_getD_getElem?] at h3
    cases ht : a.tmps[i]? with
    | none =>
     rw [ht] at h3
     rw [← h3]
     cases b <;> rfl
    | some v =>
     rw [ht] at h3
     simp only [Option.getD_some] at h3
     rw [← h3]
     cases v <;> first | rfl | (rename_i c; cases c <;> cases b <;> rfl)
def Inv (ms : List It) (w0 : World) (listed : Array Bool) (w : World) : Prop := (∃ j m,ms[j]? = some m /\ m.2.1 = true /\ listed.getD j true = false) -> Pres w0 w
theorem Pres.refl (w : World) : Pres w w := ⟨Nat.le_refl _,fun _ _ h => h,fun _ _ _ h => h⟩
theorem Pres.trans {a b c : World} (h : Pres a b) (k : Pres b c) : Pres a c := ⟨Nat.le_trans h.size k.size,fun x v e => k.cell x v (h.cell x v e),fun r es c e => k.map r es c (h.map r es c e)⟩
theorem ldL_pres {w w' : World} (h : Pres w w') {a : Addr} : ∀ {ks : List Kd} {i : Nat} {A : List Value -> Prop},ldL w a ks i A -> ldL w' a ks i A
 | [],_,_,x => x
 | _ :: _,_,_,x => exK_mono (fun _ y => ⟨h.cell _ _ y.1,ldL_pres h y.2⟩) x
theorem ldX_pres {w w' : World} (h : Pres w w') {x : Kx} {a : Addr} {A : Value -> Prop} (y : ldX x a w A) : ldX x a w' A := by
 cases x with
 | one k =>
  have y : exK k fun v => w.cell? a = some v /\ A v := y
  exact exK_mono (B := fun v => w'.cell? a = some v /\ A v) (fun v z => ⟨h.cell _ _ z.1,z.2⟩) y
 | agg ks => exact ldL_pres h y
theorem lookF_pres {w w' : World} (h : Pres w w') {k e : TypeId} {x ix v : Value} {b : Bool} (y : lookF P k e x ix b w = some v) : lookF P k e x ix b w' = some v := by
 unfold lookF at y ⊢
 cases x with
 | map m =>
  cases m with
  | none => exact y
  | some r =>
   simp only at y ⊢
   cases hr : w.heap[r]? with
   | none => rw [hr] at y; cases y
   | some o =>
    rw [hr] at y
    cases o with
    | map es c => rw [h.map r es c hr]; exact y
    | _ => cases y
 | _ => cases y
theorem vcOp_pres [Esc] {o : Oper} {ρ : Operand -> Value} {wr wr' w : World} {K : Value -> World -> Prop} (hp : Pres wr wr') (hr : isRead P o.op = true) (h : vcOp P o ρ wr w K) : vcOp P o ρ wr' w K := by
 obtain ⟨dst,op,ty,pos,after,guard⟩ := o
 unfold vcOp at h ⊢
 cases op
 case load t x =>
  simp only at h ⊢
  split at h
  ·split at h
   ·rename_i hi
    try simp only [hi]
    split at h
    ·rename_i hs
     try simp only [hs]
     exact ldX_pres hp h
    ·exact h.elim
   ·exact h.elim
  ·exact h.elim
 case lookup t x ix b =>
  simp only at h ⊢
  split at h
  ·rename_i hk
   try simp only [hk]
   exact exY_mono (fun _ y => ⟨lookF_pres hp y.1,y.2⟩) h
  ·rename_i hk
   simp [isRead,hk] at hr
 all_goals simp [isRead] at hr
theorem marked_at {i : Nat} {m : It} (h : (marked P ops.toList)[i]? = some m) : ops[i]? = some m.1 /\ (floats P ops.toList)[i]? = some m.2.1 /\ (keeps P ops.toList)[i]? = some m.2.2 := by
 unfold marked at h
 rw [List.getElem?_zip_eq_some] at h
 obtain ⟨h1,h2⟩ := h
 rw [List.getElem?_zip_eq_some] at h2
 exact ⟨by simpa using h1,h2⟩
theorem idx_at {l : List Oper} {i : Nat} {p : Nat × Oper} (h : (idx l)[i]? = some p) : p.1 = i /\ l[i]? = some p.2 := by
 unfold idx at h
 rw [List.getElem?_zip_eq_some] at h
 obtain ⟨h1,h2⟩ := h
 rw [List.getElem?_range (by have := (List.getElem?_eq_some_iff.1 h1).1; simpa using this)] at h1
 exact ⟨by simpa using h1.symm,h2⟩
theorem keeps_spec {i j : Nat} {m n : It} (hm : (marked P ops.toList)[i]? = some m) (hn : (marked P ops.toList)[j]? = some n) (hf : n.2.1 = true) (hb : bef (befores ops.toList) j i = false)
  (hp : pureIn P m.1 = false) (hr : isRead P m.1.op = false) : m.2.2 = true := by
 obtain ⟨h1,h2,h3⟩ := marked_at hm
 obtain ⟨_,k2,_⟩ := marked_at hn
 unfold keeps at h3
 simp only at h3
 rw [List.getElem?_map] at h3
 obtain ⟨p,hp',he⟩ := Option.map_eq_some_iff.1 h3
 obtain ⟨hi,hl⟩ := idx_at hp'
 have : p.2 = m.1 := by
   have hx : ops.toList[i]? = some m.1 := by simpa using h1
   rw [hx] at hl; exact (Option.some.inj hl).symm
 rw [← he,this,hi,hp,hr]
 simp only [Bool.not_false,Bool.true_and,List.any_eq_true]
 refine ⟨(true,j),?_,by simp [hb]⟩
 rw [List.mem_iff_getElem?]
 exact ⟨j,by rw [List.getElem?_zipIdx,k2,hf]; simp⟩
theorem wpAny_of_vAny [Esc] {N : Fm} {ds : List Deferred} {r : Option Nat} (hok : okD P ops = true) (hd : ∀ (i : Nat) (o : Oper),ops[i]? = some o -> ∀ d,o.dst = some d -> N.ok d = true) {K : Tm -> World -> Prop} {Q : Exit -> Act -> World -> Prop} (hp : ∀ a t w ch,Mt N ds a t -> Esc.E ch w -> Q (.panic ch) a w) (hQ : ∀ a t w,Mt N ds a t -> K t w -> Q .normal a w) :
  ∀ (fuel : Nat) (listed : Array Bool) (t : Tm) (a : Act) (w : World),Mt N ds a t -> Down ops listed -> Inv (marked P ops.toList) w0 listed w ->
  vAny P ops w0 (marked P ops.toList) K fuel listed t w -> wpAnyIn (fw r) 0 P .any ops Q fuel listed a w
 | 0,listed,t,a,w,hM,_,_,h => ⟨h.1,hQ a t w hM h.2⟩
 | fuel + 1,listed,t,a,w,hM,hD,hI,h => by
  refine ⟨fun h0 => hQ a t w hM (h.1 h0),fun i hi => ?_⟩
  have hs := h.2 i hi
  obtain ⟨hu,o,ho,hall⟩ := mem_ready.1 hi
  have hlen : (marked P ops.toList).length = ops.size := by
   unfold okD at hok
   simp only [Bool.and_eq_true] at hok
   have := hok.1.1.2
   rwa [nbeq] at this
  have hi' : i < ops.size := (Array.getElem?_eq_some_iff.1 ho).1
  obtain ⟨m,hm⟩ : ∃ m,(marked P ops.toList)[i]? = some m := ⟨_,List.getElem?_eq_getElem (by omega)⟩
  obtain ⟨h1,-,-⟩ := marked_at hm
  rw [ho] at h1
  cases h1
  obtain ⟨hfl,hokm⟩ := okD_item hok hm
  unfold stepI at hs
  rw [hm] at hs
  have hs : stepV P ops.toList w0 m (vAny P ops w0 (marked P ops.toList) K fuel (listed.setIfInBounds i true)) t w := hs
  have hD' := hD.step hi
  have next : ∀ (v : Value) (w' : World),Inv (marked P ops.toList) w0 (listed.setIfInBounds i true) w' -> vAny P ops w0 (marked P ops.toList) K fuel (listed.setIfInBounds i true) (putO t m.1.dst v) w' ->
    wpAnyIn (fw r) 0 P .any ops Q fuel (listed.setIfInBounds i true) (a.put m.1.dst v) w' := fun v w' hI' x =>
   wpAny_of_vAny hok hd hp hQ fuel _ _ _ _ (hM.put (hd i m.1 ho) v) hD' hI' x
  have inv_same : Inv (marked P ops.toList) w0 (listed.setIfInBounds i true) w := fun ⟨j,n,hn,hf,hl⟩ => hI ⟨j,n,hn,hf,by
   by_cases hij : i = j
   ·subst hij
    have : (listed.setIfInBounds i true).getD i true = true := by
     by_cases hsz : i < listed.size
     ·simp [hsz]
     ·simp [hsz]
    rw [this] at hl
    cases hl
   ·rwa [getD_set_ne true hij] at hl⟩
  unfold wpOpIn
  simp only [ho]
  unfold stepV at hs
  rw [hM.yielded]
  split
  ·rename_i hw
   rw [if_pos hw] at hs
   by_cases hst : pureIn P m.1 = true \/ isRead P m.1.op = true
   ·obtain ⟨v,hv,-,hx⟩ := still hst hs
    have hv' : vcOp P m.1 (ev t) w w (Eqs v w) := by
     by_cases hf : m.2.1 = true
     ·unfold flOk at hfl
      simp only [hf,Bool.not_true,Bool.false_or,Bool.and_eq_true] at hfl
      have := hv w
      rw [if_pos hf] at this
      exact vcOp_pres (hI ⟨i,m,hm,hf,hu⟩) hfl.1 this
     ·have := hv w
      rwa [if_neg hf] at this
    have := ok_vcOp (fun _ => rfl) hokm hv'
    rw [← hM.eval] at this
    exact this.wp (vcOp_nodefer hv') (fun ch w' he => hp a t w' ch hM he) fun u w' e => by
     obtain ⟨rfl,rfl⟩ := e
     exact next _ _ inv_same hx
   ·have hst' : pureIn P m.1 = false /\ isRead P m.1.op = false := by
     constructor
     ·cases hb : pureIn P m.1 with
      | false => rfl
      | true => exact absurd (.inl hb) hst
     ·cases hb : isRead P m.1.op with
      | false => rfl
      | true => exact absurd (.inr hb) hst
    have hf : m.2.1 = false := by
     cases hb : m.2.1 with
     | false => rfl
     | true =>
      unfold flOk at hfl
      simp [hb,hst'.2] at hfl
    rw [hf] at hs
    simp only [Bool.false_eq_true,if_false] at hs
    have := ok_vcOp (fun _ => rfl) hokm hs
    rw [← hM.eval] at this
    refine this.wp (vcOp_nodefer hs) (fun ch w' he => hp a t w' ch hM he) fun u w' e => next _ _ ?_ e.2
    intro hex
    have h0 := inv_same hex
    obtain ⟨j,n,hn,hfn,hl⟩ := hex
    refine e.1 (keeps_spec hm hn hfn ?_ hst'.1 hst'.2)
    cases hb : bef (befores ops.toList) j i with
    | false => rfl
    | true =>
     have hjl := bef_listed hD i m.1 ho hall j hb
     have : (listed.setIfInBounds i true).getD j false = true := getD_set_true hjl
     exact absurd this (unlisted_false hl)
  ·rename_i hw
   rw [if_neg hw] at hs
   exact ⟨fun _ _ => trivial,next _ _ inv_same hs⟩
end
end Go.Sh
