/- Own text: part of the shallow reading of the code and of the contracts that are proved over it. -/
import Derived.Test.YtilenpnpnbdndaaGreatDoorShS
import Derived.Laws.OwnMore
import Derived.Test.YtilenpnpnbdndaaGreatDoorShI
namespace Go.Sh
open Go
def bk : Option Addr -> List Nat
 | none => []
 | some ad => [ad.block]
theorem mem_bk {a : Option Addr} {k : Nat} : k ∈ bk a ↔ inB a k := by
 cases a with
 | none => simp [bk,inB]
 | some ad => simp [bk,inB]; exact eq_comm
def Dm (A : HP) (f : List Nat) : Prop := ∀ x,A x -> f.Nodup /\ ∀ k,x k ≠ none ↔ k ∈ f
def Bu (w : World) (A : HP) : Prop := ∃ x,A x /\ ag x w
section
variable {W w : World} {A B : HP} {L : List HP} {f g : List Nat}
theorem Dm.pt (b : Nat) (o : Obj) : Dm (pt b o) [b] := by
 rintro _ rfl
 refine ⟨by simp,fun k => ?_⟩
 by_cases h : k = b <;> simp [h]
theorem Dm.sl {e : TypeId} {s l c : Nat} {a : Option Addr} {xs : List Value} : Dm (slP e s a l c xs) (bk a) := fun x hx => ⟨by cases a <;> simp [bk],fun k => by rw [mem_bk]; exact inB_of hx k⟩
theorem Dm.emp : Dm emp [] := by
 rintro _ rfl
 exact ⟨by simp,fun k => by simp⟩
theorem Dm.star (hA : Dm A f) (hB : Dm B g) : Dm (star A B) (f ++ g) := by
 rintro _ ⟨x,y,hx,hy,d,rfl⟩
 obtain ⟨n1,m1⟩ := hA x hx
 obtain ⟨n2,m2⟩ := hB y hy
 refine ⟨List.nodup_append.2 ⟨n1,n2,fun a ha b hb e => ?_⟩,fun k => ?_⟩
 ·subst e
  rcases d a with d | d
  ·exact (m1 a).2 ha d
  ·exact (m2 a).2 hb d
 ·rw [List.mem_append,← m1,← m2,Ne,hun_none,Classical.not_and_iff_not_or_not]
theorem Dm.cons (hA : Dm A f) (hB : Dm (bigS L) g) : Dm (bigS (A :: L)) (f ++ g) := Dm.star hA hB
theorem Dm.pr {p : Prop} (h : p -> Dm A f) : Dm (pr p A) f := fun x hx => h hx.1 x hx.2
theorem Bu.pt {b : Nat} {o : Obj} (h : w.heap[b]? = some o) : Bu w (pt b o) := ⟨_,rfl,fun k o' e => by
 by_cases hk : k = b
 ·subst hk; simp at e; subst e; exact h
 ·simp [hk] at e⟩
theorem Bu.sl {e : TypeId} {s l c B : Nat} {a : Option Addr} {xs : List Value} (h : Own w B e s a l c xs) : Bu w (slP e s a l c xs) := own_to h
theorem Bu.emp : Bu w emp := ⟨_,rfl,fun _ _ e => by simp at e⟩
theorem Bu.star (h1 : Bu w A) (h2 : Bu w B) (d1 : Dm A f) (d2 : Dm B g) (hn : (f ++ g).Nodup) : Bu w (star A B) := by
 obtain ⟨x,hx,ax⟩ := h1
 obtain ⟨y,hy,ay⟩ := h2
 refine ⟨hun x y,⟨x,y,hx,hy,fun k => ?_,rfl⟩,fun k o e => ?_⟩
 ·rcases Classical.em (x k = none) with h | h
  ·exact .inl h
  ·rcases Classical.em (y k = none) with h' | h'
   ·exact .inr h'
   ·exact absurd rfl ((List.nodup_append.1 hn).2.2 k (((d1 x hx).2 k).1 h) k (((d2 y hy).2 k).1 h'))
 ·unfold hun at e
  cases e' : x k with
  | some o' => rw [e'] at e; cases e; exact ax k _ e'
  | none => rw [e'] at e; exact ay k o (by simpa using e)
theorem Bu.cons (h1 : Bu w A) (h2 : Bu w (bigS L)) (d1 : Dm A f) (d2 : Dm (bigS L) g) (hn : (f ++ g).Nodup) : Bu w (bigS (A :: L)) := Bu.star h1 h2 d1 d2 hn
theorem Bu.pr {p : Prop} (hp : p) (h : Bu w A) : Bu w (pr p A) := by
 obtain ⟨x,hx,ax⟩ := h
 exact ⟨x,⟨hp,hx⟩,ax⟩
theorem piece {x : Hl} (h : bigS L x) (a : ag x w) {i : Nat} (hi : L[i]? = some A) : ∃ y,A y /\ ag y w /\ ∀ k,y k ≠ none -> x k ≠ none := by
 rw [bigS_focus hi] at h
 obtain ⟨y,z,hy,hz,d,rfl⟩ := h
 exact ⟨y,hy,fun k o e => a k o (by unfold hun; rw [e]; rfl),fun k e u => e (hun_none.1 u).1⟩
theorem Hs.apart (h : Hs W L w) {i j : Nat} (hij : i ≠ j) (hi : L[i]? = some A) (hj : L[j]? = some B) (d1 : Dm A f) (d2 : Dm B g) : ∀ k ∈ f,k ∉ g := by
 have h1 := h.focus hi
 have hj' : ∃ j' : Nat,(L.eraseIdx i)[j']? = some B := by
  rcases Nat.lt_or_ge j i with hl | hl
  ·exact ⟨j,by rw [List.getElem?_eraseIdx,if_pos hl]; exact hj⟩
  ·exact ⟨j - 1,by rw [List.getElem?_eraseIdx,if_neg (by omega),show j - 1 + 1 = j by omega]; exact hj⟩
 obtain ⟨j',hj'⟩ := hj'
 obtain ⟨_,x,⟨y,z,hy,hz,d,rfl⟩,_,_⟩ := h1
 rw [bigS_focus hj'] at hz
 obtain ⟨u,v,hu,hv,d',rfl⟩ := hz
 intro k hk hk'
 have e1 := ((d1 y hy).2 k).2 hk
 have e2 := ((d2 u hu).2 k).2 hk'
 rcases d k with d | d
 ·exact e1 d
 ·exact e2 (hun_none.1 d).1
theorem Hs.ne (h : Hs W L w) (i j : Nat) {b b' : Nat} {o o' : Obj} (hi : L[i]? = some (Sh.pt b o)) (hj : L[j]? = some (Sh.pt b' o')) (hij : i ≠ j := by decide) : b ≠ b' := fun e => h.apart hij hi hj (Dm.pt b o) (Dm.pt b' o') b (by simp) (by simp [e])
theorem Hs.mem {_ : Hl} (h : Hs W L w) (hm : A ∈ L) : ∃ x,A x /\ ag x w /\ ∀ k,x k ≠ none -> W.heap.size <= k := by
 obtain ⟨i,hi⟩ := List.getElem?_of_mem hm
 exact h.look hi
theorem Hs.rdm {e : TypeId} {s l c : Nat} {a : Option Addr} {xs : List Value} (h : Hs W L w) (hm : slP e s a l c xs ∈ L) : Rd w a xs := by
 obtain ⟨i,hi⟩ := List.getElem?_of_mem hm
 exact h.rd i hi
theorem Hs.build {w' : World} (h : Hs W L w) (hs : Same w w') (hb : Bu w' A) (hd : Dm A f) (hn : ∀ k ∈ f,w.heap.size <= k) : Hs W (A :: L) w' := by
 obtain ⟨x,hx,ax⟩ := hb
 exact h.new hs hx ax fun k hk => hn k (((hd x hx).2 k).1 hk)
end
end Go.Sh
namespace Go.Sh
open Go
section
variable {α β : Type} {f : α -> List β} {m : Nat}
theorem flat_length (hf : ∀ a,(f a).length = m) (l : List α) : (l.flatMap f).length = l.length * m := by
 induction l with
 | nil => simp
 | cons a l ih => rw [List.flatMap_cons,List.length_append,hf,ih,List.length_cons,Nat.add_mul,Nat.one_mul,Nat.add_comm]
theorem flat_get (hf : ∀ a,(f a).length = m) {l : List α} {i j : Nat} {a : α} (h : l[i]? = some a) (hj : j < m) : (l.flatMap f)[i * m + j]? = (f a)[j]? := by
 induction l generalizing i with
 | nil => simp at h
 | cons b l ih =>
  rw [List.flatMap_cons]
  cases i with
  | zero =>
   simp at h; subst h
   rw [Nat.zero_mul,Nat.zero_add,List.getElem?_append_left (by rw [hf]; exact hj)]
  | succ i =>
   rw [List.getElem?_append_right (by rw [hf,Nat.add_mul]; omega),← ih (by simpa using h)]
   congr 1
   rw [hf,Nat.add_mul]; omega
theorem flat_at (hf : ∀ a,(f a).length = m) {l : List α} {i j : Nat} {a : α} {v : β} (h : l[i]? = some a) (hv : (f a)[j]? = some v) : (l.flatMap f)[i * m + j]? = some v := by
 rw [flat_get hf h,hv]
 have := (List.getElem?_eq_some_iff.1 hv).1
 rwa [hf] at this
end
theorem split_of {α : Type} {l : List α} {k : Nat} {d : α} (h : l[k]? = some d) : l = l.take k ++ d :: l.drop (k + 1) := by
 have hk := (List.getElem?_eq_some_iff.1 h).1
 have e := (List.getElem?_eq_some_iff.1 h).2
 have h1 := List.take_append_drop k l
 rw [List.drop_eq_getElem_cons hk,e] at h1
 exact h1.symm
theorem perm_out {α : Type} {l : List α} {i : Nat} {x : α} (h : l[i]? = some x) : l.Perm (x :: l.eraseIdx i) := by
 rw [List.eraseIdx_eq_take_drop_succ]
 exact (List.Perm.of_eq (split_of h)).trans List.perm_middle
theorem set_id {α : Type} {l : List α} {k : Nat} {d : α} (h : l[k]? = some d) : l.set k d = l := by
 have hk := (List.getElem?_eq_some_iff.1 h).1
 rw [List.set_eq_take_append_cons_drop,if_pos hk]
 exact (split_of h).symm
theorem Pres.of_Same {w w' : World} (h : Same w w') : Pres w w' :=
 ⟨h.size,fun a v hv => by rw [← hv]; exact World.cell?_of_block (h.block _ (World.block_lt_of_cell? w a hv) fun x => x),fun r es c hr => h.blk hr fun x => x⟩
section
variable {W w : World} {A B C D : HP} {L M : List HP}
theorem Hs.part {α : Type} {F : α -> HP} {l : List α} {i : Nat} {x : α} (hi : l[i]? = some x) (h : Hs W (M ++ l.map F) w) : Hs W (F x :: (M ++ (l.map F).eraseIdx i)) w := by
 have hpm := perm_out (l := l.map F) (i := i) (x := F x) (by simp [hi])
 exact h.perm ((List.Perm.append_left M hpm).trans List.perm_middle)
theorem Hs.behind (h : Hs W (A :: (L ++ M)) w) : Hs W (L ++ A :: M) w := h.perm List.perm_middle.symm
variable {P : Program} {t ty e : TypeId} {size bytes : Nat} {z : Value} {inf : TypeInfo} {a : Option Addr} {l c : Nat} {xs : List Value}
end
end Go.Sh
namespace Go.Sh
open Go
def lone (w : World) (b : Nat) (o : Obj) : World := { w with heap := (Array.replicate b (.cells #[] 0 (0,0))).push o }
theorem lone_at (w : World) (b : Nat) (o : Obj) : (lone w b o).heap[b]? = some o := by
 show ((Array.replicate b (Obj.cells #[] 0 (0,0))).push o)[b]? = some o
 rw [Array.getElem?_push]
 simp
theorem lone_other {w : World} {b k : Nat} {o o' : Obj} (h : (lone w b o).heap[k]? = some o') (hk : k ≠ b) : o' = .cells #[] 0 (0,0) := by
 have : ((Array.replicate b (Obj.cells #[] 0 (0,0))).push o)[k]? = some o' := h
 rw [Array.getElem?_push] at this
 have hs : (Array.replicate b (Obj.cells #[] 0 (0,0))).size = b := by simp
 rw [hs,if_neg hk] at this
 rw [Array.getElem?_replicate] at this
 split at this
 ·cases this; rfl
 ·cases this
theorem Pres.lone {w w' : World} {b : Nat} {o : Obj} (h : w'.heap[b]? = some o) : Pres (Sh.lone w b o) w' := by
 have hlt := lt_of_blk h
 refine ⟨?_,fun a v e => ?_,fun r es c e => ?_⟩
 ·show ((Array.replicate b (Obj.cells #[] 0 (0,0))).push o).size <= _
  simp; omega
 ·by_cases ha : a.block = b
  ·rw [← e]
   refine World.cell?_of_block ?_
   rw [ha,lone_at,h]
  ·exfalso
   unfold World.cell? at e
   cases ho : (Sh.lone w b o).heap[a.block]? with
   | none => rw [ho] at e; cases e
   | some o' =>
    have := lone_other ho ha
    subst this
    rw [ho] at e
    simp at e
 ·by_cases hr : r = b
  ·subst hr; rw [lone_at] at e; rw [h]; exact e
  ·have := lone_other e hr
   cases this
end Go.Sh
namespace Go.Sh
open Go
attribute [local instance] Esc.none
def bdv (ps : List Nat) (vs : Array Value) (t : Tm) (K : Tm -> Prop) : Prop :=
 match ps with
 | [] => vs = #[] /\ K t
 | [p] => ∃ a,vs = #[a] /\ K (upd t p a)
 | [p,q] => ∃ a b,vs = #[a,b] /\ K (upd (upd t p a) q b)
 | _ => False
def jmp (c : Code) (i : Nat) (A B : Prop) : Prop :=
 match c with
 | .ret => A
 | .exit j => (match Nat.beq j i with | true => B | false => False)
 | _ => False
abbrev Rnd := Tm -> World -> World -> (World -> Prop) -> (Code -> World -> Prop) -> Prop
def rgf (P : Program) (fv : Value) (Bd : Array Value -> World -> World -> (World -> Prop) -> (Code -> World -> Prop) -> Prop) (w : World) (Kn : Nat -> World -> Prop) (Kx : Code -> Nat -> World -> Prop) : Prop :=
 ∃ gf lb,fv = .func (.func gf) #[] lb /\ okFn P gf = true /\
 ∀ (rec : LoopState -> Option Code -> Obj),
  (∀ (vs : Array Value) (w' : World) (K : Value -> World -> Prop),w'.heap[w.heap.size + 1]? = some (rec .ready none) ->
   Bd vs w' (w'.putObj (w.heap.size + 1) (rec .busy none))
    (fun w2 => w2.heap[w.heap.size + 1]? = some (rec .busy none) /\ K (.bool true) (w2.putObj (w.heap.size + 1) (rec .ready none)))
    (fun c w2 => w2.heap[w.heap.size + 1]? = some (rec .busy none) /\ K (.bool false) (w2.putObj (w.heap.size + 1) (rec .done (some c)))) ->
   yd P (w.heap.size + 1) vs w' K) ->
  Calls P gf (#[.func (.yield (w.heap.size + 1)) #[] #[]] ++ lb) ((w.alloc (.deferred (some []))).alloc (rec .ready none)) fun e w2 => ∃ v,e = .returned v /\
   ((w2.heap[w.heap.size + 1]? = some (rec .ready none) /\ Kn w.heap.size (w2.putObj (w.heap.size + 1) (rec .exhausted none))) \/
    ∃ c,w2.heap[w.heap.size + 1]? = some (rec .done (some c)) /\ Kx c w.heap.size (w2.putObj (w.heap.size + 1) (rec .exhausted (some c))))
def tl (Q : Post) (D : Nat) : Post := fun o t w =>
 match o with
 | .exit _ => False
 | o => w.heap[D]? = some (.deferred (some [])) /\ Q o t (w.putObj D (.deferred none))
def vcS (P : Program) (orc : Orc) (O : Post -> Tm -> World -> Prop) : Nat -> Path -> Code -> Post -> Tm -> World -> Prop
 | 0,_,_,Q,t,w => O Q t w
 | n + 1,π,.seq a b,Q,t,w => vc P orc (0 :: π) a (fun o t w => match o with | .normal => vcS P orc O n (1 :: π) b Q t w | .exit i => Q (.exit i) t w | .ret => Q .ret t w) t w
 | _,_,_,_,_,_ => False
def rndPost (Kn : World -> Prop) (Kx : Code -> World -> Prop) : Post := fun o _ w =>
 match o with
 | .normal => Kn w
 | .exit i => Kx (.exit i) w
 | .ret => Kx .ret w
def vcR (P : Program) (orc : Orc) (π : Path) (c : Code) (Kn : World -> Prop) (Kx : Code -> World -> Prop) (t : Tm) (w wb : World) : Prop :=
 match c with
 | .rangeFunc _ _ as_ bd => vc P orc (0 :: π) as_ (fun o t1 w1 => match o with | .normal => w1 = w /\ vc P orc (1 :: π) bd (rndPost Kn Kx) t1 wb | _ => False) t w
 | _ => False
section
variable {P : Program} {N : Fm} {t : Tm} {w : World}
def upT (N : Fm) (Q : Post) : Exit -> Act -> World -> Prop
 | .normal,a,w => ∃ t ds,Mt N ds a t /\ ((ds = [] /\ Q .normal t w) \/ ∃ D,ds = [{ target := .collected D,args := #[] }] /\ tl Q D .normal t w)
 | .ret,a,w => ∃ t ds,Mt N.n ds a t /\ ((ds = [] /\ Q .ret t w) \/ ∃ D,ds = [{ target := .collected D,args := #[] }] /\ tl Q D .ret t w)
 | _,_,_ => False
def Wt (P : Program) (N : Fm) (c : Code) (Q : Post) (t : Tm) (w : World) : Prop := ∀ a,Mt N [] a t -> c.wpIn (fw none) 0 P (upT N Q) a w
theorem W.tail {c : Code} {Q : Post} (hx : ∀ i t w,¬ Q (.exit i) t w) (h : W P N c Q t w) : Wt P N c Q t w := fun a ha => wpIn_mono (h none [] a ha) fun e a w q => by
 cases e with
 | normal => obtain ⟨t,hM,q⟩ := q; exact ⟨t,[],hM,.inl ⟨rfl,q⟩⟩
 | ret => obtain ⟨t,hM,q⟩ := q; exact ⟨t,[],hM,.inl ⟨rfl,q⟩⟩
 | exit i => obtain ⟨t,hM,q⟩ := q; exact (hx _ _ _ q).elim
 | goto l => exact q.elim
 | panic c => exact q.2.elim
 | outgrown => exact q.elim
theorem vcS_sound (hm : P.follows .mixedOrders = true) {c0 : Code} {orc : Orc} (ho : OrcOk P N c0 orc) {O : Post -> Tm -> World -> Prop} {Q : Post} (hx : ∀ i t w,¬ Q (.exit i) t w) : ∀ (n : Nat) (π : Path) (c : Code),getAt c0 π = c -> okC P N c = true ->
  (∀ t w,O Q t w -> Wt P N (getAt c0 (List.replicate n 1 ++ π)) Q t w) -> ∀ t w,vcS P orc O n π c Q t w -> Wt P N c Q t w
 | 0,π,c,hc,_,hS,t,w,h => by rw [← hc]; exact hS t w h
 | n + 1,π,.seq a b,hc,hok,hS,t,w,h => by
  simp only [okC,Bool.and_eq_true] at hok
  have h : vc P orc (0 :: π) a (fun o t w => match o with | .normal => vcS P orc O n (1 :: π) b Q t w | .exit i => Q (.exit i) t w | .ret => Q .ret t w) t w := h
  have ha := vc_sound hm ho a (0 :: π) (by simp [getAt,hc,child]) hok.1 _ t w h
  have hb := vcS_sound hm ho hx n (1 :: π) b (by simp [getAt,hc,child]) hok.2 (by
   intro t w h
   have := hS t w h
   rw [List.replicate_succ',List.append_assoc] at this
   exact this)
  intro x hM
  refine wpIn_seq (wpIn_mono (ha none [] x hM) fun e y w q => ?_)
  cases e with
  | normal => obtain ⟨t,hM,hq⟩ := q; exact hb t w hq y hM
  | exit i => obtain ⟨t,hM,hq⟩ := q; exact (hx _ _ _ hq).elim
  | ret => obtain ⟨t,hM,hq⟩ := q; exact ⟨t,[],hM,.inl ⟨rfl,hq⟩⟩
  | goto l => exact q.elim
  | panic c => exact q.2.elim
  | outgrown => exact q.elim
 | n + 1,π,.skip,_,_,_,_,_,h => h.elim
 | n + 1,π,.ret,_,_,_,_,_,h => h.elim
 | n + 1,π,.exit _,_,_,_,_,_,h => h.elim
 | n + 1,π,.label _,_,_,_,_,_,h => h.elim
 | n + 1,π,.cond ..,_,_,_,_,_,h => h.elim
 | n + 1,π,.block ..,_,_,_,_,_,h => h.elim
 | n + 1,π,.loop _,_,_,_,_,_,h => h.elim
 | n + 1,π,.region ..,_,_,_,_,_,h => h.elim
 | n + 1,π,.goto _,_,_,_,_,_,h => h.elim
 | n + 1,π,.scope _,_,_,_,_,_,h => h.elim
 | n + 1,π,.refuse _,_,_,_,_,_,h => h.elim
 | n + 1,π,.rangeFunc ..,_,_,_,_,_,h => h.elim
theorem Mt.set {ds : List Deferred} {a : Act} (h : Mt N ds a t) {d : Nat} (hd : N.ok d = true) (v : Value) : Mt N ds { a with tmps := a.tmps.setIfInBounds d v } (upd t d v) := Mt.put h (d := some d) (fun i e => by cases e; exact hd) v
theorem bdv_mt {a : Act} (h : Mt N [] a t) : ∀ {ps : List Nat} (_ : ps.all (fun p => N.ok p) = true) {vs : Array Value} {K : Tm -> Prop} (_ : bdv ps vs t K),
  vs.size = ps.length /\ ∃ t',K t' /\ Mt N [] { tmps := (ps.toArray.zip vs).foldl (fun tm (p,v) => tm.setIfInBounds p v) a.tmps,defers := [] } t' := by
 have h0 : Mt N [] { tmps := a.tmps,defers := [] } t := ⟨h.1,rfl,h.2.2⟩
 intro ps hp vs K hk
 match ps with
 | [] =>
  obtain ⟨e,hk⟩ := hk
  subst e; exact ⟨rfl,t,hk,by simpa using h0⟩
 | [p] =>
  obtain ⟨x,e,hk⟩ := hk
  subst e
  simp only [List.all_cons,List.all_nil,Bool.and_true] at hp
  exact ⟨rfl,_,hk,by simpa using h0.set hp x⟩
 | [p,q] =>
  obtain ⟨x,y,e,hk⟩ := hk
  subst e
  simp only [List.all_cons,List.all_nil,Bool.and_true,Bool.and_eq_true] at hp
  exact ⟨rfl,_,hk,by simpa using (h0.set hp.1 x).set hp.2 y⟩
 | _ :: _ :: _ :: _ => exact hk.elim
theorem vcR_sound (hm : P.follows .mixedOrders = true) {c0 : Code} {orc : Orc} (ho : OrcOk P N c0 orc) {π : Path} {g : Operand} {ps : Array Nat} {as_ bd : Code} (hπ : getAt c0 π = .rangeFunc g ps as_ bd) (hok : okC P N (.rangeFunc g ps as_ bd) = true) {Kn : World -> Prop} {Kx : Code -> World -> Prop} {wb : World}
  (h : vcR P orc π (getAt c0 π) Kn Kx t w wb) : W P N as_ (fun o t1 w1 => match o with | .normal => w1 = w /\ W P N bd (rndPost Kn Kx) t1 wb | _ => False) t w := by
 simp only [okC,Bool.and_eq_true] at hok
 rw [hπ] at h
 refine (vc_sound hm ho as_ (0 :: π) (by simp [getAt,hπ,child]) hok.1.2 _ t w h).mono fun o t w q => ?_
 cases o with
 | normal => exact ⟨q.1,vc_sound hm ho bd (1 :: π) (by simp [getAt,hπ,child]) hok.2 _ _ _ q.2⟩
 | exit i => exact q.elim
 | ret => exact q.elim
theorem wp_rgf {g : Operand} {ps : Array Nat} {as_ bd : Code} {a : Act} (ha : Mt N [] a t) (hp : ps.toList.all (fun p => N.ok p) = true) {R : Rnd}
  (hR : ∀ t w wb Kn Kx,R t w wb Kn Kx -> W P N as_ (fun o t1 w1 => match o with | .normal => w1 = w /\ W P N bd (rndPost Kn Kx) t1 wb | _ => False) t w)
  {Kn : Nat -> World -> Prop} {Kx : Code -> Nat -> World -> Prop} {Q : Exit -> Act -> World -> Prop}
  (h : rgf P (ev t g) (fun vs w0 wb Kn Kx => bdv ps.toList vs t fun t => R t w0 wb Kn Kx) w Kn Kx)
  (hn : ∀ D w',Kn D w' -> Q .normal { a with defers := [{ target := .collected D,args := #[] }] } w')
  (hx : ∀ c D w',Kx c D w' -> c.wpIn (fw none) 0 P Q { a with defers := [{ target := .collected D,args := #[] }] } w') :
  (Code.rangeFunc g ps as_ bd).wpIn (fw none) 0 P Q a w := by
 obtain ⟨gf,lb,hfv,hok,hall⟩ := h
 refine wpIn_rangeFunc fun fn _ => ?_
 obtain ⟨rec,hrec⟩ : ∃ rec : LoopState -> Option Code -> Loop,rec = fun st pe => { state := st,pending := pe,fn,tmps := a.tmps,params := ps,assign := as_,body := bd,defers := w.heap.size } := ⟨_,rfl⟩
 have hg : a.eval g = .func (.func gf) #[] lb := by rw [ha.eval]; exact hfv
 have hcall := hall (fun st pe => .loop (rec st pe)) ?_
 ·refine ⟨w.heap.size + 1,[{ target := .collected w.heap.size,args := #[] }],(w.alloc (.deferred (some []))).alloc (.loop (rec .ready none)),{ target := .fn (.func gf) lb,args := #[.func (.yield (w.heap.size + 1)) #[] #[]] },(w.alloc (.deferred (some []))).alloc (.loop (rec .ready none)),gf,
   #[.func (.yield (w.heap.size + 1)) #[] #[]] ++ lb,(w.alloc (.deferred (some []))).alloc (.loop (rec .ready none)),?_,?_,fun _ _ => trivial,?_,(fun h => by cases h),?_⟩
  ·rw [hrec]; exact run_enterLoop_outer _ _ _ _ _
  ·simp only [resolve,hg]
   simp [go_sem]
  ·simp [invoke,run_callFunc hok]
  ·refine (callsIn_wide.2 hcall).mono fun e w2 hw => ?_
   obtain ⟨v,rfl,hw⟩ := hw
   rcases hw with ⟨hl,hw⟩ | ⟨c,hl,hw⟩
   ·refine ⟨none,w2.putObj (w.heap.size + 1) (.loop (rec .exhausted none)),?_,?_⟩
    ·have := run_endLoop (P := P) hl (by rw [hrec]; simp)
     rw [hrec] at this ⊢
     exact this
    ·have := hn _ _ hw
     rw [ha.2.1]
     exact this
   ·refine ⟨some c,w2.putObj (w.heap.size + 1) (.loop (rec .exhausted (some c))),?_,?_⟩
    ·have := run_endLoop (P := P) hl (by rw [hrec]; simp)
     rw [hrec] at this ⊢
     exact this
    ·have := hx _ _ _ hw
     rw [ha.2.1]
     exact this
 ·intro vs w' K hl hb
  obtain ⟨hs,t',hR',hM'⟩ := bdv_mt ha hp hb
  have hy := run_yield (P := P) (args := vs) hl (by rw [hrec]; simpa using hs)
  refine ⟨_,_,_,_,hy,?_⟩
  have hW := hR _ _ _ _ _ hR'
  have hM2 : Mt N [] { tmps := ((rec .ready none).params.zip vs).foldl (fun tm (p,v) => tm.setIfInBounds p v) (rec .ready none).tmps,defers := [] } t' := by rw [hrec]; simpa using hM'
  refine roundIn_of_wpIn trivial ?_
  have e1 : (rec .ready none).assign = as_ := by rw [hrec]
  have e2 : (rec .ready none).body = bd := by rw [hrec]
  rw [e1,e2]
  refine wpIn_mono (hW (some (w.heap.size + 1)) [] _ hM2) fun e a1 w1 q => ?_
  cases e with
  | normal =>
   obtain ⟨t1,hM1,rfl,hB⟩ := q
   refine ⟨_,run_beginRound (P := P) hl (by rw [hrec]),?_⟩
   have e3 : Obj.loop { rec .ready none with state := .busy } = .loop (rec .busy none) := by rw [hrec]
   rw [e3]
   refine wpIn_mono (hB (some (w.heap.size + 1)) [] _ hM1) fun e a2 w2 q => ?_
   cases e with
   | normal =>
    obtain ⟨t2,_,h2,hk⟩ := q
    refine ⟨_,_,run_endRound (P := P) none h2,_,rfl,?_⟩
    rw [hrec] at hk ⊢
    exact hk
   | exit i =>
    obtain ⟨t2,_,h2,hk⟩ := q
    refine ⟨_,_,run_endRound (P := P) (some (.exit i)) h2,_,rfl,?_⟩
    rw [hrec] at hk ⊢
    exact hk
   | ret =>
    obtain ⟨t2,_,h2,hk⟩ := q
    refine ⟨_,_,run_endRound (P := P) (some .ret) h2,_,rfl,?_⟩
    rw [hrec] at hk ⊢
    exact hk
   | goto l => exact q.elim
   | panic c => exact q.2.elim
   | outgrown => exact q.elim
  | exit i => obtain ⟨_,_,q⟩ := q; exact q.elim
  | ret => obtain ⟨_,_,q⟩ := q; exact q.elim
  | goto l => exact q.elim
  | panic c => exact q.2.elim
  | outgrown => exact q.elim
theorem tl_up {Q : Post} {D : Nat} : ∀ e a w,up N [{ target := .collected D,args := #[] }] (tl Q D) e a w -> upT N Q e a w
 | .normal,_,_,⟨t,hM,q⟩ => ⟨t,_,hM,.inr ⟨D,rfl,q⟩⟩
 | .ret,_,_,⟨t,hM,q⟩ => ⟨t,_,hM,.inr ⟨D,rfl,q⟩⟩
 | .exit _,_,_,⟨_,_,q⟩ => q.elim
 | .goto _,_,_,q => q.elim
 | .panic _,_,_,q => q.2.elim
 | .outgrown,_,_,q => q.elim
theorem Wt.mono {c : Code} {Q Q' : Post} (h : Wt P N c Q t w) (hq : ∀ o t w,Q o t w -> Q' o t w) : Wt P N c Q' t w := fun a ha => wpIn_mono (h a ha) fun e a w q => by
 have k : ∀ D o t w,tl Q D o t w -> tl Q' D o t w := fun D o t w q => by
  cases o with
  | normal => exact ⟨q.1,hq _ _ _ q.2⟩
  | ret => exact ⟨q.1,hq _ _ _ q.2⟩
  | exit i => exact q
 cases e with
 | normal => obtain ⟨t,ds,hM,q⟩ := q; exact ⟨t,ds,hM,q.imp (fun x => ⟨x.1,hq _ _ _ x.2⟩) fun ⟨D,x,y⟩ => ⟨D,x,k _ _ _ _ y⟩⟩
 | ret => obtain ⟨t,ds,hM,q⟩ := q; exact ⟨t,ds,hM,q.imp (fun x => ⟨x.1,hq _ _ _ x.2⟩) fun ⟨D,x,y⟩ => ⟨D,x,k _ _ _ _ y⟩⟩
 | exit i => exact q
 | goto l => exact q
 | panic c => exact q
 | outgrown => exact q
theorem calls_ofT {f : FuncId} {fn : Func} {c : Code} {args : Array Value} {K : Value -> World -> Prop} (hf : P.funcs[f]? = some fn) (hb : fn.body = some c) (hN : args.size <= fn.ntmps)
  (h : Wt P fn.ntmps c (retQ P fn K) (args0 args) w) : Calls P f args w fun e w' => ∃ v,e = .returned v /\ K v w' := by
 refine callsIn_wide.1 (callsIn_of_wp_marks (F := Fence.wide) (n := 0) hf hb trivial (wpIn_mono (h _ (args0_mt hN)) fun e a w q => ?_))
 ·have fin : ∀ (o : Out) (t : Tm) (ds : List Deferred),(o = .normal \/ o = .ret) -> Mt fn.ntmps ds a t -> ((ds = [] /\ retQ P fn K o t w) \/ ∃ D,ds = [{ target := .collected D,args := #[] }] /\ tl (retQ P fn K) D o t w) ->
    LeavesInM Fence.wide 0 P fn a.tmps (fun e w' => ∃ v,e = .returned v /\ K v w') a.defers .returning w := by
   intro o t ds ho hM hq
   have res : ∀ w,retQ P fn K o t w -> LeavesInM Fence.wide 0 P fn a.tmps (fun e w' => ∃ v,e = .returned v /\ K v w') [] .returning w := by
    intro w q
    have q : resL P t w fn.results.toList fun vs => K (tupV vs) w := by rcases ho with rfl | rfl <;> exact q
    obtain ⟨vs,hk,hr⟩ := run_results hM q
    exact ⟨_,hr,_,rfl,hk⟩
   rw [hM.2.1]
   rcases hq with ⟨rfl,hq⟩ | ⟨D,rfl,hq⟩
   ·exact res w hq
   ·have hq : w.heap[D]? = some (.deferred (some [])) /\ retQ P fn K o t (w.putObj D (.deferred none)) := by rcases ho with rfl | rfl <;> exact hq
    refine ⟨by simp,.inl ⟨D,_,rfl,run_takeDeferred hq.1,res _ hq.2⟩⟩
  cases e with
  | normal =>
   obtain ⟨t,ds,hM,q⟩ := q
   exact fin .normal t ds (.inl rfl) hM q
  | ret =>
   obtain ⟨t,ds,hM,q⟩ := q
   exact fin .ret t ds (.inr rfl) hM q
  | exit i => exact q.elim
  | goto l => exact q.elim
  | panic c => exact q.elim
  | outgrown => exact q.elim
end
end Go.Sh
namespace Go.Sh
open Go
def stcL (a : Addr) : Nat -> List Value -> World -> (World -> Prop) -> Prop
 | _,[],w,K => K w
 | i,v :: r,w,K => stc (a.add i) v w fun w => stcL a (i + 1) r w K
def At (w : World) (a : Addr) (l : List Value) : Prop := ∀ j v,l[j]? = some v -> w.cell? (a.add j) = some v
theorem Rd.atL {w : World} {a : Addr} {l : List Value} (h : Rd w (Option.some a) l) : At w a l := fun _ _ hj => h.at hj
theorem Rd.atI {α : Type} {w : World} {a : Addr} {f : α -> List Value} {m i : Nat} {xs : List α} {x : α} (h : Rd w (Option.some a) (xs.flatMap f)) (hf : ∀ a,(f a).length = m) (hi : xs[i]? = Option.some x) : At w (a.add (i * m)) (f x) := fun j v hj => by
 rw [add_add]
 exact h.at (flat_at hf hi hj)
theorem At.blk {w : World} {b : Nat} {cs : Array Value} {T : TypeId} {z : Nat × Nat} (h : w.heap[b]? = some (.cells cs T z)) : At w ⟨b,0,none⟩ cs.toList := fun j v hj => by
 rw [add_mk,Nat.zero_add,cell_at h]
 simpa using hj
theorem At.off {w : World} {b o : Nat} {cs : Array Value} {T : TypeId} {z : Nat × Nat} (h : w.heap[b]? = some (.cells cs T z)) {l : List Value} (hl : ∀ j v,l[j]? = some v -> cs[o + j]? = some v) : At w ⟨b,o,none⟩ l := fun j v hj => by
 rw [add_mk,cell_at h]
 exact hl j v hj
section
variable {W w : World} {L : List HP}
theorem Hs.atL (h : Hs W L w) (i : Nat) {b : Nat} {cs : Array Value} {T : TypeId} (hi : L[i]? = some (pt b (.cells cs T (0,0)))) : At w ⟨b,0,none⟩ cs.toList := At.blk (h.at i hi)
theorem setL_all : ∀ (l : List Value) (cs : Array Value) (o : Nat),l.length + o = cs.size -> (l.zipIdx o).foldl (fun c (p : Value × Nat) => c.setIfInBounds p.2 p.1) cs = ((cs.toList.take o) ++ l).toArray
 | [],cs,o,h => by
  apply Array.toList_inj.1
  simp only [List.zipIdx_nil,List.foldl_nil,List.append_nil]
  rw [List.take_of_length_le (by simp at h ⊢; omega)]
 | v :: l,cs,o,h => by
  simp only [List.zipIdx_cons,List.foldl_cons]
  rw [setL_all l _ (o + 1) (by simp at h ⊢; omega)]
  apply Array.toList_inj.1
  simp only [Array.toList_setIfInBounds]
  rw [List.take_add_one,List.take_set_of_le (Nat.le_refl _),List.getElem?_set,if_pos rfl,if_pos (by simp at h ⊢; omega),List.append_assoc]
  rfl
theorem Hs.stcs {b : Nat} {T : TypeId} : ∀ (l : List Value) (i o : Nat) {L : List HP} {w : World} {cs : Array Value} {K : World -> Prop} (_ : Hs W L w) (_ : L[i]? = some (pt b (.cells cs T (0,0)))) (_ : l.length + o <= cs.size)
  (_ : ∀ w',Hs W (L.set i (pt b (.cells ((l.zipIdx o).foldl (fun c (p : Value × Nat) => c.setIfInBounds p.2 p.1) cs) T (0,0)))) w' -> K w'),stcL ⟨b,0,none⟩ o l w K
 | [],i,o,L,w,cs,K,h,hi,_,hk => hk w (by rw [List.zipIdx_nil,List.foldl_nil,set_id hi]; exact h)
 | v :: l,i,o,L,w,cs,K,h,hi,hl,hk => by
  unfold stcL
  rw [add_mk,Nat.zero_add]
  refine h.stc i hi (by simp at hl; omega) fun w1 h1 => ?_
  refine Hs.stcs (T := T) l i (o + 1) (cs := cs.setIfInBounds o v) h1 (by simp [(List.getElem?_eq_some_iff.1 hi).1]) (by simp at hl ⊢; omega) fun w2 h2 => hk w2 ?_
  rw [List.set_set] at h2
  exact h2
theorem Hs.stcL (h : Hs W L w) (i : Nat) {b : Nat} {T : TypeId} {cs : Array Value} {K : World -> Prop} (hi : L[i]? = some (pt b (.cells cs T (0,0)))) {l : List Value} (hl : l.length = cs.size)
  (hk : ∀ w',Hs W (L.set i (pt b (.cells l.toArray T (0,0)))) w' -> K w') : Sh.stcL ⟨b,0,none⟩ 0 l w K :=
 Hs.stcs l i 0 h hi (by omega) fun w' h' => hk w' (by
  rw [setL_all l cs 0 (by omega),List.take_zero,List.nil_append] at h'
  exact h')
end
end Go.Sh
