/- Own text: part of the shallow reading of the code and of the contracts that are proved over it. -/
import Derived.Test.YtilenpnpnbdndaaGreatDoorShI
import Derived.Test.YtilenpnpnbdndaaGreatDoorShU
import Derived.Test.YtilenpnpnbdndaaGreatDoorProg
import Derived.KernelRfl
namespace Go.Sh
open Go
attribute [local instance] Esc.none
def bdv (ps : List Nat) (vs : Array Value) (t : Tm) (K : Tm -> Prop) : Prop :=
  match ps with
  | [] => vs = #[] /\ K t
  | [p] => ∃ a,vs = #[a] /\ K (upd t p a)
  | [p,q] => ∃ a b,vs = #[a,b] /\ K (upd (upd t p a) q b)
  | _ => False
def jmp (c : Code) (i : Nat) (A B : Prop) : Prop :=
  match c with
  | .ret => A
  | .exit j => (match Nat.beq j i with | true => B | false => False)
  | _ => False
abbrev Rnd := Tm -> World -> World -> (World -> Prop) -> (Code -> World -> Prop) -> Prop
def rgf (P : Program) (fv : Value) (Bd : Array Value -> World -> World -> (World -> Prop) -> (Code -> World -> Prop) -> Prop) (w : World) (Kn : Nat -> World -> Prop) (Kx : Code -> Nat -> World -> Prop) : Prop :=
  ∃ gf lb,fv = .func (.func gf) #[] lb /\ okFn P gf = true /\
  ∀ (rec : LoopState -> Option Code -> Obj),
    (∀ (vs : Array Value) (w' : World) (K : Value -> World -> Prop),w'.heap[w.heap.size + 1]? = some (rec .ready none) ->
      Bd vs w' (w'.putObj (w.heap.size + 1) (rec .busy none))
        (fun w2 => w2.heap[w.heap.size + 1]? = some (rec .busy none) /\ K (.bool true) (w2.putObj (w.heap.size + 1) (rec .ready none)))
        (fun c w2 => w2.heap[w.heap.size + 1]? = some (rec .busy none) /\ K (.bool false) (w2.putObj (w.heap.size + 1) (rec .done (some c)))) ->
      yd P (w.heap.size + 1) vs w' K) ->
    Calls P gf (#[.func (.yield (w.heap.size + 1)) #[] #[]] ++ lb) ((w.alloc (.deferred (some []))).alloc (rec .ready none)) fun e w2 => ∃ v,e = .returned v /\
      ((w2.heap[w.heap.size + 1]? = some (rec .ready none) /\ Kn w.heap.size (w2.putObj (w.heap.size + 1) (rec .exhausted none))) \/
       ∃ c,w2.heap[w.heap.size + 1]? = some (rec .done (some c)) /\ Kx c w.heap.size (w2.putObj (w.heap.size + 1) (rec .exhausted (some c))))
def tl (Q : Post) (D : Nat) : Post := fun o t w =>
  match o with
  | .exit _ => False
  | o => w.heap[D]? = some (.deferred (some [])) /\ Q o t (w.putObj D (.deferred none))
def vcS (P : Program) (orc : Orc) (O : Post -> Tm -> World -> Prop) : Nat -> Path -> Code -> Post -> Tm -> World -> Prop
  | 0,_,_,Q,t,w => O Q t w
  | n + 1,π,.seq a b,Q,t,w => vc P orc (0 :: π) a (fun o t w => match o with | .normal => vcS P orc O n (1 :: π) b Q t w | .exit i => Q (.exit i) t w | .ret => Q .ret t w) t w
  | _,_,_,_,_,_ => False
def rndPost (Kn : World -> Prop) (Kx : Code -> World -> Prop) : Post := fun o _ w =>
  match o with
  | .normal => Kn w
  | .exit i => Kx (.exit i) w
  | .ret => Kx .ret w
def vcR (P : Program) (orc : Orc) (π : Path) (c : Code) (Kn : World -> Prop) (Kx : Code -> World -> Prop) (t : Tm) (w wb : World) : Prop :=
  match c with
  | .rangeFunc _ _ as_ bd => vc P orc (0 :: π) as_ (fun o t1 w1 => match o with | .normal => w1 = w /\ vc P orc (1 :: π) bd (rndPost Kn Kx) t1 wb | _ => False) t w
  | _ => False
section
variable {P : Program} {N : Fm} {t : Tm} {w : World}
def upT (N : Fm) (Q : Post) : Exit -> Act -> World -> Prop
  | .normal,a,w => ∃ t ds,Mt N ds a t /\ ((ds = [] /\ Q .normal t w) \/ ∃ D,ds = [{ target := .collected D,args := #[] }] /\ tl Q D .normal t w)
  | .ret,a,w => ∃ t ds,Mt N.n ds a t /\ ((ds = [] /\ Q .ret t w) \/ ∃ D,ds = [{ target := .collected D,args := #[] }] /\ tl Q D .ret t w)
  | _,_,_ => False
def Wt (P : Program) (N : Fm) (c : Code) (Q : Post) (t : Tm) (w : World) : Prop := ∀ a,Mt N [] a t -> c.wpIn (fw none) 0 P (upT N Q) a w
theorem W.tail {c : Code} {Q : Post} (hx : ∀ i t w,¬ Q (.exit i) t w) (h : W P N c Q t w) : Wt P N c Q t w := fun a ha => wpIn_mono (h none [] a ha) fun e a w q => by
  cases e with
  | normal => obtain ⟨t,hM,q⟩ := q; exact ⟨t,[],hM,.inl ⟨rfl,q⟩⟩
  | ret => obtain ⟨t,hM,q⟩ := q; exact ⟨t,[],hM,.inl ⟨rfl,q⟩⟩
  | exit i => obtain ⟨t,hM,q⟩ := q; exact (hx _ _ _ q).elim
  | goto l => exact q.elim
  | panic c => exact q.2.elim
  | outgrown => exact q.elim
theorem vcS_sound (hm : P.follows .mixedOrders = true) {c0 : Code} {orc : Orc} (ho : OrcOk P N c0 orc) {O : Post -> Tm -> World -> Prop} {Q : Post} (hx : ∀ i t w,¬ Q (.exit i) t w) : ∀ (n : Nat) (π : Path) (c : Code),getAt c0 π = c -> okC P N c = true ->
    (∀ t w,O Q t w -> Wt P N (getAt c0 (List.replicate n 1 ++ π)) Q t w) -> ∀ t w,vcS P orc O n π c Q t w -> Wt P N c Q t w
  | 0,π,c,hc,_,hS,t,w,h => by rw [← hc]; exact hS t w h
  | n + 1,π,.seq a b,hc,hok,hS,t,w,h => by
    simp only [okC,Bool.and_eq_true] at hok
    have h : vc P orc (0 :: π) a (fun o t w => match o with | .normal => vcS P orc O n (1 :: π) b Q t w | .exit i => Q (.exit i) t w | .ret => Q .ret t w) t w := h
    have ha := vc_sound hm ho a (0 :: π) (by simp [getAt,hc,child]) hok.1 _ t w h
    have hb := vcS_sound hm ho hx n (1 :: π) b (by simp [getAt,hc,child]) hok.2 (by
      intro t w h
      have := hS t w h
      rw [List.replicate_succ',List.append_assoc] at this
      exact this)
    intro x hM
    refine wpIn_seq (wpIn_mono (ha none [] x hM) fun e y w q => ?_)
    cases e with
    | normal => obtain ⟨t,hM,hq⟩ := q; exact hb t w hq y hM
    | exit i => obtain ⟨t,hM,hq⟩ := q; exact (hx _ _ _ hq).elim
    | ret => obtain ⟨t,hM,hq⟩ := q; exact ⟨t,[],hM,.inl ⟨rfl,hq⟩⟩
    | goto l => exact q.elim
    | panic c => exact q.2.elim
    | outgrown => exact q.elim
  | n + 1,π,.skip,_,_,_,_,_,h => h.elim
  | n + 1,π,.ret,_,_,_,_,_,h => h.elim
  | n + 1,π,.exit _,_,_,_,_,_,h => h.elim
  | n + 1,π,.label _,_,_,_,_,_,h => h.elim
  | n + 1,π,.cond ..,_,_,_,_,_,h => h.elim
  | n + 1,π,.block ..,_,_,_,_,_,h => h.elim
  | n + 1,π,.loop _,_,_,_,_,_,h => h.elim
  | n + 1,π,.region ..,_,_,_,_,_,h => h.elim
  | n + 1,π,.goto _,_,_,_,_,_,h => h.elim
  | n + 1,π,.scope _,_,_,_,_,_,h => h.elim
  | n + 1,π,.refuse _,_,_,_,_,_,h => h.elim
  | n + 1,π,.rangeFunc ..,_,_,_,_,_,h => h.elim
theorem Mt.set {ds : List Deferred} {a : Act} (h : Mt N ds a t) {d : Nat} (hd : N.ok d = true) (v : Value) : Mt N ds { a with tmps := a.tmps.setIfInBounds d v } (upd t d v) := Mt.put h (d := some d) (fun i e => by cases e; exact hd) v
theorem bdv_mt {a : Act} (h : Mt N [] a t) : ∀ {ps : List Nat} (_ : ps.all (fun p => N.ok p) = true) {vs : Array Value} {K : Tm -> Prop} (_ : bdv ps vs t K),
    vs.size = ps.length /\ ∃ t',K t' /\ Mt N [] { tmps := (ps.toArray.zip vs).foldl (fun tm (p,v) => tm.setIfInBounds p v) a.tmps,defers := [] } t' := by
  have h0 : Mt N [] { tmps := a.tmps,defers := [] } t := ⟨h.1,rfl,h.2.2⟩
  intro ps hp vs K hk
  match ps with
  | [] =>
    obtain ⟨e,hk⟩ := hk
    subst e; exact ⟨rfl,t,hk,by simpa using h0⟩
  | [p] =>
    obtain ⟨x,e,hk⟩ := hk
    subst e
    simp only [List.all_cons,List.all_nil,Bool.and_true] at hp
    exact ⟨rfl,_,hk,by simpa using h0.set hp x⟩
  | [p,q] =>
    obtain ⟨x,y,e,hk⟩ := hk
    subst e
    simp only [List.all_cons,List.all_nil,Bool.and_true,Bool.and_eq_true] at hp
    exact ⟨rfl,_,hk,by simpa using (h0.set hp.1 x).set hp.2 y⟩
  | _ :: _ :: _ :: _ => exact hk.elim
theorem vcR_sound (hm : P.follows .mixedOrders = true) {c0 : Code} {orc : Orc} (ho : OrcOk P N c0 orc) {π : Path} {g : Operand} {ps : Array Nat} {as_ bd : Code} (hπ : getAt c0 π = .rangeFunc g ps as_ bd) (hok : okC P N (.rangeFunc g ps as_ bd) = true) {Kn : World -> Prop} {Kx : Code -> World -> Prop} {wb : World}
    (h : vcR P orc π (getAt c0 π) Kn Kx t w wb) : W P N as_ (fun o t1 w1 => match o with | .normal => w1 = w /\ W P N bd (rndPost Kn Kx) t1 wb | _ => False) t w := by
  simp only [okC,Bool.and_eq_true] at hok
  rw [hπ] at h
  refine (vc_sound hm ho as_ (0 :: π) (by simp [getAt,hπ,child]) hok.1.2 _ t w h).mono fun o t w q => ?_
  cases o with
  | normal => exact ⟨q.1,vc_sound hm ho bd (1 :: π) (by simp [getAt,hπ,child]) hok.2 _ _ _ q.2⟩
  | exit i => exact q.elim
  | ret => exact q.elim
theorem wp_rgf {g : Operand} {ps : Array Nat} {as_ bd : Code} {a : Act} (ha : Mt N [] a t) (hp : ps.toList.all (fun p => N.ok p) = true) {R : Rnd}
    (hR : ∀ t w wb Kn Kx,R t w wb Kn Kx -> W P N as_ (fun o t1 w1 => match o with | .normal => w1 = w /\ W P N bd (rndPost Kn Kx) t1 wb | _ => False) t w)
    {Kn : Nat -> World -> Prop} {Kx : Code -> Nat -> World -> Prop} {Q : Exit -> Act -> World -> Prop}
    (h : rgf P (ev t g) (fun vs w0 wb Kn Kx => bdv ps.toList vs t fun t => R t w0 wb Kn Kx) w Kn Kx)
    (hn : ∀ D w',Kn D w' -> Q .normal { a with defers := [{ target := .collected D,args := #[] }] } w')
    (hx : ∀ c D w',Kx c D w' -> c.wpIn (fw none) 0 P Q { a with defers := [{ target := .collected D,args := #[] }] } w') :
    (Code.rangeFunc g ps as_ bd).wpIn (fw none) 0 P Q a w := by
  obtain ⟨gf,lb,hfv,hok,hall⟩ := h
  refine wpIn_rangeFunc fun fn _ => ?_
  obtain ⟨rec,hrec⟩ : ∃ rec : LoopState -> Option Code -> Loop,rec = fun st pe => { state := st,pending := pe,fn,tmps := a.tmps,params := ps,assign := as_,body := bd,defers := w.heap.size } := ⟨_,rfl⟩
  have hg : a.eval g = .func (.func gf) #[] lb := by rw [ha.eval]; exact hfv
  have hcall := hall (fun st pe => .loop (rec st pe)) ?_
  · refine ⟨w.heap.size + 1,[{ target := .collected w.heap.size,args := #[] }],(w.alloc (.deferred (some []))).alloc (.loop (rec .ready none)),{ target := .fn (.func gf) lb,args := #[.func (.yield (w.heap.size + 1)) #[] #[]] },(w.alloc (.deferred (some []))).alloc (.loop (rec .ready none)),gf,
      #[.func (.yield (w.heap.size + 1)) #[] #[]] ++ lb,(w.alloc (.deferred (some []))).alloc (.loop (rec .ready none)),?_,?_,fun _ _ => trivial,?_,(fun h => by cases h),?_⟩
    · rw [hrec]; exact run_enterLoop_outer _ _ _ _ _
    · simp only [resolve,hg]
      simp [go_sem]
    · simp [invoke,run_callFunc hok]
    · refine (callsIn_wide.2 hcall).mono fun e w2 hw => ?_
      obtain ⟨v,rfl,hw⟩ := hw
      rcases hw with ⟨hl,hw⟩ | ⟨c,hl,hw⟩
      · refine ⟨none,w2.putObj (w.heap.size + 1) (.loop (rec .exhausted none)),?_,?_⟩
        · have := run_endLoop (P := P) hl (by rw [hrec]; simp)
          rw [hrec] at this ⊢
          exact this
        · have := hn _ _ hw
          rw [ha.2.1]
          exact this
      · refine ⟨some c,w2.putObj (w.heap.size + 1) (.loop (rec .exhausted (some c))),?_,?_⟩
        · have := run_endLoop (P := P) hl (by rw [hrec]; simp)
          rw [hrec] at this ⊢
          exact this
        · have := hx _ _ _ hw
          rw [ha.2.1]
          exact this
  · intro vs w' K hl hb
    obtain ⟨hs,t',hR',hM'⟩ := bdv_mt ha hp hb
    have hy := run_yield (P := P) (args := vs) hl (by rw [hrec]; simpa using hs)
    refine ⟨_,_,_,_,hy,?_⟩
    have hW := hR _ _ _ _ _ hR'
    have hM2 : Mt N [] { tmps := ((rec .ready none).params.zip vs).foldl (fun tm (p,v) => tm.setIfInBounds p v) (rec .ready none).tmps,defers := [] } t' := by rw [hrec]; simpa using hM'
    refine roundIn_of_wpIn trivial ?_
    have e1 : (rec .ready none).assign = as_ := by rw [hrec]
    have e2 : (rec .ready none).body = bd := by rw [hrec]
    rw [e1,e2]
    refine wpIn_mono (hW (some (w.heap.size + 1)) [] _ hM2) fun e a1 w1 q => ?_
    cases e with
    | normal =>
      obtain ⟨t1,hM1,rfl,hB⟩ := q
      refine ⟨_,run_beginRound (P := P) hl (by rw [hrec]),?_⟩
      have e3 : Obj.loop { rec .ready none with state := .busy } = .loop (rec .busy none) := by rw [hrec]
      rw [e3]
      refine wpIn_mono (hB (some (w.heap.size + 1)) [] _ hM1) fun e a2 w2 q => ?_
      cases e with
      | normal =>
        obtain ⟨t2,_,h2,hk⟩ := q
        refine ⟨_,_,run_endRound (P := P) none h2,_,rfl,?_⟩
        rw [hrec] at hk ⊢
        exact hk
      | exit i =>
        obtain ⟨t2,_,h2,hk⟩ := q
        refine ⟨_,_,run_endRound (P := P) (some (.exit i)) h2,_,rfl,?_⟩
        rw [hrec] at hk ⊢
        exact hk
      | ret =>
        obtain ⟨t2,_,h2,hk⟩ := q
        refine ⟨_,_,run_endRound (P := P) (some .ret) h2,_,rfl,?_⟩
        rw [hrec] at hk ⊢
        exact hk
      | goto l => exact q.elim
      | panic c => exact q.2.elim
      | outgrown => exact q.elim
    | exit i => obtain ⟨_,_,q⟩ := q; exact q.elim
    | ret => obtain ⟨_,_,q⟩ := q; exact q.elim
    | goto l => exact q.elim
    | panic c => exact q.2.elim
    | outgrown => exact q.elim
theorem tl_up {Q : Post} {D : Nat} : ∀ e a w,up N [{ target := .collected D,args := #[] }] (tl Q D) e a w -> upT N Q e a w
  | .normal,_,_,⟨t,hM,q⟩ => ⟨t,_,hM,.inr ⟨D,rfl,q⟩⟩
  | .ret,_,_,⟨t,hM,q⟩ => ⟨t,_,hM,.inr ⟨D,rfl,q⟩⟩
  | .exit _,_,_,⟨_,_,q⟩ => q.elim
  | .goto _,_,_,q => q.elim
  | .panic _,_,_,q => q.2.elim
  | .outgrown,_,_,q => q.elim
theorem Wt.mono {c : Code} {Q Q' : Post} (h : Wt P N c Q t w) (hq : ∀ o t w,Q o t w -> Q' o t w) : Wt P N c Q' t w := fun a ha => wpIn_mono (h a ha) fun e a w q => by
  have k : ∀ D o t w,tl Q D o t w -> tl Q' D o t w := fun D o t w q => by
    cases o with
    | normal => exact ⟨q.1,hq _ _ _ q.2⟩
    | ret => exact ⟨q.1,hq _ _ _ q.2⟩
    | exit i => exact q
  cases e with
  | normal => obtain ⟨t,ds,hM,q⟩ := q; exact ⟨t,ds,hM,q.imp (fun x => ⟨x.1,hq _ _ _ x.2⟩) fun ⟨D,x,y⟩ => ⟨D,x,k _ _ _ _ y⟩⟩
  | ret => obtain ⟨t,ds,hM,q⟩ := q; exact ⟨t,ds,hM,q.imp (fun x => ⟨x.1,hq _ _ _ x.2⟩) fun ⟨D,x,y⟩ => ⟨D,x,k _ _ _ _ y⟩⟩
  | exit i => exact q
  | goto l => exact q
  | panic c => exact q
  | outgrown => exact q
theorem calls_ofT {f : FuncId} {fn : Func} {c : Code} {args : Array Value} {K : Value -> World -> Prop} (hf : P.funcs[f]? = some fn) (hb : fn.body = some c) (hN : args.size <= fn.ntmps)
    (h : Wt P fn.ntmps c (retQ P fn K) (args0 args) w) : Calls P f args w fun e w' => ∃ v,e = .returned v /\ K v w' := by
  refine callsIn_wide.1 (callsIn_of_wp_marks (F := Fence.wide) (n := 0) hf hb trivial (wpIn_mono (h _ (args0_mt hN)) fun e a w q => ?_))
  · have fin : ∀ (o : Out) (t : Tm) (ds : List Deferred),(o = .normal \/ o = .ret) -> Mt fn.ntmps ds a t -> ((ds = [] /\ retQ P fn K o t w) \/ ∃ D,ds = [{ target := .collected D,args := #[] }] /\ tl (retQ P fn K) D o t w) ->
        LeavesInM Fence.wide 0 P fn a.tmps (fun e w' => ∃ v,e = .returned v /\ K v w') a.defers .returning w := by
      intro o t ds ho hM hq
      have res : ∀ w,retQ P fn K o t w -> LeavesInM Fence.wide 0 P fn a.tmps (fun e w' => ∃ v,e = .returned v /\ K v w') [] .returning w := by
        intro w q
        have q : resL P t w fn.results.toList fun vs => K (tupV vs) w := by rcases ho with rfl | rfl <;> exact q
        obtain ⟨vs,hk,hr⟩ := run_results hM q
        exact ⟨_,hr,_,rfl,hk⟩
      rw [hM.2.1]
      rcases hq with ⟨rfl,hq⟩ | ⟨D,rfl,hq⟩
      · exact res w hq
      · have hq : w.heap[D]? = some (.deferred (some [])) /\ retQ P fn K o t (w.putObj D (.deferred none)) := by rcases ho with rfl | rfl <;> exact hq
        refine ⟨by simp,.inl ⟨D,_,rfl,run_takeDeferred hq.1,res _ hq.2⟩⟩
    cases e with
    | normal =>
      obtain ⟨t,ds,hM,q⟩ := q
      exact fin .normal t ds (.inl rfl) hM q
    | ret =>
      obtain ⟨t,ds,hM,q⟩ := q
      exact fin .ret t ds (.inr rfl) hM q
    | exit i => exact q.elim
    | goto l => exact q.elim
    | panic c => exact q.elim
    | outgrown => exact q.elim
end
end Go.Sh
namespace Go.Sh
open Go
def stcL (a : Addr) : Nat -> List Value -> World -> (World -> Prop) -> Prop
  | _,[],w,K => K w
  | i,v :: r,w,K => stc (a.add i) v w fun w => stcL a (i + 1) r w K
def At (w : World) (a : Addr) (l : List Value) : Prop := ∀ j v,l[j]? = some v -> w.cell? (a.add j) = some v
theorem Rd.atL {w : World} {a : Addr} {l : List Value} (h : Rd w (Option.some a) l) : At w a l := fun _ _ hj => h.at hj
theorem Rd.atI {α : Type} {w : World} {a : Addr} {f : α -> List Value} {m i : Nat} {xs : List α} {x : α} (h : Rd w (Option.some a) (xs.flatMap f)) (hf : ∀ a,(f a).length = m) (hi : xs[i]? = Option.some x) : At w (a.add (i * m)) (f x) := fun j v hj => by
  rw [add_add]
  exact h.at (flat_at hf hi hj)
theorem At.blk {w : World} {b : Nat} {cs : Array Value} {T : TypeId} {z : Nat × Nat} (h : w.heap[b]? = some (.cells cs T z)) : At w ⟨b,0,none⟩ cs.toList := fun j v hj => by
  rw [add_mk,Nat.zero_add,cell_at h]
  simpa using hj
theorem At.off {w : World} {b o : Nat} {cs : Array Value} {T : TypeId} {z : Nat × Nat} (h : w.heap[b]? = some (.cells cs T z)) {l : List Value} (hl : ∀ j v,l[j]? = some v -> cs[o + j]? = some v) : At w ⟨b,o,none⟩ l := fun j v hj => by
  rw [add_mk,cell_at h]
  exact hl j v hj
section
variable {W w : World} {L : List HP}
theorem Hs.atL (h : Hs W L w) (i : Nat) {b : Nat} {cs : Array Value} {T : TypeId} (hi : L[i]? = some (pt b (.cells cs T (0,0)))) : At w ⟨b,0,none⟩ cs.toList := At.blk (h.at i hi)
theorem setL_all : ∀ (l : List Value) (cs : Array Value) (o : Nat),l.length + o = cs.size -> (l.zipIdx o).foldl (fun c (p : Value × Nat) => c.setIfInBounds p.2 p.1) cs = ((cs.toList.take o) ++ l).toArray
  | [],cs,o,h => by
    apply Array.toList_inj.1
    simp only [List.zipIdx_nil,List.foldl_nil,List.append_nil]
    rw [List.take_of_length_le (by simp at h ⊢; omega)]
  | v :: l,cs,o,h => by
    simp only [List.zipIdx_cons,List.foldl_cons]
    rw [setL_all l _ (o + 1) (by simp at h ⊢; omega)]
    apply Array.toList_inj.1
    simp only [Array.toList_setIfInBounds]
    rw [List.take_add_one,List.take_set_of_le (Nat.le_refl _),List.getElem?_set,if_pos rfl,if_pos (by simp at h ⊢; omega),List.append_assoc]
    rfl
theorem Hs.stcs {b : Nat} {T : TypeId} : ∀ (l : List Value) (i o : Nat) {L : List HP} {w : World} {cs : Array Value} {K : World -> Prop} (_ : Hs W L w) (_ : L[i]? = some (pt b (.cells cs T (0,0)))) (_ : l.length + o <= cs.size)
    (_ : ∀ w',Hs W (L.set i (pt b (.cells ((l.zipIdx o).foldl (fun c (p : Value × Nat) => c.setIfInBounds p.2 p.1) cs) T (0,0)))) w' -> K w'),stcL ⟨b,0,none⟩ o l w K
  | [],i,o,L,w,cs,K,h,hi,_,hk => hk w (by rw [List.zipIdx_nil,List.foldl_nil,set_id hi]; exact h)
  | v :: l,i,o,L,w,cs,K,h,hi,hl,hk => by
    unfold stcL
    rw [add_mk,Nat.zero_add]
    refine h.stc i hi (by simp at hl; omega) fun w1 h1 => ?_
    refine Hs.stcs (T := T) l i (o + 1) (cs := cs.setIfInBounds o v) h1 (by simp [(List.getElem?_eq_some_iff.1 hi).1]) (by simp at hl ⊢; omega) fun w2 h2 => hk w2 ?_
    rw [List.set_set] at h2
    exact h2
theorem Hs.stcL (h : Hs W L w) (i : Nat) {b : Nat} {T : TypeId} {cs : Array Value} {K : World -> Prop} (hi : L[i]? = some (pt b (.cells cs T (0,0)))) {l : List Value} (hl : l.length = cs.size)
    (hk : ∀ w',Hs W (L.set i (pt b (.cells l.toArray T (0,0)))) w' -> K w') : Sh.stcL ⟨b,0,none⟩ 0 l w K :=
  Hs.stcs l i 0 h hi (by omega) fun w' h' => hk w' (by
    rw [setL_all l cs 0 (by omega),List.take_zero,List.nil_append] at h'
    exact h')
end
end Go.Sh
namespace Go.Proofs.YtilenpnpnbdndaaGreatDoor
open Go Go.Sh
set_option maxRecDepth 100000
set_option maxHeartbeats 4000000
theorem mixed : Tryz.prog.follows .mixedOrders = true := by kernel_rfl
attribute [local instance] Esc.none
structure R155 where
  f0 : Int
  f1 : Int
  f2 : Int
  f3 : Int
  f4 : Int
  f5 : Int
  f6 : Int
  f7 : Int
  f8 : Int
  f9 : Int
  f10 : Int
  f11 : Int
  f12 : Int
  f13 : Int
  f14 : Int
  f15 : Int
  f16 : Int
  f17 : Int
  f18 : Int
  f19 : Int
  f20 : Int
  f21 : Int
  f22 : Int
  f23 : Int
def R155.l (s : R155) : List Value := [.int .u8 s.f0,.int .u8 s.f1,.int .u8 s.f2,.int .u8 s.f3,.int .u8 s.f4,.int .u8 s.f5,.int .u8 s.f6,.int .u8 s.f7,.int .u8 s.f8,.int .u8 s.f9,.int .u8 s.f10,.int .u8 s.f11,.int .u8 s.f12,.int .u8 s.f13,.int .u8 s.f14,.int .u8 s.f15,.int .u8 s.f16,.int .u8 s.f17,.int .u8 s.f18,.int .u8 s.f19,.int .u8 s.f20,.int .u8 s.f21,.int .u8 s.f22,.int .u8 s.f23]
def R155.c (s : R155) : Array Value := #[.int .u8 s.f0,.int .u8 s.f1,.int .u8 s.f2,.int .u8 s.f3,.int .u8 s.f4,.int .u8 s.f5,.int .u8 s.f6,.int .u8 s.f7,.int .u8 s.f8,.int .u8 s.f9,.int .u8 s.f10,.int .u8 s.f11,.int .u8 s.f12,.int .u8 s.f13,.int .u8 s.f14,.int .u8 s.f15,.int .u8 s.f16,.int .u8 s.f17,.int .u8 s.f18,.int .u8 s.f19,.int .u8 s.f20,.int .u8 s.f21,.int .u8 s.f22,.int .u8 s.f23]
def R155.v (s : R155) : Value := .agg #[.int .u8 s.f0,.int .u8 s.f1,.int .u8 s.f2,.int .u8 s.f3,.int .u8 s.f4,.int .u8 s.f5,.int .u8 s.f6,.int .u8 s.f7,.int .u8 s.f8,.int .u8 s.f9,.int .u8 s.f10,.int .u8 s.f11,.int .u8 s.f12,.int .u8 s.f13,.int .u8 s.f14,.int .u8 s.f15,.int .u8 s.f16,.int .u8 s.f17,.int .u8 s.f18,.int .u8 s.f19,.int .u8 s.f20,.int .u8 s.f21,.int .u8 s.f22,.int .u8 s.f23]
def R155.z : R155 := ⟨0,0,0,0,0,0,0,0,0,0,0,0,0,0,0,0,0,0,0,0,0,0,0,0⟩
theorem R155.c_size (s : R155) : s.c.size = 24 := rfl
theorem R155.l_len (s : R155) : s.l.length = 24 := rfl
structure R85 where
  f0 : Int
  f1 : ByteArray
  f2a : Option Addr
  f2n : Nat
  f2c : Nat
def R85.l (s : R85) : List Value := [.int .i64 s.f0,.string s.f1,.slice s.f2a s.f2n s.f2c]
def R85.c (s : R85) : Array Value := #[.int .i64 s.f0,.string s.f1,.slice s.f2a s.f2n s.f2c]
def R85.v (s : R85) : Value := .agg #[.int .i64 s.f0,.string s.f1,.slice s.f2a s.f2n s.f2c]
def ldR85 (a : Addr) (w : World) (K : R85 -> Prop) : Prop := ldI .i64 (a.add 0) w fun f0 => ldS (a.add 1) w fun f1 => ldC (a.add 2) w fun f2a f2n f2c => K ⟨f0,f1,f2a,f2n,f2c⟩
def exR85 (K : R85 -> Prop) : Prop := ∃ f0 f1 f2a f2n f2c,K ⟨f0,f1,f2a,f2n,f2c⟩
theorem exR85_of {K : R85 -> Prop} (s : R85) (k : K s) : exR85 K := ⟨s.f0,s.f1,s.f2a,s.f2n,s.f2c,k⟩
theorem ldR85_of {a : Addr} {w : World} {s : R85} {K : R85 -> Prop} (h : At w a s.l) (k : K s) : ldR85 a w K := (ldI_c (h 0 _ rfl) (ldS_c (h 1 _ rfl) (ldC_c (h 2 _ rfl) k)))
def R85.z : R85 := ⟨0,ByteArray.empty,none,0,0⟩
theorem R85.c_size (s : R85) : s.c.size = 3 := rfl
theorem R85.l_len (s : R85) : s.l.length = 3 := rfl
structure R26 where
  f0 : Int
  f1 : Int
  f2 : Int
  f3 : Int
  f4 : Int
  f5 : Int
  f6 : Int
  f7 : Int
  f8 : Int
  f9 : Bool
  f10a : Option Addr
  f10n : Nat
  f10c : Nat
  f11 : ByteArray
def R26.l (s : R26) : List Value := [.int .i64 s.f0,.int .i64 s.f1,.int .i64 s.f2,.int .i64 s.f3,.int .i64 s.f4,.int .u8 s.f5,.int .i64 s.f6,.int .u16 s.f7,.int .u32 s.f8,.bool s.f9,.slice s.f10a s.f10n s.f10c,.string s.f11]
def R26.c (s : R26) : Array Value := #[.int .i64 s.f0,.int .i64 s.f1,.int .i64 s.f2,.int .i64 s.f3,.int .i64 s.f4,.int .u8 s.f5,.int .i64 s.f6,.int .u16 s.f7,.int .u32 s.f8,.bool s.f9,.slice s.f10a s.f10n s.f10c,.string s.f11]
def R26.v (s : R26) : Value := .agg #[.int .i64 s.f0,.int .i64 s.f1,.int .i64 s.f2,.int .i64 s.f3,.int .i64 s.f4,.int .u8 s.f5,.int .i64 s.f6,.int .u16 s.f7,.int .u32 s.f8,.bool s.f9,.slice s.f10a s.f10n s.f10c,.string s.f11]
def ldR26 (a : Addr) (w : World) (K : R26 -> Prop) : Prop := ldI .i64 (a.add 0) w fun f0 => ldI .i64 (a.add 1) w fun f1 => ldI .i64 (a.add 2) w fun f2 => ldI .i64 (a.add 3) w fun f3 => ldI .i64 (a.add 4) w fun f4 => ldI .u8 (a.add 5) w fun f5 => ldI .i64 (a.add 6) w fun f6 => ldI .u16 (a.add 7) w fun f7 => ldI .u32 (a.add 8) w fun f8 => ldB (a.add 9) w fun f9 => ldC (a.add 10) w fun f10a f10n f10c => ldS (a.add 11) w fun f11 => K ⟨f0,f1,f2,f3,f4,f5,f6,f7,f8,f9,f10a,f10n,f10c,f11⟩
def exR26 (K : R26 -> Prop) : Prop := ∃ f0 f1 f2 f3 f4 f5 f6 f7 f8 f9 f10a f10n f10c f11,K ⟨f0,f1,f2,f3,f4,f5,f6,f7,f8,f9,f10a,f10n,f10c,f11⟩
theorem exR26_of {K : R26 -> Prop} (s : R26) (k : K s) : exR26 K := ⟨s.f0,s.f1,s.f2,s.f3,s.f4,s.f5,s.f6,s.f7,s.f8,s.f9,s.f10a,s.f10n,s.f10c,s.f11,k⟩
theorem ldR26_of {a : Addr} {w : World} {s : R26} {K : R26 -> Prop} (h : At w a s.l) (k : K s) : ldR26 a w K := (ldI_c (h 0 _ rfl) (ldI_c (h 1 _ rfl) (ldI_c (h 2 _ rfl) (ldI_c (h 3 _ rfl) (ldI_c (h 4 _ rfl) (ldI_c (h 5 _ rfl) (ldI_c (h 6 _ rfl) (ldI_c (h 7 _ rfl) (ldI_c (h 8 _ rfl) (ldB_c (h 9 _ rfl) (ldC_c (h 10 _ rfl) (ldS_c (h 11 _ rfl) k))))))))))))
def R26.z : R26 := ⟨0,0,0,0,0,0,0,0,0,false,none,0,0,ByteArray.empty⟩
theorem R26.c_size (s : R26) : s.c.size = 12 := rfl
theorem R26.l_len (s : R26) : s.l.length = 12 := rfl
structure R49 where
  f0 : Int
  f1 : Int
  f2 : Int
  f3 : Int
  f4 : Int
  f5 : Int
  f6 : Int
  f7 : Int
  f8 : Int
  f9 : Int
  f10 : Int
  f11 : Int
  f12 : Int
  f13 : Int
  f14 : Int
  f15 : Int
  f16 : Int
  f17 : Int
  f18 : Int
  f19 : Int
  f20 : Int
  f21 : Int
  f22 : Int
  f23 : Int
  f24 : Int
  f25 : Int
  f26 : Int
  f27 : Int
  f28 : Int
  f29 : Int
  f30 : Int
  f31 : Int
  f32 : Int
  f33 : Int
  f34 : Int
  f35 : Int
  f36 : Int
  f37 : Int
  f38 : Bool
  f39 : Bool
  f40 : Bool
def R49.l (s : R49) : List Value := [.int .u8 s.f0,.int .u8 s.f1,.int .u8 s.f2,.int .u8 s.f3,.int .u8 s.f4,.int .u8 s.f5,.int .u8 s.f6,.int .u8 s.f7,.int .u8 s.f8,.int .u8 s.f9,.int .u8 s.f10,.int .u8 s.f11,.int .u8 s.f12,.int .u8 s.f13,.int .u8 s.f14,.int .u8 s.f15,.int .u64 s.f16,.int .i64 s.f17,.int .u32 s.f18,.int .u16 s.f19,.int .u16 s.f20,.int .i64 s.f21,.int .i64 s.f22,.int .u16 s.f23,.int .u16 s.f24,.int .i64 s.f25,.int .i64 s.f26,.int .i64 s.f27,.int .i64 s.f28,.int .i64 s.f29,.int .i64 s.f30,.int .i64 s.f31,.int .i64 s.f32,.int .i64 s.f33,.int .i64 s.f34,.int .i64 s.f35,.int .i64 s.f36,.int .i64 s.f37,.bool s.f38,.bool s.f39,.bool s.f40]
def R49.c (s : R49) : Array Value := #[.int .u8 s.f0,.int .u8 s.f1,.int .u8 s.f2,.int .u8 s.f3,.int .u8 s.f4,.int .u8 s.f5,.int .u8 s.f6,.int .u8 s.f7,.int .u8 s.f8,.int .u8 s.f9,.int .u8 s.f10,.int .u8 s.f11,.int .u8 s.f12,.int .u8 s.f13,.int .u8 s.f14,.int .u8 s.f15,.int .u64 s.f16,.int .i64 s.f17,.int .u32 s.f18,.int .u16 s.f19,.int .u16 s.f20,.int .i64 s.f21,.int .i64 s.f22,.int .u16 s.f23,.int .u16 s.f24,.int .i64 s.f25,.int .i64 s.f26,.int .i64 s.f27,.int .i64 s.f28,.int .i64 s.f29,.int .i64 s.f30,.int .i64 s.f31,.int .i64 s.f32,.int .i64 s.f33,.int .i64 s.f34,.int .i64 s.f35,.int .i64 s.f36,.int .i64 s.f37,.bool s.f38,.bool s.f39,.bool s.f40]
def R49.v (s : R49) : Value := .agg #[.int .u8 s.f0,.int .u8 s.f1,.int .u8 s.f2,.int .u8 s.f3,.int .u8 s.f4,.int .u8 s.f5,.int .u8 s.f6,.int .u8 s.f7,.int .u8 s.f8,.int .u8 s.f9,.int .u8 s.f10,.int .u8 s.f11,.int .u8 s.f12,.int .u8 s.f13,.int .u8 s.f14,.int .u8 s.f15,.int .u64 s.f16,.int .i64 s.f17,.int .u32 s.f18,.int .u16 s.f19,.int .u16 s.f20,.int .i64 s.f21,.int .i64 s.f22,.int .u16 s.f23,.int .u16 s.f24,.int .i64 s.f25,.int .i64 s.f26,.int .i64 s.f27,.int .i64 s.f28,.int .i64 s.f29,.int .i64 s.f30,.int .i64 s.f31,.int .i64 s.f32,.int .i64 s.f33,.int .i64 s.f34,.int .i64 s.f35,.int .i64 s.f36,.int .i64 s.f37,.bool s.f38,.bool s.f39,.bool s.f40]
def ldR49 (a : Addr) (w : World) (K : R49 -> Prop) : Prop := ldI .u8 (a.add 0) w fun f0 => ldI .u8 (a.add 1) w fun f1 => ldI .u8 (a.add 2) w fun f2 => ldI .u8 (a.add 3) w fun f3 => ldI .u8 (a.add 4) w fun f4 => ldI .u8 (a.add 5) w fun f5 => ldI .u8 (a.add 6) w fun f6 => ldI .u8 (a.add 7) w fun f7 => ldI .u8 (a.add 8) w fun f8 => ldI .u8 (a.add 9) w fun f9 => ldI .u8 (a.add 10) w fun f10 => ldI .u8 (a.add 11) w fun f11 => ldI .u8 (a.add 12) w fun f12 => ldI .u8 (a.add 13) w fun f13 => ldI .u8 (a.add 14) w fun f14 => ldI .u8 (a.add 15) w fun f15 => ldI .u64 (a.add 16) w fun f16 => ldI .i64 (a.add 17) w fun f17 => ldI .u32 (a.add 18) w fun f18 => ldI .u16 (a.add 19) w fun f19 => ldI .u16 (a.add 20) w fun f20 => ldI .i64 (a.add 21) w fun f21 => ldI .i64 (a.add 22) w fun f22 => ldI .u16 (a.add 23) w fun f23 => ldI .u16 (a.add 24) w fun f24 => ldI .i64 (a.add 25) w fun f25 => ldI .i64 (a.add 26) w fun f26 => ldI .i64 (a.add 27) w fun f27 => ldI .i64 (a.add 28) w fun f28 => ldI .i64 (a.add 29) w fun f29 => ldI .i64 (a.add 30) w fun f30 => ldI .i64 (a.add 31) w fun f31 => ldI .i64 (a.add 32) w fun f32 => ldI .i64 (a.add 33) w fun f33 => ldI .i64 (a.add 34) w fun f34 => ldI .i64 (a.add 35) w fun f35 => ldI .i64 (a.add 36) w fun f36 => ldI .i64 (a.add 37) w fun f37 => ldB (a.add 38) w fun f38 => ldB (a.add 39) w fun f39 => ldB (a.add 40) w fun f40 => K ⟨f0,f1,f2,f3,f4,f5,f6,f7,f8,f9,f10,f11,f12,f13,f14,f15,f16,f17,f18,f19,f20,f21,f22,f23,f24,f25,f26,f27,f28,f29,f30,f31,f32,f33,f34,f35,f36,f37,f38,f39,f40⟩
def exR49 (K : R49 -> Prop) : Prop := ∃ f0 f1 f2 f3 f4 f5 f6 f7 f8 f9 f10 f11 f12 f13 f14 f15 f16 f17 f18 f19 f20 f21 f22 f23 f24 f25 f26 f27 f28 f29 f30 f31 f32 f33 f34 f35 f36 f37 f38 f39 f40,K ⟨f0,f1,f2,f3,f4,f5,f6,f7,f8,f9,f10,f11,f12,f13,f14,f15,f16,f17,f18,f19,f20,f21,f22,f23,f24,f25,f26,f27,f28,f29,f30,f31,f32,f33,f34,f35,f36,f37,f38,f39,f40⟩
theorem exR49_of {K : R49 -> Prop} (s : R49) (k : K s) : exR49 K := ⟨s.f0,s.f1,s.f2,s.f3,s.f4,s.f5,s.f6,s.f7,s.f8,s.f9,s.f10,s.f11,s.f12,s.f13,s.f14,s.f15,s.f16,s.f17,s.f18,s.f19,s.f20,s.f21,s.f22,s.f23,s.f24,s.f25,s.f26,s.f27,s.f28,s.f29,s.f30,s.f31,s.f32,s.f33,s.f34,s.f35,s.f36,s.f37,s.f38,s.f39,s.f40,k⟩
theorem ldR49_of {a : Addr} {w : World} {s : R49} {K : R49 -> Prop} (h : At w a s.l) (k : K s) : ldR49 a w K := (ldI_c (h 0 _ rfl) (ldI_c (h 1 _ rfl) (ldI_c (h 2 _ rfl) (ldI_c (h 3 _ rfl) (ldI_c (h 4 _ rfl) (ldI_c (h 5 _ rfl) (ldI_c (h 6 _ rfl) (ldI_c (h 7 _ rfl) (ldI_c (h 8 _ rfl) (ldI_c (h 9 _ rfl) (ldI_c (h 10 _ rfl) (ldI_c (h 11 _ rfl) (ldI_c (h 12 _ rfl) (ldI_c (h 13 _ rfl) (ldI_c (h 14 _ rfl) (ldI_c (h 15 _ rfl) (ldI_c (h 16 _ rfl) (ldI_c (h 17 _ rfl) (ldI_c (h 18 _ rfl) (ldI_c (h 19 _ rfl) (ldI_c (h 20 _ rfl) (ldI_c (h 21 _ rfl) (ldI_c (h 22 _ rfl) (ldI_c (h 23 _ rfl) (ldI_c (h 24 _ rfl) (ldI_c (h 25 _ rfl) (ldI_c (h 26 _ rfl) (ldI_c (h 27 _ rfl) (ldI_c (h 28 _ rfl) (ldI_c (h 29 _ rfl) (ldI_c (h 30 _ rfl) (ldI_c (h 31 _ rfl) (ldI_c (h 32 _ rfl) (ldI_c (h 33 _ rfl) (ldI_c (h 34 _ rfl) (ldI_c (h 35 _ rfl) (ldI_c (h 36 _ rfl) (ldI_c (h 37 _ rfl) (ldB_c (h 38 _ rfl) (ldB_c (h 39 _ rfl) (ldB_c (h 40 _ rfl) k)))))))))))))))))))))))))))))))))))))))))
def R49.z : R49 := ⟨0,0,0,0,0,0,0,0,0,0,0,0,0,0,0,0,0,0,0,0,0,0,0,0,0,0,0,0,0,0,0,0,0,0,0,0,0,0,false,false,false⟩
theorem R49.c_size (s : R49) : s.c.size = 41 := rfl
theorem R49.l_len (s : R49) : s.l.length = 41 := rfl
structure R45 where
  f0 : Int
  f1 : Int
  f2 : Int
def R45.l (s : R45) : List Value := [.int .i64 s.f0,.int .i64 s.f1,.int .i64 s.f2]
def R45.c (s : R45) : Array Value := #[.int .i64 s.f0,.int .i64 s.f1,.int .i64 s.f2]
def R45.v (s : R45) : Value := .agg #[.int .i64 s.f0,.int .i64 s.f1,.int .i64 s.f2]
def R45.z : R45 := ⟨0,0,0⟩
theorem R45.c_size (s : R45) : s.c.size = 3 := rfl
theorem R45.l_len (s : R45) : s.l.length = 3 := rfl
end Go.Proofs.YtilenpnpnbdndaaGreatDoor
