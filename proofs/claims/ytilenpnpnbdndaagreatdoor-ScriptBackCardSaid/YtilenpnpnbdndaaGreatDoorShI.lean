/- Own text: part of the shallow reading of the code and of the contracts that are proved over it. -/
import Derived.Test.YtilenpnpnbdndaaGreatDoorShF
import Derived.MapKept
namespace Go.Sh
open Go
def up [Esc] (N : Fm) (ds : List Deferred) (Q : Post) : Exit -> Act -> World -> Prop
 | .normal,a,w => ∃ t,Mt N ds a t /\ Q .normal t w
 | .exit i,a,w => ∃ t,Mt N ds a t /\ Q (.exit i) t w
 | .ret,a,w => ∃ t,Mt N.n ds a t /\ Q .ret t w
 | .panic ch,a,w => (∃ t,Mt N ds a t) /\ Esc.E ch w
 | _,_,_ => False
def W [Esc] (P : Program) (N : Fm) (c : Code) (Q : Post) (t : Tm) (w : World) : Prop := ∀ (r : Option Nat) (ds : List Deferred) a,Mt N ds a t -> c.wpIn (fw r) 0 P (up N ds Q) a w
theorem up_mono [Esc] {N : Fm} {ds : List Deferred} {Q Q' : Post} (h : ∀ o t w,Q o t w -> Q' o t w) : ∀ e a w,up N ds Q e a w -> up N ds Q' e a w
 | .normal,_,_,⟨t,x,y⟩ => ⟨t,x,h _ _ _ y⟩
 | .exit _,_,_,⟨t,x,y⟩ => ⟨t,x,h _ _ _ y⟩
 | .ret,_,_,⟨t,x,y⟩ => ⟨t,x,h _ _ _ y⟩
 | .panic _,_,_,x => x
theorem W.mono [Esc] {P : Program} {N : Fm} {c : Code} {Q Q' : Post} {t : Tm} {w : World} (x : W P N c Q t w) (h : ∀ o t w,Q o t w -> Q' o t w) : W P N c Q' t w :=
 fun r ds a ha => wpIn_mono (x r ds a ha) (up_mono h)
section
variable {P : Program} {N : Fm} {Q : Post} {t : Tm} {w : World}
def okOps (P : Program) (N : Fm) (ops : Array Oper) : Bool := ops.toList.all fun o => okOp P o && (match o.dst with | some d => N.ok d | none => true)
def okC (P : Program) (N : Fm) : Code -> Bool
 | .region _ ops d => okOps P N ops && (!d || okD P ops)
 | .seq a b => okC P N a && okC P N b
 | .cond _ a b => okC P N a && okC P N b
 | .block _ b => okC P N b
 | .loop b => okC P N b
 | .rangeFunc _ ps a b => ps.toList.all (fun p => N.ok p) && okC P N a && okC P N b
 | _ => true
theorem okOps_at {ops : Array Oper} (h : okOps P N ops = true) (i : Nat) (o : Oper) (ho : ops[i]? = some o) : okOp P o = true /\ ∀ d,o.dst = some d -> N.ok d = true := by
 have := List.all_eq_true.1 h o (by simpa using Array.mem_of_getElem? ho)
 simp only [Bool.and_eq_true] at this
 refine ⟨this.1,fun d hd => ?_⟩
 have := this.2
 simp only [hd] at this
 exact this
theorem vcOpE_op [Esc] {P : Program} {all : List Oper} {o : Oper} {ρ : Operand -> Value} {w : World} {K : Value -> World -> Prop} (h : vcOpE P all o ρ w K) : vcOp P o ρ w w K := by
 unfold vcOpE at h
 split at h
 ·rename_i it hop
  split at h
  ·obtain ⟨u,h⟩ := exX_ex h
   obtain ⟨v,h⟩ := exX_ex h
   unfold vcOp
   rw [hop]
   exact ⟨u,v,h⟩
  ·exact h
 ·exact h
theorem W_ops [Esc] {ops : Array Oper} (hok : okOps P N ops = true) {K : Tm -> World -> Prop} {R : Exit -> Act -> World -> Prop} {r : Option Nat} {ds : List Deferred} (hp : ∀ a t w ch,Mt N ds a t -> Esc.E ch w -> R (.panic ch) a w) (hR : ∀ a t w,Mt N ds a t -> K t w -> R .normal a w) : ∀ (l : List Oper) (t : Tm) (a : Act) (w : World),
  (∀ o ∈ l,o ∈ ops) -> Mt N ds a t -> vcOps P ops.toList l t w K -> wpListIn (fw r) 0 P ops R l a w
 | [],t,a,w,_,hM,h => hR a t w hM h
 | o :: l,t,a,w,hl,hM,h => by
  unfold vcOps at h
  rw [gd_iff] at h
  obtain ⟨i,hi⟩ := Array.mem_iff_getElem?.1 (hl o List.mem_cons_self)
  obtain ⟨h1,h2⟩ := okOps_at hok i o hi
  have hM' : ∀ v,Mt N ds (a.put o.dst v) (putO t o.dst v) := fun v => hM.put h2 v
  refine wpListIn_step fun X hX => ?_
  rw [hM.yielded]
  have e : wantT (guardOf ops.toList o) t = wantT (o.guard.map fun g => (guardTmp ops.toList g.1,g.2)) t := rfl
  split
  ·rename_i hw
   rw [e] at hw
   rw [if_pos hw] at h
   have h := vcOpE_op h
   have := ok_vcOp (fun _ => rfl) h1 h
   have hnd := vcOp_nodefer h
   rw [← hM.eval] at this
   exact this.wp hnd (fun ch w' he => hp a t w' ch hM he) fun v w' x => hX _ _ (W_ops hok hp hR l _ _ _ (fun o ho => hl o (List.mem_cons_of_mem _ ho)) (hM' v) x)
  ·rename_i hw
   rw [e] at hw
   rw [if_neg hw] at h
   exact ⟨fun _ _ => trivial,hX _ _ (W_ops hok hp hR l _ _ _ (fun o ho => hl o (List.mem_cons_of_mem _ ho)) (hM' undef) h)⟩
theorem W_region [Esc] {id : Nat} {ops : Array Oper} (hok : okOps P N ops = true) (h : vcOps P ops.toList ops.toList t w (Q .normal)) : W P N (.region id ops false) Q t w :=
 fun r ds a ha => wpIn_region_list (W_ops hok (fun _ t _ _ hM he => ⟨⟨t,hM⟩,he⟩) (fun _ t _ hM hk => ⟨t,hM,hk⟩) ops.toList t a w (fun _ ho => by simpa using ho) ha h)
theorem W_draw [Esc] {id : Nat} {ops : Array Oper} (hm : P.follows .mixedOrders = true) (hok : okOps P N ops = true) (hd : okD P ops = true)
  (h : vcDraw P ops.toList (Q .normal) ops.size t w.drew) : W P N (.region id ops true) Q t w := by
 intro r ds a ha
 refine wpIn_region_any hm ?_
 have hD : Down ops (Array.replicate ops.size false) := by
  intro m o ho hl
  exfalso
  have hlt := (Array.getElem?_eq_some_iff.1 ho).1
  simp [hlt] at hl
 have hA : Agree ops 0 (Array.replicate ops.size false) := ⟨by simp,fun i => by
  rw [Nat.zero_testBit,Array.getD_eq_getD_getElem?,Array.getElem?_replicate]
  split <;> rfl⟩
 have go : ∀ wr,Pres wr w.drew -> vcT P ops.toList wr (marked P ops.toList) (dlist P (marked P ops.toList)) (Q .normal) ops.size 0 t w.drew -> wpAnyIn (fw r) 0 P .any ops (up N ds Q) ops.size (Array.replicate ops.size false) a w.drew := fun wr hp h =>
  wpAny_of_vAny hd (fun i o ho d hd' => (okOps_at hok i o ho).2 d hd') (Q := up N ds Q) (K := Q .normal) (fun a t w ch hM he => ⟨⟨t,hM⟩,he⟩) (fun a t w hM hk => ⟨t,hM,hk⟩) ops.size _ t a w.drew ha hD (fun _ => hp) (vAny_tree hd ops.size 0 _ t w.drew hA hD h)
 unfold vcDraw at h
 split at h
 ·obtain ⟨wr,hp,h⟩ := h
  exact go wr hp h
 ·exact go w.drew (Pres.refl _) h
theorem W_seq [Esc] {a b : Code} (h : W P N a (fun o t w => match o with | .normal => W P N b Q t w | .exit i => Q (.exit i) t w | .ret => Q .ret t w) t w) : W P N (.seq a b) Q t w :=
 fun r ds x hx => wpIn_seq (wpIn_mono (h r ds x hx) fun e y w q => by
  cases e with
  | normal => obtain ⟨t,hM,hq⟩ := q; exact hq r ds y hM
  | exit i => exact q
  | ret => exact q
  | goto l => exact q
  | panic c => exact q
  | outgrown => exact q)
theorem W_cond [Esc] {c : Operand} {a b : Code} {v : Bool} (hc : ev t c = .bool v) (h : if v = true then W P N a Q t w else W P N b Q t w) : W P N (.cond c a b) Q t w :=
 fun r ds x hx => by
  refine wpIn_cond (t := v) (by rw [hx.eval]; exact hc) ?_
  cases v with
  | true => exact h r ds x hx
  | false => exact h r ds x hx
theorem W_block [Esc] {id : Nat} {b : Code} (h : W P N b (fun o t w => match o with | .normal => Q .normal t w | .exit i => (match Nat.beq i id with | true => Q .normal t w | false => Q (.exit i) t w) | .ret => Q .ret t w) t w) : W P N (.block id b) Q t w :=
 fun r ds x hx => wpIn_block (wpIn_mono (h r ds x hx) fun e y w q => by
  cases e with
  | normal => exact q
  | exit i =>
   obtain ⟨t,hM,hq⟩ := q
   have hq : (match Nat.beq i id with | true => Q .normal t w | false => Q (.exit i) t w) := hq
   show if i = id then _ else _
   cases hb : Nat.beq i id with
   | true => rw [hb] at hq; rw [nbeq] at hb; rw [if_pos hb]; exact ⟨t,hM,hq⟩
   | false =>
    rw [hb] at hq
    rw [if_neg (fun e => by
      have : Nat.beq i id = true := by rw [nbeq]; exact e
      rw [hb] at this; cases this)]
    exact ⟨t,hM,hq⟩
  | ret => exact q
  | goto l => exact q
  | panic c => exact q
  | outgrown => exact q)
theorem W_loop [Esc] {b : Code} (G : Nat -> Tm -> World -> Prop) (h0 : ∀ t w,¬ G 0 t w)
  (hs : ∀ n t w,G (n + 1) t w -> W P N b (fun o t w => match o with | .normal => G n t w | .exit i => Q (.exit i) t w | .ret => Q .ret t w) t w) : ∀ n t w,G n t w -> W P N (.loop b) Q t w := by
 intro n t w h r ds a ha f k cs hro hb hr
 have key : ∀ n t w,G n t w -> ∀ a,Mt N ds a t ->
   ∃ e a' w',up N ds Q e a' w' /\ ArrivesIn (Machine.fenced P (fw r)) P (lone (f.atR a (.code b :: .inLoop b :: k)) cs w) f k cs e a' w' := by
  intro n
  induction n with
  | zero => intro t w h; exact absurd h (h0 t w)
  | succ n ih =>
   intro t w h a ha
   obtain ⟨e,a₁,w₁,hq,harr⟩ := hs n t w h r ds a ha f (.inLoop b :: k) cs hro hb hr
   cases e with
   | normal =>
    obtain ⟨t₁,hM,hg⟩ := hq
    obtain ⟨e₂,a₂,w₂,hq₂,harr₂⟩ := ih t₁ w₁ hg a₁ hM
    exact ⟨e₂,a₂,w₂,hq₂,.of_steps (StepsIn.trans harr (.one (fenced_calm hb hr rfl) stepR_inLoop)) harr₂⟩
   | exit id =>
    obtain ⟨t₁,hM,hq⟩ := hq
    exact ⟨.exit id,a₁,w₁,⟨t₁,hM,hq⟩,.pass (x := .inLoop b) rfl (fun _ _ => .inl (by simp)) harr⟩
   | goto l => exact hq.elim
   | ret =>
    obtain ⟨t₁,hM,hq⟩ := hq
    exact ⟨.ret,a₁,w₁,⟨t₁,hM,hq⟩,.pass (x := .inLoop b) rfl (fun _ _ => .inl (by simp)) harr⟩
   | panic ch => exact ⟨.panic ch,a₁,w₁,hq,.pass (x := .inLoop b) rfl (fun _ _ => .inl (by simp)) harr⟩
   | outgrown => exact hq.elim
 obtain ⟨e,a',w',hq,harr⟩ := key n t w h a ha
 exact ⟨e,a',w',hq,.of_steps (.one (fenced_calm hb hr rfl) stepR_loop) harr⟩
def child (i : Nat) : Code -> Code
 | .seq a b => match i with | 0 => a | _ => b
 | .cond _ a b => match i with | 0 => a | _ => b
 | .block _ b => b
 | .loop b => b
 | .rangeFunc _ _ a b => match i with | 0 => a | _ => b
 | c => c
def getAt (c : Code) : Path -> Code
 | [] => c
 | i :: π => child i (getAt c π)
def OrcOk [Esc] (P : Program) (N : Fm) (c : Code) (orc : Orc) : Prop := ∀ π O,orc π = some O -> ∀ Q t w,O Q t w -> W P N (getAt c π) Q t w
theorem vc_sound [Esc] (hm : P.follows .mixedOrders = true) {c0 : Code} {orc : Orc} (ho : OrcOk P N c0 orc) : ∀ (c : Code) (π : Path),getAt c0 π = c -> okC P N c = true -> ∀ (Q : Post) (t : Tm) (w : World),
  vc P orc π c Q t w -> W P N c Q t w := by
 intro c
 induction c with
 | seq a b iha ihb =>
  intro π hπ hok Q t w h
  unfold vc at h
  split at h
  ·rename_i O hO; rw [← hπ]; exact ho π O hO Q t w h
  ·simp only [okC,Bool.and_eq_true] at hok
   refine W_seq ((iha (0 :: π) (by simp [getAt,hπ,child]) hok.1 _ t w h).mono fun o t w q => ?_)
   cases o with
   | normal => exact ihb (1 :: π) (by simp [getAt,hπ,child]) hok.2 _ t w q
   | exit i => exact q
   | ret => exact q
 | cond x a b iha ihb =>
  intro π hπ hok Q t w h
  unfold vc at h
  split at h
  ·rename_i O hO; rw [← hπ]; exact ho π O hO Q t w h
  ·simp only [okC,Bool.and_eq_true] at hok
   have ha := iha (0 :: π) (by simp [getAt,hπ,child]) hok.1
   have hb := ihb (1 :: π) (by simp [getAt,hπ,child]) hok.2
   cases x with
   | tmp i =>
    simp only at h
    split at h
    ·rename_i e he
     refine W_cond (v := e) he ?_
     cases e with
     | true => have h := ha Q _ w h; rw [upd_same t i he] at h; exact h
     | false => have h := hb Q _ w h; rw [upd_same t i he] at h; exact h
    ·exact h.elim
   | const v =>
    cases v with
    | bool e =>
     refine W_cond (v := e) rfl ?_
     cases e with
     | true => exact ha Q _ w h
     | false => exact hb Q _ w h
    | _ => exact h.elim
   | _ => exact h.elim
 | block id b ih =>
  intro π hπ hok Q t w h
  unfold vc at h
  split at h
  ·rename_i O hO; rw [← hπ]; exact ho π O hO Q t w h
  ·simp only [okC] at hok
   exact W_block (ih (0 :: π) (by simp [getAt,hπ,child]) hok _ t w h)
 | loop b ih =>
  intro π hπ hok Q t w h
  unfold vc at h
  split at h
  ·rename_i O hO; rw [← hπ]; exact ho π O hO Q t w h
  ·simp only [okC] at hok
   obtain ⟨n,h⟩ := h
   refine W_loop (G := fun n => loopN (vc P orc (0 :: π) b) Q n) (fun _ _ h => h) (fun n t w h => ?_) n t w h
   exact ih (0 :: π) (by simp [getAt,hπ,child]) hok _ t w h
 | region id ops d =>
  intro π hπ hok Q t w h
  unfold vc at h
  split at h
  ·rename_i O hO; rw [← hπ]; exact ho π O hO Q t w h
  ·simp only [okC,Bool.and_eq_true,Bool.or_eq_true,Bool.not_eq_true'] at hok
   cases d with
   | false => exact W_region hok.1 h
   | true => exact W_draw hm hok.1 (hok.2.resolve_left (by simp)) h
 | skip =>
  intro π hπ _ Q t w h
  unfold vc at h
  split at h
  ·rename_i O hO; rw [← hπ]; exact ho π O hO Q t w h
  ·exact fun r ds a ha => wpIn_skip ⟨t,ha,h⟩
 | label l =>
  intro π hπ _ Q t w h
  unfold vc at h
  split at h
  ·rename_i O hO; rw [← hπ]; exact ho π O hO Q t w h
  ·exact fun r ds a ha => wpIn_label ⟨t,ha,h⟩
 | exit i =>
  intro π hπ _ Q t w h
  unfold vc at h
  split at h
  ·rename_i O hO; rw [← hπ]; exact ho π O hO Q t w h
  ·exact fun r ds a ha => wpIn_exit ⟨t,ha,h⟩
 | ret =>
  intro π hπ _ Q t w h
  unfold vc at h
  split at h
  ·rename_i O hO; rw [← hπ]; exact ho π O hO Q t w h
  ·exact fun r ds a ha => wpIn_ret ⟨t,ha.free,h⟩
 | _ =>
  intro π hπ _ Q t w h
  unfold vc at h
  split at h
  ·rename_i O hO; rw [← hπ]; exact ho π O hO Q t w h
  ·exact h.elim
def rsh : List (Nat × Kx) -> Tm -> (Tm -> Prop) -> Prop
 | [],t,K => K t
 | (i,k) :: r,t,K => exX k fun v => t i = v /\ rsh r (upd t i v) K
theorem rsh_out : ∀ {l : List (Nat × Kx)} {t : Tm} {K : Tm -> Prop},rsh l t K -> K t
 | [],_,_,h => h
 | (i,k) :: r,t,K,h => by
  obtain ⟨v,hv,h⟩ := exX_ex h
  have := rsh_out h
  rwa [upd_same t i hv] at this
def upds (t : Tm) : List (Nat × Value) -> Tm
 | [] => t
 | (i,v) :: r => upds (upd t i v) r
def resL (P : Program) (t : Tm) (w : World) : List ResultVar -> (List Value -> Prop) -> Prop
 | [],K => K []
 | .tmp i :: r,K => resL P t w r fun vs => K (t i :: vs)
 | .cell i ty :: r,K => match t i with
  | .pointer (some a) => match tyI P ty with
   | some inf => match (match kxOf P ty with | .agg ks => Nat.beq ks.length inf.size | .one _ => true) with
    | true => ldX (kxOf P ty) a w fun v => resL P t w r fun vs => K (v :: vs)
    | false => False
   | none => False
  | _ => False
def tupV (vs : List Value) : Value := match vs with | [v] => v | vs => .tuple vs.toArray
def retQ (P : Program) (fn : Func) (K : Value -> World -> Prop) : Post := fun o t w =>
 match o with
 | .exit _ => False
 | _ => resL P t w fn.results.toList fun vs => K (tupV vs) w
def resF (tmps : Array Value) (r : ResultVar) : Sem Value :=
 match r with
 | .tmp t => pure (tmps.getD t undef)
 | .cell a t => do loadVar t (← asAddr (tmps.getD a undef))
theorem run_resL {ds : List Deferred} {a : Act} (ha : Mt N ds a t) : ∀ {l : List ResultVar} {K : List Value -> Prop},resL P t w l K -> ∃ vs,K vs /\ (l.mapM (resF a.tmps)).run P w = .ok vs w
 | [],_,h => ⟨[],h,rfl⟩
 | .tmp i :: r,K,h => by
  have h : resL P t w r fun vs => K (t i :: vs) := h
  obtain ⟨vs,hk,hr⟩ := run_resL ha h
  refine ⟨t i :: vs,hk,?_⟩
  have h1 : (resF a.tmps (.tmp i)).run P w = .ok (t i) w := by simp only [resF,Sem.run_pure,ha.2.2.1 i]
  rw [List.mapM_cons,Sem.run_bind,h1]
  simp only [Result.andThen_ok,Sem.run_bind,hr,Sem.run_pure]
 | .cell i ty :: r,K,h => by
  unfold resL at h
  split at h
  ·rename_i ad hi
   split at h
   ·rename_i inf hinf
    split at h
    ·rename_i hs
     obtain ⟨v,h,hv⟩ := run_loadVar (P := P) hinf hs h
     obtain ⟨vs,hk,hr⟩ := run_resL ha h
     refine ⟨v :: vs,hk,?_⟩
     have h1 : (resF a.tmps (.cell i ty)).run P w = .ok v w := by simp only [resF,Sem.run_bind,ha.2.2.1 i,hi,asAddr,Sem.run_pure,Result.andThen_ok,hv]
     rw [List.mapM_cons,Sem.run_bind,h1]
     simp only [Result.andThen_ok,Sem.run_bind,hr,Sem.run_pure]
    ·exact h.elim
   ·exact h.elim
  ·exact h.elim
theorem results_eq (fn : Func) (tmps : Array Value) : results fn tmps = (do let vs ← fn.results.mapM (resF tmps); pure (if h : vs.size = 1 then vs[0] else .tuple vs)) := rfl
theorem run_results {ds : List Deferred} {a : Act} {fn : Func} (ha : Mt N ds a t) {K : List Value -> Prop} (h : resL P t w fn.results.toList K) : ∃ vs,K vs /\ (results fn a.tmps).run P w = .ok (tupV vs) w := by
 obtain ⟨vs,hk,hr⟩ := run_resL ha h
 refine ⟨vs,hk,?_⟩
 rw [results_eq,Sem.run_bind]
 have he : (fn.results.mapM (resF a.tmps)).run P w = .ok vs.toArray w := by
  rw [Array.mapM_eq_mapM_toList,Sem.run_map,hr]
  rfl
 rw [he]
 simp only [Result.andThen_ok]
 cases vs with
 | nil => rfl
 | cons v vs => cases vs with
  | nil => rfl
  | cons u vs => simp [tupV]
def args0 (args : Array Value) : Tm := fun i => args.getD i undef
theorem args0_mt {n : Nat} {args : Array Value} (hN : args.size <= n) : Mt n [] { tmps := args ++ Array.replicate (n - args.size) undef,defers := [] } (args0 args) := by
 refine ⟨by simp; omega,rfl,fun i => ?_,fun i hi => by cases hi⟩
 unfold args0
 by_cases hi : i < args.size
 ·simp [Array.getElem?_append_left hi]
 ·have e1 : args[i]? = none := Array.getElem?_eq_none (by omega)
  rw [Array.getD_eq_getD_getElem?,Array.getElem?_append_right (by omega),Array.getD_eq_getD_getElem?,e1]
  rw [Array.getElem?_replicate]
  split <;> rfl
theorem calls_of [Esc] {f : FuncId} {fn : Func} {c : Code} {args : Array Value} {K : Value -> World -> Prop} (_ : P.follows .mixedOrders = true) (hf : P.funcs[f]? = some fn) (hb : fn.body = some c) (hN : args.size <= fn.ntmps)
  (h : W P fn.ntmps c (retQ P fn K) (args0 args) w) : Calls P f args w (rv K) := by
 refine calls_of_wp hf hb (wp_mono (wpIn_wide.1 (h none [] _ (args0_mt hN))) fun e a w q => ?_)
 cases e with
 | normal =>
  obtain ⟨t,hM,q⟩ := q
  obtain ⟨vs,hk,hr⟩ := run_results hM q
  exact ⟨hM.2.1,_,hr,rv_iff.2 (.inl ⟨_,rfl,hk⟩)⟩
 | ret =>
  obtain ⟨t,hM,q⟩ := q
  obtain ⟨vs,hk,hr⟩ := run_results hM q
  exact ⟨hM.2.1,_,hr,rv_iff.2 (.inl ⟨_,rfl,hk⟩)⟩
 | exit i => obtain ⟨t,hM,q⟩ := q; exact q.elim
 | goto l => exact q.elim
 | panic c =>
  obtain ⟨⟨t,hM⟩,he⟩ := q
  exact ⟨hM.2.1,rv_iff.2 (.inr ⟨_,rfl,he⟩)⟩
 | outgrown => exact q.elim
theorem nlt {a b : Nat} (h : Nat.ble a b = true) : a <= b := by rwa [Nat.ble_eq] at h
def peq : Path -> Path -> Bool
 | [],[] => true
 | a :: x,b :: y => match Nat.beq a b with | true => peq x y | false => false
 | _,_ => false
theorem peq_eq : ∀ {x y : Path},peq x y = true -> x = y
 | [],[],_ => rfl
 | [],_ :: _,h => by cases h
 | _ :: _,[],h => by cases h
 | a :: x,b :: y,h => by
  unfold peq at h
  split at h
  ·rename_i hab
   rw [nbeq] at hab
   rw [hab,peq_eq h]
  ·cases h
def orcOf : List (Path × (Post -> Tm -> World -> Prop)) -> Orc
 | [],_ => none
 | (π,O) :: r,ρ => match peq π ρ with | true => some O | false => orcOf r ρ
theorem orcNil [Esc] (c : Code) : OrcOk P N c (orcOf []) := fun _ _ h => by cases h
theorem orcCons [Esc] {c : Code} {π : Path} {O : Post -> Tm -> World -> Prop} {l : List (Path × (Post -> Tm -> World -> Prop))} (h : ∀ Q t w,O Q t w -> W P N (getAt c π) Q t w) (hr : OrcOk P N c (orcOf l)) : OrcOk P N c (orcOf ((π,O) :: l)) := by
 intro ρ O' ho
 unfold orcOf at ho
 split at ho
 ·rename_i hp
  cases ho
  rw [← peq_eq hp]
  exact h
 ·exact hr ρ O' ho
theorem okC_child {c : Code} (i : Nat) (h : okC P N c = true) : okC P N (child i c) = true := by
 cases c <;> simp only [child] <;> first
  | exact h
  | (simp only [okC,Bool.and_eq_true] at h; split <;> first | exact h.1 | exact h.2)
  | (simp only [okC,Bool.and_eq_true] at h; split <;> first | exact h.1.2 | exact h.2)
theorem okC_at {c : Code} (h : okC P N c = true) : ∀ π : Path,okC P N (getAt c π) = true
 | [] => h
 | i :: π => okC_child i (okC_at h π)
theorem upds_same (l : List Nat) : ∀ (g : Tm),(∀ i,i ∉ l -> g i = t i) -> upds g (l.map fun i => (i,t i)) = t := by
 induction l with
 | nil => intro g h; funext i; exact h i (by simp)
 | cons a l ih =>
  intro g h
  refine ih _ fun i hi => ?_
  by_cases ha : i = a
  ·subst ha; exact upd_eq _
  ·rw [upd_ne _ ha]; exact h i (by simp [ha,hi])
theorem out_ok {sl : List (Nat × Kx)} {K : Tm -> Prop} (l : List Nat) (q : ∀ g,rsh sl (upds g (l.map fun i => (i,t i))) K) : K t := by
 have := rsh_out (q t)
 rwa [upds_same l t (fun _ _ => rfl)] at this
end
end Go.Sh
namespace Go.Sh
open Go
def sb (w : World) (b : Nat) (o : Obj) : World := { w with heap := w.heap.setIfInBounds b o }
theorem lt_of_blk {w : World} {b : Nat} {o : Obj} (h : w.heap[b]? = some o) : b < w.heap.size := (Array.getElem?_eq_some_iff.1 h).1
@[simp] theorem sb_size (w : World) (b : Nat) (o : Obj) : (sb w b o).heap.size = w.heap.size := by simp [sb]
theorem sb_same {w : World} {b : Nat} {o o' : Obj} (h : w.heap[b]? = some o') : (sb w b o).heap[b]? = some o := by
 have := lt_of_blk h
 simp [sb,this]
theorem sb_other {w : World} {b c : Nat} {o : Obj} (h : c ≠ b) : (sb w b o).heap[c]? = w.heap[c]? := by
 simp [sb,Array.getElem?_setIfInBounds_ne (Ne.symm h)]
theorem alloc_new (w : World) (o : Obj) : (w.alloc o).heap[w.heap.size]? = some o := by
 show (w.heap.push o)[w.heap.size]? = some o
 simp
theorem alloc_old {w : World} {o : Obj} {c : Nat} (h : c < w.heap.size) : (w.alloc o).heap[c]? = w.heap[c]? := RowKit.Below.heap_alloc w o c h
theorem alloc_blk {w : World} {o o' : Obj} {c : Nat} (h : w.heap[c]? = some o') : (w.alloc o).heap[c]? = some o' := by rw [alloc_old (lt_of_blk h)]; exact h
@[simp] theorem drew_heap (w : World) : w.drew.heap = w.heap := rfl
structure Fr (S : Nat -> Prop) (w w' : World) : Prop where
 os : w'.os = w.os
 tape : w'.tape = w.tape
 output : w'.output = w.output
 size : w.heap.size <= w'.heap.size
 block : ∀ k,k < w.heap.size -> ¬ S k -> w'.heap[k]? = w.heap[k]?
theorem Fr.refl {S : Nat -> Prop} (w : World) : Fr S w w := ⟨rfl,rfl,rfl,Nat.le_refl _,fun _ _ _ => rfl⟩
theorem Fr.trans {S S' : Nat -> Prop} {a b c : World} (h : Fr S a b) (k : Fr S' b c) (hs : ∀ i,i < a.heap.size -> S' i -> S i) : Fr S a c :=
 ⟨k.os.trans h.os,k.tape.trans h.tape,k.output.trans h.output,Nat.le_trans h.size k.size,fun i hi hn => (k.block i (Nat.lt_of_lt_of_le hi h.size) fun x => hn (hs i hi x)).trans (h.block i hi hn)⟩
theorem Fr.mono {S S' : Nat -> Prop} {a b : World} (h : Fr S a b) (hs : ∀ i,i < a.heap.size -> S i -> S' i) : Fr S' a b :=
 ⟨h.os,h.tape,h.output,h.size,fun i hi hn => h.block i hi fun x => hn (hs i hi x)⟩
theorem Fr.alloc {S : Nat -> Prop} {a w : World} (h : Fr S a w) (o : Obj) : Fr S a (w.alloc o) :=
 ⟨h.os,h.tape,h.output,by have := h.size; simp; omega,fun i hi hn => by rw [alloc_old (by have := h.size; omega)]; exact h.block i hi hn⟩
theorem Fr.drew {S : Nat -> Prop} {a w : World} (h : Fr S a w) : Fr S a w.drew := ⟨h.os,h.tape,h.output,h.size,h.block⟩
theorem Fr.sb {S : Nat -> Prop} {a w : World} (h : Fr S a w) {b : Nat} {o : Obj} (hb : b < a.heap.size -> S b) : Fr S a (Sh.sb w b o) :=
 ⟨h.os,h.tape,h.output,by have := h.size; simpa using this,fun i hi hn => by rw [sb_other (fun e => hn (by subst e; exact hb hi))]; exact h.block i hi hn⟩
theorem Fr.blk {S : Nat -> Prop} {a w : World} (h : Fr S a w) {c : Nat} {o : Obj} (hc : a.heap[c]? = some o) (hn : ¬ S c) : w.heap[c]? = some o := by
 rw [h.block c (lt_of_blk hc) hn]; exact hc
theorem Fr.below {S : Nat -> Prop} {a w : World} (h : Fr S a w) {B : Nat} (hB : B <= a.heap.size) (hs : ∀ i,S i -> B <= i) : RowKit.Below B a w :=
 ⟨h.os,h.tape,h.output,h.size,fun k hk => h.block k (by omega) fun x => by have := hs k x; omega⟩
section
variable {w : World} {b o : Nat} {cs : Array Value} {T : TypeId} {z : Nat × Nat}
@[simp] theorem add_mk (b o n : Nat) : (Addr.mk b o none).add n = Addr.mk b (o + n) none := by
 unfold Addr.add
 split
 ·rename_i h; subst h; rfl
 ·rfl
theorem cell_at (h : w.heap[b]? = some (.cells cs T z)) : w.cell? (Addr.mk b o none) = cs[o]? := by simp [World.cell?,h]
theorem ldI_at {k : IntKind} {n : Int} {K : Int -> Prop} (h : w.heap[b]? = some (.cells cs T z)) (hv : cs[o]? = some (.int k n)) (hk : K n) : ldI k (Addr.mk b o none) w K := ⟨n,by rw [cell_at h,hv],hk⟩
theorem ldB_at {n : Bool} {K : Bool -> Prop} (h : w.heap[b]? = some (.cells cs T z)) (hv : cs[o]? = some (.bool n)) (hk : K n) : ldB (Addr.mk b o none) w K := ⟨n,by rw [cell_at h,hv],hk⟩
theorem ldS_at {n : ByteArray} {K : ByteArray -> Prop} (h : w.heap[b]? = some (.cells cs T z)) (hv : cs[o]? = some (.string n)) (hk : K n) : ldS (Addr.mk b o none) w K := ⟨n,by rw [cell_at h,hv],hk⟩
theorem ldP_at {n : Option Addr} {K : Option Addr -> Prop} (h : w.heap[b]? = some (.cells cs T z)) (hv : cs[o]? = some (.pointer n)) (hk : K n) : ldP (Addr.mk b o none) w K := ⟨n,by rw [cell_at h,hv],hk⟩
theorem ldC_at {a : Option Addr} {l c : Nat} {K : Option Addr -> Nat -> Nat -> Prop} (h : w.heap[b]? = some (.cells cs T z)) (hv : cs[o]? = some (.slice a l c)) (hk : K a l c) : ldC (Addr.mk b o none) w K := ⟨a,l,c,by rw [cell_at h,hv],hk⟩
theorem setCell_sb {v : Value} (h : w.heap[b]? = some (.cells cs T z)) : w.setCell (Addr.mk b o none) v = sb w b (.cells (cs.setIfInBounds o v) T z) := by
 unfold World.setCell sb
 congr 1
 apply Array.ext_getElem?
 intro i
 rw [Array.getElem?_modify]
 by_cases hi : b = i
 ·subst hi
  have := lt_of_blk h
  rw [if_pos rfl,h]
  simp [this]
 ·rw [if_neg hi,Array.getElem?_setIfInBounds_ne hi]
theorem stc_at {v : Value} {K : World -> Prop} (h : w.heap[b]? = some (.cells cs T (0,0))) (ho : o < cs.size) (hk : K (sb w b (.cells (cs.setIfInBounds o v) T (0,0)))) : stc (Addr.mk b o none) v w K := by
 refine ⟨⟨?_,?_⟩,?_⟩
 ·rw [cell_at h]; simp [ho]
 ·simp [World.frozen?,h]
 ·rw [setCell_sb h]; exact hk
end
section
variable {K : Prop}
theorem rdI_mk {k : IntKind} {n : Int} {K : Int -> Prop} : rdI k (.int k n) K ↔ K n := by simp [rdI]
theorem rdB_mk {n : Bool} {K : Bool -> Prop} : rdB (.bool n) K ↔ K n := by simp [rdB]
theorem rdS_mk {n : ByteArray} {K : ByteArray -> Prop} : rdS (.string n) K ↔ K n := by simp [rdS]
theorem rdP_mk {n : Option Addr} {K : Option Addr -> Prop} : rdP (.pointer n) K ↔ K n := by simp [rdP]
theorem rdA_mk {n : Addr} {K : Addr -> Prop} : rdA (.pointer (some n)) K ↔ K n := by simp [rdA]
theorem rdC_mk {a : Option Addr} {l c : Nat} {K : Option Addr -> Nat -> Nat -> Prop} : rdC (.slice a l c) K ↔ K a l c := ⟨fun ⟨_,_,_,e,h⟩ => by cases e; exact h,fun h => ⟨_,_,_,rfl,h⟩⟩
theorem br_true {A B : Prop} : br true A B ↔ A := Iff.rfl
theorem br_false {A B : Prop} : br false A B ↔ B := Iff.rfl
theorem br_dec {p : Prop} [Decidable p] {A B : Prop} : br (decide p) A B ↔ (p -> A) /\ (¬ p -> B) := by by_cases h : p <;> simp [br,h]
end
theorem callV_of [Esc] {P : Program} {f : FuncId} {x c args : Array Value} {w : World} {y : Ky} {K : Value -> World -> Prop} (hf : okFn P f = true) (h : call P f (x ++ args ++ c) w y K) : callV P (.func (.func f) x c) args w y K := .inl ⟨f,x,c,rfl,hf,h⟩
theorem call_of [Esc] {P : Program} {f : FuncId} {args : Array Value} {w : World} {y : Ky} {K : Value -> World -> Prop} {R : Ending -> World -> Prop} (h : Calls P f args w R) (k : ∀ e w',R e w' -> en (fun e w' => exY y fun v => e = .returned v /\ K v w') e w') : call P f args w y K := Calls.mono h k
theorem wrap_i64 {n : Int} (h : -9223372036854775808 <= n) (h' : n < 9223372036854775808) : IntKind.wrap .i64 n = n := by
 simp only [IntKind.wrap,IntKind.bits,IntKind.signed]
 simp
 omega
theorem wrap_u64 {n : Int} (h : 0 <= n) (h' : n < 18446744073709551616) : IntKind.wrap .u64 n = n := by
 simp only [IntKind.wrap,IntKind.bits,IntKind.signed]
 simp
 omega
theorem wrap_u32 {n : Int} (h : 0 <= n) (h' : n < 4294967296) : IntKind.wrap .u32 n = n := by
 simp only [IntKind.wrap,IntKind.bits,IntKind.signed]
 simp
 omega
theorem wrap_u16 {n : Int} (h : 0 <= n) (h' : n < 65536) : IntKind.wrap .u16 n = n := by
 simp only [IntKind.wrap,IntKind.bits,IntKind.signed]
 simp
 omega
theorem wrap_u8 {n : Int} (h : 0 <= n) (h' : n < 256) : IntKind.wrap .u8 n = n := by
 simp only [IntKind.wrap,IntKind.bits,IntKind.signed]
 simp
 omega
end Go.Sh
namespace Go.Sh
open Go
def rt (K : Value -> World -> Prop) : Ending -> World -> Prop := fun e w' => ∃ v,e = .returned v /\ K v w'
def KR (v : Value) (w : World) : Value -> World -> Prop := fun u w' => u = v /\ w' = w
theorem KR.mk (v : Value) (w : World) : KR v w v w := ⟨rfl,rfl⟩
section
variable {P : Program} {f : FuncId} {as_ : Array Value} {w : World} {R : Ending -> World -> Prop}
theorem cl [Esc] {K : Value -> World -> Prop} (h : Calls P f as_ w (rt K)) (k : ∀ v w',K v w' -> R (.returned v) w') : Calls P f as_ w (en R) := h.mono fun _ _ ⟨v,he,hk⟩ => by subst he; exact k v _ hk
theorem clr [Esc] {v : Value} {w2 : World} (h : Calls P f as_ w (rt (KR v w2))) (k : R (.returned v) w2) : Calls P f as_ w (en R) := cl h fun _ _ ⟨hv,hw⟩ => by rw [hv,hw]; exact k
def rtp (K : Value -> World -> Prop) (E : List PanicEntry -> World -> Prop) : Ending -> World -> Prop := fun e w' => (∃ v,e = .returned v /\ K v w') \/ ∃ ch,e = .panicked ch /\ E ch w'
theorem clp [Esc] {K : Value -> World -> Prop} {E : List PanicEntry -> World -> Prop} (h : Calls P f as_ w (rtp K E)) (k : ∀ v w',K v w' -> R (.returned v) w') (x : ∀ ch w',E ch w' -> Esc.E ch w') : Calls P f as_ w (en R) := h.mono fun _ _ q => by
 rcases q with ⟨v,he,hk⟩ | ⟨ch,he,hk⟩
 ·subst he; exact k v _ hk
 ·subst he; exact x ch _ hk
theorem rv_none {K : Value -> World -> Prop} {e : Ending} {w : World} (h : @rv Esc.none K e w) : rt K e w := (@rv_iff Esc.none _ _ _).1 h |>.elim id fun ⟨_,_,x⟩ => x.elim
theorem rv_esc {E : List PanicEntry -> World -> Prop} {K : Value -> World -> Prop} {e : Ending} {w : World} (h : @rv ⟨E⟩ K e w) : rtp K E e w := (@rv_iff ⟨E⟩ _ _ _).1 h
theorem rt_mono {K K' : Value -> World -> Prop} (h : Calls P f as_ w (rt K)) (k : ∀ v w',K v w' -> K' v w') : Calls P f as_ w (rt K') := h.mono fun _ _ ⟨v,he,hk⟩ => ⟨v,he,k _ _ hk⟩
end
end Go.Sh
namespace Go.Sh
open Go
def mval : List (Int × Int) -> Int -> Option Int
 | [],_ => none
 | p :: r,k => if k = p.1 then some p.2 else mval r k
def MRep (kk kv : IntKind) (es : List MapEntry) (l : List (Int × Int)) : Prop :=
 es.map (fun e => (e.key,e.val)) = l.map (fun p => (Value.int kk p.1,Value.int kv p.2))
def MapI (kk kv : IntKind) (w : World) (m : Nat) (f : Int -> Option Int) : Prop :=
 ∃ es c l,w.heap[m]? = some (.map es c) /\ MRep kk kv es.toList l /\ (l.map Prod.fst).Nodup /\ (∀ k,mval l k = f k) /\ MapKept.Stamped es c
theorem MapI.lt {kk kv : IntKind} {w : World} {m : Nat} {f : Int -> Option Int} (h : MapI kk kv w m f) : m < w.heap.size := by
 obtain ⟨es,c,l,h,_⟩ := h
 exact lt_of_blk h
theorem MapI.of_blk {kk kv : IntKind} {w w' : World} {m : Nat} {f : Int -> Option Int} (h : MapI kk kv w m f) (e : w'.heap[m]? = w.heap[m]?) : MapI kk kv w' m f := by
 obtain ⟨es,c,l,h1,h⟩ := h
 exact ⟨es,c,l,by rw [e]; exact h1,h⟩
theorem MapI.fr {kk kv : IntKind} {w w' : World} {m : Nat} {f : Int -> Option Int} {S : Nat -> Prop} (h : MapI kk kv w m f) (hf : Fr S w w') (hn : ¬ S m) : MapI kk kv w' m f := h.of_blk (hf.block m h.lt hn)
theorem MapI.new (kk kv : IntKind) (w : World) : MapI kk kv (w.alloc (.map #[] 0)) w.heap.size fun _ => none :=
 ⟨#[],0,[],alloc_new w _,rfl,by simp,fun _ => rfl,MapKept.stamped_empty 0⟩
section
variable {P : Program} {w : World} {T kt et : TypeId} {kk kv kd : IntKind} {m : Nat} {f : Int -> Option Int} {k v : Int}
theorem run_getObj {o : Obj} (h : w.heap[m]? = some o) (hc : ∀ c e z,o ≠ .cells c e z) : (getObj m).run P w = .ok o w := by
 unfold getObj
 cases o <;> first | exact absurd rfl (hc _ _ _) | simp [Sem.run,h]
theorem run_setObj {o o' : Obj} (h : w.heap[m]? = some o') (hc : ∀ c e z,o' ≠ .cells c e z) : (setObj m o).run P w = .ok () (sb w m o) := by
 unfold setObj
 cases o' <;> first | exact absurd rfl (hc _ _ _) | simp [Sem.run,h,sb]
end
end Go.Sh
