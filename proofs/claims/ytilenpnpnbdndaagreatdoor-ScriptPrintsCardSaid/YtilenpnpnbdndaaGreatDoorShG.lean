/- Own text: part of the shallow reading of the code and of the contracts that are proved over it. -/
import Derived.Test.YtilenpnpnbdndaaGreatDoorShF
/-
  The shallow reading is sound, sixth part: code, functions, loops.
-/
namespace Go.Sh
open Go

def up [Esc] (N : Fm) (ds : List Deferred) (Q : Post) : Exit → Act → World → Prop
  | .normal, a, w => ∃ t, Mt N ds a t ∧ Q .normal t w
  | .exit i, a, w => ∃ t, Mt N ds a t ∧ Q (.exit i) t w
  | .ret, a, w => ∃ t, Mt N.n ds a t ∧ Q .ret t w
  | .panic ch, a, w => (∃ t, Mt N ds a t) ∧ Esc.E ch w
  | _, _, _ => False
/-- the model's own word on a piece of code, over slots -/
def W [Esc] (P : Program) (N : Fm) (c : Code) (Q : Post) (t : Tm) (w : World) : Prop := ∀ (r : Option Nat) (ds : List Deferred) a, Mt N ds a t → c.wpIn (fw r) 0 P (up N ds Q) a w
theorem up_mono [Esc] {N : Fm} {ds : List Deferred} {Q Q' : Post} (h : ∀ o t w, Q o t w → Q' o t w) : ∀ e a w, up N ds Q e a w → up N ds Q' e a w
  | .normal, _, _, ⟨t, x, y⟩ => ⟨t, x, h _ _ _ y⟩
  | .exit _, _, _, ⟨t, x, y⟩ => ⟨t, x, h _ _ _ y⟩
  | .ret, _, _, ⟨t, x, y⟩ => ⟨t, x, h _ _ _ y⟩
  | .panic _, _, _, x => x
theorem W.mono [Esc] {P : Program} {N : Fm} {c : Code} {Q Q' : Post} {t : Tm} {w : World} (x : W P N c Q t w) (h : ∀ o t w, Q o t w → Q' o t w) : W P N c Q' t w :=
  fun r ds a ha => wpIn_mono (x r ds a ha) (up_mono h)

section
variable {P : Program} {N : Fm} {Q : Post} {t : Tm} {w : World}
/-- the check on code: every slot that is written is one of the frame's; every region that draws passes its own; every function that is called has a body -/
def okOps (P : Program) (N : Fm) (ops : Array Oper) : Bool := ops.toList.all fun o => okOp P o && (match o.dst with | some d => N.ok d | none => true)
def okC (P : Program) (N : Fm) : Code → Bool
  | .region _ ops d => okOps P N ops && (!d || okD P ops)
  | .seq a b => okC P N a && okC P N b
  | .cond _ a b => okC P N a && okC P N b
  | .block _ b => okC P N b
  | .loop b => okC P N b
  | .rangeFunc _ ps a b => ps.toList.all (fun p => N.ok p) && okC P N a && okC P N b
  | _ => true
theorem okOps_at {ops : Array Oper} (h : okOps P N ops = true) (i : Nat) (o : Oper) (ho : ops[i]? = some o) : okOp P o = true ∧ ∀ d, o.dst = some d → N.ok d = true := by
  have := List.all_eq_true.1 h o (by simpa using Array.mem_of_getElem? ho)
  simp only [Bool.and_eq_true] at this
  refine ⟨this.1, fun d hd => ?_⟩
  have := this.2
  simp only [hd] at this
  exact this
theorem vcOpE_op [Esc] {P : Program} {all : List Oper} {o : Oper} {ρ : Operand → Value} {w : World} {K : Value → World → Prop} (h : vcOpE P all o ρ w K) : vcOp P o ρ w w K := by
  unfold vcOpE at h
  split at h
  · rename_i it hop
    split at h
    · obtain ⟨u, h⟩ := exX_ex h
      obtain ⟨v, h⟩ := exX_ex h
      unfold vcOp
      rw [hop]
      exact ⟨u, v, h⟩
    · exact h
  · exact h
theorem W_ops [Esc] {ops : Array Oper} (hok : okOps P N ops = true) {K : Tm → World → Prop} {R : Exit → Act → World → Prop} {r : Option Nat} {ds : List Deferred} (hp : ∀ a t w ch, Mt N ds a t → Esc.E ch w → R (.panic ch) a w) (hR : ∀ a t w, Mt N ds a t → K t w → R .normal a w) : ∀ (l : List Oper) (t : Tm) (a : Act) (w : World),
    (∀ o ∈ l, o ∈ ops) → Mt N ds a t → vcOps P ops.toList l t w K → wpListIn (fw r) 0 P ops R l a w
  | [], t, a, w, _, hM, h => hR a t w hM h
  | o :: l, t, a, w, hl, hM, h => by
    unfold vcOps at h
    rw [gd_iff] at h
    obtain ⟨i, hi⟩ := Array.mem_iff_getElem?.1 (hl o List.mem_cons_self)
    obtain ⟨h1, h2⟩ := okOps_at hok i o hi
    have hM' : ∀ v, Mt N ds (a.put o.dst v) (putO t o.dst v) := fun v => hM.put h2 v
    refine wpListIn_step fun X hX => ?_
    rw [hM.yielded]
    have e : wantT (guardOf ops.toList o) t = wantT (o.guard.map fun g => (guardTmp ops.toList g.1, g.2)) t := rfl
    split
    · rename_i hw
      rw [e] at hw
      rw [if_pos hw] at h
      have h := vcOpE_op h
      have := ok_vcOp (fun _ => rfl) h1 h
      have hnd := vcOp_nodefer h
      rw [← hM.eval] at this
      exact this.wp hnd (fun ch w' he => hp a t w' ch hM he) fun v w' x => hX _ _ (W_ops hok hp hR l _ _ _ (fun o ho => hl o (List.mem_cons_of_mem _ ho)) (hM' v) x)
    · rename_i hw
      rw [e] at hw
      rw [if_neg hw] at h
      exact ⟨fun _ _ => trivial, hX _ _ (W_ops hok hp hR l _ _ _ (fun o ho => hl o (List.mem_cons_of_mem _ ho)) (hM' undef) h)⟩
theorem W_region [Esc] {id : Nat} {ops : Array Oper} (hok : okOps P N ops = true) (h : vcOps P ops.toList ops.toList t w (Q .normal)) : W P N (.region id ops false) Q t w :=
  fun r ds a ha => wpIn_region_list (W_ops hok (fun _ t _ _ hM he => ⟨⟨t, hM⟩, he⟩) (fun _ t _ hM hk => ⟨t, hM, hk⟩) ops.toList t a w (fun _ ho => by simpa using ho) ha h)
theorem W_draw [Esc] {id : Nat} {ops : Array Oper} (hm : P.follows .mixedOrders = true) (hok : okOps P N ops = true) (hd : okD P ops = true)
    (h : vcDraw P ops.toList (Q .normal) ops.size t w.drew) : W P N (.region id ops true) Q t w := by
  intro r ds a ha
  refine wpIn_region_any hm ?_
  have hD : Down ops (Array.replicate ops.size false) := by
    intro m o ho hl
    exfalso
    have hlt := (Array.getElem?_eq_some_iff.1 ho).1
    simp [hlt] at hl
  have hA : Agree ops 0 (Array.replicate ops.size false) := ⟨by simp, fun i => by
    rw [Nat.zero_testBit, Array.getD_eq_getD_getElem?, Array.getElem?_replicate]
    split <;> rfl⟩
  have go : ∀ wr, Pres wr w.drew → vcT P ops.toList wr (marked P ops.toList) (dlist P (marked P ops.toList)) (Q .normal) ops.size 0 t w.drew → wpAnyIn (fw r) 0 P .any ops (up N ds Q) ops.size (Array.replicate ops.size false) a w.drew := fun wr hp h =>
    wpAny_of_vAny hd (fun i o ho d hd' => (okOps_at hok i o ho).2 d hd') (Q := up N ds Q) (K := Q .normal) (fun a t w ch hM he => ⟨⟨t, hM⟩, he⟩) (fun a t w hM hk => ⟨t, hM, hk⟩) ops.size _ t a w.drew ha hD (fun _ => hp) (vAny_tree hd ops.size 0 _ t w.drew hA hD h)
  unfold vcDraw at h
  split at h
  · obtain ⟨wr, hp, h⟩ := h
    exact go wr hp h
  · exact go w.drew (Pres.refl _) h
theorem W_seq [Esc] {a b : Code} (h : W P N a (fun o t w => match o with | .normal => W P N b Q t w | .exit i => Q (.exit i) t w | .ret => Q .ret t w) t w) : W P N (.seq a b) Q t w :=
  fun r ds x hx => wpIn_seq (wpIn_mono (h r ds x hx) fun e y w q => by
    cases e with
    | normal => obtain ⟨t, hM, hq⟩ := q; exact hq r ds y hM
    | exit i => exact q
    | ret => exact q
    | goto l => exact q
    | panic c => exact q
    | outgrown => exact q)
theorem W_cond [Esc] {c : Operand} {a b : Code} {v : Bool} (hc : ev t c = .bool v) (h : if v = true then W P N a Q t w else W P N b Q t w) : W P N (.cond c a b) Q t w :=
  fun r ds x hx => by
    refine wpIn_cond (t := v) (by rw [hx.eval]; exact hc) ?_
    cases v with
    | true => exact h r ds x hx
    | false => exact h r ds x hx
theorem W_block [Esc] {id : Nat} {b : Code} (h : W P N b (fun o t w => match o with | .normal => Q .normal t w | .exit i => (match Nat.beq i id with | true => Q .normal t w | false => Q (.exit i) t w) | .ret => Q .ret t w) t w) : W P N (.block id b) Q t w :=
  fun r ds x hx => wpIn_block (wpIn_mono (h r ds x hx) fun e y w q => by
    cases e with
    | normal => exact q
    | exit i =>
      obtain ⟨t, hM, hq⟩ := q
      have hq : (match Nat.beq i id with | true => Q .normal t w | false => Q (.exit i) t w) := hq
      show if i = id then _ else _
      cases hb : Nat.beq i id with
      | true => rw [hb] at hq; rw [nbeq] at hb; rw [if_pos hb]; exact ⟨t, hM, hq⟩
      | false =>
        rw [hb] at hq
        rw [if_neg (fun e => by have : Nat.beq i id = true := by rw [nbeq]; exact e
                                rw [hb] at this; cases this)]
        exact ⟨t, hM, hq⟩
    | ret => exact q
    | goto l => exact q
    | panic c => exact q
    | outgrown => exact q)
/-- a loop, by a number of rounds -/
theorem W_loop [Esc] {b : Code} (G : Nat → Tm → World → Prop) (h0 : ∀ t w, ¬ G 0 t w)
    (hs : ∀ n t w, G (n + 1) t w → W P N b (fun o t w => match o with | .normal => G n t w | .exit i => Q (.exit i) t w | .ret => Q .ret t w) t w) : ∀ n t w, G n t w → W P N (.loop b) Q t w := by
  intro n t w h r ds a ha f k cs hro hb hr
  have key : ∀ n t w, G n t w → ∀ a, Mt N ds a t →
      ∃ e a' w', up N ds Q e a' w' ∧ ArrivesIn (Machine.fenced P (fw r)) P (lone (f.atR a (.code b :: .inLoop b :: k)) cs w) f k cs e a' w' := by
    intro n
    induction n with
    | zero => intro t w h; exact absurd h (h0 t w)
    | succ n ih =>
      intro t w h a ha
      obtain ⟨e, a₁, w₁, hq, harr⟩ := hs n t w h r ds a ha f (.inLoop b :: k) cs hro hb hr
      cases e with
      | normal =>
        obtain ⟨t₁, hM, hg⟩ := hq
        obtain ⟨e₂, a₂, w₂, hq₂, harr₂⟩ := ih t₁ w₁ hg a₁ hM
        exact ⟨e₂, a₂, w₂, hq₂, .of_steps (StepsIn.trans harr (.one (fenced_calm hb hr rfl) stepR_inLoop)) harr₂⟩
      | exit id =>
        obtain ⟨t₁, hM, hq⟩ := hq
        exact ⟨.exit id, a₁, w₁, ⟨t₁, hM, hq⟩, .pass (x := .inLoop b) rfl (fun _ _ => .inl (by simp)) harr⟩
      | goto l => exact hq.elim
      | ret =>
        obtain ⟨t₁, hM, hq⟩ := hq
        exact ⟨.ret, a₁, w₁, ⟨t₁, hM, hq⟩, .pass (x := .inLoop b) rfl (fun _ _ => .inl (by simp)) harr⟩
      | panic ch => exact ⟨.panic ch, a₁, w₁, hq, .pass (x := .inLoop b) rfl (fun _ _ => .inl (by simp)) harr⟩
      | outgrown => exact hq.elim
  obtain ⟨e, a', w', hq, harr⟩ := key n t w h a ha
  exact ⟨e, a', w', hq, .of_steps (.one (fenced_calm hb hr rfl) stepR_loop) harr⟩

/-! what is said of a piece of code within a function -/
def child (i : Nat) : Code → Code
  | .seq a b => match i with | 0 => a | _ => b
  | .cond _ a b => match i with | 0 => a | _ => b
  | .block _ b => b
  | .loop b => b
  | .rangeFunc _ _ a b => match i with | 0 => a | _ => b
  | c => c
def getAt (c : Code) : Path → Code
  | [] => c
  | i :: π => child i (getAt c π)
def OrcOk [Esc] (P : Program) (N : Fm) (c : Code) (orc : Orc) : Prop := ∀ π O, orc π = some O → ∀ Q t w, O Q t w → W P N (getAt c π) Q t w
theorem vc_sound [Esc] (hm : P.follows .mixedOrders = true) {c0 : Code} {orc : Orc} (ho : OrcOk P N c0 orc) : ∀ (c : Code) (π : Path), getAt c0 π = c → okC P N c = true → ∀ (Q : Post) (t : Tm) (w : World),
    vc P orc π c Q t w → W P N c Q t w := by
  intro c
  induction c with
  | seq a b iha ihb =>
    intro π hπ hok Q t w h
    unfold vc at h
    split at h
    · rename_i O hO; rw [← hπ]; exact ho π O hO Q t w h
    · simp only [okC, Bool.and_eq_true] at hok
      refine W_seq ((iha (0 :: π) (by simp [getAt, hπ, child]) hok.1 _ t w h).mono fun o t w q => ?_)
      cases o with
      | normal => exact ihb (1 :: π) (by simp [getAt, hπ, child]) hok.2 _ t w q
      | exit i => exact q
      | ret => exact q
  | cond x a b iha ihb =>
    intro π hπ hok Q t w h
    unfold vc at h
    split at h
    · rename_i O hO; rw [← hπ]; exact ho π O hO Q t w h
    · simp only [okC, Bool.and_eq_true] at hok
      have ha := iha (0 :: π) (by simp [getAt, hπ, child]) hok.1
      have hb := ihb (1 :: π) (by simp [getAt, hπ, child]) hok.2
      cases x with
      | tmp i =>
        simp only at h
        split at h
        · rename_i e he
          refine W_cond (v := e) he ?_
          cases e with
          | true => have h := ha Q _ w h; rw [upd_same t i he] at h; exact h
          | false => have h := hb Q _ w h; rw [upd_same t i he] at h; exact h
        · exact h.elim
      | const v =>
        cases v with
        | bool e =>
          refine W_cond (v := e) rfl ?_
          cases e with
          | true => exact ha Q _ w h
          | false => exact hb Q _ w h
        | _ => exact h.elim
      | _ => exact h.elim
  | block id b ih =>
    intro π hπ hok Q t w h
    unfold vc at h
    split at h
    · rename_i O hO; rw [← hπ]; exact ho π O hO Q t w h
    · simp only [okC] at hok
      exact W_block (ih (0 :: π) (by simp [getAt, hπ, child]) hok _ t w h)
  | loop b ih =>
    intro π hπ hok Q t w h
    unfold vc at h
    split at h
    · rename_i O hO; rw [← hπ]; exact ho π O hO Q t w h
    · simp only [okC] at hok
      obtain ⟨n, h⟩ := h
      refine W_loop (G := fun n => loopN (vc P orc (0 :: π) b) Q n) (fun _ _ h => h) (fun n t w h => ?_) n t w h
      exact ih (0 :: π) (by simp [getAt, hπ, child]) hok _ t w h
  | region id ops d =>
    intro π hπ hok Q t w h
    unfold vc at h
    split at h
    · rename_i O hO; rw [← hπ]; exact ho π O hO Q t w h
    · simp only [okC, Bool.and_eq_true, Bool.or_eq_true, Bool.not_eq_true'] at hok
      cases d with
      | false => exact W_region hok.1 h
      | true => exact W_draw hm hok.1 (hok.2.resolve_left (by simp)) h
  | skip =>
    intro π hπ _ Q t w h
    unfold vc at h
    split at h
    · rename_i O hO; rw [← hπ]; exact ho π O hO Q t w h
    · exact fun r ds a ha => wpIn_skip ⟨t, ha, h⟩
  | label l =>
    intro π hπ _ Q t w h
    unfold vc at h
    split at h
    · rename_i O hO; rw [← hπ]; exact ho π O hO Q t w h
    · exact fun r ds a ha => wpIn_label ⟨t, ha, h⟩
  | exit i =>
    intro π hπ _ Q t w h
    unfold vc at h
    split at h
    · rename_i O hO; rw [← hπ]; exact ho π O hO Q t w h
    · exact fun r ds a ha => wpIn_exit ⟨t, ha, h⟩
  | ret =>
    intro π hπ _ Q t w h
    unfold vc at h
    split at h
    · rename_i O hO; rw [← hπ]; exact ho π O hO Q t w h
    · exact fun r ds a ha => wpIn_ret ⟨t, ha.free, h⟩
  | _ =>
    intro π hπ _ Q t w h
    unfold vc at h
    split at h
    · rename_i O hO; rw [← hπ]; exact ho π O hO Q t w h
    · exact h.elim

/-! slots read by their kinds -/
def rsh : List (Nat × Kx) → Tm → (Tm → Prop) → Prop
  | [], t, K => K t
  | (i, k) :: r, t, K => exX k fun v => t i = v ∧ rsh r (upd t i v) K
theorem rsh_out : ∀ {l : List (Nat × Kx)} {t : Tm} {K : Tm → Prop}, rsh l t K → K t
  | [], _, _, h => h
  | (i, k) :: r, t, K, h => by
    obtain ⟨v, hv, h⟩ := exX_ex h
    have := rsh_out h
    rwa [upd_same t i hv] at this
def upds (t : Tm) : List (Nat × Value) → Tm
  | [] => t
  | (i, v) :: r => upds (upd t i v) r

/-! functions -/
def resL (P : Program) (t : Tm) (w : World) : List ResultVar → (List Value → Prop) → Prop
  | [], K => K []
  | .tmp i :: r, K => resL P t w r fun vs => K (t i :: vs)
  | .cell i ty :: r, K => match t i with
    | .pointer (some a) => match tyI P ty with
      | some inf => match (match kxOf P ty with | .agg ks => Nat.beq ks.length inf.size | .one _ => true) with
        | true => ldX (kxOf P ty) a w fun v => resL P t w r fun vs => K (v :: vs)
        | false => False
      | none => False
    | _ => False
def tupV (vs : List Value) : Value := match vs with | [v] => v | vs => .tuple vs.toArray
def retQ (P : Program) (fn : Func) (K : Value → World → Prop) : Post := fun o t w =>
  match o with
  | .exit _ => False
  | _ => resL P t w fn.results.toList fun vs => K (tupV vs) w
def resF (tmps : Array Value) (r : ResultVar) : Sem Value :=
  match r with
  | .tmp t => pure (tmps.getD t undef)
  | .cell a t => do loadVar t (← asAddr (tmps.getD a undef))
theorem run_resL {ds : List Deferred} {a : Act} (ha : Mt N ds a t) : ∀ {l : List ResultVar} {K : List Value → Prop}, resL P t w l K → ∃ vs, K vs ∧ (l.mapM (resF a.tmps)).run P w = .ok vs w
  | [], _, h => ⟨[], h, rfl⟩
  | .tmp i :: r, K, h => by
    have h : resL P t w r fun vs => K (t i :: vs) := h
    obtain ⟨vs, hk, hr⟩ := run_resL ha h
    refine ⟨t i :: vs, hk, ?_⟩
    have h1 : (resF a.tmps (.tmp i)).run P w = .ok (t i) w := by simp only [resF, Sem.run_pure, ha.2.2.1 i]
    rw [List.mapM_cons, Sem.run_bind, h1]
    simp only [Result.andThen_ok, Sem.run_bind, hr, Sem.run_pure]
  | .cell i ty :: r, K, h => by
    unfold resL at h
    split at h
    · rename_i ad hi
      split at h
      · rename_i inf hinf
        split at h
        · rename_i hs
          obtain ⟨v, h, hv⟩ := run_loadVar (P := P) hinf hs h
          obtain ⟨vs, hk, hr⟩ := run_resL ha h
          refine ⟨v :: vs, hk, ?_⟩
          have h1 : (resF a.tmps (.cell i ty)).run P w = .ok v w := by simp only [resF, Sem.run_bind, ha.2.2.1 i, hi, asAddr, Sem.run_pure, Result.andThen_ok, hv]
          rw [List.mapM_cons, Sem.run_bind, h1]
          simp only [Result.andThen_ok, Sem.run_bind, hr, Sem.run_pure]
        · exact h.elim
      · exact h.elim
    · exact h.elim
theorem results_eq (fn : Func) (tmps : Array Value) : results fn tmps = (do let vs ← fn.results.mapM (resF tmps); pure (if h : vs.size = 1 then vs[0] else .tuple vs)) := rfl
theorem run_results {ds : List Deferred} {a : Act} {fn : Func} (ha : Mt N ds a t) {K : List Value → Prop} (h : resL P t w fn.results.toList K) : ∃ vs, K vs ∧ (results fn a.tmps).run P w = .ok (tupV vs) w := by
  obtain ⟨vs, hk, hr⟩ := run_resL ha h
  refine ⟨vs, hk, ?_⟩
  rw [results_eq, Sem.run_bind]
  have he : (fn.results.mapM (resF a.tmps)).run P w = .ok vs.toArray w := by
    rw [Array.mapM_eq_mapM_toList, Sem.run_map, hr]
    rfl
  rw [he]
  simp only [Result.andThen_ok]
  cases vs with
  | nil => rfl
  | cons v vs => cases vs with
    | nil => rfl
    | cons u vs => simp [tupV]
def args0 (args : Array Value) : Tm := fun i => args.getD i undef
theorem args0_mt {n : Nat} {args : Array Value} (hN : args.size ≤ n) : Mt n [] { tmps := args ++ Array.replicate (n - args.size) undef, defers := [] } (args0 args) := by
  refine ⟨by simp; omega, rfl, fun i => ?_, fun i hi => by cases hi⟩
  unfold args0
  by_cases hi : i < args.size
  · simp [Array.getElem?_append_left hi]
  · have e1 : args[i]? = none := Array.getElem?_eq_none (by omega)
    rw [Array.getD_eq_getD_getElem?, Array.getElem?_append_right (by omega), Array.getD_eq_getD_getElem?, e1]
    rw [Array.getElem?_replicate]
    split <;> rfl
/-- a call, by the reading of the function's body -/
theorem calls_of [Esc] {f : FuncId} {fn : Func} {c : Code} {args : Array Value} {K : Value → World → Prop} (_ : P.follows .mixedOrders = true) (hf : P.funcs[f]? = some fn) (hb : fn.body = some c) (hN : args.size ≤ fn.ntmps)
    (h : W P fn.ntmps c (retQ P fn K) (args0 args) w) : Calls P f args w (rv K) := by
  refine calls_of_wp hf hb (wp_mono (wpIn_wide.1 (h none [] _ (args0_mt hN))) fun e a w q => ?_)
  cases e with
  | normal =>
    obtain ⟨t, hM, q⟩ := q
    obtain ⟨vs, hk, hr⟩ := run_results hM q
    exact ⟨hM.2.1, _, hr, rv_iff.2 (.inl ⟨_, rfl, hk⟩)⟩
  | ret =>
    obtain ⟨t, hM, q⟩ := q
    obtain ⟨vs, hk, hr⟩ := run_results hM q
    exact ⟨hM.2.1, _, hr, rv_iff.2 (.inl ⟨_, rfl, hk⟩)⟩
  | exit i => obtain ⟨t, hM, q⟩ := q; exact q.elim
  | goto l => exact q.elim
  | panic c =>
    obtain ⟨⟨t, hM⟩, he⟩ := q
    exact ⟨hM.2.1, rv_iff.2 (.inr ⟨_, rfl, he⟩)⟩
  | outgrown => exact q.elim
theorem nlt {a b : Nat} (h : Nat.ble a b = true) : a ≤ b := by rwa [Nat.ble_eq] at h
def peq : Path → Path → Bool
  | [], [] => true
  | a :: x, b :: y => match Nat.beq a b with | true => peq x y | false => false
  | _, _ => false
theorem peq_eq : ∀ {x y : Path}, peq x y = true → x = y
  | [], [], _ => rfl
  | [], _ :: _, h => by cases h
  | _ :: _, [], h => by cases h
  | a :: x, b :: y, h => by
    unfold peq at h
    split at h
    · rename_i hab
      rw [nbeq] at hab
      rw [hab, peq_eq h]
    · cases h
def orcOf : List (Path × (Post → Tm → World → Prop)) → Orc
  | [], _ => none
  | (π, O) :: r, ρ => match peq π ρ with | true => some O | false => orcOf r ρ
theorem orcNil [Esc] (c : Code) : OrcOk P N c (orcOf []) := fun _ _ h => by cases h
theorem orcCons [Esc] {c : Code} {π : Path} {O : Post → Tm → World → Prop} {l : List (Path × (Post → Tm → World → Prop))} (h : ∀ Q t w, O Q t w → W P N (getAt c π) Q t w) (hr : OrcOk P N c (orcOf l)) : OrcOk P N c (orcOf ((π, O) :: l)) := by
  intro ρ O' ho
  unfold orcOf at ho
  split at ho
  · rename_i hp
    cases ho
    rw [← peq_eq hp]
    exact h
  · exact hr ρ O' ho
theorem okC_child {c : Code} (i : Nat) (h : okC P N c = true) : okC P N (child i c) = true := by
  cases c <;> simp only [child] <;> first
    | exact h
    | (simp only [okC, Bool.and_eq_true] at h; split <;> first | exact h.1 | exact h.2)
    | (simp only [okC, Bool.and_eq_true] at h; split <;> first | exact h.1.2 | exact h.2)
theorem okC_at {c : Code} (h : okC P N c = true) : ∀ π : Path, okC P N (getAt c π) = true
  | [] => h
  | i :: π => okC_child i (okC_at h π)
theorem upds_same (l : List Nat) : ∀ (g : Tm), (∀ i, i ∉ l → g i = t i) → upds g (l.map fun i => (i, t i)) = t := by
  induction l with
  | nil => intro g h; funext i; exact h i (by simp)
  | cons a l ih =>
    intro g h
    refine ih _ fun i hi => ?_
    by_cases ha : i = a
    · subst ha; exact upd_eq _
    · rw [upd_ne _ ha]; exact h i (by simp [ha, hi])
theorem out_ok {sl : List (Nat × Kx)} {K : Tm → Prop} (l : List Nat) (q : ∀ g, rsh sl (upds g (l.map fun i => (i, t i))) K) : K t := by
  have := rsh_out (q t)
  rwa [upds_same l t (fun _ _ => rfl)] at this
end
end Go.Sh
