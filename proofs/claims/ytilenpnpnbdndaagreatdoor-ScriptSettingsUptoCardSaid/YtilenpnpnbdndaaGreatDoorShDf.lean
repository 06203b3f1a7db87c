/- Own text: part of the shallow reading of the code and of the contracts that are proved over it. -/
import Derived.Test.YtilenpnpnbdndaaGreatDoorShM
import Derived.Defers
import Derived.Recover
/-
  A function that defers one call at its start: it leaves by that call, whether it returns or panics.
-/
namespace Go.Sh
open Go
/-! code of which some pieces are known by themselves -/
def inP (ps : List Path) (π : Path) : Bool := ps.any fun p => peq p π
def okP (P : Program) (N : Fm) (ps : List Path) : Path → Code → Bool
  | π, .region _ ops d => match inP ps π with | true => true | false => okOps P N ops && (!d || okD P ops)
  | π, .seq a b => match inP ps π with | true => true | false => okP P N ps (0 :: π) a && okP P N ps (1 :: π) b
  | π, .cond _ a b => match inP ps π with | true => true | false => okP P N ps (0 :: π) a && okP P N ps (1 :: π) b
  | π, .block _ b => match inP ps π with | true => true | false => okP P N ps (0 :: π) b
  | π, .loop b => match inP ps π with | true => true | false => okP P N ps (0 :: π) b
  | _, _ => true
section
variable {P : Program} {N : Fm}
theorem vc_soundO [Esc] (hm : P.follows .mixedOrders = true) {c0 : Code} {orc : Orc} (ho : OrcOk P N c0 orc) {ps : List Path} (hps : ∀ π, orc π = none → inP ps π = false) : ∀ (c : Code) (π : Path), getAt c0 π = c → okP P N ps π c = true → ∀ (Q : Post) (t : Tm) (w : World),
    vc P orc π c Q t w → W P N c Q t w := by
  intro c
  induction c with
  | seq a b iha ihb =>
    intro π hπ hok Q t w h
    unfold vc at h
    split at h
    · rename_i O hO; rw [← hπ]; exact ho π O hO Q t w h
    · simp only [okP, hps π (by assumption), Bool.and_eq_true] at hok
      refine W_seq ((iha (0 :: π) (by simp [getAt, hπ, child]) hok.1 _ t w h).mono fun o t w q => ?_)
      cases o with
      | normal => exact ihb (1 :: π) (by simp [getAt, hπ, child]) hok.2 _ t w q
      | exit i => exact q
      | ret => exact q
  | cond x a b iha ihb =>
    intro π hπ hok Q t w h
    unfold vc at h
    split at h
    · rename_i O hO; rw [← hπ]; exact ho π O hO Q t w h
    · simp only [okP, hps π (by assumption), Bool.and_eq_true] at hok
      have ha := iha (0 :: π) (by simp [getAt, hπ, child]) hok.1
      have hb := ihb (1 :: π) (by simp [getAt, hπ, child]) hok.2
      cases x with
      | tmp i =>
        simp only at h
        split at h
        · rename_i e he
          refine W_cond (v := e) he ?_
          cases e with
          | true => have h := ha Q _ w h; rw [upd_same t i he] at h; exact h
          | false => have h := hb Q _ w h; rw [upd_same t i he] at h; exact h
        · exact h.elim
      | const v =>
        cases v with
        | bool e =>
          refine W_cond (v := e) rfl ?_
          cases e with
          | true => exact ha Q _ w h
          | false => exact hb Q _ w h
        | _ => exact h.elim
      | _ => exact h.elim
  | block id b ih =>
    intro π hπ hok Q t w h
    unfold vc at h
    split at h
    · rename_i O hO; rw [← hπ]; exact ho π O hO Q t w h
    · simp only [okP, hps π (by assumption)] at hok
      exact W_block (ih (0 :: π) (by simp [getAt, hπ, child]) hok _ t w h)
  | loop b ih =>
    intro π hπ hok Q t w h
    unfold vc at h
    split at h
    · rename_i O hO; rw [← hπ]; exact ho π O hO Q t w h
    · simp only [okP, hps π (by assumption)] at hok
      obtain ⟨n, h⟩ := h
      refine W_loop (G := fun n => loopN (vc P orc (0 :: π) b) Q n) (fun _ _ h => h) (fun n t w h => ?_) n t w h
      exact ih (0 :: π) (by simp [getAt, hπ, child]) hok _ t w h
  | region id ops d =>
    intro π hπ hok Q t w h
    unfold vc at h
    split at h
    · rename_i O hO; rw [← hπ]; exact ho π O hO Q t w h
    · simp only [okP, hps π (by assumption), Bool.and_eq_true, Bool.or_eq_true, Bool.not_eq_true'] at hok
      cases d with
      | false => exact W_region hok.1 h
      | true => exact W_draw hm hok.1 (hok.2.resolve_left (by simp)) h
  | skip =>
    intro π hπ _ Q t w h
    unfold vc at h
    split at h
    · rename_i O hO; rw [← hπ]; exact ho π O hO Q t w h
    · exact fun r ds a ha => wpIn_skip ⟨t, ha, h⟩
  | label l =>
    intro π hπ _ Q t w h
    unfold vc at h
    split at h
    · rename_i O hO; rw [← hπ]; exact ho π O hO Q t w h
    · exact fun r ds a ha => wpIn_label ⟨t, ha, h⟩
  | exit i =>
    intro π hπ _ Q t w h
    unfold vc at h
    split at h
    · rename_i O hO; rw [← hπ]; exact ho π O hO Q t w h
    · exact fun r ds a ha => wpIn_exit ⟨t, ha, h⟩
  | ret =>
    intro π hπ _ Q t w h
    unfold vc at h
    split at h
    · rename_i O hO; rw [← hπ]; exact ho π O hO Q t w h
    · exact fun r ds a ha => wpIn_ret ⟨t, ha.free, h⟩
  | _ =>
    intro π hπ _ Q t w h
    unfold vc at h
    split at h
    · rename_i O hO; rw [← hπ]; exact ho π O hO Q t w h
    · exact h.elim

theorem hps_nil {orc : Orc} : ∀ π, orc π = none → inP [] π = false := fun _ _ => rfl
theorem hps_cons {p : Path} {O : Post → Tm → World → Prop} {l : List (Path × (Post → Tm → World → Prop))} {ps : List Path} (h : ∀ π, orcOf l π = none → inP ps π = false) : ∀ π, orcOf ((p, O) :: l) π = none → inP (p :: ps) π = false := by
  intro π hn
  unfold orcOf at hn
  unfold inP
  rw [List.any_cons]
  cases hp : peq p π with
  | true => rw [hp] at hn; cases hn
  | false => rw [hp] at hn; exact h π hn
/-- a piece that ends in a return and does not panic -/
theorem W_lift [Esc] {c : Code} {Q : Post} {t : Tm} {w : World} (h : @W Esc.none P N.n c (fun o t w => match o with | .ret => Q .ret t w | _ => False) t w) : W P N c Q t w := fun r ds a ha => wpIn_mono (h r ds a ha.free) fun e a w q => by
  cases e with
  | normal => obtain ⟨_, _, q⟩ := q; exact q.elim
  | exit i => obtain ⟨_, _, q⟩ := q; exact q.elim
  | ret => obtain ⟨t, hM, q⟩ := q; exact ⟨t, hM, q⟩
  | goto l => exact q.elim
  | panic c => exact q.2.elim
  | outgrown => exact q.elim
end
section
variable {P : Program} {w : World}
/-- the deferred call runs, the frame below returns, and K holds of the world -/
def dcl (P : Program) (g : FuncId) (as : Array Value) (u : FrameMode) (w : World) (K : World → Prop) : Prop :=
  CallsD P g as u w fun e u' w' => (∃ v, e = .returned v) ∧ settle u' = .returning ∧ K w'
theorem dcl.mono {g : FuncId} {as : Array Value} {u : FrameMode} {K K' : World → Prop} (h : dcl P g as u w K) (k : ∀ w', K w' → K' w') : dcl P g as u w K' :=
  CallsD.mono h fun _ _ _ ⟨a, b, c⟩ => ⟨a, b, k _ c⟩
theorem leaves_one {fn : Func} {tmps : Array Value} {R : Ending → World → Prop} {g : FuncId} {as : Array Value} {u : FrameMode} (hg : okFn P g = true) (hu : u ≠ .run)
    (h : dcl P g as u w fun w' => ∃ v, (results fn tmps).run P w' = .ok v w' ∧ R (.returned v) w') : Leaves P fn tmps R [{ target := .fn (.func g) #[], args := as }] u w := by
  refine ⟨hu, .func g, #[], g, as, rfl, by simp [invoke, run_callFunc hg], ?_⟩
  refine CallsD.mono h fun e u' w' ⟨⟨v, he⟩, hs, hk⟩ => ?_
  subst he
  show Leaves P fn tmps R [] (settle u') w'
  rw [hs]
  exact hk
/-- behind the defer -/
def Behind (P : Program) (fn : Func) (rest : Code) (g : FuncId) (xs : Array Operand) (K : Value → World → Prop) (t : Tm) (w : World) : Prop :=
  ∃ (S : List Nat) (E : List PanicEntry → World → Prop),
    @W ⟨E⟩ P ⟨fn.ntmps, S, t⟩ rest (fun o t' w' => match o with | .exit _ => False | _ => dcl P g (xs.map (ev t)) .returning w' fun w'' => resL P t' w'' fn.results.toList fun vs => K (tupV vs) w'') t w ∧
    ∀ ch w', E ch w' → dcl P g (xs.map (ev t)) (.panicking ch) w' fun w'' => ∀ t' : Tm, (∀ i ∈ S, t' i = t i) → resL P t' w'' fn.results.toList fun vs => K (tupV vs) w''
theorem calls_ofD {f : FuncId} {fn : Func} {R0 rest : Code} {id : Nat} {dop : Oper} {g : FuncId} {xs : Array Operand} {ts : Array TypeId} {args : Array Value} {K : Value → World → Prop}
    (hf : P.funcs[f]? = some fn) (hb : fn.body = some (.seq R0 (.seq (.region id #[dop] false) rest))) (hd : dop.op = .defer { callee := .value (.func g), args := xs, argTypes := ts }) (hds : dop.dst = none) (hgd : dop.guard = none)
    (hg : okFn P g = true) (hN : args.size ≤ fn.ntmps)
    (h : @W Esc.none P fn.ntmps R0 (fun o t w => match o with | .normal => Behind P fn rest g xs K t w | _ => False) (args0 args) w) : Calls P f args w (rt K) := by
  refine calls_of_wp_defers hf hb (wp_seq (wp_mono (wpIn_wide.1 (h none [] _ (args0_mt hN))) fun e a w q => ?_))
  cases e with
  | exit i => obtain ⟨_, _, q⟩ := q; exact q.elim
  | ret => obtain ⟨_, _, q⟩ := q; exact q.elim
  | goto l => exact q.elim
  | panic c => exact q.2.elim
  | outgrown => exact q.elim
  | normal =>
    obtain ⟨t, hM, S, E, hw, hp⟩ := q
    refine wp_seq (wp_region ?_)
    have hev : a.eval = ev t := hM.eval
    have hex : (execOp a.eval dop).run P w = .ok (.defer { target := .fn (.func g) #[], args := xs.map (ev t) }) w := by
      obtain ⟨dst, op, ty, pos, after, guard⟩ := dop
      simp only at hd
      subst hd
      simp [execOp, resolve, Deferred.ofValue, hev, ev]
    have hwant : Region.wanted dop (yielded #[dop] a.tmps) = true := by unfold Region.wanted; rw [hgd]
    show wpOps P #[dop] _ [0] a w
    simp only [wpOps]
    simp only [List.getElem?_toArray, List.getElem?_cons_zero, hwant, if_true]
    unfold Oper.wp
    refine .inl ?_
    rw [hex]
    show Code.wp P rest _ _ w
    rw [hds]
    have hM' : Mt ⟨fn.ntmps, S, t⟩ [{ target := .fn (.func g) #[], args := xs.map (ev t) }] (({ a with defers := { target := .fn (.func g) #[], args := xs.map (ev t) } :: a.defers } : Act).put none undef) t := by
      obtain ⟨h1, h2, h3, -⟩ := hM
      exact ⟨h1, by show _ :: a.defers = _; rw [h2], h3, fun i _ => rfl⟩
    have fin : ∀ {N : Fm} {t' : Tm} {a' : Act} {w' : World} {u : FrameMode}, Mt N [{ target := .fn (.func g) #[], args := xs.map (ev t) }] a' t' → u ≠ .run →
        dcl P g (xs.map (ev t)) u w' (fun w'' => resL P t' w'' fn.results.toList fun vs => K (tupV vs) w'') → Leaves P fn a'.tmps (rt K) a'.defers u w' := by
      intro N t' a' w' u hM hu hq
      rw [hM.2.1]
      refine leaves_one hg hu (hq.mono fun w'' q => ?_)
      obtain ⟨vs, hk, hr⟩ := run_results hM q
      exact ⟨_, hr, _, rfl, hk⟩
    refine wp_mono (wpIn_wide.1 (@W.mono ⟨E⟩ _ _ _ _ _ _ _ hw (fun _ _ _ q => q) none _ _ hM')) fun e a' w' q => ?_
    cases e with
    | normal => obtain ⟨t', hM2, q⟩ := q; exact fin hM2 (by simp) q
    | ret => obtain ⟨t', hM2, q⟩ := q; exact fin hM2 (by simp) q
    | exit i => obtain ⟨_, _, q⟩ := q; exact q.elim
    | goto l => exact q.elim
    | panic c =>
      obtain ⟨⟨t', hM2⟩, he⟩ := q
      exact fin hM2 (by simp) ((hp _ _ he).mono fun w'' k => k t' fun i hi => hM2.2.2.2 i hi)
    | outgrown => exact q.elim
end
end Go.Sh
