/- Own text: part of the shallow reading of the code and of the contracts that are proved over it. -/
import Derived.Test.YtilenpnpnbdndaaGreatDoorShB
namespace Go.Sh
open Go
theorem ok_vcConv {P : Program} {src dst : TypeId} {x : Value} {w : World} {K : Value -> World -> Prop} (h : vcConv P src dst x w K) : ∃ v w',(convert src dst x).run P w = .ok v w' /\ K v w' := by
 unfold vcConv at h
 split at h
 ·rename_i d k k' n hs hd
  exact ⟨_,_,by unfold convert; simp only [Sem.run_bind,run_under hs,run_under hd,Result.andThen_ok,Conv.intToInt]; rfl,h⟩
 ·rename_i d s hs hd
  refine ⟨_,_,?_,h⟩
  unfold convert
  simp only [Sem.run_bind,run_under hs,run_under hd,Result.andThen_ok]
  rfl
 ·split at h
  ·exact h.elim
  ·exact run_rn h
theorem run_val {P : Program} {s : Sem Value} {w w' : World} {v : Value} (h : s.run P w = .ok v w') : ((do pure (Next.value (← s))) : Sem Next).run P w = .ok (.value v) w' := by simp [h]
theorem run_unit {P : Program} {s : Sem Unit} {w w' : World} (h : s.run P w = .ok () w') : ((do s; pure Next.skip) : Sem Next).run P w = .ok .skip w' := by simp [h]
theorem ok_vcBuiltin {P : Program} {b : Builtin} {ats : Array TypeId} {ty : TypeId} {as_ : List Value} {w : World} {K : Value -> World -> Prop} (h : vcBuiltin P b ats ty as_ w K) (cs : Array Bool) :
  ∃ v w',(builtin b ats ty cs as_.toArray).run P w = .ok (.value v) w' /\ K v w' := by
 unfold vcBuiltin at h
 split at h
 case h_1 =>
  split at h
  ·rename_i t ht
   split at h
   ·obtain ⟨e,he⟩ := isSlcT_u (by assumption)
    exact ⟨_,_,run_val (by simp [Builtin.len_,ht,run_under he]; rfl),h⟩
   ·exact h.elim
  ·exact h.elim
 case h_2 =>
  split at h
  ·rename_i t ht
   split at h
   ·exact ⟨_,_,run_val (by simp [Builtin.len_,ht,run_under (isStrT_u (by assumption))]; rfl),h⟩
   ·exact h.elim
  ·exact h.elim
 case h_11 => exact ⟨_,_,run_val (by simp [Builtin.min_,Builtin.min2]),h⟩
 case h_12 => exact ⟨_,_,run_val (by simp [Builtin.max_,Builtin.max2]),h⟩
 case h_15 => exact h.elim
 case h_3 =>
  split at h
  ·exact h.elim
  ·obtain ⟨v,w',hr,hk⟩ := run_rn h
   exact ⟨v,w',run_val hr,hk⟩
 all_goals
  obtain ⟨v,w',hr,hk⟩ := run_rn h
  exact ⟨v,w',run_val hr,hk⟩
def okOp (_ : Program) (_ : Oper) : Bool := true
theorem run_resolve0 {ρ : Operand -> Value} {c : Call} {ty : TypeId} {P : Program} {w : World} {f : Operand} {g : FuncId} {a b : Array Value} (hc : c.callee = .value f) (hf : ρ f = .func (.func g) a b) :
  ((do let d ← resolve ρ c ty; invoke d.target d.args) : Sem Next).run P w = (callFunc g (a ++ c.args.map ρ ++ b)).run P w := by
 simp [resolve,hc,hf,Deferred.ofValue,invoke]
theorem run_resolve {ρ : Operand -> Value} {c : Call} {ty : TypeId} {P : Program} {w : World} {f : Operand} {g : FuncId} {a b : Array Value} (hc : c.callee = .value f) (hf : ρ f = .func (.func g) a b) (hg : okFn P g = true) :
  ((do let d ← resolve ρ c ty; invoke d.target d.args) : Sem Next).run P w = .ok (.enter g (a ++ c.args.map ρ ++ b)) w := by
 simp [resolve,hc,hf,Deferred.ofValue,invoke,run_callFunc hg]
theorem run_part {P : Program} {t : TypeId} {i : TypeInfo} {cs : Array Value} {off : Nat} {v : Value} (hi : tyI P t = some i) (h : partV P t cs off = some v) (w : World) : (part t cs off).run P w = .ok v w := by
 obtain ⟨hi,d,hd⟩ := tyI_some hi
 unfold part
 unfold partV at h
 simp only [Sem.run_bind,run_isAgg hd,Result.andThen_ok]
 split at h
 ·rename_i hg
  simp only [Option.some.injEq] at h
  simp [hg,run_size hi,← h,Program.cellsOf,hi]
 ·rename_i hg
  simp [hg,h]
theorem run_bnd {P : Program} {w : World} {v : Option Value} {d y : Nat} {c : BoundsCode} {A : Nat -> Prop} (h : bnd v d y A) :
  ∃ n,A n /\ (match v with | some v => Instr.sliceBound v y c | none => pure d : Sem Nat).run P w = .ok n w := by
 unfold bnd at h
 split at h
 ·exact ⟨_,h,rfl⟩
 ·obtain ⟨h0,h⟩ := h
  exact ⟨_,h,by simp [Instr.sliceBound,asIntOf,h0]⟩
 ·exact h.elim
theorem run_sliceBounds {P : Program} {w : World} {g : Bool} {l c : Nat} {lo hi : Option Value} {A : Nat -> Nat -> Prop} (h : bnd hi l c fun h => bnd lo 0 h fun f => A f h) :
  ∃ f h,A f h /\ (Instr.sliceBounds g l c lo hi none).run P w = .ok (f,h,c) w := by
 obtain ⟨n,h,hr⟩ := run_bnd (P := P) (w := w) (c := if g then .sliceAcap else .sliceAlen) h
 obtain ⟨f,h,hr'⟩ := run_bnd (P := P) (w := w) (c := .sliceB) h
 refine ⟨f,n,h,?_⟩
 unfold Instr.sliceBounds
 cases hi with
 | none =>
  simp at hr
  subst hr
  cases lo with
  | none => simp at hr'; subst hr'; simp
  | some v => simp at hr'; simp [hr']
 | some u =>
  simp at hr
  cases lo with
  | none => simp at hr'; subst hr'; simp [hr]
  | some v => simp at hr'; simp [hr,hr']
theorem run_fill_map {P : Program} {w : World} (fs : Array Field) (h : (fs.all fun f => (P.info? f.type).isSome) = true) :
  (fs.mapM fun f => do pure (f.offset,← sizeOf f.type) : Sem (Array (Nat × Nat))).run P w = .ok (fs.map fun f => (f.offset,P.cellsOf f.type)) w := by
 obtain ⟨l⟩ := fs
 have h : (l.all fun f => (P.info? f.type).isSome) = true := by simpa using h
 simp only [List.mapM_toArray,Sem.run_map]
 have key : ∀ l : List Field,(l.all fun f => (P.info? f.type).isSome) = true -> (l.mapM fun f => do pure (f.offset,← sizeOf f.type) : Sem (List (Nat × Nat))).run P w = .ok (l.map fun f => (f.offset,P.cellsOf f.type)) w := by
  intro l
  induction l with
  | nil => intro _; simp
  | cons f l ih =>
   intro h
   simp only [List.all_cons,Bool.and_eq_true] at h
   obtain ⟨i,hi⟩ := Option.isSome_iff_exists.1 h.1
   rw [List.mapM_cons]
   simp only [Sem.run_bind,run_size hi,Result.andThen_ok,Sem.run_pure,ih h.2,List.map_cons,Program.cellsOf,hi,Option.map_some,Option.getD_some]
 rw [key l h]
 simp
theorem optV_some {v : Option Value} {K : Value -> Prop} (h : optV v K) : ∃ u,v = some u /\ K u := by
 cases v with
 | none => exact h.elim
 | some u => exact ⟨u,rfl,h⟩
theorem ixS_some {sz : Nat} {b : Option Addr} {l : Nat} {i : Int} {K : Addr -> Prop} (h : ixS sz b l i K) : ∃ a,b = some a /\ (0 <= i /\ i < (l : Int)) /\ K (a.add (i.toNat * sz)) := by
 obtain ⟨h0,h⟩ := h
 cases b with
 | none => exact h.elim
 | some a => exact ⟨a,rfl,h0,h⟩
theorem args_arr (a : Array Operand) (ρ : Operand -> Value) : (a.toList.map ρ).toArray = a.map ρ := by rw [← Array.toList_map]
theorem app_fst (v : Value) (a : Array Value) : (#[v] ++ a)[0]? = some v := by rw [Array.getElem?_append_left (by simp)]; rfl
theorem app_rest (v : Value) (a : Array Value) : (#[v] ++ a).extract 1 (#[v] ++ a).size = a := by simp [Nat.add_comm]
theorem keyT_some {P : Program} {ty k e : TypeId} (h : keyT P ty = some (k,e)) : P.underlying ty = some (.map k e) /\ (isIntT P k || isStrT P k || isBoolT P k) = true := by
 unfold keyT at h
 split at h
 ·rename_i hu
  split at h
  ·rename_i hk
   simp only [Option.some.injEq,Prod.mk.injEq] at h
   obtain ⟨rfl,rfl⟩ := h
   exact ⟨hu,hk⟩
  ·cases h
 ·cases h
theorem run_checkKey {P : Program} {w : World} {k : TypeId} (hk : (isIntT P k || isStrT P k || isBoolT P k) = true) (g : Bool) (n : Nat) (v : Value) : (Instr.checkKey g (n + 1) k v).run P w = .ok () w := by
 unfold isIntT isStrT isBoolT at hk
 cases hu : P.underlying k with
 | none => simp [hu] at hk
 | some d =>
  unfold Instr.checkKey
  simp only [Sem.run_bind,run_under hu,Result.andThen_ok]
  cases d <;> first | (simp [hu] at hk; done) | (cases v <;> rfl)
theorem lookup_run {P : Program} {w : World} {ty k e : TypeId} {x ix v : Value} {b : Bool} (hk : keyT P ty = some (k,e)) (h : lookF P k e x ix b w = some v) : (Instr.lookup ty x ix b).run P w = .ok v w := by
 obtain ⟨hu,hkk⟩ := keyT_some hk
 unfold lookF at h
 split at h
 ·cases h
 ·rename_i es hes
  split at h
  ·rename_i kd z hkd hz
   obtain ⟨i,hi,hz⟩ := Option.bind_eq_some_iff.1 hz
   have hck : ∀ g,(Instr.checkKey g 10000 k ix).run P w = .ok () w := fun g => run_checkKey hkk g 9999 ix
   have hfk : ∀ r,Instr.findNow kd ix es 0 = some r -> (Instr.findKey k ix es).run P w = .ok r w := fun r hr => by
    unfold Instr.findKey
    simp only [Sem.run_bind,run_under hkd,Result.andThen_ok,hr,Sem.run_pure]
   have hzv : (zeroValue e).run P w = .ok z w := by simp [zeroValue,run_info hi,hz]
   have rest : ∀ es' : Array MapEntry,es'.toList = es -> ((do
     Instr.checkKey es'.isEmpty 10000 k ix
     let (v,ok) ← match ← Instr.findKey k ix es'.toList with
      | some (_,v) => pure (v,true)
      | none => pure (← zeroValue e,false)
     pure (if b then .tuple #[v,.bool ok] else v) : Sem Value).run P w = .ok v w) := by
    intro es' he
    rw [he]
    simp only [Sem.run_bind,hck,Result.andThen_ok]
    split at h
    ·rename_i j u hf
     simp only [Option.some.injEq] at h
     rw [hfk _ hf]
     subst h
     cases b <;> simp
    ·rename_i hf
     simp only [Option.some.injEq] at h
     rw [hfk _ hf]
     subst h
     cases b <;> simp [hzv]
    ·cases h
   unfold Instr.lookup
   simp only [Sem.run_bind,run_under hu,Result.andThen_ok]
   split at hes
   ·cases hes
    have := rest #[] rfl
    simp at this ⊢
    exact this
   ·rename_i r
    split at hes
    ·rename_i es' c hm
     cases hes
     have := rest es' rfl
     have hg : (getObj r).run P w = .ok (.map es' c) w := by unfold getObj; simp [Sem.run,hm]
     simp only [Sem.run_bind,hg,Result.andThen_ok,Sem.run_pure]
     simp at this ⊢
     exact this
    ·cases hes
   ·cases hes
  ·cases h
theorem ok_vcOp [Esc] {P : Program} {o : Oper} {ρ : Operand -> Value} {w : World} {K : Value -> World -> Prop} (hρ : ∀ f,ρ (.func f) = .func (.func f) #[] #[]) (hok : okOp P o = true) (h : vcOp P o ρ w w K) : OpOk P o ρ w K := by
 obtain ⟨dst,op,ty,pos,after,guard⟩ := o
 unfold vcOp at h
 cases op <;> simp only at h
 case move x => exact .val (by simp [execOp]) h
 case assign x => exact .val (by simp [execOp]) h
 case pick c a b =>
  split at h
  ·rename_i e he
   cases e <;> exact .val (by simp [execOp,he,asBool]) h
  ·exact h.elim
 case nilCheck x =>
  split at h
  ·rename_i p hp
   cases p with
   | none => exact h.elim
   | some a => exact .val (by simp [execOp,hp]) h
  ·rename_i f a b hp
   exact .val (by simp [execOp,hp]) h
  ·rename_i f a hp
   exact .val (by simp [execOp,hp]) h
  ·exact h.elim
 case fieldAddr t x i =>
  split at h
  ·rename_i a ha
   split at h
   ·rename_i off hoff
    unfold fieldOff at hoff
    split at hoff
    ·rename_i fs hu
     split at hoff
     ·rename_i f hf
      split at hoff
      ·rename_i inf hi
       split at hoff
       ·cases hoff
       ·rename_i m hm
        cases hoff
        refine .val (v := .pointer (some (a.add f.offset))) (w' := w) ?_ h
        simp only [execOp]
        exact run_val (by simp [Instr.fieldAt,run_under hu,hf,ha,Instr.sureAddr,fieldPlace,run_size hi,hm])
      ·cases hoff
     ·cases hoff
    ·cases hoff
   ·exact h.elim
  ·exact h.elim
 case load t x =>
  split at h
  ·rename_i a ha
   split at h
   ·rename_i inf hi
    split at h
    ·rename_i hs
     obtain ⟨v,hk,hr⟩ := run_loadVar (P := P) hi hs h
     refine .val (v := v) (w' := w) ?_ hk
     simp only [execOp]
     exact run_val (by simp [Instr.loadAt,ha,Instr.sureAddr,hr])
    ·exact h.elim
   ·exact h.elim
  ·exact h.elim
 case store t x y =>
  split at h
  ·rename_i a ha
   split at h
   ·rename_i inf hi
    obtain ⟨w',hk,hr⟩ := run_storeVar (P := P) hi h
    refine .inr (.inl ⟨w',?_,hk⟩)
    simp only [execOp]
    exact run_unit (by simp [Instr.storeAt,ha,Instr.sureAddr,hr])
   ·exact h.elim
  ·exact h.elim
 case indexAddr t x ix =>
  split at h
  ·rename_i k i hix
   split at h
   ·rename_i e hu
    split at h
    ·rename_i base l c hx
     split at h
     ·rename_i inf hi
      obtain ⟨a,rfl,hb,hk⟩ := ixS_some h
      refine .val (w' := w) ?_ hk
      simp only [execOp]
      refine run_val ?_
      simp only [Instr.indexAt,hix,asIntOf,Sem.run_bind,Sem.run_pure,Result.andThen_ok,run_under hu,hx]
      rw [if_pos hb]
      simp [run_size hi]
     ·exact h.elim
    ·exact h.elim
   ·rename_i n e hu
    split at h
    ·rename_i a hx
     split at h
     ·rename_i inf hi
      obtain ⟨hb,hk⟩ := h
      refine .val (w' := w) ?_ hk
      simp only [execOp]
      refine run_val ?_
      simp only [Instr.indexAt,hix,asIntOf,Sem.run_bind,Sem.run_pure,Result.andThen_ok,run_under hu,hx,Instr.sureAddr]
      rw [if_pos hb]
      simp [run_size hi]
     ·exact h.elim
    ·exact h.elim
   ·exact h.elim
  ·exact h.elim
 case index t x ix =>
  split at h
  ·rename_i k i hix
   split at h
   ·rename_i hu
    split at h
    ·rename_i s hx
     obtain ⟨b,⟨h0,hb⟩,hk⟩ := h
     refine .val (w' := w) ?_ hk
     simp only [execOp]
     refine run_val ?_
     simp only [Instr.index,hix,asIntOf,Sem.run_bind,Sem.run_pure,Result.andThen_ok,run_under hu,hx]
     rw [if_pos h0,hb]
     rfl
    ·exact h.elim
   ·rename_i n e hu
    split at h
    ·rename_i cs hx
     obtain ⟨hb,h⟩ := h
     split at h
     ·rename_i inf hi
      obtain ⟨v,hv,hk⟩ := exY_ex h
      refine .val (w' := w) ?_ hk
      simp only [execOp]
      refine run_val ?_
      simp only [Instr.index,hix,asIntOf,Sem.run_bind,Sem.run_pure,Result.andThen_ok,run_under hu,hx]
      rw [if_pos hb]
      simp only [Sem.run_bind,run_size (tyI_some hi).1,Result.andThen_ok]
      exact run_part hi hv w
     ·exact h.elim
    ·exact h.elim
   ·exact h.elim
  ·exact h.elim
 case extract x i =>
  split at h
  ·rename_i vs hx
   obtain ⟨v,hv,hk⟩ := optV_some h
   refine .val (w' := w) ?_ hk
   simp only [execOp]
   exact run_val (by simp [Instr.extract,hx,hv])
  ·exact h.elim
 case field t x i =>
  split at h
  ·rename_i cs hx
   obtain ⟨v,hv,hk⟩ := optV_some h
   refine .val (w' := w) ?_ hk
   simp only [execOp]
   refine run_val ?_
   unfold fieldV at hv
   split at hv
   ·rename_i fs hu
    split at hv
    ·rename_i f hf
     split at hv
     ·rename_i inf hi
      simp only [Instr.field,Sem.run_bind,run_under hu,Result.andThen_ok,hf,hx,asAgg,Sem.run_pure]
      exact run_part hi hv w
     ·cases hv
    ·cases hv
   ·cases hv
  ·exact h.elim
 case binOp op t x y u =>
  obtain ⟨v,w',hr,hk⟩ := ok_vcBin h
  refine .val ?_ hk
  simp only [execOp]
  exact run_val hr
 case unOp op t x =>
  split at h
  ·rename_i k n hx
   exact .val (by simp only [execOp]; exact run_val (by simp [Op.unary,hx,Op.intArith])) h
  ·rename_i k n hx
   exact .val (by simp only [execOp]; exact run_val (by simp only [Op.unary,hx,Op.intBits]; rfl)) h
  ·rename_i b hx
   exact .val (by simp only [execOp]; exact run_val (by simp [Op.unary,hx])) h
  ·exact h.elim
 case convert src t x =>
  obtain ⟨v,w',hr,hk⟩ := ok_vcConv h
  refine .val ?_ hk
  simp only [execOp]
  exact run_val hr
 case makeFunc f a b => exact .val (by simp only [execOp]; exact run_val (by simp [Instr.makeFunc])) h
 case alloc e =>
  split at h
  ·rename_i z hz
   obtain ⟨i,hi,hz⟩ := Option.bind_eq_some_iff.1 hz
   refine .val ?_ h
   simp only [execOp]
   exact run_val (by simp [Instr.alloc,zeroValue,run_info hi,hz,newVar,newRow])
  ·exact h.elim
 case box e x =>
  refine .val ?_ h
  simp only [execOp]
  exact run_val (by simp [Instr.box,newVar,newRow])
 case build t ps =>
  obtain ⟨v,hv,hk⟩ := optV_some h
  refine .val (w' := w) ?_ hk
  simp only [execOp]
  refine run_val ?_
  unfold buildV at hv
  split at hv
  ·cases hv
  ·rename_i z hz
   obtain ⟨i,hi,hz⟩ := Option.bind_eq_some_iff.1 hz
   have hps : (ps.map fun (i,x) => (i,ρ x)).toList = ps.toList.map fun (i,x) => (i,ρ x) := by simp
   split at hv
   ·rename_i fs hu
    split at hv
    ·rename_i hall
     obtain ⟨cs,hc,rfl⟩ := Option.map_eq_some_iff.1 hv
     simp only [Instr.build,Sem.run_bind,zeroValue,run_info hi,hz,Result.andThen_ok,run_under hu,run_fill_map fs hall,Sem.run_pure,hps]
     rw [hc]
     rfl
    ·cases hv
   ·rename_i n e hu
    split at hv
    ·rename_i ie hie
     obtain ⟨cs,hc,rfl⟩ := Option.map_eq_some_iff.1 hv
     simp only [Instr.build,Sem.run_bind,zeroValue,run_info hi,hz,Result.andThen_ok,run_under hu,run_size hie,Sem.run_pure,hps]
     rw [hc]
     rfl
    ·cases hv
   ·cases hv
 case buildSlice t n ps =>
  split at h
  ·rename_i e cs hb
   refine .val ?_ h
   simp only [execOp]
   refine run_val ?_
   unfold buildS at hb
   split at hb
   ·rename_i e' hu
    split at hb
    ·cases hb
    ·rename_i i hi
     split at hb
     ·cases hb
     ·rename_i z hz
      split at hb
      ·cases hb
      ·rename_i hsz
       simp only [Bool.or_eq_false_iff] at hsz
       have h1 : ¬ (n * i.size > 2 ^ 24) := by
        intro hgt
        have : Nat.blt (2 ^ 24) (n * i.size) = true := by rw [Nat.blt_eq]; exact hgt
        rw [this] at hsz
        simp at hsz
       have h2 : n * i.size ≠ 0 := by
        have := hsz.2
        intro h0
        rw [h0] at this
        simp at this
       obtain ⟨cs',hc,hce⟩ := Option.map_eq_some_iff.1 hb
       cases hce
       have hps : (ps.map fun (i,x) => (i,ρ x)).toList = ps.toList.map fun (i,x) => (i,ρ x) := by simp
       simp only [Instr.buildSlice,Sem.run_bind,run_under hu,Result.andThen_ok,run_size hi,hps]
       rw [if_neg h1,if_neg h2]
       simp only [Sem.run_bind,Sem.run_pure,zeroValue,run_info hi,hz,Result.andThen_ok]
       rw [hc]
       simp [newRow]
   ·cases hb
  ·obtain ⟨v,w',hr,hk⟩ := run_rn h
   exact .val (by simp only [execOp]; exact run_val hr) hk
 case makeMap t r =>
  cases r with
  | none => exact .val (by simp only [execOp]; exact run_val (by simp [Instr.makeMap])) h
  | some r =>
   obtain ⟨v,w',hr,hk⟩ := run_rn h
   exact .val (by simp only [execOp]; exact run_val hr) hk
 case makeInterface t x =>
  split at h
  ·exact h.elim
  ·exact h.elim
  ·rename_i d hn hd
   refine .val (v := .iface t (ρ x)) (w' := w) ?_ h
   simp only [execOp]
   refine run_val ?_
   simp only [Instr.makeInterface,Sem.run_bind,run_under hd,Result.andThen_ok]
   cases d <;> first | rfl | exact absurd hd (hn _)
 case slice t x lo hi mx =>
  cases mx with
  | some mx =>
   obtain ⟨v,w',hr,hk⟩ := run_rn h
   exact .val (by simp only [execOp]; exact run_val hr) hk
  | none =>
   simp only at h
   split at h
   ·rename_i e a l c hu hx
    split at h
    ·rename_i inf hi
     obtain ⟨f,n,hk,hr⟩ := run_sliceBounds (P := P) (w := w) (g := true) h
     refine .val (w' := w) ?_ hk
     simp only [execOp]
     refine run_val ?_
     simp only [Instr.sliceAt,Sem.run_bind,run_under hu,Result.andThen_ok,Instr.slice,hx,Option.map_none,hr,run_size hi]
     rfl
    ·exact h.elim
   ·rename_i s hu hx
    obtain ⟨f,n,hk,hr⟩ := run_sliceBounds (P := P) (w := w) (g := false) h
    refine .val (w' := w) ?_ hk
    simp only [execOp]
    refine run_val ?_
    simp [Instr.sliceAt,run_under hu,Instr.slice,hx,hr]
   ·split at h
    ·exact h.elim
    ·obtain ⟨v,w',hr,hk⟩ := run_rn h
     exact .val (by simp only [execOp]; exact run_val hr) hk
 case makeSlice t l c => obtain ⟨v,w',hr,hk⟩ := run_rn h; exact .val (by simp only [execOp]; exact run_val hr) hk
 case lookup t x ix b =>
  split at h
  ·rename_i k e hk
   obtain ⟨v,hv,hK⟩ := exY_ex h
   exact .val (by simp only [execOp]; exact run_val (lookup_run hk hv)) hK
  ·obtain ⟨v,w',hr,hk⟩ := run_rn h
   exact .val (by simp only [execOp]; exact run_val hr) hk
 case mapUpdate t m k x => obtain ⟨w',hr,hk⟩ := h; exact .inr (.inl ⟨w',by simp only [execOp]; exact run_unit hr,hk⟩)
 case insert t m k x => obtain ⟨w',hr,hk⟩ := h; exact .inr (.inl ⟨w',by simp only [execOp]; exact run_unit hr,hk⟩)
 case mapEntry t m k => obtain ⟨v,w',hr,hk⟩ := run_rn h; exact .val (by simp only [execOp]; exact run_val hr) hk
 case entryStore t m k x => obtain ⟨w',hr,hk⟩ := h; exact .inr (.inl ⟨w',by simp only [execOp]; exact run_unit hr,hk⟩)
 case range t x => obtain ⟨v,w',hr,hk⟩ := run_rn h; exact .val (by simp only [execOp]; exact run_val hr) hk
 case next t x =>
  rcases h with ⟨w',hr,hk⟩ | ⟨k,v,w',hr,hk⟩
  ·exact .val (by simp only [execOp]; exact run_val hr) hk
  ·exact .val (by simp only [execOp]; exact run_val hr) hk
 case entry x => obtain ⟨v,w',hr,hk⟩ := run_rn h; exact .val (by simp only [execOp]; exact run_val hr) hk
 case typeAssert x a b c => obtain ⟨v,w',hr,hk⟩ := run_rn h; exact .val (by simp only [execOp]; exact run_val hr) hk
 case call c =>
  split at h
  ·rename_i f hc
   split at h
   ·rename_i hf
    refine .inr (.inr (.inl ⟨f,c.args.map ρ,w,?_,call_calls h⟩))
    simp only [execOp]
    simpa using run_resolve (w := w) hc (hρ f) hf
   ·obtain ⟨v,w',hr,hk⟩ := exY_ex h
    refine .val ?_ hk
    simp only [execOp]
    rw [run_resolve0 hc (hρ f)]
    simpa using hr
  ·rename_i x hx hc
   rcases h with ⟨f,a,b,hf,hg,h⟩ | ⟨l,hf,fn,tm,as_,bd,hy,h⟩
   ·refine .inr (.inr (.inl ⟨f,a ++ c.args.map ρ ++ b,w,?_,(call_calls h).mono fun e w' => en_mono fun _ _ ⟨v,he,hx⟩ => ⟨v,he,by obtain ⟨u,rfl,hk⟩ := exY_ex hx; exact hk⟩⟩))
    simp only [execOp]
    exact run_resolve hc hf hg
   ·refine .inr (.inr (.inr (.inl ⟨l,fn,tm,as_,bd,w,?_,h.mono fun e w' ⟨v,he,hx⟩ => ⟨v,he,?_⟩⟩)))
    ·simp only [execOp]
     simp [resolve,hc,hf,Deferred.ofValue,invoke,hy]
    ·obtain ⟨u,rfl,hx⟩ := exY_ex hx
     obtain ⟨u',rfl,hk⟩ := exY_ex hx
     exact hk
  ·rename_i b hc
   obtain ⟨v,w',hr,hk⟩ := ok_vcBuiltin h (c.args.map fun | .const _ => true | _ => false)
   refine .val ?_ hk
   have he := args_arr c.args ρ
   rw [he] at hr
   simp only [execOp,resolve,hc,Sem.run_bind,Sem.run_pure,Result.andThen_ok]
   exact hr
  ·rename_i r name hc
   obtain ⟨f,as_,w1,hr,h⟩ := h
   refine .inr (.inr (.inl ⟨f,as_,w1,?_,call_calls h⟩))
   have h0 := app_fst (ρ r) (c.args.map ρ)
   have h1 := app_rest (ρ r) (c.args.map ρ)
   simp only [execOp,resolve,hc,Sem.run_bind,Sem.run_pure,Result.andThen_ok,invoke,h0,h1]
   exact hr
 case panic x =>
  split at h
  ·rename_i u v hx
   refine .inr (.inr (.inr (.inr ⟨_,?_,h⟩)))
   simp [execOp,Instr.panic,hx]
  ·exact h.elim
 all_goals exact h.elim
end Go.Sh
