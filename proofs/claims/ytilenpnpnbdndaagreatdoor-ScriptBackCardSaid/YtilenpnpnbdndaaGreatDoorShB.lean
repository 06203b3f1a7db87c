/- Own text: part of the shallow reading of the code and of the contracts that are proved over it. -/
import Derived.Test.YtilenpnpnbdndaaGreatDoorShA
namespace Go.Sh
open Go
theorem exK_mono {k : Kd} {A B : Value -> Prop} (h : ∀ v,A v -> B v) : exK k A -> exK k B := by
 cases k <;> simp only [exK] <;> first
  | exact fun ⟨a,l,c,x⟩ => ⟨a,l,c,h _ x⟩
  | exact fun ⟨a,x⟩ => ⟨a,h _ x⟩
  | exact Or.imp (h _) fun ⟨u,v,x⟩ => ⟨u,v,h _ x⟩
theorem exL_mono : ∀ {ks : List Kd} {A B : List Value -> Prop},(∀ v,A v -> B v) -> exL ks A -> exL ks B
 | [],_,_,h => h _
 | _ :: _,_,_,h => exK_mono fun _ => exL_mono fun _ => h _
theorem exX_mono {x : Kx} {A B : Value -> Prop} (h : ∀ v,A v -> B v) : exX x A -> exX x B := by
 cases x with
 | one k => exact exK_mono h
 | agg ks => exact exL_mono fun _ => h _
theorem exXs_mono : ∀ {ks : List Kx} {A B : List Value -> Prop},(∀ v,A v -> B v) -> exXs ks A -> exXs ks B
 | [],_,_,h => h _
 | _ :: _,_,_,h => exX_mono fun _ => exXs_mono fun _ => h _
theorem exY_mono {y : Ky} {A B : Value -> Prop} (h : ∀ v,A v -> B v) : exY y A -> exY y B := by
 cases y with
 | one x => exact exX_mono h
 | tup xs => exact exXs_mono fun _ => h _
theorem exK_ex {k : Kd} {A : Value -> Prop} : exK k A -> ∃ v,A v := by
 cases k <;> simp only [exK] <;> first
  | exact fun ⟨_,_,_,x⟩ => ⟨_,x⟩
  | exact fun ⟨_,x⟩ => ⟨_,x⟩
  | exact fun x => x.elim (fun x => ⟨_,x⟩) fun ⟨_,_,x⟩ => ⟨_,x⟩
theorem exL_ex : ∀ {ks : List Kd} {A : List Value -> Prop},exL ks A -> ∃ v,A v
 | [],_,h => ⟨_,h⟩
 | _ :: _,_,h => by
  obtain ⟨_,h⟩ := exK_ex h
  obtain ⟨_,h⟩ := exL_ex h
  exact ⟨_,h⟩
theorem exX_ex {x : Kx} {A : Value -> Prop} (h : exX x A) : ∃ v,A v := by
 cases x with
 | one k => exact exK_ex h
 | agg ks => obtain ⟨_,h⟩ := exL_ex h; exact ⟨_,h⟩
theorem exXs_ex : ∀ {ks : List Kx} {A : List Value -> Prop},exXs ks A -> ∃ v,A v
 | [],_,h => ⟨_,h⟩
 | _ :: _,_,h => by
  obtain ⟨_,h⟩ := exX_ex h
  obtain ⟨_,h⟩ := exXs_ex h
  exact ⟨_,h⟩
theorem exY_ex {y : Ky} {A : Value -> Prop} (h : exY y A) : ∃ v,A v := by
 cases y with
 | one x => exact exX_ex h
 | tup xs => obtain ⟨_,h⟩ := exXs_ex h; exact ⟨_,h⟩
theorem exK_pull {k : Kd} {A : Value -> Prop} {C : Value -> Prop} (h : exK k fun v => A v /\ C v) : ∃ v,exK k (fun u => A u /\ u = v) /\ C v := by
 cases k <;> simp only [exK] at h ⊢ <;> first
  | exact let ⟨a,l,c,x,y⟩ := h; ⟨_,⟨a,l,c,x,rfl⟩,y⟩
  | exact let ⟨a,x,y⟩ := h; ⟨_,⟨a,x,rfl⟩,y⟩
  | exact h.elim (fun ⟨x,y⟩ => ⟨_,.inl ⟨x,rfl⟩,y⟩) fun ⟨u,v,x,y⟩ => ⟨_,.inr ⟨u,v,x,rfl⟩,y⟩
theorem br_mono {b : Bool} {A B A' B' : Prop} (h : A -> A') (k : B -> B') : br b A B -> br b A' B' := by cases b <;> assumption
theorem nn_mono {p : Option Addr} {A B : Addr -> Prop} (h : ∀ a,A a -> B a) : nn p A -> nn p B := by cases p <;> simp only [nn] <;> first | exact id | exact h _
theorem nz_mono {b : Int} {A B : Prop} (h : A -> B) : nz b A -> nz b B := by unfold nz; split <;> first | exact h | exact id
theorem shc_mono {b : Int} {A B : Nat -> Prop} (h : ∀ n,A n -> B n) : shc b A -> shc b B := by unfold shc; split <;> first | exact h _ | exact id
theorem ldL_mono {w : World} {a : Addr} : ∀ {ks : List Kd} {i : Nat} {A B : List Value -> Prop},(∀ v,A v -> B v) -> ldL w a ks i A -> ldL w a ks i B
 | [],_,_,_,h => h _
 | _ :: _,_,_,_,h => exK_mono fun _ x => ⟨x.1,ldL_mono (fun _ => h _) x.2⟩
theorem ldX_mono {x : Kx} {a : Addr} {w : World} {A B : Value -> Prop} (h : ∀ v,A v -> B v) : ldX x a w A -> ldX x a w B := by
 cases x with
 | one k => exact exK_mono (A := fun v => w.cell? a = some v /\ A v) (B := fun v => w.cell? a = some v /\ B v) fun _ x => ⟨x.1,h _ x.2⟩
 | agg ks => exact ldL_mono fun _ => h _
theorem stc_mono {a : Addr} {v : Value} {w : World} {A B : World -> Prop} (h : ∀ w,A w -> B w) : stc a v w A -> stc a v w B := fun x => ⟨x.1,h _ x.2⟩
theorem st_eq {a : Addr} {v : Value} {w : World} {A : World -> Prop} : st a v w A ↔ v.oneCell' = true /\ stc a v w A := by
 cases v <;> simp [st,Value.oneCell']
theorem st_mono {a : Addr} {v : Value} {w : World} {A B : World -> Prop} (h : ∀ w,A w -> B w) : st a v w A -> st a v w B := by
 rw [st_eq,st_eq]; exact fun x => ⟨x.1,stc_mono h x.2⟩
theorem stL_mono {a : Addr} : ∀ {i : Nat} {vs : List Value} {w : World} {A B : World -> Prop},(∀ w,A w -> B w) -> stL a i vs w A -> stL a i vs w B
 | _,[],_,_,_,h => h _
 | _,_ :: _,_,_,_,h => st_mono fun _ => stL_mono h
theorem stX_mono {g : Bool} {n : Nat} {a : Addr} {v : Value} {w : World} {A B : World -> Prop} (h : ∀ w,A w -> B w) : stX g n a v w A -> stX g n a v w B := by
 unfold stX
 split
 ·split <;> first | exact st_mono h | exact id
 ·split <;> (try split) <;> first | exact stL_mono h | exact id
theorem ixS_mono {sz : Nat} {b : Option Addr} {l : Nat} {i : Int} {A B : Addr -> Prop} (h : ∀ a,A a -> B a) : ixS sz b l i A -> ixS sz b l i B := fun x => ⟨x.1,nn_mono (fun _ => h _) x.2⟩
theorem ixA_mono {sz n : Nat} {b : Addr} {i : Int} {A B : Addr -> Prop} (h : ∀ a,A a -> B a) : ixA sz n b i A -> ixA sz n b i B := fun x => ⟨x.1,h _ x.2⟩
theorem ixT_mono {s : ByteArray} {i : Int} {A B : Int -> Prop} (h : ∀ a,A a -> B a) : ixT s i A -> ixT s i B := fun ⟨b,x,y⟩ => ⟨b,x,h _ y⟩
theorem cat_mono {x y : ByteArray} {A B : ByteArray -> Prop} (h : ∀ a,A a -> B a) : cat x y A -> cat x y B := fun x => ⟨x.1,h _ x.2⟩
theorem bnd_mono {v : Option Value} {d y : Nat} {A B : Nat -> Prop} (h : ∀ a,A a -> B a) : bnd v d y A -> bnd v d y B := by
 unfold bnd; split <;> first | exact h _ | exact fun x => ⟨x.1,h _ x.2⟩ | exact id
theorem slS_mono {sz : Nat} {a : Option Addr} {l c : Nat} {lo hi : Option Value} {A B : Option Addr -> Nat -> Nat -> Prop} (h : ∀ a l c,A a l c -> B a l c) :
  slS sz a l c lo hi A -> slS sz a l c lo hi B := bnd_mono fun _ => bnd_mono fun _ => h _ _ _
theorem slT_mono {s : ByteArray} {lo hi : Option Value} {A B : ByteArray -> Prop} (h : ∀ a,A a -> B a) : slT s lo hi A -> slT s lo hi B := bnd_mono fun _ => bnd_mono fun _ => h _
theorem optV_mono {v : Option Value} {A B : Value -> Prop} (h : ∀ v,A v -> B v) : optV v A -> optV v B := by cases v <;> simp only [optV] <;> first | exact id | exact h _
theorem rn_mono {P : Program} {s : Sem Value} {w : World} {y : Ky} {K K' : Value -> World -> Prop} (h : ∀ v w',K v w' -> K' v w') : rn P s w y K -> rn P s w y K' :=
 exY_mono fun _ ⟨w',x,k⟩ => ⟨w',x,h _ _ k⟩
theorem nxt_mono {P : Program} {s : Sem Value} {w : World} {K K' : Value -> World -> Prop} (h : ∀ v w,K v w -> K' v w) : nxt P s w K -> nxt P s w K' := fun g =>
 g.elim (fun ⟨w',hr,hk⟩ => .inl ⟨w',hr,h _ _ hk⟩) fun ⟨k,v,w',hr,hk⟩ => .inr ⟨k,v,w',hr,h _ _ hk⟩
theorem rnU_mono {P : Program} {s : Sem Unit} {w : World} {K K' : World -> Prop} (h : ∀ w',K w' -> K' w') : rnU P s w K -> rnU P s w K' :=
 fun ⟨w',x,k⟩ => ⟨w',x,h _ k⟩
theorem call_mono [Esc] {P : Program} {f : FuncId} {as_ : Array Value} {w : World} {y : Ky} {K K' : Value -> World -> Prop} (h : ∀ v w',K v w' -> K' v w') : call P f as_ w y K -> call P f as_ w y K' :=
 fun x => Calls.mono x fun _ _ => en_mono fun _ _ => exY_mono fun _ y => ⟨y.1,h _ _ y.2⟩
theorem ext_mono {P : Program} {f : FuncId} {as_ : Array Value} {w : World} {y : Ky} {K K' : Value -> World -> Prop} (h : ∀ v w',K v w' -> K' v w') : ext P f as_ w y K -> ext P f as_ w y K' :=
 exY_mono fun _ ⟨w',x,k⟩ => ⟨w',x,h _ _ k⟩
theorem callV_mono [Esc] {P : Program} {f : Value} {as_ : Array Value} {w : World} {y : Ky} {K K' : Value -> World -> Prop} (h : ∀ v w',K v w' -> K' v w') : callV P f as_ w y K -> callV P f as_ w y K' :=
 Or.imp (fun ⟨a,b,c,x,y,z⟩ => ⟨a,b,c,x,y,call_mono h z⟩) fun ⟨l,x,fn,tm,as_,bd,e,z⟩ => ⟨l,x,fn,tm,as_,bd,e,z.mono fun _ _ ⟨v,he,q⟩ => ⟨v,he,exY_mono (fun _ p => ⟨p.1,h _ _ p.2⟩) q⟩⟩
theorem callX_mono [Esc] {P : Program} {s : Sem Next} {w : World} {y : Ky} {K K' : Value -> World -> Prop} (h : ∀ v w',K v w' -> K' v w') : callX P s w y K -> callX P s w y K' :=
 fun ⟨a,b,c,x,z⟩ => ⟨a,b,c,x,call_mono h z⟩
theorem vcBin_mono {P : Program} {op : BinOp} {ty : TypeId} {xo yo : Operand} {x y : Value} {w : World} {Y : Ky} {K K' : Value -> World -> Prop} (h : ∀ v w',K v w' -> K' v w') :
  vcBin P op ty xo yo x y w Y K -> vcBin P op ty xo yo x y w Y K' := by
 unfold vcBin
 split
 ·split
  ·exact shc_mono fun _ => h _ _
  ·exact shc_mono fun _ => h _ _
  ·split
   ·exact id
   ·split <;> first | exact h _ _ | exact nz_mono (h _ _) | exact id
 ·split <;> first | exact h _ _ | exact cat_mono (fun _ => h _ _) | exact id
 ·split <;> first | exact h _ _ | exact id
 ·split <;> first | exact h _ _ | exact id
 ·split <;> first | exact h _ _ | exact id
 ·split <;> first | exact h _ _ | exact id
 ·split <;> first | exact rn_mono h | exact id
theorem vcConv_mono {P : Program} {src dst : TypeId} {x : Value} {w : World} {K K' : Value -> World -> Prop} (h : ∀ v w',K v w' -> K' v w') :
  vcConv P src dst x w K -> vcConv P src dst x w K' := by
 unfold vcConv
 split <;> (try split) <;> first | exact h _ _ | exact rn_mono h | exact id
theorem vcBuiltin_mono {P : Program} {b : Builtin} {ats : Array TypeId} {ty : TypeId} {as_ : List Value} {w : World} {K K' : Value -> World -> Prop} (h : ∀ v w',K v w' -> K' v w') :
  vcBuiltin P b ats ty as_ w K -> vcBuiltin P b ats ty as_ w K' := by
 unfold vcBuiltin
 split <;> (try split) <;> (try split) <;> first | exact h _ _ | exact rn_mono h | exact id
theorem vcOp_mono [Esc] {P : Program} {o : Oper} {ρ : Operand -> Value} {wr w : World} {K K' : Value -> World -> Prop} (h : ∀ v w',K v w' -> K' v w') :
  vcOp P o ρ wr w K -> vcOp P o ρ wr w K' := by
 unfold vcOp
 split
 case h_1 => exact h _ _
 case h_2 => exact h _ _
 case h_3 => split <;> first | exact br_mono (h _ _) (h _ _) | exact id
 case h_4 => split <;> first | exact nn_mono fun _ => h _ _ | exact h _ _ | exact id
 case h_5 => split <;> (try split) <;> first | exact h _ _ | exact id
 case h_6 =>
  split
  ·split
   ·split
    ·exact ldX_mono fun _ => h _ _
    ·exact id
   ·exact id
  ·exact id
 case h_7 => split <;> (try split) <;> first | exact stX_mono fun _ => h _ _ | exact id
 case h_8 => (repeat' split) <;> first | exact ixS_mono fun _ => h _ _ | exact ixA_mono fun _ => h _ _ | exact id
 case h_9 =>
  split
  ·split
   ·split <;> first | exact ixT_mono fun _ => h _ _ | exact id
   ·split
    ·exact fun x => ⟨x.1,by
      have y := x.2
      split at y
      ·exact exY_mono (fun _ x => ⟨x.1,h _ _ x.2⟩) y
      ·exact y⟩
    ·exact id
   ·exact id
  ·exact id
 case h_10 => split <;> first | exact optV_mono fun _ => h _ _ | exact id
 case h_11 => split <;> first | exact optV_mono fun _ => h _ _ | exact id
 case h_12 => exact vcBin_mono h
 case h_13 => split <;> first | exact h _ _ | exact id
 case h_14 => exact vcConv_mono h
 case h_15 => exact h _ _
 case h_16 => split <;> first | exact h _ _ | exact id
 case h_17 => exact h _ _
 case h_18 => exact optV_mono fun _ => h _ _
 case h_19 => split <;> first | exact h _ _ | exact rn_mono h
 case h_20 => exact h _ _
 case h_21 => exact rn_mono h
 case h_22 => split <;> first | exact h _ _ | exact id
 case h_23 =>
  split
  ·split
   ·exact slS_mono fun _ _ _ => h _ _
   ·exact id
  ·exact slT_mono fun _ => h _ _
  ·split <;> first | exact rn_mono h | exact id
 case h_24 => exact rn_mono h
 case h_25 => exact rn_mono h
 case h_26 =>
  split
  ·exact exY_mono fun _ x => ⟨x.1,h _ _ x.2⟩
  ·exact rn_mono h
 case h_27 => exact rnU_mono fun _ => h _ _
 case h_28 => exact rnU_mono fun _ => h _ _
 case h_29 => exact rn_mono h
 case h_30 => exact rnU_mono fun _ => h _ _
 case h_31 => exact rn_mono h
 case h_32 => exact nxt_mono h
 case h_33 => exact rn_mono h
 case h_34 => exact rn_mono h
 case h_35 =>
  split
  ·split <;> first | exact call_mono h | exact ext_mono h
  ·exact callV_mono fun _ _ => exY_mono fun _ x => ⟨x.1,h _ _ x.2⟩
  ·exact vcBuiltin_mono h
  ·exact callX_mono h
 case h_36 => split <;> exact id
 case h_37 => exact id
def OpOk [Esc] (P : Program) (o : Oper) (ρ : Operand -> Value) (w : World) (K : Value -> World -> Prop) : Prop :=
 (∃ v w',(execOp ρ o).run P w = .ok (.value v) w' /\ K v w') \/ (∃ w',(execOp ρ o).run P w = .ok .skip w' /\ K undef w') \/
 (∃ f args w1,(execOp ρ o).run P w = .ok (.enter f args) w1 /\ Calls P f args w1 (rv K)) \/
 (∃ l f tmps assign body w1,(execOp ρ o).run P w = .ok (.round l f tmps assign body) w1 /\ RoundIn Fence.wide 0 P l f tmps assign body w1 fun e w' => ∃ v,e = .returned v /\ K v w') \/
 (∃ v,(execOp ρ o).run P w = .halt (.panic v) w /\ Esc.E [{ v := v,recovered := false }] w)
abbrev fw (r : Option Nat) : Fence := { Fence.wide with round := r }
theorem OpOk.val [Esc] {P : Program} {o : Oper} {ρ : Operand -> Value} {w : World} {K : Value -> World -> Prop} {v : Value} {w' : World} (h : (execOp ρ o).run P w = .ok (.value v) w') (k : K v w') : OpOk P o ρ w K := .inl ⟨_,_,h,k⟩
theorem OpOk.wp [Esc] {P : Program} {o : Oper} {a : Act} {w : World} {K : Value -> World -> Prop} {next : Act -> World -> Prop} {Q : Exit -> Act -> World -> Prop} {r : Option Nat}
  (h : OpOk P o a.eval w K) (hd : ∀ c,o.op ≠ .defer c) (hp : ∀ ch w',Esc.E ch w' -> Q (.panic ch) a w') (k : ∀ v w',K v w' -> next (a.put o.dst v) w') : o.wpIn (fw r) 0 P a w next Q := by
 refine ⟨fun _ _ => trivial,?_⟩
 rw [Oper.semAt_eq _ _ _ hd]
 rcases h with ⟨v,w',h,x⟩ | ⟨w',h,x⟩ | ⟨f,args,w1,h,x⟩ | ⟨l,f,tmps,assign,body,w1,h,x⟩ | ⟨v,h,x⟩
 ·rw [h]; exact k _ _ x
 ·rw [h]; exact k _ _ x
 ·rw [h]
  refine ⟨(fun hh => by cases hh),?_⟩
  refine CallsIn.mono (F := fw r) (R := rv K) (callsIn_wide.2 x) fun e w' y => ?_
  rcases rv_iff.1 y with ⟨v,he,z⟩ | ⟨ch,he,z⟩
  ·subst he; exact k _ _ z
  ·subst he; exact hp _ _ z
 ·rw [h]
  refine ⟨(fun hh => by cases hh),?_⟩
  refine RoundIn.mono (F := fw r) (R := fun e w' => ∃ v,e = .returned v /\ K v w') x fun e w' ⟨v,he,y⟩ => by subst he; exact k _ _ y
 ·rw [h]; exact hp _ _ x
theorem vcOp_nodefer [Esc] {P : Program} {o : Oper} {ρ : Operand -> Value} {wr w : World} {K : Value -> World -> Prop} (h : vcOp P o ρ wr w K) : ∀ c,o.op ≠ .defer c := by
 intro c hc
 obtain ⟨dst,op,ty,pos,after,guard⟩ := o
 simp only at hc
 subst hc
 exact h
theorem run_info {P : Program} {t : TypeId} {i : TypeInfo} (h : P.info? t = some i) (w : World) : (typeInfo t).run P w = .ok i w := by simp [typeInfo,h]
theorem run_size {P : Program} {t : TypeId} {i : TypeInfo} (h : P.info? t = some i) (w : World) : (sizeOf t).run P w = .ok i.size w := by simp [sizeOf,run_info h]
theorem run_under {P : Program} {t : TypeId} {d : TypeDesc} (h : P.underlying t = some d) (w : World) : (underlying t).run P w = .ok d w := by simp [underlying,h]
theorem run_isAgg {P : Program} {t : TypeId} {d : TypeDesc} (h : P.underlying t = some d) (w : World) : (isAgg t).run P w = .ok (isAggT P t) w := by
 unfold isAgg isAggT
 simp only [Sem.run_bind,run_under h,Result.andThen_ok,h]
 cases d <;> rfl
theorem tyI_some {P : Program} {t : TypeId} {i : TypeInfo} (h : tyI P t = some i) : P.info? t = some i /\ ∃ d,P.underlying t = some d := by
 unfold tyI at h
 cases hu : P.underlying t with
 | none => simp [hu] at h
 | some d => exact ⟨by simpa [hu] using h,d,rfl⟩
theorem run_loadCells {P : Program} {w : World} {a : Addr} : ∀ {ks : List Kd} {i : Nat} {acc : Array Value} {A : List Value -> Prop},ldL w a ks i A ->
  ∃ vs,A vs /\ (loadCellsFrom a i ks.length acc).run P w = .ok (acc ++ vs.toArray) w
 | [],_,acc,_,h => ⟨[],h,by simp [loadCellsFrom]⟩
 | k :: r,i,acc,A,h => by
  obtain ⟨v,hv,h⟩ := exK_ex h
  obtain ⟨vs,hA,hr⟩ := run_loadCells (P := P) (acc := acc.push v) h
  exact ⟨v :: vs,hA,by simp [loadCellsFrom,hv,hr]⟩
theorem run_storeCells {P : Program} {a : Addr} : ∀ {vs : List Value} {i : Nat} {w : World} {A : World -> Prop},stL a i vs w A -> ∃ w',A w' /\ (storeCells a vs i).run P w = .ok () w'
 | [],_,w,_,h => ⟨w,h,by simp [storeCells]⟩
 | v :: r,i,w,A,h => by
  obtain ⟨hv,hc,h⟩ := st_eq.1 h
  obtain ⟨w',hA,hr⟩ := run_storeCells (P := P) h
  refine ⟨w',hA,?_⟩
  obtain ⟨u,hu⟩ := Option.isSome_iff_exists.1 hc.1
  simp [storeCells,run_store P w _ v .plain hv,hu,hc.2,hr]
theorem cells_one {v : Value} (h : v.oneCell' = true) : v.cells = #[v] := by cases v <;> simp_all [Value.oneCell',Value.cells]
theorem run_loadVar {P : Program} {w : World} {t : TypeId} {i : TypeInfo} {a : Addr} {A : Value -> Prop} (hi : tyI P t = some i)
  (hs : (match kxOf P t with | .agg ks => Nat.beq ks.length i.size | .one _ => true) = true) (h : ldX (kxOf P t) a w A) : ∃ v,A v /\ (loadVar t a).run P w = .ok v w := by
 obtain ⟨hi,d,hd⟩ := tyI_some hi
 unfold loadVar
 simp only [Sem.run_bind,run_isAgg hd,Result.andThen_ok]
 have hk : (∃ ks,kxOf P t = .agg ks /\ isAggT P t = true) \/ ∃ k,kxOf P t = .one k /\ isAggT P t = false := by
  unfold kxOf isAggT
  simp only [hd]
  cases d <;> first | exact .inl ⟨_,rfl,rfl⟩ | exact .inr ⟨_,rfl,rfl⟩
 rcases hk with ⟨ks,hk,hg⟩ | ⟨k,hk,hg⟩
 ·rw [hk] at h hs
  obtain ⟨vs,hA,hr⟩ := run_loadCells (P := P) (acc := #[]) h
  refine ⟨_,hA,?_⟩
  have he : ks.length = i.size := by simpa using hs
  simp [hg,run_size hi,loadCells,← he,hr]
 ·rw [hk] at h
  have h : exK k fun v => w.cell? a = some v /\ A v := h
  obtain ⟨v,hv,hA⟩ := exK_ex h
  exact ⟨v,hA,by simp [hg,hv]⟩
theorem run_storeVar {P : Program} {w : World} {t : TypeId} {i : TypeInfo} {a : Addr} {v : Value} {A : World -> Prop} (hi : tyI P t = some i)
  (h : stX (isAggT P t) i.size a v w A) : ∃ w',A w' /\ (storeVar t a v).run P w = .ok () w' := by
 obtain ⟨hi,-⟩ := tyI_some hi
 unfold storeVar
 unfold stX at h
 split at h
 ·split at h
  ·rename_i hs
   obtain ⟨hv,hc,h⟩ := st_eq.1 h
   obtain ⟨u,hu⟩ := Option.isSome_iff_exists.1 hc.1
   have h0 : a.add 0 = a := rfl
   exact ⟨_,h,by simp [run_size hi,hs,cells_one hv,storeCells,h0,run_store P w _ v .plain hv,hu,hc.2]⟩
  ·exact h.elim
 ·split at h
  ·split at h
   ·rename_i cs _ hb
    have he : cs.size = i.size := by simpa using hb
    obtain ⟨w',hA,hr⟩ := run_storeCells (P := P) h
    exact ⟨w',hA,by simp [run_size hi,Value.cells,he,hr]⟩
   ·exact h.elim
  ·exact h.elim
theorem run_rn {P : Program} {s : Sem Value} {w : World} {y : Ky} {K : Value -> World -> Prop} (h : rn P s w y K) : ∃ v w',s.run P w = .ok v w' /\ K v w' := exY_ex h
theorem call_calls [Esc] {P : Program} {f : FuncId} {as_ : Array Value} {w : World} {y : Ky} {K : Value -> World -> Prop} (h : call P f as_ w y K) :
  Calls P f as_ w (rv K) := Calls.mono h fun _ _ => en_mono fun _ _ => exY_ex
theorem run_callFunc {P : Program} {f : FuncId} (h : okFn P f = true) (as_ : Array Value) (w : World) : (callFunc f as_).run P w = .ok (.enter f as_) w := by
 unfold okFn at h
 cases hf : P.funcs[f]? with
 | none => simp [hf] at h
 | some fn =>
  simp only [hf,Bool.and_eq_true,Bool.not_eq_true'] at h
  have hb : fn.body ≠ none := by intro hb; simp [hb] at h
  have hn : fn.name ≠ "runtime.NumGoroutine" := by simpa using h.2
  simp [callFunc,hf,hn,hb]
section
variable {P : Program} {t : TypeId} {w : World}
theorem eqIn_bool (hu : P.underlying t = some .bool) (d : Nat) (a b : Bool) : (Op.equalIn (d + 1) t (.bool a) (.bool b)).run P w = .ok (a == b) w := by
 simp [Op.equalIn,run_under hu]
theorem eqIn_ptr {e : TypeId} (hu : P.underlying t = some (.pointer e)) (d : Nat) (p : Option Addr) : (Op.equalIn (d + 1) t (.pointer p) (.pointer none)).run P w = .ok p.isNone w := by
 cases p <;> simp [Op.equalIn,run_under hu]
theorem eqIn_slc {e : TypeId} (hu : P.underlying t = some (.slice e)) (d : Nat) (p : Option Addr) (l c l' c' : Nat) : (Op.equalIn (d + 1) t (.slice p l c) (.slice none l' c')).run P w = .ok p.isNone w := by
 cases p <;> simp [Op.equalIn,run_under hu]
theorem eqIn_map {k e : TypeId} (hu : P.underlying t = some (.map k e)) (d : Nat) (p : Option Nat) : (Op.equalIn (d + 1) t (.map p) (.map none)).run P w = .ok p.isNone w := by
 cases p <;> simp [Op.equalIn,run_under hu]
theorem isBoolT_u (h : isBoolT P t = true) : P.underlying t = some .bool := by unfold isBoolT at h; split at h <;> simp_all
theorem isPtrT_u (h : isPtrT P t = true) : ∃ e,P.underlying t = some (.pointer e) := by unfold isPtrT at h; split at h <;> simp_all
theorem isSlcT_u (h : isSlcT P t = true) : ∃ e,P.underlying t = some (.slice e) := by unfold isSlcT at h; split at h <;> simp_all
theorem isMapT_u (h : isMapT P t = true) : ∃ k e,P.underlying t = some (.map k e) := by unfold isMapT at h; split at h <;> simp_all
theorem isStrT_u (h : isStrT P t = true) : P.underlying t = some .string := by unfold isStrT at h; split at h <;> simp_all
theorem run_eql {x y : Value} {b : Bool} (h : (Op.equal t x y).run P w = .ok b w) (hx : binOp .eql t x y = (do pure (.bool (← Op.equal t x y)))) : (binOp .eql t x y).run P w = .ok (.bool b) w := by
 rw [hx]; simp [h]
theorem run_neq {x y : Value} {b : Bool} (h : (Op.equal t x y).run P w = .ok b w) (hx : binOp .neq t x y = (do pure (.bool (!(← Op.equal t x y))))) : (binOp .neq t x y).run P w = .ok (.bool !b) w := by
 rw [hx]; simp [h]
end
theorem nz_and {b : Int} {A : Prop} (h : nz b A) : b ≠ 0 /\ A := by
 cases b with
 | ofNat n => cases n with
  | zero => exact h.elim
  | succ n => exact ⟨by simp; omega,h⟩
 | negSucc n => exact ⟨by simp,h⟩
theorem shc_and {b : Int} {K : Nat -> Prop} (h : shc b K) : 0 <= b /\ K b.toNat := by
 cases b with
 | ofNat n => exact ⟨Int.natCast_nonneg _,h⟩
 | negSucc n => exact h.elim
theorem ok_vcBin {P : Program} {op : BinOp} {ty : TypeId} {xo yo : Operand} {x y : Value} {w : World} {Y : Ky} {K : Value -> World -> Prop}
  (h : vcBin P op ty xo yo x y w Y K) : ∃ v w',(binF P op ty xo yo x y).run P w = .ok v w' /\ K v w' := by
 unfold vcBin at h
 unfold binF
 split at h
 ·rename_i k a k' b
  have hg : ∀ w,(eqGuard op ty xo yo (.int k a) (.int k' b)).run P w = .ok () w := fun w => by unfold eqGuard; split <;> simp
  simp only [Sem.run_bind,hg,Result.andThen_ok]
  split at h
  ·obtain ⟨h0,h⟩ := shc_and h
   exact ⟨_,_,by simp only [binOp,Op.shift]; rw [if_neg (by omega)]; rfl,h⟩
  ·obtain ⟨h0,h⟩ := shc_and h
   exact ⟨_,_,by simp only [binOp,Op.shift]; rw [if_neg (by omega)]; rfl,h⟩
  ·split at h
   ·exact h.elim
   ·rename_i hk
    have hk : k = k' := by simpa using hk
    subst hk
    split at h
    case h_4 => obtain ⟨hb,h⟩ := nz_and h; exact ⟨_,_,by simp only [binOp,ne_eq,not_true,if_false,Op.intDiv,hb]; rfl,h⟩
    case h_5 => obtain ⟨hb,h⟩ := nz_and h; exact ⟨_,_,by simp only [binOp,ne_eq,not_true,if_false,Op.intDiv,hb]; rfl,h⟩
    all_goals first
     | exact ⟨_,_,by simp only [binOp,ne_eq,not_true,if_false,Op.intArith]; rfl,h⟩
     | exact ⟨_,_,by simp only [binOp,ne_eq,not_true,if_false,Op.intBits]; rfl,h⟩
     | exact ⟨_,_,by simp only [binOp,ne_eq,not_true,if_false,Op.intCmp]; rfl,h⟩
     | exact h.elim
 ·rename_i a b
  have hg : ∀ w,(eqGuard op ty xo yo (.string a) (.string b)).run P w = .ok () w := fun w => by unfold eqGuard; split <;> simp
  simp only [Sem.run_bind,hg,Result.andThen_ok]
  split at h
  case h_1 =>
   obtain ⟨h1,h⟩ := h
   exact ⟨_,_,by simp only [binOp,Op.stringOp]; rw [if_neg (by omega)]; rfl,h⟩
  all_goals first
   | exact ⟨_,_,by simp only [binOp,Op.stringOp]; rfl,h⟩
   | exact h.elim
 ·rename_i a b
  have hg : ∀ w,(eqGuard op ty xo yo (.bool a) (.bool b)).run P w = .ok () w := fun w => by unfold eqGuard; split <;> simp
  simp only [Sem.run_bind,hg,Result.andThen_ok]
  split at h
  ·exact ⟨_,_,run_eql (eqIn_bool (isBoolT_u (by assumption)) 9999 a b) rfl,h⟩
  ·exact ⟨_,_,run_neq (eqIn_bool (isBoolT_u (by assumption)) 9999 a b) rfl,h⟩
  ·exact h.elim
 ·rename_i p
  have hg : ∀ w,(eqGuard op ty xo yo (.pointer p) (.pointer none)).run P w = .ok () w := fun w => by unfold eqGuard; split <;> simp
  simp only [Sem.run_bind,hg,Result.andThen_ok]
  split at h
  ·obtain ⟨e,he⟩ := isPtrT_u (by assumption)
   exact ⟨_,_,run_eql (eqIn_ptr he 9999 p) rfl,h⟩
  ·obtain ⟨e,he⟩ := isPtrT_u (by assumption)
   exact ⟨_,_,run_neq (eqIn_ptr he 9999 p) rfl,h⟩
  ·exact h.elim
 ·rename_i a l c l' c'
  have hg : ∀ w,(eqGuard op ty xo yo (.slice a l c) (.slice none l' c')).run P w = .ok () w := fun w => by unfold eqGuard; split <;> simp
  simp only [Sem.run_bind,hg,Result.andThen_ok]
  split at h
  ·obtain ⟨e,he⟩ := isSlcT_u (by assumption)
   exact ⟨_,_,run_eql (eqIn_slc he 9999 a l c l' c') rfl,h⟩
  ·obtain ⟨e,he⟩ := isSlcT_u (by assumption)
   exact ⟨_,_,run_neq (eqIn_slc he 9999 a l c l' c') rfl,h⟩
  ·exact h.elim
 ·rename_i m
  have hg : ∀ w,(eqGuard op ty xo yo (.map m) (.map none)).run P w = .ok () w := fun w => by unfold eqGuard; split <;> simp
  simp only [Sem.run_bind,hg,Result.andThen_ok]
  split at h
  ·obtain ⟨k,e,he⟩ := isMapT_u (by assumption)
   exact ⟨_,_,run_eql (eqIn_map he 9999 m) rfl,h⟩
  ·obtain ⟨k,e,he⟩ := isMapT_u (by assumption)
   exact ⟨_,_,run_neq (eqIn_map he 9999 m) rfl,h⟩
  ·exact h.elim
 ·split at h
  ·exact h.elim
  ·exact run_rn h
end Go.Sh
