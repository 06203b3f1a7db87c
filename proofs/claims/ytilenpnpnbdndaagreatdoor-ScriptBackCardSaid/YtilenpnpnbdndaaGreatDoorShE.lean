/- Own text: part of the shallow reading of the code and of the contracts that are proved over it. -/
import Derived.Test.YtilenpnpnbdndaaGreatDoorShC
namespace Go.Sh
open Go
theorem vcOp_congr [Esc] {P : Program} {o : Oper} {ρ ρ' : Operand -> Value} {wr w : World} {K : Value -> World -> Prop} (h : ∀ x ∈ o.op.operands,ρ x = ρ' x) :
  vcOp P o ρ wr w K = vcOp P o ρ' wr w K := by
 obtain ⟨dst,op,ty,pos,after,guard⟩ := o
 have pairs : ∀ ps : Array (Nat × Operand),(∀ x ∈ ps.map (·.2),ρ x = ρ' x) -> (ps.toList.map fun (i,x) => (i,ρ x)) = (ps.toList.map fun (i,x) => (i,ρ' x)) /\ (ps.map fun (i,x) => (i,ρ x)) = (ps.map fun (i,x) => (i,ρ' x)) := fun ps hp =>
  ⟨List.map_congr_left fun p hm => by
   obtain ⟨i,x⟩ := p
   simp only [hp x (Array.mem_map.2 ⟨(i,x),by simpa using hm,rfl⟩)],Array.map_congr_left fun p hm => by
   obtain ⟨i,x⟩ := p
   simp only [hp x (Array.mem_map.2 ⟨(i,x),hm,rfl⟩)]⟩
 unfold vcOp
 cases op <;> simp only [Op.operands] at h <;> simp only
 case build t ps => rw [(pairs ps fun x hx => h x (by simpa using hx)).1]
 case buildSlice t n ps =>
  have := pairs ps fun x hx => h x (by simpa using hx)
  rw [this.1,this.2]
 case makeFunc fn first captured =>
  rw [Array.map_congr_left (xs := first) fun x hx => h x (by simp [hx]),Array.map_congr_left (xs := captured) fun x hx => h x (by simp [hx])]
 case call c =>
  have ha : c.args.map ρ = c.args.map ρ' := Array.map_congr_left fun x hx => h x (by simp [Call.operands,hx])
  have hl : c.args.toList.map ρ = c.args.toList.map ρ' := List.map_congr_left fun x hx => h x (by simp [Call.operands,Array.mem_toList_iff.1 hx])
  cases hc : c.callee with
  | value f =>
   have hf : ρ f = ρ' f := h f (by simp [Call.operands,hc])
   cases f <;> simp only [ha,hf]
  | invoke r m =>
   have hr : ρ r = ρ' r := h r (by simp [Call.operands,hc])
   simp only [ha,hr]
  | builtin b => simp only [hl]
 case makeMap t r => cases r <;> simp_all
 case slice t x lo hi mx => cases lo <;> cases hi <;> cases mx <;> simp_all
 all_goals (first | rfl | (simp_all; done))
def Eqs (v : Value) (w : World) (u : Value) (w' : World) : Prop := u = v /\ w' = w
def St [Esc] (P : Program) (o : Oper) (ρ : Operand -> Value) (wr : World) (v : Value) : Prop := ∀ w',vcOp P o ρ wr w' (Eqs v w')
theorem shc_of {b : Int} {K : Nat -> Prop} (h0 : 0 <= b) (h : K b.toNat) : shc b K := by
 cases b with
 | ofNat n => exact h
 | negSucc n => simp at h0
theorem ldL_st {w : World} {a : Addr} : ∀ {ks : List Kd} {i : Nat} {A : List Value -> Prop},ldL w a ks i A -> ∃ vs,ldL w a ks i (fun us => us = vs) /\ A vs
 | [],_,_,h => ⟨[],rfl,h⟩
 | k :: r,i,A,h => by
  have h : exK k fun v => w.cell? (a.add i) = some v /\ ldL w a r (i + 1) fun vs => A (v :: vs) := h
  obtain ⟨v,hv,h⟩ := exK_pull h
  obtain ⟨vs,hvs,h⟩ := ldL_st h
  refine ⟨v :: vs,?_,h⟩
  show exK k fun v' => w.cell? (a.add i) = some v' /\ ldL w a r (i + 1) fun us => v' :: us = v :: vs
  exact exK_mono (fun u ⟨hu,e⟩ => ⟨hu,ldL_mono (fun us e' => by rw [e,e']) hvs⟩) hv
theorem ldX_st {x : Kx} {a : Addr} {w : World} {A : Value -> Prop} (h : ldX x a w A) : ∃ v,ldX x a w (fun u => u = v) /\ A v := by
 cases x with
 | one k =>
  have h : exK k fun v => w.cell? a = some v /\ A v := h
  exact exK_pull h
 | agg ks =>
  obtain ⟨vs,hvs,h⟩ := ldL_st h
  exact ⟨_,ldL_mono (fun us e => by rw [e]) hvs,h⟩
theorem optV_st {v : Option Value} {A : Value -> Prop} (h : optV v A) : ∃ u,optV v (fun x => x = u) /\ A u := by
 obtain ⟨u,rfl,h⟩ := optV_some h
 exact ⟨u,rfl,h⟩
theorem bnd_st {v : Option Value} {d y : Nat} {A : Nat -> Prop} (h : bnd v d y A) : ∃ n,bnd v d y (fun x => x = n) /\ A n := by
 unfold bnd at h ⊢
 split at h
 ·exact ⟨_,rfl,h⟩
 ·exact ⟨_,⟨h.1,rfl⟩,h.2⟩
 ·exact h.elim
theorem exL_st : ∀ {ks : List Kd} {A K : List Value -> Prop},(exL ks fun vs => A vs /\ K vs) -> ∃ vs,exL ks (fun us => A us /\ us = vs) /\ K vs
 | [],_,_,h => ⟨[],⟨h.1,rfl⟩,h.2⟩
 | k :: r,A,K,h => by
  have h : exK k fun v => True /\ exL r fun vs => A (v :: vs) /\ K (v :: vs) := exK_mono (fun _ x => ⟨trivial,x⟩) h
  obtain ⟨v,hv,h⟩ := exK_pull h
  obtain ⟨vs,hvs,h⟩ := exL_st h
  exact ⟨v :: vs,exK_mono (fun u ⟨_,e⟩ => by subst e; exact exL_mono (fun us ⟨a,e⟩ => ⟨a,by rw [e]⟩) hvs) hv,h⟩
theorem exX_st {x : Kx} {A K : Value -> Prop} (h : exX x fun v => A v /\ K v) : ∃ v,exX x (fun u => A u /\ u = v) /\ K v := by
 cases x with
 | one k => exact exK_pull h
 | agg ks =>
  obtain ⟨vs,hvs,h⟩ := exL_st h
  exact ⟨_,exL_mono (fun us ⟨a,e⟩ => ⟨a,by rw [e]⟩) hvs,h⟩
theorem exXs_st : ∀ {ks : List Kx} {A K : List Value -> Prop},(exXs ks fun vs => A vs /\ K vs) -> ∃ vs,exXs ks (fun us => A us /\ us = vs) /\ K vs
 | [],_,_,h => ⟨[],⟨h.1,rfl⟩,h.2⟩
 | k :: r,A,K,h => by
  have h : exX k fun v => True /\ exXs r fun vs => A (v :: vs) /\ K (v :: vs) := exX_mono (fun _ x => ⟨trivial,x⟩) h
  obtain ⟨v,hv,h⟩ := exX_st h
  obtain ⟨vs,hvs,h⟩ := exXs_st h
  exact ⟨v :: vs,exX_mono (fun u ⟨_,e⟩ => by subst e; exact exXs_mono (fun us ⟨a,e⟩ => ⟨a,by rw [e]⟩) hvs) hv,h⟩
theorem exY_st {y : Ky} {A K : Value -> Prop} (h : exY y fun v => A v /\ K v) : ∃ v,exY y (fun u => A u /\ u = v) /\ K v := by
 cases y with
 | one x => exact exX_st h
 | tup xs =>
  obtain ⟨vs,hvs,h⟩ := exXs_st h
  exact ⟨_,exXs_mono (fun us ⟨a,e⟩ => ⟨a,by rw [e]⟩) hvs,h⟩
theorem still_bin {P : Program} {op : BinOp} {ty : TypeId} {xo yo : Operand} {x y : Value} {w : World} {Y : Ky} {K : Value -> World -> Prop}
  (hs : (isIntT P ty || isStrT P ty || isBoolT P ty) = true) (h : vcBin P op ty xo yo x y w Y K) :
  ∃ v,(∀ w',vcBin P op ty xo yo x y w' Y (Eqs v w')) /\ K v w := by
 unfold vcBin at h ⊢
 split at h
 ·try simp only
  split at h
  ·obtain ⟨h0,h⟩ := shc_and h
   exact ⟨_,fun w' => shc_of h0 ⟨rfl,rfl⟩,h⟩
  ·obtain ⟨h0,h⟩ := shc_and h
   exact ⟨_,fun w' => shc_of h0 ⟨rfl,rfl⟩,h⟩
  ·split at h
   ·exact h.elim
   ·rename_i hk
    try simp only [hk]
    split at h
    case h_4 => exact ⟨_,fun w' => nz_mono (fun _ => ⟨rfl,rfl⟩) h,(nz_and h).2⟩
    case h_5 => exact ⟨_,fun w' => nz_mono (fun _ => ⟨rfl,rfl⟩) h,(nz_and h).2⟩
    all_goals first
     | exact ⟨_,fun w' => ⟨rfl,rfl⟩,h⟩
     | exact h.elim
 ·try simp only
  split at h <;> first
   | exact ⟨_,fun w' => ⟨h.1,rfl,rfl⟩,h.2⟩
   | exact ⟨_,fun w' => ⟨rfl,rfl⟩,h⟩
   | exact h.elim
 ·try simp only
  split at h <;> (try (rename_i hb; simp only [hb])) <;> first
   | exact ⟨_,fun w' => ⟨rfl,rfl⟩,h⟩
   | exact h.elim
 ·have : isPtrT P ty = false := by
   unfold isIntT isStrT isBoolT at hs; unfold isPtrT; split <;> simp_all
  simp [this] at h
 ·have : isSlcT P ty = false := by
   unfold isIntT isStrT isBoolT at hs; unfold isSlcT; split <;> simp_all
  simp [this] at h
 ·have : isMapT P ty = false := by
   unfold isIntT isStrT isBoolT at hs; unfold isMapT; split <;> simp_all
  simp [this] at h
 ·simp only [hs] at h
theorem still_len {P : Program} {ats : Array TypeId} {ty : TypeId} {l : List Value} {w : World} {K : Value -> World -> Prop}
  (hs : lenT P ats = true) (h : vcBuiltin P .len ats ty l w K) :
  ∃ v,(∀ w',vcBuiltin P .len ats ty l w' (Eqs v w')) /\ K v w := by
 unfold vcBuiltin at h ⊢
 split at h
 all_goals (try split at h)
 all_goals (try split at h)
 all_goals first
  | exact h.elim
  | (exfalso; rename_i h1 _ _; cases h1; done)
  | (exfalso; rename_i h1 _; cases h1; done)
  | (exfalso; rename_i h1; cases h1; done)
  | exact ⟨_,fun _ => ⟨rfl,rfl⟩,h⟩
  | (exfalso; rename_i h1; rw [hs] at h1; cases h1)
theorem still [Esc] {P : Program} {o : Oper} {ρ : Operand -> Value} {wr w : World} {K : Value -> World -> Prop} (hs : pureIn P o = true \/ isRead P o.op = true) (h : vcOp P o ρ wr w K) :
  ∃ v,St P o ρ wr v /\ K v w := by
 obtain ⟨dst,op,ty,pos,after,guard⟩ := o
 unfold St vcOp
 unfold vcOp at h
 cases op <;> simp only at h ⊢
 case move x => exact ⟨_,fun _ => ⟨rfl,rfl⟩,h⟩
 case assign x => exact ⟨_,fun _ => ⟨rfl,rfl⟩,h⟩
 case pick c a b =>
  split at h
  ·rename_i e he
   cases e with
   | true => exact ⟨_,fun _ => ⟨rfl,rfl⟩,h⟩
   | false => exact ⟨_,fun _ => ⟨rfl,rfl⟩,h⟩
  ·exact h.elim
 case nilCheck x =>
  split at h
  ·rename_i p hp
   cases p with
   | none => exact h.elim
   | some a => exact ⟨_,fun _ => ⟨rfl,rfl⟩,h⟩
  ·exact ⟨_,fun _ => ⟨rfl,rfl⟩,h⟩
  ·exact ⟨_,fun _ => ⟨rfl,rfl⟩,h⟩
  ·exact h.elim
 case fieldAddr t x i =>
  split at h
  ·split at h
   ·rename_i hoff
    try simp only [hoff]
    exact ⟨_,fun _ => ⟨rfl,rfl⟩,h⟩
   ·exact h.elim
  ·exact h.elim
 case load t x =>
  split at h
  ·split at h
   ·rename_i hi
    try simp only [hi]
    split at h
    ·rename_i hs
     try simp only [hs]
     obtain ⟨v,hv,h⟩ := ldX_st h
     exact ⟨v,fun _ => ldX_mono (fun _ e => ⟨e,rfl⟩) hv,h⟩
    ·exact h.elim
   ·exact h.elim
  ·exact h.elim
 case lookup t x ix b =>
  split at h
  ·rename_i hk
   try simp only [hk]
   obtain ⟨v,hv,h⟩ := exY_st h
   exact ⟨v,fun _ => exY_mono (fun _ e => ⟨e.1,e.2,rfl⟩) hv,h⟩
  ·rename_i hk
   simp [pureIn,isRead,isPure,hk] at hs
 case indexAddr t x ix =>
  split at h
  ·split at h
   ·rename_i hu
    try simp only [hu]
    split at h
    ·split at h
     ·rename_i hi
      try simp only [hi]
      obtain ⟨a,rfl,hb,h⟩ := ixS_some h
      exact ⟨_,fun _ => ⟨hb,rfl,rfl⟩,h⟩
     ·exact h.elim
    ·exact h.elim
   ·rename_i hu
    try simp only [hu]
    split at h
    ·split at h
     ·rename_i hi
      try simp only [hi]
      exact ⟨_,fun _ => ⟨h.1,rfl,rfl⟩,h.2⟩
     ·exact h.elim
    ·exact h.elim
   ·exact h.elim
  ·exact h.elim
 case index t x ix =>
  split at h
  ·split at h
   ·rename_i hu
    try simp only [hu]
    split at h
    ·obtain ⟨b,hb,h⟩ := h
     exact ⟨_,fun _ => ⟨b,hb,rfl,rfl⟩,h⟩
    ·exact h.elim
   ·rename_i hu
    try simp only [hu]
    split at h
    ·obtain ⟨hb,h⟩ := h
     split at h
     ·rename_i hi
      try simp only [hi]
      obtain ⟨u,hu,h⟩ := exY_st h
      exact ⟨u,fun _ => ⟨hb,exY_mono (fun _ e => ⟨e.1,e.2,rfl⟩) hu⟩,h⟩
     ·exact h.elim
    ·exact h.elim
   ·exact h.elim
  ·exact h.elim
 case extract x i =>
  split at h
  ·obtain ⟨u,hu,h⟩ := optV_st h
   exact ⟨u,fun _ => optV_mono (fun _ e => ⟨e,rfl⟩) hu,h⟩
  ·exact h.elim
 case field t x i =>
  split at h
  ·obtain ⟨u,hu,h⟩ := optV_st h
   exact ⟨u,fun _ => optV_mono (fun _ e => ⟨e,rfl⟩) hu,h⟩
  ·exact h.elim
 case binOp op t x y u => exact still_bin (by simpa [pureIn,isRead] using hs) h
 case unOp op t x =>
  split at h
  ·exact ⟨_,fun _ => ⟨rfl,rfl⟩,h⟩
  ·exact ⟨_,fun _ => ⟨rfl,rfl⟩,h⟩
  ·exact ⟨_,fun _ => ⟨rfl,rfl⟩,h⟩
  ·exact h.elim
 case convert src t x =>
  have hs : (isIntT P src && isIntT P t) = true := by simpa [pureIn,isRead] using hs
  unfold vcConv at h ⊢
  split at h
  ·rename_i h1 h2
   try simp only [h1,h2]
   exact ⟨_,fun _ => ⟨rfl,rfl⟩,h⟩
  ·rename_i h1 h2
   try simp only [h1,h2]
   exact ⟨_,fun _ => ⟨rfl,rfl⟩,h⟩
  ·simp only [hs] at h
 case makeFunc f a b => exact ⟨_,fun _ => ⟨rfl,rfl⟩,h⟩
 case build t ps =>
  obtain ⟨u,hu,h⟩ := optV_st h
  exact ⟨u,fun _ => optV_mono (fun _ e => ⟨e,rfl⟩) hu,h⟩
 case makeInterface t x =>
  split at h
  ·exact h.elim
  ·exact h.elim
  ·rename_i hd hu
   exact ⟨_,fun _ => ⟨rfl,rfl⟩,h⟩
 case slice t x lo hi mx =>
  cases mx with
  | some mx => simp [pureIn,isRead,isPure] at hs
  | none =>
   have hs : (isSlcT P t || isStrT P t) = true := by simpa [pureIn,isRead] using hs
   simp only at h ⊢
   split at h
   ·rename_i hu hx
    try simp only [hu]
    split at h
    ·rename_i hi
     try simp only [hi]
     obtain ⟨n,hn,h⟩ := bnd_st h
     obtain ⟨f,hf,h⟩ := bnd_st h
     exact ⟨_,fun _ => bnd_mono (fun _ e => by subst e; exact bnd_mono (fun _ e => by subst e; exact ⟨rfl,rfl⟩) hf) hn,h⟩
    ·exact h.elim
   ·rename_i hu hx
    try simp only [hu]
    obtain ⟨n,hn,h⟩ := bnd_st h
    obtain ⟨f,hf,h⟩ := bnd_st h
    exact ⟨_,fun _ => bnd_mono (fun _ e => by subst e; exact bnd_mono (fun _ e => by subst e; exact ⟨rfl,rfl⟩) hf) hn,h⟩
   ·simp only [hs] at h
 case call c =>
  obtain ⟨ce,as_,ats⟩ := c
  cases ce with
  | builtin b =>
   cases b with
   | len =>
    have hs : lenT P ats = true := by
     rcases hs with hs | hs
     ·have hs2 : (true && lenT P ats) = true := hs
      simpa using hs2
     ·exact absurd hs (by simp [isRead])
    exact still_len hs h
   | _ => rcases hs with hs | hs <;> exact absurd hs (by simp [isRead,pureIn])
  | _ => simp [pureIn,isRead,isPure] at hs
 all_goals simp [pureIn,isRead,isPure] at hs
end Go.Sh
namespace Go.Sh
open Go
theorem nbeq {a b : Nat} : (Nat.beq a b = true) = (a = b) := by rw [Nat.beq_eq]
theorem upd_same (t : Tm) (i : Nat) {v : Value} (h : t i = v) : upd t i v = t := by
 funext j
 unfold upd
 cases hj : Nat.beq j i with
 | false => rfl
 | true => rw [nbeq] at hj; subst hj; exact h.symm
theorem upd_ne {t : Tm} {i j : Nat} (v : Value) (h : j ≠ i) : upd t i v j = t j := by
 unfold upd
 have : Nat.beq j i = false := by
  cases hb : Nat.beq j i with
  | false => rfl
  | true => rw [nbeq] at hb; exact absurd hb h
 rw [this]; rfl
theorem upd_eq {t : Tm} {i : Nat} (v : Value) : upd t i v i = v := by
 unfold upd
 have : Nat.beq i i = true := by rw [nbeq]
 rw [this]; rfl
theorem upd_comm (t : Tm) {i j : Nat} (v u : Value) (h : i ≠ j) : upd (upd t i v) j u = upd (upd t j u) i v := by
 funext k
 by_cases hi : k = i
 ·subst hi; rw [upd_ne _ h,upd_eq,upd_eq]
 ·by_cases hj : k = j
  ·subst hj; rw [upd_eq,upd_ne _ hi,upd_eq]
  ·rw [upd_ne _ hj,upd_ne _ hi,upd_ne _ hi,upd_ne _ hj]
def wantT (g : Option (Option Nat × Bool)) (t : Tm) : Bool :=
 match g with
 | none => true
 | some (some i,b) => match t i with | .bool c => c == b | _ => false
 | some (none,_) => false
theorem gd_iff {g : Option (Option Nat × Bool)} {t : Tm} {A B : Tm -> Prop} : gd g t A B ↔ if wantT g t = true then A t else B t := by
 match g with
 | none => simp [gd,wantT]
 | some (none,b) => simp [gd,wantT]
 | some (some i,b) =>
  cases ht : t i with
  | bool c => cases b <;> cases c <;> simp [gd,wantT,ht,br,upd_same t i ht]
  | _ => cases b <;> simp [gd,wantT,ht]
def guardOf (all : List Oper) (o : Oper) : Option (Option Nat × Bool) := o.guard.map fun g => (guardTmp all g.1,g.2)
def stepV [Esc] (P : Program) (all : List Oper) (w0 : World) (m : It) (K : Tm -> World -> Prop) (t : Tm) (w : World) : Prop :=
 if wantT (guardOf all m.1) t = true then
  vcOp P m.1 (ev t) (if m.2.1 = true then w0 else w) w fun v w' => (m.2.2 = true -> Pres w0 w') /\ K (putO t m.1.dst v) w'
 else K (putO t m.1.dst undef) w
theorem stepV_mono [Esc] {P : Program} {all : List Oper} {w0 : World} {m : It} {K K' : Tm -> World -> Prop} {t : Tm} {w : World} (h : ∀ t w,K t w -> K' t w)
  (x : stepV P all w0 m K t w) : stepV P all w0 m K' t w := by
 unfold stepV at *
 split
 ·rename_i hw
  rw [if_pos hw] at x
  exact vcOp_mono (fun _ _ y => ⟨y.1,h _ _ y.2⟩) x
 ·rename_i hw
  rw [if_neg hw] at x
  exact h _ _ x
theorem stepD_stepV [Esc] {P : Program} {all : List Oper} {w0 : World} {m : It} {t : Tm} {w : World} {K : Tm -> World -> Prop} (h : stepD P all w0 m t w K) : stepV P all w0 m K t w := by
 obtain ⟨o,fl,pr⟩ := m
 unfold stepD at h
 simp only at h
 rw [gd_iff] at h
 unfold stepV guardOf
 split
 ·rename_i hw
  rw [if_pos hw] at h
  cases fl <;> cases pr
  ·exact vcOp_mono (fun v w' x => ⟨(fun h => by cases h),x⟩) h
  ·exact vcOp_mono (fun v w' x => ⟨fun _ => x.1,x.2⟩) h
  ·exact vcOp_mono (fun v w' x => ⟨(fun h => by cases h),x⟩) h
  ·exact vcOp_mono (fun v w' x => ⟨fun _ => x.1,x.2⟩) h
 ·rename_i hw
  rw [if_neg hw] at h
  exact h
def usesOf (all : List Oper) (o : Oper) : List Nat :=
 (o.op.operands.toList.filterMap fun | .tmp i => some i | _ => none) ++ (match o.guard with | some (j,_) => (guardTmp all j).toList | none => [])
def apartB (all : List Oper) (x y : Oper) : Bool :=
 (match x.dst with | some d => !(usesOf all y).any (Nat.beq d) && (match y.dst with | some e => !Nat.beq d e | none => true) | none => true) &&
 (match y.dst with | some d => !(usesOf all x).any (Nat.beq d) | none => true)
theorem apart_spec {all : List Oper} {x y : Oper} (h : apartB all x y = true) :
  (∀ d,x.dst = some d -> d ∉ usesOf all y) /\ (∀ d,y.dst = some d -> d ∉ usesOf all x) /\ (∀ d e,x.dst = some d -> y.dst = some e -> d ≠ e) := by
 unfold apartB at h
 refine ⟨fun d hd hm => ?_,fun d hd hm => ?_,fun d e hd he hde => ?_⟩
 ·simp only [hd,Bool.and_eq_true,Bool.not_eq_true'] at h
  have := h.1.1
  rw [List.any_eq_false] at this
  exact this d hm (by rw [nbeq])
 ·simp only [hd,Bool.and_eq_true,Bool.not_eq_true'] at h
  have := h.2
  rw [List.any_eq_false] at this
  exact this d hm (by rw [nbeq])
 ·simp only [hd,he,Bool.and_eq_true,Bool.not_eq_true'] at h
  have := h.1.2
  subst hde
  rw [show Nat.beq d d = true by rw [nbeq]] at this
  cases this
theorem ev_put {all : List Oper} {o : Oper} {d : Option Nat} {t : Tm} {v : Value} (h : ∀ i,d = some i -> i ∉ usesOf all o) : ∀ x ∈ o.op.operands,ev (putO t d v) x = ev t x := by
 intro x hx
 cases d with
 | none => rfl
 | some i =>
  cases x with
  | tmp j =>
   refine upd_ne v fun e => h i rfl ?_
   subst e
   exact List.mem_append_left _ (List.mem_filterMap.2 ⟨.tmp j,by simpa using hx,rfl⟩)
  | _ => rfl
theorem want_put {all : List Oper} {o : Oper} {d : Option Nat} {t : Tm} {v : Value} (h : ∀ i,d = some i -> i ∉ usesOf all o) : wantT (guardOf all o) (putO t d v) = wantT (guardOf all o) t := by
 cases d with
 | none => rfl
 | some i =>
  unfold guardOf wantT
  cases hg : o.guard with
  | none => rfl
  | some g =>
   obtain ⟨j,b⟩ := g
   simp only [Option.map_some]
   cases ht : guardTmp all j with
   | none => rfl
   | some k =>
    have hk : k ≠ i := fun e => h i rfl (by subst e; unfold usesOf; rw [hg]; exact List.mem_append_right _ (by simp [ht]))
    simp only [putO,upd_ne v hk]
theorem put_comm {t : Tm} {d e : Option Nat} (v u : Value) (h : ∀ i j,d = some i -> e = some j -> i ≠ j) : putO (putO t d v) e u = putO (putO t e u) d v := by
 cases d with
 | none => rfl
 | some i => cases e with
  | none => rfl
  | some j => exact upd_comm t v u (h i j rfl rfl)
theorem St.congr [Esc] {P : Program} {o : Oper} {ρ ρ' : Operand -> Value} {wr : World} {v : Value} (h : ∀ x ∈ o.op.operands,ρ x = ρ' x) (s : St P o ρ wr v) : St P o ρ' wr v := fun w' => by
 rw [← vcOp_congr h]; exact s w'
theorem St.run [Esc] {P : Program} {o : Oper} {ρ : Operand -> Value} {wr w : World} {v : Value} {K : Value -> World -> Prop} (s : St P o ρ wr v) (h : K v w) : vcOp P o ρ wr w K :=
 vcOp_mono (fun u w' e => by obtain ⟨rfl,rfl⟩ := e; exact h) (s w)
theorem pure_wr [Esc] {P : Program} {o : Oper} {ρ : Operand -> Value} {wr wr' w : World} {K : Value -> World -> Prop} (h : pureIn P o = true) : vcOp P o ρ wr w K = vcOp P o ρ wr' w K := by
 obtain ⟨dst,op,ty,pos,after,guard⟩ := o
 unfold vcOp
 cases op <;> simp only
 case load => simp [pureIn,isPure] at h
 case lookup => simp [pureIn,isPure] at h
 case makeMap t r => cases r <;> rfl
 case slice t x lo hi mx => cases mx <;> rfl
section
variable {P : Program} {all : List Oper} {w0 : World} {m n : It} {R : Tm -> World -> Prop} {t : Tm} {w : World}
theorem stepV_still [Esc] (hs : pureIn P m.1 = true \/ isRead P m.1.op = true) (hw : wantT (guardOf all m.1) t = true) (h : stepV P all w0 m R t w) :
  ∃ v,St P m.1 (ev t) (if m.2.1 = true then w0 else w) v /\ R (putO t m.1.dst v) w := by
 unfold stepV at h
 rw [if_pos hw] at h
 obtain ⟨v,hv,_,h⟩ := still hs h
 exact ⟨v,hv,h⟩
theorem stepV_of [Esc] {v : Value} (hp : m.2.2 = false) (hw : wantT (guardOf all m.1) t = true) (hv : St P m.1 (ev t) (if m.2.1 = true then w0 else w) v) (h : R (putO t m.1.dst v) w) :
  stepV P all w0 m R t w := by
 unfold stepV
 rw [if_pos hw]
 exact hv.run ⟨(fun h => by rw [hp] at h; cases h),h⟩
def fixed (P : Program) (m : It) : Bool := pureIn P m.1 || (isRead P m.1.op && m.2.1)
theorem fixed_still (h : fixed P m = true) : pureIn P m.1 = true \/ isRead P m.1.op = true := by
 unfold fixed at h
 simp only [Bool.or_eq_true,Bool.and_eq_true] at h
 exact h.imp id (·.1)
theorem fixed_St [Esc] (h : fixed P m = true) {ρ : Operand -> Value} {w w' : World} {v : Value} (s : St P m.1 ρ (if m.2.1 = true then w0 else w) v) : St P m.1 ρ (if m.2.1 = true then w0 else w') v := by
 unfold fixed at h
 simp only [Bool.or_eq_true,Bool.and_eq_true] at h
 rcases h with h | ⟨_,h⟩
 ·exact fun u => by rw [pure_wr h]; exact s u
 ·simpa [h] using s
theorem putO_congr {o : Oper} {d : Option Nat} {v : Value} (h : ∀ i,d = some i -> i ∉ usesOf all o) : (∀ x ∈ o.op.operands,ev t x = ev (putO t d v) x) /\ (∀ x ∈ o.op.operands,ev (putO t d v) x = ev t x) :=
 ⟨fun x hx => (ev_put h x hx).symm,ev_put h⟩
def swapB (P : Program) (all : List Oper) (m n : It) : Bool :=
 apartB all m.1 n.1 && ((fixed P m && !m.2.2) || (stillB P m && stillB P n && !m.2.2 && !n.2.2))
theorem swap_fixed [Esc] (h1 : ∀ d,m.1.dst = some d -> d ∉ usesOf all n.1) (h2 : ∀ d,n.1.dst = some d -> d ∉ usesOf all m.1) (h3 : ∀ d e,m.1.dst = some d -> n.1.dst = some e -> d ≠ e)
  (hf : fixed P m = true) (hp : m.2.2 = false) (h : stepV P all w0 m (stepV P all w0 n R) t w) : stepV P all w0 n (stepV P all w0 m R) t w := by
 by_cases hm : wantT (guardOf all m.1) t = true
 ·obtain ⟨v,hv,h⟩ := stepV_still (fixed_still hf) hm h
  unfold stepV at h
  rw [want_put h1] at h
  unfold stepV
  by_cases hn : wantT (guardOf all n.1) t = true
  ·rw [if_pos hn] at h ⊢
   rw [← vcOp_congr (putO_congr h1).1] at h
   refine vcOp_mono (fun u w' x => ⟨x.1,?_⟩) h
   have := stepV_of (R := R) (w0 := w0) (t := putO t n.1.dst u) (w := w') (m := m) (v := v) hp (by rw [want_put h2]; exact hm)
    (fixed_St hf (hv.congr (putO_congr h2).1)) (by rw [put_comm u v (fun i j hi hj => (h3 j i hj hi).symm)]; exact x.2)
   exact this
  ·rw [if_neg hn] at h ⊢
   have := stepV_of (R := R) (w0 := w0) (t := putO t n.1.dst undef) (w := w) (m := m) (v := v) hp (by rw [want_put h2]; exact hm)
    (hv.congr (putO_congr h2).1) (by rw [put_comm undef v (fun i j hi hj => (h3 j i hj hi).symm)]; exact h)
   exact this
 ·unfold stepV at h
  rw [if_neg hm] at h
  rw [want_put h1] at h
  unfold stepV
  by_cases hn : wantT (guardOf all n.1) t = true
  ·rw [if_pos hn] at h ⊢
   rw [← vcOp_congr (putO_congr h1).1] at h
   refine vcOp_mono (fun u w' x => ⟨x.1,?_⟩) h
   rw [want_put h2,if_neg hm,put_comm u undef (fun i j hi hj => (h3 j i hj hi).symm)]
   exact x.2
  ·rw [if_neg hn] at h ⊢
   rw [want_put h2,if_neg hm,put_comm undef undef (fun i j hi hj => (h3 j i hj hi).symm)]
   exact h
theorem swap_reads [Esc] (h1 : ∀ d,m.1.dst = some d -> d ∉ usesOf all n.1) (h2 : ∀ d,n.1.dst = some d -> d ∉ usesOf all m.1) (h3 : ∀ d e,m.1.dst = some d -> n.1.dst = some e -> d ≠ e)
  (hm : pureIn P m.1 = true \/ isRead P m.1.op = true) (hn : pureIn P n.1 = true \/ isRead P n.1.op = true) (hpm : m.2.2 = false) (hpn : n.2.2 = false) (h : stepV P all w0 m (stepV P all w0 n R) t w) :
  stepV P all w0 n (stepV P all w0 m R) t w := by
 by_cases hwm : wantT (guardOf all m.1) t = true
 ·obtain ⟨v,hv,h⟩ := stepV_still hm hwm h
  by_cases hwn : wantT (guardOf all n.1) t = true
  ·obtain ⟨u,hu,h⟩ := stepV_still (R := R) hn (by rw [want_put h1]; exact hwn) h
   refine stepV_of hpn hwn (hu.congr (putO_congr h1).2) (stepV_of hpm (by rw [want_put h2]; exact hwm) (hv.congr (putO_congr h2).1) ?_)
   rw [put_comm u v (fun i j hi hj => (h3 j i hj hi).symm)]
   exact h
  ·unfold stepV at h
   rw [want_put h1,if_neg hwn] at h
   unfold stepV
   rw [if_neg hwn]
   refine stepV_of hpm (by rw [want_put h2]; exact hwm) (hv.congr (putO_congr h2).1) ?_
   rw [put_comm undef v (fun i j hi hj => (h3 j i hj hi).symm)]
   exact h
 ·unfold stepV at h
  rw [if_neg hwm] at h
  by_cases hwn : wantT (guardOf all n.1) t = true
  ·obtain ⟨u,hu,h⟩ := stepV_still (R := R) hn (by rw [want_put h1]; exact hwn) h
   refine stepV_of hpn hwn (hu.congr (putO_congr h1).2) ?_
   unfold stepV
   rw [want_put h2,if_neg hwm,put_comm u undef (fun i j hi hj => (h3 j i hj hi).symm)]
   exact h
  ·rw [want_put h1,if_neg hwn] at h
   unfold stepV
   rw [if_neg hwn]
   rw [want_put h2,if_neg hwm,put_comm undef undef (fun i j hi hj => (h3 j i hj hi).symm)]
   exact h
def flOk (P : Program) (m : It) : Bool := !m.2.1 || (isRead P m.1.op && !m.2.2)
theorem swap [Esc] (hb : swapB P all m n = true) (h : stepV P all w0 m (stepV P all w0 n R) t w) : stepV P all w0 n (stepV P all w0 m R) t w := by
 unfold swapB at hb
 simp only [Bool.and_eq_true,Bool.or_eq_true,Bool.not_eq_true'] at hb
 obtain ⟨hap,hb⟩ := hb
 obtain ⟨h1,h2,h3⟩ := apart_spec hap
 rcases hb with hb | hb
 ·exact swap_fixed h1 h2 h3 hb.1 hb.2 h
 ·exact swap_reads h1 h2 h3 (by simpa [stillB] using hb.1.1.1) (by simpa [stillB] using hb.1.1.2) hb.1.2 hb.2 h
end
end Go.Sh
