/- Own text: part of the shallow reading of the code and of the contracts that are proved over it. -/
import Derived.Test.YtilenpnpnbdndaaGreatDoorShT
import Derived.Laws.OwnMore
import Derived.Test.YtilenpnpnbdndaaGreatDoorShG
import Derived.Test.YtilenpnpnbdndaaGreatDoorProg
import Derived.KernelRfl
/-
  Lists of records laid out flat; parts of lists of assertions.
-/
namespace Go.Sh
open Go
section
variable {α β : Type} {f : α → List β} {m : Nat}
theorem flat_get (hf : ∀ a, (f a).length = m) {l : List α} {i j : Nat} {a : α} (h : l[i]? = some a) (hj : j < m) : (l.flatMap f)[i * m + j]? = (f a)[j]? := by
  induction l generalizing i with
  | nil => simp at h
  | cons b l ih =>
    rw [List.flatMap_cons]
    cases i with
    | zero =>
      simp at h; subst h
      rw [Nat.zero_mul, Nat.zero_add, List.getElem?_append_left (by rw [hf]; exact hj)]
    | succ i =>
      rw [List.getElem?_append_right (by rw [hf, Nat.add_mul]; omega), ← ih (by simpa using h)]
      congr 1
      rw [hf, Nat.add_mul]; omega
theorem flat_at (hf : ∀ a, (f a).length = m) {l : List α} {i j : Nat} {a : α} {v : β} (h : l[i]? = some a) (hv : (f a)[j]? = some v) : (l.flatMap f)[i * m + j]? = some v := by
  rw [flat_get hf h, hv]
  have := (List.getElem?_eq_some_iff.1 hv).1
  rwa [hf] at this
end
theorem split_of {α : Type} {l : List α} {k : Nat} {d : α} (h : l[k]? = some d) : l = l.take k ++ d :: l.drop (k + 1) := by
  have hk := (List.getElem?_eq_some_iff.1 h).1
  have e := (List.getElem?_eq_some_iff.1 h).2
  have h1 := List.take_append_drop k l
  rw [List.drop_eq_getElem_cons hk, e] at h1
  exact h1.symm
theorem perm_out {α : Type} {l : List α} {i : Nat} {x : α} (h : l[i]? = some x) : l.Perm (x :: l.eraseIdx i) := by
  rw [List.eraseIdx_eq_take_drop_succ]
  exact (List.Perm.of_eq (split_of h)).trans List.perm_middle
theorem set_id {α : Type} {l : List α} {k : Nat} {d : α} (h : l[k]? = some d) : l.set k d = l := by
  have hk := (List.getElem?_eq_some_iff.1 h).1
  rw [List.set_eq_take_append_cons_drop, if_pos hk]
  exact (split_of h).symm
theorem Pres.of_Same {w w' : World} (h : Same w w') : Pres w w' :=
  ⟨h.size, fun a v hv => by rw [← hv]; exact World.cell?_of_block (h.block _ (World.block_lt_of_cell? w a hv) fun x => x), fun r es c hr => h.blk hr fun x => x⟩
section
variable {W w : World} {A B C D : HP} {L M : List HP}
/-- one of a row of like parts, ahead -/
theorem Hs.part {α : Type} {F : α → HP} {l : List α} {i : Nat} {x : α} (hi : l[i]? = some x) (h : Hs W (M ++ l.map F) w) : Hs W (F x :: (M ++ (l.map F).eraseIdx i)) w := by
  have hpm := perm_out (l := l.map F) (i := i) (x := F x) (by simp [hi])
  exact h.perm ((List.Perm.append_left M hpm).trans List.perm_middle)
variable {P : Program} {t ty e : TypeId} {size bytes : Nat} {z : Value} {inf : TypeInfo} {a : Option Addr} {l c : Nat} {xs : List Value}
end
end Go.Sh
namespace Go.Sh
open Go
/-- a world of one block -/
def lone (w : World) (b : Nat) (o : Obj) : World := { w with heap := (Array.replicate b (.cells #[] 0 (0, 0))).push o }
theorem lone_at (w : World) (b : Nat) (o : Obj) : (lone w b o).heap[b]? = some o := by
  show ((Array.replicate b (Obj.cells #[] 0 (0, 0))).push o)[b]? = some o
  rw [Array.getElem?_push]
  simp
theorem lone_other {w : World} {b k : Nat} {o o' : Obj} (h : (lone w b o).heap[k]? = some o') (hk : k ≠ b) : o' = .cells #[] 0 (0, 0) := by
  have : ((Array.replicate b (Obj.cells #[] 0 (0, 0))).push o)[k]? = some o' := h
  rw [Array.getElem?_push] at this
  have hs : (Array.replicate b (Obj.cells #[] 0 (0, 0))).size = b := by simp
  rw [hs, if_neg hk] at this
  rw [Array.getElem?_replicate] at this
  split at this
  · cases this; rfl
  · cases this
theorem Pres.lone {w w' : World} {b : Nat} {o : Obj} (h : w'.heap[b]? = some o) : Pres (Sh.lone w b o) w' := by
  have hlt := lt_of_blk h
  refine ⟨?_, fun a v e => ?_, fun r es c e => ?_⟩
  · show ((Array.replicate b (Obj.cells #[] 0 (0, 0))).push o).size ≤ _
    simp; omega
  · by_cases ha : a.block = b
    · rw [← e]
      refine World.cell?_of_block ?_
      rw [ha, lone_at, h]
    · exfalso
      unfold World.cell? at e
      cases ho : (Sh.lone w b o).heap[a.block]? with
      | none => rw [ho] at e; cases e
      | some o' =>
        have := lone_other ho ha
        subst this
        rw [ho] at e
        simp at e
  · by_cases hr : r = b
    · subst hr; rw [lone_at] at e; rw [h]; exact e
    · have := lone_other e hr
      cases this
end Go.Sh
/-
  A range over a function, read: the record of the loop, its rounds, what comes behind; functions that hold one in tail position.
-/
namespace Go.Sh
open Go
attribute [local instance] Esc.none

/-- what is asked behind the loop: the block for the rounds' deferred calls is empty -/
def tl (Q : Post) (D : Nat) : Post := fun o t w =>
  match o with
  | .exit _ => False
  | o => w.heap[D]? = some (.deferred (some [])) ∧ Q o t (w.putObj D (.deferred none))
section
variable {P : Program} {N : Fm} {t : Tm} {w : World}
def upT (N : Fm) (Q : Post) : Exit → Act → World → Prop
  | .normal, a, w => ∃ t ds, Mt N ds a t ∧ ((ds = [] ∧ Q .normal t w) ∨ ∃ D, ds = [{ target := .collected D, args := #[] }] ∧ tl Q D .normal t w)
  | .ret, a, w => ∃ t ds, Mt N.n ds a t ∧ ((ds = [] ∧ Q .ret t w) ∨ ∃ D, ds = [{ target := .collected D, args := #[] }] ∧ tl Q D .ret t w)
  | _, _, _ => False
def Wt (P : Program) (N : Fm) (c : Code) (Q : Post) (t : Tm) (w : World) : Prop := ∀ a, Mt N [] a t → c.wpIn (fw none) 0 P (upT N Q) a w
theorem W.tail {c : Code} {Q : Post} (hx : ∀ i t w, ¬ Q (.exit i) t w) (h : W P N c Q t w) : Wt P N c Q t w := fun a ha => wpIn_mono (h none [] a ha) fun e a w q => by
  cases e with
  | normal => obtain ⟨t, hM, q⟩ := q; exact ⟨t, [], hM, .inl ⟨rfl, q⟩⟩
  | ret => obtain ⟨t, hM, q⟩ := q; exact ⟨t, [], hM, .inl ⟨rfl, q⟩⟩
  | exit i => obtain ⟨t, hM, q⟩ := q; exact (hx _ _ _ q).elim
  | goto l => exact q.elim
  | panic c => exact q.2.elim
  | outgrown => exact q.elim
theorem Mt.set {ds : List Deferred} {a : Act} (h : Mt N ds a t) {d : Nat} (hd : N.ok d = true) (v : Value) : Mt N ds { a with tmps := a.tmps.setIfInBounds d v } (upd t d v) := Mt.put h (d := some d) (fun i e => by cases e; exact hd) v
theorem Wt.mono {c : Code} {Q Q' : Post} (h : Wt P N c Q t w) (hq : ∀ o t w, Q o t w → Q' o t w) : Wt P N c Q' t w := fun a ha => wpIn_mono (h a ha) fun e a w q => by
  have k : ∀ D o t w, tl Q D o t w → tl Q' D o t w := fun D o t w q => by
    cases o with
    | normal => exact ⟨q.1, hq _ _ _ q.2⟩
    | ret => exact ⟨q.1, hq _ _ _ q.2⟩
    | exit i => exact q
  cases e with
  | normal => obtain ⟨t, ds, hM, q⟩ := q; exact ⟨t, ds, hM, q.imp (fun x => ⟨x.1, hq _ _ _ x.2⟩) fun ⟨D, x, y⟩ => ⟨D, x, k _ _ _ _ y⟩⟩
  | ret => obtain ⟨t, ds, hM, q⟩ := q; exact ⟨t, ds, hM, q.imp (fun x => ⟨x.1, hq _ _ _ x.2⟩) fun ⟨D, x, y⟩ => ⟨D, x, k _ _ _ _ y⟩⟩
  | exit i => exact q
  | goto l => exact q
  | panic c => exact q
  | outgrown => exact q
end
end Go.Sh
/-
  Records of many cells, loaded and stored as one.
-/
namespace Go.Sh
open Go
def stcL (a : Addr) : Nat → List Value → World → (World → Prop) → Prop
  | _, [], w, K => K w
  | i, v :: r, w, K => stc (a.add i) v w fun w => stcL a (i + 1) r w K
def At (w : World) (a : Addr) (l : List Value) : Prop := ∀ j v, l[j]? = some v → w.cell? (a.add j) = some v
theorem Rd.atL {w : World} {a : Addr} {l : List Value} (h : Rd w (Option.some a) l) : At w a l := fun _ _ hj => h.at hj
theorem Rd.atI {α : Type} {w : World} {a : Addr} {f : α → List Value} {m i : Nat} {xs : List α} {x : α} (h : Rd w (Option.some a) (xs.flatMap f)) (hf : ∀ a, (f a).length = m) (hi : xs[i]? = Option.some x) : At w (a.add (i * m)) (f x) := fun j v hj => by
  rw [add_add]
  exact h.at (flat_at hf hi hj)
theorem At.blk {w : World} {b : Nat} {cs : Array Value} {T : TypeId} {z : Nat × Nat} (h : w.heap[b]? = some (.cells cs T z)) : At w ⟨b, 0, none⟩ cs.toList := fun j v hj => by
  rw [add_mk, Nat.zero_add, cell_at h]
  simpa using hj
theorem At.off {w : World} {b o : Nat} {cs : Array Value} {T : TypeId} {z : Nat × Nat} (h : w.heap[b]? = some (.cells cs T z)) {l : List Value} (hl : ∀ j v, l[j]? = some v → cs[o + j]? = some v) : At w ⟨b, o, none⟩ l := fun j v hj => by
  rw [add_mk, cell_at h]
  exact hl j v hj
section
variable {W w : World} {L : List HP}
theorem Hs.atL (h : Hs W L w) (i : Nat) {b : Nat} {cs : Array Value} {T : TypeId} (hi : L[i]? = some (pt b (.cells cs T (0, 0)))) : At w ⟨b, 0, none⟩ cs.toList := At.blk (h.at i hi)
theorem setL_all : ∀ (l : List Value) (cs : Array Value) (o : Nat), l.length + o = cs.size → (l.zipIdx o).foldl (fun c (p : Value × Nat) => c.setIfInBounds p.2 p.1) cs = ((cs.toList.take o) ++ l).toArray
  | [], cs, o, h => by
    apply Array.toList_inj.1
    simp only [List.zipIdx_nil, List.foldl_nil, List.append_nil]
    rw [List.take_of_length_le (by simp at h ⊢; omega)]
  | v :: l, cs, o, h => by
    simp only [List.zipIdx_cons, List.foldl_cons]
    rw [setL_all l _ (o + 1) (by simp at h ⊢; omega)]
    apply Array.toList_inj.1
    simp only [Array.toList_setIfInBounds]
    rw [List.take_add_one, List.take_set_of_le (Nat.le_refl _), List.getElem?_set, if_pos rfl, if_pos (by simp at h ⊢; omega), List.append_assoc]
    rfl
theorem Hs.stcs {b : Nat} {T : TypeId} : ∀ (l : List Value) (i o : Nat) {L : List HP} {w : World} {cs : Array Value} {K : World → Prop} (_ : Hs W L w) (_ : L[i]? = some (pt b (.cells cs T (0, 0)))) (_ : l.length + o ≤ cs.size)
    (_ : ∀ w', Hs W (L.set i (pt b (.cells ((l.zipIdx o).foldl (fun c (p : Value × Nat) => c.setIfInBounds p.2 p.1) cs) T (0, 0)))) w' → K w'), stcL ⟨b, 0, none⟩ o l w K
  | [], i, o, L, w, cs, K, h, hi, _, hk => hk w (by rw [List.zipIdx_nil, List.foldl_nil, set_id hi]; exact h)
  | v :: l, i, o, L, w, cs, K, h, hi, hl, hk => by
    unfold stcL
    rw [add_mk, Nat.zero_add]
    refine h.stc i hi (by simp at hl; omega) fun w1 h1 => ?_
    refine Hs.stcs (T := T) l i (o + 1) (cs := cs.setIfInBounds o v) h1 (by simp [(List.getElem?_eq_some_iff.1 hi).1]) (by simp at hl ⊢; omega) fun w2 h2 => hk w2 ?_
    rw [List.set_set] at h2
    exact h2
/-- a block is overwritten whole -/
theorem Hs.stcL (h : Hs W L w) (i : Nat) {b : Nat} {T : TypeId} {cs : Array Value} {K : World → Prop} (hi : L[i]? = some (pt b (.cells cs T (0, 0)))) {l : List Value} (hl : l.length = cs.size)
    (hk : ∀ w', Hs W (L.set i (pt b (.cells l.toArray T (0, 0)))) w' → K w') : Sh.stcL ⟨b, 0, none⟩ 0 l w K :=
  Hs.stcs l i 0 h hi (by omega) fun w' h' => hk w' (by
    rw [setL_all l cs 0 (by omega), List.take_zero, List.nil_append] at h'
    exact h')
end
end Go.Sh
namespace Go.Proofs.YtilenpnpnbdndaaGreatDoor
open Go Go.Sh
set_option maxRecDepth 100000
set_option maxHeartbeats 4000000
theorem mixed : Tryz.prog.follows .mixedOrders = true := by kernel_rfl
attribute [local instance] Esc.none
structure R155 where
  f0 : Int
  f1 : Int
  f2 : Int
  f3 : Int
  f4 : Int
  f5 : Int
  f6 : Int
  f7 : Int
  f8 : Int
  f9 : Int
  f10 : Int
  f11 : Int
  f12 : Int
  f13 : Int
  f14 : Int
  f15 : Int
  f16 : Int
  f17 : Int
  f18 : Int
  f19 : Int
  f20 : Int
  f21 : Int
  f22 : Int
  f23 : Int
def R155.l (s : R155) : List Value := [.int .u8 s.f0, .int .u8 s.f1, .int .u8 s.f2, .int .u8 s.f3, .int .u8 s.f4, .int .u8 s.f5, .int .u8 s.f6, .int .u8 s.f7, .int .u8 s.f8, .int .u8 s.f9, .int .u8 s.f10, .int .u8 s.f11, .int .u8 s.f12, .int .u8 s.f13, .int .u8 s.f14, .int .u8 s.f15, .int .u8 s.f16, .int .u8 s.f17, .int .u8 s.f18, .int .u8 s.f19, .int .u8 s.f20, .int .u8 s.f21, .int .u8 s.f22, .int .u8 s.f23]
def R155.c (s : R155) : Array Value := #[.int .u8 s.f0, .int .u8 s.f1, .int .u8 s.f2, .int .u8 s.f3, .int .u8 s.f4, .int .u8 s.f5, .int .u8 s.f6, .int .u8 s.f7, .int .u8 s.f8, .int .u8 s.f9, .int .u8 s.f10, .int .u8 s.f11, .int .u8 s.f12, .int .u8 s.f13, .int .u8 s.f14, .int .u8 s.f15, .int .u8 s.f16, .int .u8 s.f17, .int .u8 s.f18, .int .u8 s.f19, .int .u8 s.f20, .int .u8 s.f21, .int .u8 s.f22, .int .u8 s.f23]
def R155.v (s : R155) : Value := .agg #[.int .u8 s.f0, .int .u8 s.f1, .int .u8 s.f2, .int .u8 s.f3, .int .u8 s.f4, .int .u8 s.f5, .int .u8 s.f6, .int .u8 s.f7, .int .u8 s.f8, .int .u8 s.f9, .int .u8 s.f10, .int .u8 s.f11, .int .u8 s.f12, .int .u8 s.f13, .int .u8 s.f14, .int .u8 s.f15, .int .u8 s.f16, .int .u8 s.f17, .int .u8 s.f18, .int .u8 s.f19, .int .u8 s.f20, .int .u8 s.f21, .int .u8 s.f22, .int .u8 s.f23]
def R155.z : R155 := ⟨0, 0, 0, 0, 0, 0, 0, 0, 0, 0, 0, 0, 0, 0, 0, 0, 0, 0, 0, 0, 0, 0, 0, 0⟩
structure R85 where
  f0 : Int
  f1 : ByteArray
  f2a : Option Addr
  f2n : Nat
  f2c : Nat
def R85.l (s : R85) : List Value := [.int .i64 s.f0, .string s.f1, .slice s.f2a s.f2n s.f2c]
def R85.c (s : R85) : Array Value := #[.int .i64 s.f0, .string s.f1, .slice s.f2a s.f2n s.f2c]
def R85.v (s : R85) : Value := .agg #[.int .i64 s.f0, .string s.f1, .slice s.f2a s.f2n s.f2c]
def ldR85 (a : Addr) (w : World) (K : R85 → Prop) : Prop := ldI .i64 (a.add 0) w fun f0 => ldS (a.add 1) w fun f1 => ldC (a.add 2) w fun f2a f2n f2c => K ⟨f0, f1, f2a, f2n, f2c⟩
def exR85 (K : R85 → Prop) : Prop := ∃ f0 f1 f2a f2n f2c, K ⟨f0, f1, f2a, f2n, f2c⟩
theorem exR85_of {K : R85 → Prop} (s : R85) (k : K s) : exR85 K := ⟨s.f0, s.f1, s.f2a, s.f2n, s.f2c, k⟩
theorem ldR85_of {a : Addr} {w : World} {s : R85} {K : R85 → Prop} (h : At w a s.l) (k : K s) : ldR85 a w K := (ldI_c (h 0 _ rfl) (ldS_c (h 1 _ rfl) (ldC_c (h 2 _ rfl) k)))
def R85.z : R85 := ⟨0, ByteArray.empty, none, 0, 0⟩
structure R26 where
  f0 : Int
  f1 : Int
  f2 : Int
  f3 : Int
  f4 : Int
  f5 : Int
  f6 : Int
  f7 : Int
  f8 : Int
  f9 : Bool
  f10a : Option Addr
  f10n : Nat
  f10c : Nat
  f11 : ByteArray
def R26.l (s : R26) : List Value := [.int .i64 s.f0, .int .i64 s.f1, .int .i64 s.f2, .int .i64 s.f3, .int .i64 s.f4, .int .u8 s.f5, .int .i64 s.f6, .int .u16 s.f7, .int .u32 s.f8, .bool s.f9, .slice s.f10a s.f10n s.f10c, .string s.f11]
def R26.c (s : R26) : Array Value := #[.int .i64 s.f0, .int .i64 s.f1, .int .i64 s.f2, .int .i64 s.f3, .int .i64 s.f4, .int .u8 s.f5, .int .i64 s.f6, .int .u16 s.f7, .int .u32 s.f8, .bool s.f9, .slice s.f10a s.f10n s.f10c, .string s.f11]
def R26.v (s : R26) : Value := .agg #[.int .i64 s.f0, .int .i64 s.f1, .int .i64 s.f2, .int .i64 s.f3, .int .i64 s.f4, .int .u8 s.f5, .int .i64 s.f6, .int .u16 s.f7, .int .u32 s.f8, .bool s.f9, .slice s.f10a s.f10n s.f10c, .string s.f11]
def ldR26 (a : Addr) (w : World) (K : R26 → Prop) : Prop := ldI .i64 (a.add 0) w fun f0 => ldI .i64 (a.add 1) w fun f1 => ldI .i64 (a.add 2) w fun f2 => ldI .i64 (a.add 3) w fun f3 => ldI .i64 (a.add 4) w fun f4 => ldI .u8 (a.add 5) w fun f5 => ldI .i64 (a.add 6) w fun f6 => ldI .u16 (a.add 7) w fun f7 => ldI .u32 (a.add 8) w fun f8 => ldB (a.add 9) w fun f9 => ldC (a.add 10) w fun f10a f10n f10c => ldS (a.add 11) w fun f11 => K ⟨f0, f1, f2, f3, f4, f5, f6, f7, f8, f9, f10a, f10n, f10c, f11⟩
def exR26 (K : R26 → Prop) : Prop := ∃ f0 f1 f2 f3 f4 f5 f6 f7 f8 f9 f10a f10n f10c f11, K ⟨f0, f1, f2, f3, f4, f5, f6, f7, f8, f9, f10a, f10n, f10c, f11⟩
theorem exR26_of {K : R26 → Prop} (s : R26) (k : K s) : exR26 K := ⟨s.f0, s.f1, s.f2, s.f3, s.f4, s.f5, s.f6, s.f7, s.f8, s.f9, s.f10a, s.f10n, s.f10c, s.f11, k⟩
theorem ldR26_of {a : Addr} {w : World} {s : R26} {K : R26 → Prop} (h : At w a s.l) (k : K s) : ldR26 a w K := (ldI_c (h 0 _ rfl) (ldI_c (h 1 _ rfl) (ldI_c (h 2 _ rfl) (ldI_c (h 3 _ rfl) (ldI_c (h 4 _ rfl) (ldI_c (h 5 _ rfl) (ldI_c (h 6 _ rfl) (ldI_c (h 7 _ rfl) (ldI_c (h 8 _ rfl) (ldB_c (h 9 _ rfl) (ldC_c (h 10 _ rfl) (ldS_c (h 11 _ rfl) k))))))))))))
def R26.z : R26 := ⟨0, 0, 0, 0, 0, 0, 0, 0, 0, false, none, 0, 0, ByteArray.empty⟩
structure R49 where
  f0 : Int
  f1 : Int
  f2 : Int
  f3 : Int
  f4 : Int
  f5 : Int
  f6 : Int
  f7 : Int
  f8 : Int
  f9 : Int
  f10 : Int
  f11 : Int
  f12 : Int
  f13 : Int
  f14 : Int
  f15 : Int
  f16 : Int
  f17 : Int
  f18 : Int
  f19 : Int
  f20 : Int
  f21 : Int
  f22 : Int
  f23 : Int
  f24 : Int
  f25 : Int
  f26 : Int
  f27 : Int
  f28 : Int
  f29 : Int
  f30 : Int
  f31 : Int
  f32 : Int
  f33 : Int
  f34 : Int
  f35 : Int
  f36 : Int
  f37 : Int
  f38 : Bool
  f39 : Bool
  f40 : Bool
def R49.l (s : R49) : List Value := [.int .u8 s.f0, .int .u8 s.f1, .int .u8 s.f2, .int .u8 s.f3, .int .u8 s.f4, .int .u8 s.f5, .int .u8 s.f6, .int .u8 s.f7, .int .u8 s.f8, .int .u8 s.f9, .int .u8 s.f10, .int .u8 s.f11, .int .u8 s.f12, .int .u8 s.f13, .int .u8 s.f14, .int .u8 s.f15, .int .u64 s.f16, .int .i64 s.f17, .int .u32 s.f18, .int .u16 s.f19, .int .u16 s.f20, .int .i64 s.f21, .int .i64 s.f22, .int .u16 s.f23, .int .u16 s.f24, .int .i64 s.f25, .int .i64 s.f26, .int .i64 s.f27, .int .i64 s.f28, .int .i64 s.f29, .int .i64 s.f30, .int .i64 s.f31, .int .i64 s.f32, .int .i64 s.f33, .int .i64 s.f34, .int .i64 s.f35, .int .i64 s.f36, .int .i64 s.f37, .bool s.f38, .bool s.f39, .bool s.f40]
def R49.c (s : R49) : Array Value := #[.int .u8 s.f0, .int .u8 s.f1, .int .u8 s.f2, .int .u8 s.f3, .int .u8 s.f4, .int .u8 s.f5, .int .u8 s.f6, .int .u8 s.f7, .int .u8 s.f8, .int .u8 s.f9, .int .u8 s.f10, .int .u8 s.f11, .int .u8 s.f12, .int .u8 s.f13, .int .u8 s.f14, .int .u8 s.f15, .int .u64 s.f16, .int .i64 s.f17, .int .u32 s.f18, .int .u16 s.f19, .int .u16 s.f20, .int .i64 s.f21, .int .i64 s.f22, .int .u16 s.f23, .int .u16 s.f24, .int .i64 s.f25, .int .i64 s.f26, .int .i64 s.f27, .int .i64 s.f28, .int .i64 s.f29, .int .i64 s.f30, .int .i64 s.f31, .int .i64 s.f32, .int .i64 s.f33, .int .i64 s.f34, .int .i64 s.f35, .int .i64 s.f36, .int .i64 s.f37, .bool s.f38, .bool s.f39, .bool s.f40]
def R49.v (s : R49) : Value := .agg #[.int .u8 s.f0, .int .u8 s.f1, .int .u8 s.f2, .int .u8 s.f3, .int .u8 s.f4, .int .u8 s.f5, .int .u8 s.f6, .int .u8 s.f7, .int .u8 s.f8, .int .u8 s.f9, .int .u8 s.f10, .int .u8 s.f11, .int .u8 s.f12, .int .u8 s.f13, .int .u8 s.f14, .int .u8 s.f15, .int .u64 s.f16, .int .i64 s.f17, .int .u32 s.f18, .int .u16 s.f19, .int .u16 s.f20, .int .i64 s.f21, .int .i64 s.f22, .int .u16 s.f23, .int .u16 s.f24, .int .i64 s.f25, .int .i64 s.f26, .int .i64 s.f27, .int .i64 s.f28, .int .i64 s.f29, .int .i64 s.f30, .int .i64 s.f31, .int .i64 s.f32, .int .i64 s.f33, .int .i64 s.f34, .int .i64 s.f35, .int .i64 s.f36, .int .i64 s.f37, .bool s.f38, .bool s.f39, .bool s.f40]
def ldR49 (a : Addr) (w : World) (K : R49 → Prop) : Prop := ldI .u8 (a.add 0) w fun f0 => ldI .u8 (a.add 1) w fun f1 => ldI .u8 (a.add 2) w fun f2 => ldI .u8 (a.add 3) w fun f3 => ldI .u8 (a.add 4) w fun f4 => ldI .u8 (a.add 5) w fun f5 => ldI .u8 (a.add 6) w fun f6 => ldI .u8 (a.add 7) w fun f7 => ldI .u8 (a.add 8) w fun f8 => ldI .u8 (a.add 9) w fun f9 => ldI .u8 (a.add 10) w fun f10 => ldI .u8 (a.add 11) w fun f11 => ldI .u8 (a.add 12) w fun f12 => ldI .u8 (a.add 13) w fun f13 => ldI .u8 (a.add 14) w fun f14 => ldI .u8 (a.add 15) w fun f15 => ldI .u64 (a.add 16) w fun f16 => ldI .i64 (a.add 17) w fun f17 => ldI .u32 (a.add 18) w fun f18 => ldI .u16 (a.add 19) w fun f19 => ldI .u16 (a.add 20) w fun f20 => ldI .i64 (a.add 21) w fun f21 => ldI .i64 (a.add 22) w fun f22 => ldI .u16 (a.add 23) w fun f23 => ldI .u16 (a.add 24) w fun f24 => ldI .i64 (a.add 25) w fun f25 => ldI .i64 (a.add 26) w fun f26 => ldI .i64 (a.add 27) w fun f27 => ldI .i64 (a.add 28) w fun f28 => ldI .i64 (a.add 29) w fun f29 => ldI .i64 (a.add 30) w fun f30 => ldI .i64 (a.add 31) w fun f31 => ldI .i64 (a.add 32) w fun f32 => ldI .i64 (a.add 33) w fun f33 => ldI .i64 (a.add 34) w fun f34 => ldI .i64 (a.add 35) w fun f35 => ldI .i64 (a.add 36) w fun f36 => ldI .i64 (a.add 37) w fun f37 => ldB (a.add 38) w fun f38 => ldB (a.add 39) w fun f39 => ldB (a.add 40) w fun f40 => K ⟨f0, f1, f2, f3, f4, f5, f6, f7, f8, f9, f10, f11, f12, f13, f14, f15, f16, f17, f18, f19, f20, f21, f22, f23, f24, f25, f26, f27, f28, f29, f30, f31, f32, f33, f34, f35, f36, f37, f38, f39, f40⟩
def exR49 (K : R49 → Prop) : Prop := ∃ f0 f1 f2 f3 f4 f5 f6 f7 f8 f9 f10 f11 f12 f13 f14 f15 f16 f17 f18 f19 f20 f21 f22 f23 f24 f25 f26 f27 f28 f29 f30 f31 f32 f33 f34 f35 f36 f37 f38 f39 f40, K ⟨f0, f1, f2, f3, f4, f5, f6, f7, f8, f9, f10, f11, f12, f13, f14, f15, f16, f17, f18, f19, f20, f21, f22, f23, f24, f25, f26, f27, f28, f29, f30, f31, f32, f33, f34, f35, f36, f37, f38, f39, f40⟩
theorem exR49_of {K : R49 → Prop} (s : R49) (k : K s) : exR49 K := ⟨s.f0, s.f1, s.f2, s.f3, s.f4, s.f5, s.f6, s.f7, s.f8, s.f9, s.f10, s.f11, s.f12, s.f13, s.f14, s.f15, s.f16, s.f17, s.f18, s.f19, s.f20, s.f21, s.f22, s.f23, s.f24, s.f25, s.f26, s.f27, s.f28, s.f29, s.f30, s.f31, s.f32, s.f33, s.f34, s.f35, s.f36, s.f37, s.f38, s.f39, s.f40, k⟩
theorem ldR49_of {a : Addr} {w : World} {s : R49} {K : R49 → Prop} (h : At w a s.l) (k : K s) : ldR49 a w K := (ldI_c (h 0 _ rfl) (ldI_c (h 1 _ rfl) (ldI_c (h 2 _ rfl) (ldI_c (h 3 _ rfl) (ldI_c (h 4 _ rfl) (ldI_c (h 5 _ rfl) (ldI_c (h 6 _ rfl) (ldI_c (h 7 _ rfl) (ldI_c (h 8 _ rfl) (ldI_c (h 9 _ rfl) (ldI_c (h 10 _ rfl) (ldI_c (h 11 _ rfl) (ldI_c (h 12 _ rfl) (ldI_c (h 13 _ rfl) (ldI_c (h 14 _ rfl) (ldI_c (h 15 _ rfl) (ldI_c (h 16 _ rfl) (ldI_c (h 17 _ rfl) (ldI_c (h 18 _ rfl) (ldI_c (h 19 _ rfl) (ldI_c (h 20 _ rfl) (ldI_c (h 21 _ rfl) (ldI_c (h 22 _ rfl) (ldI_c (h 23 _ rfl) (ldI_c (h 24 _ rfl) (ldI_c (h 25 _ rfl) (ldI_c (h 26 _ rfl) (ldI_c (h 27 _ rfl) (ldI_c (h 28 _ rfl) (ldI_c (h 29 _ rfl) (ldI_c (h 30 _ rfl) (ldI_c (h 31 _ rfl) (ldI_c (h 32 _ rfl) (ldI_c (h 33 _ rfl) (ldI_c (h 34 _ rfl) (ldI_c (h 35 _ rfl) (ldI_c (h 36 _ rfl) (ldI_c (h 37 _ rfl) (ldB_c (h 38 _ rfl) (ldB_c (h 39 _ rfl) (ldB_c (h 40 _ rfl) k)))))))))))))))))))))))))))))))))))))))))
def R49.z : R49 := ⟨0, 0, 0, 0, 0, 0, 0, 0, 0, 0, 0, 0, 0, 0, 0, 0, 0, 0, 0, 0, 0, 0, 0, 0, 0, 0, 0, 0, 0, 0, 0, 0, 0, 0, 0, 0, 0, 0, false, false, false⟩
structure R45 where
  f0 : Int
  f1 : Int
  f2 : Int
def R45.l (s : R45) : List Value := [.int .i64 s.f0, .int .i64 s.f1, .int .i64 s.f2]
def R45.c (s : R45) : Array Value := #[.int .i64 s.f0, .int .i64 s.f1, .int .i64 s.f2]
def R45.v (s : R45) : Value := .agg #[.int .i64 s.f0, .int .i64 s.f1, .int .i64 s.f2]
def R45.z : R45 := ⟨0, 0, 0⟩
end Go.Proofs.YtilenpnpnbdndaaGreatDoor
