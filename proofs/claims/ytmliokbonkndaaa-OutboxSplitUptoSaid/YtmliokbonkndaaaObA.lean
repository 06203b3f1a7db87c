/-
  The kept chunks: plain, and where they lie.
-/
import Derived.Test.YtmliokbonkndaaaObF
import Derived.Test.YtmliokbonkndaaaShP
namespace Go.Proofs.Ytmliokbonkndaaa
open Go Go.Sh
noncomputable def E77i : TypeInfo := (Try.prog.info? 91).getD default
theorem E77 : ElemT Try.prog 77 91 1 8 (.pointer none) E77i := ⟨by kernel_rfl, by kernel_rfl, by kernel_rfl, by kernel_rfl, by kernel_rfl, rfl, by decide⟩
noncomputable def E54i : TypeInfo := (Try.prog.info? 58).getD default
theorem E54 : ElemT Try.prog 54 58 14 104 (R57.v R57.z) E54i := ⟨by kernel_rfl, by kernel_rfl, by kernel_rfl, by kernel_rfl, by kernel_rfl, rfl, by decide⟩
noncomputable def E23i : TypeInfo := (Try.prog.info? 5).getD default
theorem E23 : ElemT Try.prog 23 5 1 1 (.int .u8 0) E23i := ⟨by kernel_rfl, by kernel_rfl, by kernel_rfl, by kernel_rfl, by kernel_rfl, rfl, by decide⟩
noncomputable def E46i : TypeInfo := (Try.prog.info? 53).getD default
theorem E46 : ElemT Try.prog 46 53 4 32 (R52.v R52.z) E46i := ⟨by kernel_rfl, by kernel_rfl, by kernel_rfl, by kernel_rfl, by kernel_rfl, rfl, by decide⟩
noncomputable def E24i : TypeInfo := (Try.prog.info? 4).getD default
theorem E24 : ElemT Try.prog 24 4 1 1 (.bool false) E24i := ⟨by kernel_rfl, by kernel_rfl, by kernel_rfl, by kernel_rfl, by kernel_rfl, rfl, by decide⟩
noncomputable def E125i : TypeInfo := (Try.prog.info? 3).getD default
theorem E125 : ElemT Try.prog 125 3 1 8 (.int .i64 0) E125i := ⟨by kernel_rfl, by kernel_rfl, by kernel_rfl, by kernel_rfl, by kernel_rfl, rfl, by decide⟩
noncomputable def E27i : TypeInfo := (Try.prog.info? 44).getD default
theorem E27 : ElemT Try.prog 27 44 2 4 (.agg #[.int .u16 0, .int .u16 0]) E27i := ⟨by kernel_rfl, by kernel_rfl, by kernel_rfl, by kernel_rfl, by kernel_rfl, rfl, by decide⟩

/-- bytes -/
def byV (X : List Int) : List Value := X.map (Value.int .u8)
theorem byV_length (X : List Int) : (byV X).length = X.length := by simp [byV]
theorem byV_one (X : List Int) : ∀ u ∈ byV X, u.oneCell' = true := fun u hu => by
  obtain ⟨x, _, rfl⟩ := List.mem_map.1 hu
  rfl
theorem byV_at {X : List Int} {j : Nat} {x : Int} (h : X[j]? = some x) : (byV X)[j]? = some (.int .u8 x) := by simp [byV, h]
/-- a chunk -/
structure En where
  tsn : Int
  path : Int
  times : Int
  sent : Int
  miss : Int
  qk : Bool
  st : Int
  stream : Int
  ssn : Int
  proto : Int
  uno : Bool
  data : List Int
  bg : Bool
  en : Bool
def En.r (e : En) (a : Option Addr) (c : Nat) : R57 := ⟨e.tsn, e.path, e.times, e.sent, e.miss, e.qk, e.st, e.stream, e.ssn, e.proto, e.uno, a, e.data.length, c, e.bg, e.en⟩
def En.z : En := ⟨0, 0, 0, 0, 0, false, 0, 0, 0, 0, false, [], false, false⟩
/-- where one lies -/
def entP (p : Nat × En) : HP := ex fun d : Option Addr × Nat => star (pt p.1 (.cells (p.2.r d.1 d.2).c 93 (0, 0))) (slP 5 1 d.1 p.2.data.length d.2 (byV p.2.data))
def ptrV (es : List (Nat × En)) : List Value := es.map fun p => .pointer (some ⟨p.1, 0, none⟩)
theorem ptrV_length (es : List (Nat × En)) : (ptrV es).length = es.length := by simp [ptrV]
theorem ptrV_at {es : List (Nat × En)} {i : Nat} {p : Nat × En} (h : es[i]? = some p) : (ptrV es)[i]? = some (.pointer (some ⟨p.1, 0, none⟩)) := by simp [ptrV, h]
/-- the program's box -/
def boxL (bb : Nat) (n cum : Int) (a : Option Addr) (c : Nat) (es : List (Nat × En)) : List HP :=
  pt bb (.cells #[.int .i64 n, .int .u32 cum, .slice a es.length c] 79 (0, 0)) :: slO 91 1 a es.length c (ptrV es) :: es.map entP
def dats (es : List (Nat × En)) : List En := es.map (·.2)
/-- a chunk that can be read -/
def RE (w : World) (b : Nat) (e : En) : Prop := ∃ a c, w.heap[b]? = some (.cells (e.r a c).c 93 (0, 0)) ∧ Rd w a (byV e.data) ∧ (a = none → c = 0)
theorem RE.same {w w' : World} {b : Nat} {e : En} (h : RE w b e) (s : Same w w') : RE w' b e := by
  obtain ⟨a, c, h1, h2, h3⟩ := h
  exact ⟨a, c, s.blk h1 fun x => x, h2.fr s fun _ _ x => x, h3⟩
structure RB (w : World) (bb : Nat) (n cum : Int) (es : List (Nat × En)) : Prop where
  blk : ∃ a c, w.heap[bb]? = some (.cells #[.int .i64 n, .int .u32 cum, .slice a es.length c] 79 (0, 0)) ∧ Rd w a (ptrV es) ∧ es.length ≤ c ∧ c ≤ maxLen
  ent : ∀ p ∈ es, RE w p.1 p.2
theorem RB.same {w w' : World} {bb : Nat} {n cum : Int} {es : List (Nat × En)} (h : RB w bb n cum es) (s : Same w w') : RB w' bb n cum es := by
  obtain ⟨⟨a, c, h1, h2, h3⟩, h4⟩ := h
  exact ⟨⟨a, c, s.blk h1 fun x => x, h2.fr s fun _ _ x => x, h3⟩, fun p hp => (h4 p hp).same s⟩
theorem own_nilc {w : World} {base : Nat} {e : TypeId} {s l c : Nat} {a : Option Addr} {xs : List Value} (h : Own w base e s a l c xs) : a = none → c = 0 := by
  rcases h.cases with ⟨_, _, hc⟩ | ⟨g, cur, ha, _⟩
  · exact fun _ => hc
  · intro h; rw [h] at ha; cases ha
section
variable {W w : World} {L M : List HP} {bb : Nat} {n cum : Int} {a : Option Addr} {c : Nat} {es : List (Nat × En)} {b : Nat} {e : En}
/-- one chunk's parts, ahead -/
theorem ent_open {p : Nat × En} (h : Hs W (entP p :: M) w) : ∃ da dc, Hs W (pt p.1 (.cells (p.2.r da dc).c 93 (0, 0)) :: slP 5 1 da p.2.data.length dc (byV p.2.data) :: M) w := by
  obtain ⟨d, h⟩ := Hs.cons_ex.1 h
  refine ⟨d.1, d.2, ?_⟩
  have : Hs W (bigS [pt p.1 (.cells (p.2.r d.1 d.2).c 93 (0, 0)), slP 5 1 d.1 p.2.data.length d.2 (byV p.2.data)] :: M) w := by
    refine h.of_eq ?_
    simp only [bigS, star_emp]
  exact Hs.cons_bigS.1 this
theorem ent_close {p : Nat × En} {da : Option Addr} {dc : Nat} (h : Hs W (pt p.1 (.cells (p.2.r da dc).c 93 (0, 0)) :: slP 5 1 da p.2.data.length dc (byV p.2.data) :: M) w) : Hs W (entP p :: M) w := by
  refine Hs.cons_ex.2 ⟨(da, dc), ?_⟩
  have : Hs W (bigS [pt p.1 (.cells (p.2.r da dc).c 93 (0, 0)), slP 5 1 da p.2.data.length dc (byV p.2.data)] :: M) w := Hs.cons_bigS.2 h
  refine this.of_eq ?_
  simp only [bigS, star_emp]
theorem ent_re {p : Nat × En} (h : Hs W (entP p :: M) w) : RE w p.1 p.2 := by
  obtain ⟨da, dc, h⟩ := ent_open h
  exact ⟨da, dc, h.at 0 rfl, h.rd 1 rfl, own_nilc (h.own 1 rfl)⟩
theorem box_rb (h : Hs W (boxL bb n cum a c es ++ L) w) : RB w bb n cum es := by
  refine ⟨⟨a, c, h.at 0 rfl, h.rdO 1 rfl, (h.lenO 1 rfl).2⟩, fun p hp => ?_⟩
  obtain ⟨i, hi⟩ := List.getElem?_of_mem hp
  have h2 : (boxL bb n cum a c es ++ L)[i + 2]? = some (entP p) := by
    have hlt := (List.getElem?_eq_some_iff.1 hi).1
    rw [List.getElem?_append_left (by simp [boxL]; omega)]
    simp [boxL, hi]
  exact ent_re (h.focus h2)
/-! small functions -/
theorem c31 (h : RB w bb n cum es) (hn : 1 ≤ n) : Calls Try.prog 31 #[.pointer (some ⟨bb, 0, none⟩)] w (rt (KR (.bool true) w)) := by
  obtain ⟨⟨a, c, h1, _⟩, _⟩ := h
  refine F31_ok ?_
  unfold F31
  simp only [rdP_mk, Option.isNone_some, Bool.not_false, br_true, nn_some, add_mk]
  refine ldI_at h1 rfl ?_
  rw [show decide (n > 0) = true from by simp; omega]
  exact KR.mk _ _
def askE (n path now : Int) : Int := if path < 0 ∨ path ≥ n then 90 else if now < 0 ∨ now > 1099511627776 then 1 else 0
theorem c29 (h : RB w bb n cum es) (hn : 1 ≤ n) (path now : Int) : Calls Try.prog 29 #[.pointer (some ⟨bb, 0, none⟩), .int .i64 path, .int .i64 now] w (rt (KR (.int .i64 (askE n path now)) w)) := by
  refine F29_ok ?_
  unfold F29
  simp only [rdP_mk, rdI_mk]
  refine clr (c31 h hn) ⟨_, rfl, ?_⟩
  rw [Bool.not_true, br_false]
  obtain ⟨⟨a, c, h1, _⟩, _⟩ := h
  simp only [br_dec, nn_some, add_mk]
  unfold askE
  refine ⟨fun hp => by rw [if_pos (.inl hp)]; exact KR.mk _ _, fun hp => ldI_at h1 rfl ?_⟩
  refine ⟨fun hq => by rw [if_pos (.inr hq)]; exact KR.mk _ _, fun hq => ?_⟩
  rw [if_neg (by omega)]
  refine ⟨fun hq => by rw [if_pos (.inl hq)]; exact KR.mk _ _, fun hq => ?_⟩
  refine ⟨fun hq => by rw [if_pos (.inr hq)]; exact KR.mk _ _, fun hq => ?_⟩
  rw [if_neg (by omega)]
  exact KR.mk _ _
theorem c12 (h : RB w bb n cum es) (hn : 1 ≤ n) : Calls Try.prog 12 #[.pointer (some ⟨bb, 0, none⟩)] w (rt (KR (.int .u32 cum) w)) := by
  refine F12_ok ?_
  unfold F12
  simp only [rdP_mk]
  refine clr (c31 h hn) ⟨_, rfl, ?_⟩
  obtain ⟨⟨a, c, h1, _⟩, _⟩ := h
  rw [Bool.not_true, br_false]
  simp only [nn_some, add_mk]
  exact ldI_at h1 rfl (KR.mk _ _)
theorem c18 (h : RB w bb n cum es) (hn : 1 ≤ n) : Calls Try.prog 18 #[.pointer (some ⟨bb, 0, none⟩)] w (rt (KR (.int .i64 (es.length : Int)) w)) := by
  refine F18_ok ?_
  unfold F18
  simp only [rdP_mk]
  refine clr (c31 h hn) ⟨_, rfl, ?_⟩
  obtain ⟨⟨a, c, h1, _⟩, _⟩ := h
  rw [Bool.not_true, br_false]
  simp only [nn_some, add_mk]
  exact ldC_at h1 rfl (KR.mk _ _)
def nxt (cum : Int) (k : Nat) : Int := (cum + 1 + k) % 4294967296
theorem c19 (h : RB w bb n cum es) (hn : 1 ≤ n) : Calls Try.prog 19 #[.pointer (some ⟨bb, 0, none⟩)] w (rt fun v w' => v = .int .u32 (nxt cum es.length) ∧ Same w w') := by
  refine F19_ok ?_
  unfold F19
  simp only [rdP_mk]
  refine clr (c31 h hn) ⟨_, rfl, ?_⟩
  rw [Bool.not_true, br_false]
  have s : Same w w.drew := (Fr.refl w).drew
  obtain ⟨⟨a, c, h1, _⟩, _⟩ := h.same s
  simp only [nn_some, add_mk, drw]
  refine ldI_at h1 rfl (ldC_at h1 rfl ⟨?_, s⟩)
  unfold nxt
  rw [wrap_u32_mod, wrap_u32_mod, wrap_u32_mod]
  congr 1
  omega
theorem re_fld (h : RE w b e) : ∃ a c, w.heap[b]? = some (.cells (e.r a c).c 93 (0, 0)) := by
  obtain ⟨a, c, h, _⟩ := h
  exact ⟨a, c, h⟩
theorem c52 (h : RE w b e) : Calls Try.prog 52 #[.pointer (some ⟨b, 0, none⟩)] w (rt (KR (.bool (e.st == 2)) w)) := by
  obtain ⟨a, c, h⟩ := re_fld h
  refine F52_ok ?_
  unfold F52
  simp only [rdP_mk, nn_some, add_mk]
  exact ldI_at h rfl (KR.mk _ _)
theorem c55 (h : RE w b e) : Calls Try.prog 55 #[.pointer (some ⟨b, 0, none⟩)] w (rt (KR (.bool (e.st == 1)) w)) := by
  obtain ⟨a, c, h⟩ := re_fld h
  refine F55_ok ?_
  unfold F55
  simp only [rdP_mk, nn_some, add_mk]
  exact ldI_at h rfl (KR.mk _ _)
theorem c60 (h : RE w b e) : Calls Try.prog 60 #[.pointer (some ⟨b, 0, none⟩)] w (rt (KR (.int .i64 (e.data.length : Int)) w)) := by
  obtain ⟨a, c, h⟩ := re_fld h
  refine F60_ok ?_
  unfold F60
  simp only [rdP_mk, nn_some, add_mk]
  exact ldC_at h rfl (KR.mk _ _)
def En.opn (e : En) : Bool := e.st == 1 || e.st == 2
theorem c59 (h : RE w b e) : Calls Try.prog 59 #[.pointer (some ⟨b, 0, none⟩)] w (rt (KR (.bool e.opn) w)) := by
  obtain ⟨a, c, h⟩ := re_fld h
  refine F59_ok ?_
  unfold F59 En.opn
  simp only [rdP_mk, nn_some, add_mk]
  refine ldI_at h rfl ?_
  show br (e.st == 1) _ _
  cases e1 : e.st == 1 with
  | true => rw [br_true, Bool.true_or]; exact KR.mk _ _
  | false =>
    rw [br_false, Bool.false_or]
    exact ldI_at h rfl (KR.mk _ _)
def En.mk' (e : En) : En := { e with st := 2, miss := 0 }
theorem c54 {p : Nat × En} (h : Hs W (entP p :: M) w) : Calls Try.prog 54 #[.pointer (some ⟨p.1, 0, none⟩)] w (rt fun v w' => v = .tuple #[] ∧ Hs W (entP (p.1, p.2.mk') :: M) w') := by
  refine F54_ok ?_
  unfold F54
  simp only [rdP_mk, nn_some, add_mk]
  obtain ⟨da, dc, h⟩ := ent_open h
  refine h.stc 0 rfl (by simp [R57.c]) fun w1 h1 => h1.stc 0 rfl (by simp [R57.c]) fun w2 h2 => ⟨trivial, ?_⟩
  exact ent_close (p := (p.1, p.2.mk')) (da := da) (dc := dc) h2
/-- a predicate of chunks, as the code calls it -/
def IsP (w : World) (fv : Value) (q : En → Bool) : Prop := ∀ w' b e, Same w w' → RE w' b e → callV Try.prog fv #[.pointer (some ⟨b, 0, none⟩)] w' (.one (.one .bool)) fun r w2 => r = .bool (q e) ∧ Same w' w2
theorem IsP.same {w' : World} {fv : Value} {q : En → Bool} (h : IsP w fv q) (s : Same w w') : IsP w' fv q := fun w2 b e s2 r => h w2 b e (s.trans s2 fun _ _ x => x) r
def flyB (e : En) : Bool := e.st == 1
def mrkB (e : En) : Bool := e.st == 2
def onB (p : Int) (e : En) : Bool := e.st == 1 && e.path == p
theorem is_marked (w : World) : IsP w (.func (.func 52) #[] #[]) mrkB := fun w' b e _ r => callV_of (by kernel_rfl) (call_of (c52 r) fun ed w2 ⟨v, hv, hk⟩ => by
  obtain ⟨rfl, rfl⟩ := hk
  exact ⟨_, hv, rfl, Fr.refl _⟩)
theorem is_flying (w : World) : IsP w (.func (.func 55) #[] #[]) flyB := fun w' b e _ r => callV_of (by kernel_rfl) (call_of (c55 r) fun ed w2 ⟨v, hv, hk⟩ => by
  obtain ⟨rfl, rfl⟩ := hk
  exact ⟨_, hv, rfl, Fr.refl _⟩)
theorem c64 {g : Nat} {p : Int} (h : RE w b e) (hg : w.heap[g]? = some (.cells #[.int .i64 p] 3 (0, 0))) : Calls Try.prog 64 #[.pointer (some ⟨b, 0, none⟩), .pointer (some ⟨g, 0, none⟩)] w (rt fun v w' => v = .bool (onB p e) ∧ Same w w') := by
  refine F64_ok ?_
  unfold F64
  simp only [rdP_mk, rdA_mk, drw]
  have s : Same w w.drew := (Fr.refl w).drew
  have h := h.same s
  have hg := s.blk hg fun x => x
  generalize w.drew = w1 at s h hg ⊢
  refine clr (c55 h) ⟨_, rfl, ?_⟩
  obtain ⟨a, c, hb⟩ := re_fld h
  unfold onB
  cases e1 : e.st == 1 with
  | false => rw [br_false, Bool.false_and]; exact ⟨rfl, s⟩
  | true =>
    rw [br_true, Bool.true_and]
    simp only [nn_some, add_mk]
    exact ldI_at hb rfl (ldI_at hg rfl ⟨rfl, s⟩)
theorem c40 (p : Int) (w : World) : Calls Try.prog 40 #[.int .i64 p] w (rt fun v w' => IsP w' v (onB p) ∧ Same w w') := by
  refine F40_ok ?_
  unfold F40
  simp only [rdI_mk]
  refine (Hs.start w).alc fun g w1 h1 => ⟨fun w' b e s r => callV_of (by kernel_rfl) (call_of (c64 r (s.blk (h1.at 0 rfl) fun x => x)) fun ed w2 ⟨v, hv, hk⟩ => ?_), h1.old⟩
  obtain ⟨rfl, hs⟩ := hk
  exact ⟨_, hv, rfl, hs⟩
end
end Go.Proofs.Ytmliokbonkndaaa
