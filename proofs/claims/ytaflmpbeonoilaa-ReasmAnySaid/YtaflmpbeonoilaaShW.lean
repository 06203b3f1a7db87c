/-
  Tables that nobody made (ReasmNobody).
-/
import Derived.Test.YtaflmpbeonoilaaRmX
import Derived.Test.YtaflmpbeonoilaaShM
import Derived.ProofKit
import Derived.OpenShut
namespace Go.Proofs.Ytaflmpbeonoilaa
open Go Go.Sh Go.RowKit
section
variable {W w : World} {L M Z : List HP} {p : Option Addr}
def NB (w : World) (p : Option Addr) : Prop := p = none ∨ ∃ tb cs, p = some ⟨tb, 0, none⟩ ∧ w.heap[tb]? = some (.cells cs 70 (0, 0)) ∧ cs[0]? = some (.map none)
theorem NB.same {w' : World} (h : NB w p) (s : Same w w') : NB w' p := by
  rcases h with h | ⟨tb, cs, h1, h2, h3⟩
  · exact .inl h
  · exact .inr ⟨tb, cs, h1, s.blk h2 fun x => x, h3⟩
theorem n24 (h : NB w p) : Calls Try.prog 24 #[.pointer p] w (rt (KR (.bool false) w)) := by
  rcases h with rfl | ⟨tb, cs, rfl, h2, h3⟩
  · exact c24_none w
  · exact c24 h2 h3
theorem n11 (x : R35) (h : NB w p) : Calls Try.prog 11 #[.pointer p, x.v] w (rt fun v w' => v = .int .i64 4 ∧ Same w w') := by
  rcases h with rfl | ⟨tb, cs, rfl, h2, h3⟩
  · exact c11_none x w
  · exact c11_void x h2 h3
theorem n14 (cum : Int) (h : NB w p) : Calls Try.prog 14 #[.pointer p, .int .u32 cum] w (rt fun v w' => v = .slice none 0 0 ∧ Same w w') := by
  rcases h with rfl | ⟨tb, cs, rfl, h2, h3⟩
  · exact c14_none cum w
  · exact c14_void cum h2 h3
theorem n13 (h : NB w p) : Calls Try.prog 13 #[.pointer p] w (rt fun v w' => v = .tuple #[R38.z.v, .bool false] ∧ Same w w') := by
  refine F13_ok ?_
  unfold F13
  simp only [rdP_mk]
  refine (Hs.start w).alc fun b2 w3 h3 => ?_
  refine clr (n24 (h.same h3.old)) ⟨_, rfl, ?_⟩
  simp only [Bool.not_false, br_true]
  refine h3.stcL 0 rfl rfl fun w7 h7 => ?_
  exact ldR38_of (s := R38.z) (h7.atL 0 rfl) ⟨by first | rfl | trivial, h7.old⟩
theorem n22 (t : Int) (h : NB w p) : Calls Try.prog 22 #[.pointer p, .int .u32 t] w (rt fun v w' => v = .tuple #[.bool false, .int .i64 4] ∧ Same w w') := by
  refine F22_ok ?_
  unfold F22
  simp only [rdP_mk, rdI_mk]
  refine (Hs.start w).alc fun b2 w3 h3 => ?_
  refine clr (n24 (h.same h3.old)) ⟨_, rfl, ?_⟩
  simp only [Bool.not_false, br_true]
  exact ⟨by first | rfl | trivial, h3.old⟩
theorem n23 (t : Int) (h : NB w p) : Calls Try.prog 23 #[.pointer p, .int .u32 t] w (rt (KR (.int .i64 4) w)) := by
  refine F23_ok ?_
  unfold F23
  simp only [rdP_mk, rdI_mk]
  refine clr (n24 h) ⟨_, rfl, ?_⟩
  simp only [Bool.not_false, br_true]
  exact KR.mk _ _
theorem n18 (h : NB w p) : Calls Try.prog 18 #[.pointer p] w (rt (KR (.int .i64 0) w)) := by
  refine F18_ok ?_
  unfold F18
  simp only [rdP_mk]
  refine clr (n24 h) ⟨_, rfl, ?_⟩
  simp only [Bool.not_false, br_true]
  exact KR.mk _ _
theorem n16 (h : NB w p) : Calls Try.prog 16 #[.pointer p] w (rt (KR (.int .i64 0) w)) := by
  refine F16_ok ?_
  unfold F16
  simp only [rdP_mk]
  refine clr (n24 h) ⟨_, rfl, ?_⟩
  simp only [Bool.not_false, br_true]
  exact KR.mk _ _
theorem n19 (h : NB w p) : Calls Try.prog 19 #[.pointer p] w (rt (KR (.slice none 0 0) w)) := by
  refine F19_ok ?_
  unfold F19
  simp only [rdP_mk]
  refine clr (n24 h) ⟨_, rfl, ?_⟩
  simp only [Bool.not_false, br_true]
  exact KR.mk _ _
def opR (o : R58) : R35 := ⟨o.f1, o.f2, o.f3, o.f4, o.f5, o.f6, o.f7, o.f8, o.f9, o.f10, o.f11a, o.f11n, o.f11c, o.f12a, o.f12n, o.f12c, o.f13a, o.f13n, o.f13c, o.f14a, o.f14n, o.f14c, o.f15a, o.f15n, o.f15c⟩
theorem op_at {b : Nat} {o : R58} (h : w.heap[b]? = some (.cells o.c 59 (0, 0))) : At w ⟨b, 1, none⟩ (opR o).l := by
  refine At.off h fun j v hj => ?_
  have hj' := hj
  have e : o.c.toList = .int .i64 o.f0 :: ((opR o).l ++ [.int .u32 o.f16]) := rfl
  have : o.c[1 + j]? = o.c.toList[1 + j]? := by simp
  rw [this, e, Nat.add_comm, List.getElem?_cons_succ, List.getElem?_append_left (List.getElem?_eq_some_iff.1 hj).1]
  exact hj'
theorem c8 (o : R58) (w : World) : Calls Try.prog 8 #[o.v] w (rt fun v w' => v = .bool true ∧ Same w w') := by
  refine F8_ok ?_
  unfold F8
  refine exR58_of o ⟨rfl, ?_⟩
  refine (Hs.start w).alc fun b2 w3 h3 => h3.alc fun b4 w5 h5 => h5.alc fun b6 w7 h7 => ?_
  have h7 : Hs w [pt b6 (.cells #[.pointer none, .pointer (some ⟨b4, 0, none⟩)] 23 (0, 0)), pt b4 (.cells R69.z.c 70 (0, 0)), pt b2 (.cells o.c 59 (0, 0))] w7 := h7
  have step : ∀ {i : Nat} {w1 : World} {Rk : Value → Value → Value → Value → World → Prop} {K0 : World → Prop} {Kr : Value → World → Prop} {p : Option Addr}, i < 2 → (#[Value.pointer none, .pointer (some ⟨b4, 0, none⟩)] : Array Value)[i]? = some (.pointer p) → NB w1 p →
      Hs w [pt b6 (.cells #[.pointer none, .pointer (some ⟨b4, 0, none⟩)] 23 (0, 0)), pt b4 (.cells R69.z.c 70 (0, 0)), pt b2 (.cells o.c 59 (0, 0))] w1 →
      (∀ w', Hs w [pt b6 (.cells #[.pointer none, .pointer (some ⟨b4, 0, none⟩)] 23 (0, 0)), pt b4 (.cells R69.z.c 70 (0, 0)), pt b2 (.cells o.c 59 (0, 0))] w' → Rk (.pointer (some ⟨b2, 0, none⟩)) (.slice (some ⟨b6, 0, none⟩) 2 2) (.int .i64 2) (.int .i64 ((i + 1 : Nat) : Int)) w') →
      F8_1B Rk K0 Kr (.pointer (some ⟨b2, 0, none⟩)) (.slice (some ⟨b6, 0, none⟩) 2 2) (.int .i64 2) (.int .i64 (i : Int)) w1 := by
    intro i w1 Rk K0 Kr p hi hp hn h hR
    unfold F8_1B
    simp only [rdA_mk, rdC_mk, rdI_mk, br_dec]
    refine ⟨fun _ => ?_, fun hlt => by exfalso; omega⟩
    refine ixS_to rfl hi ?_
    rw [Nat.mul_one, add_mk, Nat.zero_add]
    refine h.ldP 0 rfl hp ?_
    refine cl (n13 hn) ?_
    rintro _ w8 ⟨rfl, s8⟩
    refine exR38_of R38.z ⟨false, rfl, ?_⟩
    refine (h.same s8).alc fun b11 w12 h12 => ?_
    refine h12.stcL 0 rfl rfl fun w13 h13 => ?_
    simp only [add_mk]
    refine h13.ldI 3 rfl rfl ?_
    have h14 := h13.drop
    have hx : ∀ {w'}, Hs w [pt b6 (.cells #[.pointer none, .pointer (some ⟨b4, 0, none⟩)] 23 (0, 0)), pt b4 (.cells R69.z.c 70 (0, 0)), pt b2 (.cells o.c 59 (0, 0))] w' → NB w' p := fun {w'} h' => by
      rcases hn with hn | ⟨tb, cs, h1, _⟩
      · exact .inl hn
      · have : p = none ∨ p = some ⟨b4, 0, none⟩ := by
          rcases (show i = 0 ∨ i = 1 by omega) with rfl | rfl
          · simp at hp; exact .inl hp.symm
          · simp at hp; exact .inr hp.symm
        rcases this with e | e
        · exact .inl e
        · exact .inr ⟨b4, _, e, h'.at 1 rfl, rfl⟩
    refine cl (n22 _ (hx h14)) ?_
    rintro _ w15 ⟨rfl, s15⟩
    refine ⟨_, _, rfl, ?_⟩
    refine (h14.same s15).drw fun w19 h19 => ?_
    refine ⟨w19, Pres.refl _, ?_⟩
    refine ldR35_of (op_at (h19.at 2 rfl)) ?_
    refine cl (n11 _ (hx h19)) ?_
    rintro _ w22 ⟨rfl, s22⟩
    refine ⟨_, rfl, Pres.of_Same s22, ?_⟩
    have e4 : ((4 : Int) != 4) = false := rfl
    rw [e4, br_false, br_false]
    have h22 := h19.same s22
    refine h22.ldI 2 rfl rfl ?_
    refine clr (n23 _ (hx h22)) ⟨_, rfl, Pres.of_Same s22, ?_⟩
    rw [e4, br_false, br_false]
    refine h19.ldI 2 rfl rfl ?_
    refine clr (n18 (hx h22)) ⟨_, rfl, Pres.of_Same s22, ?_⟩
    refine clr (n16 (hx h22)) ⟨_, rfl, Pres.of_Same s22, ?_⟩
    refine cl (n14 _ (hx h22)) ?_
    rintro _ w36 ⟨rfl, s36⟩
    refine ⟨_, _, _, rfl, ?_⟩
    have h36 := h22.same s36
    refine clr (n19 (hx h36)) ⟨_, _, _, rfl, ?_⟩
    have e5 : ((IntKind.wrap .i64 ((IntKind.wrap .i64 ((IntKind.wrap .i64 ((0 : Int) + 0)) + ((0 : Nat) : Int))) + ((0 : Nat) : Int))) != 0) = false := by kernel_rfl
    rw [e5, br_false]
    have e1 : IntKind.wrap .i64 ((i : Int) + 1) = ((i + 1 : Nat) : Int) := by rw [wrap_i64 (by omega) (by omega)]; omega
    rw [e1]
    exact hR _ h36
  refine ⟨3, ?_⟩
  refine step (i := 0) (p := none) (by omega) rfl (.inl rfl) h7 fun w' h' => ?_
  refine step (i := 1) (p := some ⟨b4, 0, none⟩) (by omega) rfl (.inr ⟨b4, _, rfl, h'.at 1 rfl, rfl⟩) h' fun w2 h2 => ?_
  show F8_1B _ _ _ _ _ _ _ _
  unfold F8_1B
  simp only [rdA_mk, rdC_mk, rdI_mk, br_dec]
  refine ⟨fun hlt => by exfalso; omega, fun _ _g => ?_⟩
  refine cl (c10 w2) ?_
  rintro _ w9 ⟨rfl, s9⟩
  exact ⟨_, rfl, by first | rfl | trivial, (h2.same s9).old⟩
end
end Go.Proofs.Ytaflmpbeonoilaa
namespace Go.Sh
open Go
open Go.ChangeShapes Go.WideShapes Go.ChangeAt Go.WideMaps Go.WideElems Go.RowKit
/-- a slice of whole numbers that was handed in -/
theorem ints_in {H : Type} {r : Reach} {b0 : Nat} {enc : TypeId × Value → H} {P : Program} {w : World} {t e : TypeId} {k : IntKind} {v : Value} {d : DataW H} {ps : List MemPlace} (ht : P.underlying t = some (.slice e)) (he : P.underlying e = some (.int k)) (hc : P.cellsOf e = 1) (hval : Value.okWide P w r b0 t v)
    (h : DataW.Trod enc P w 0 (fun _ => true) true t v d ps) : ∃ (a : Option Addr) (X : List Int) (c : Nat), v = .slice a X.length c ∧ X.length ≤ c ∧ c ≤ maxLen ∧ Rd w a (X.map (Value.int k)) ∧ ∀ x ∈ X, (Lit.int k x).wf = true := by
  obtain ⟨fuel, hf⟩ := h
  obtain ⟨a0, l0, c0, rfl⟩ := okWide_slice ht hval
  rcases open_ints ht he hc hf with ⟨hcs, hx⟩ | ⟨a, len, cap, zs, hcs, _, hl, hm, hz, hx, hcl, hwz⟩
  · simp [Value.cells] at hcs
    obtain ⟨rfl, rfl, rfl⟩ := hcs
    exact ⟨none, [], 0, rfl, Nat.le_refl _, Nat.zero_le _, Rd.nil _ _, by simp⟩
  · simp [Value.cells] at hcs
    obtain ⟨rfl, rfl, rfl⟩ := hcs
    simp only [if_true] at hz
    have hlen : (zs.take l0).length = l0 := by rw [List.length_take]; omega
    refine ⟨some a, zs.take l0, c0, by rw [hlen], by omega, hm, fun j u hj => ⟨a, rfl, ?_⟩, fun x hx => hwz x (List.mem_of_mem_take hx)⟩
    rw [List.getElem?_map, List.getElem?_take] at hj
    split at hj
    · rename_i hjl
      obtain ⟨x, hx⟩ : ∃ x, zs[j]? = some x := ⟨zs[j]'(by omega), by simp⟩
      rw [hx] at hj
      cases hj
      have := hcl j (by omega)
      rw [List.getD_eq_getElem?_getD, hx] at this
      exact this
    · cases hj
theorem wf_u16 {x : Int} (h : (Lit.int .u16 x).wf = true) : 0 ≤ x ∧ x ≤ 65535 := by
  simp [Lit.wf, IntKind.min, IntKind.max, IntKind.signed, IntKind.bits] at h; omega
theorem wf_u32 {x : Int} (h : (Lit.int .u32 x).wf = true) : 0 ≤ x ∧ x < 4294967296 := by
  simp [Lit.wf, IntKind.min, IntKind.max, IntKind.signed, IntKind.bits] at h; omega

theorem cells_list {w : World} {base : Nat} {a : Addr} {n : Nat} {cs : List Value} (h : w.cells? base a n = some cs) : cs.length = n ∧ ∀ (i : Nat), i < n → w.cell? (a.add i) = cs[i]? := by
  unfold World.cells? at h
  split at h
  · have key : ∀ (l : List Nat) (cs : List Value), l.mapM (fun i => w.cell? (a.add i)) = some cs → cs.length = l.length ∧ ∀ (i k : Nat), l[i]? = some k → w.cell? (a.add k) = cs[i]? := by
      intro l
      induction l with
      | nil => intro cs h; simp at h; subst h; simp
      | cons x l ih =>
        intro cs h
        simp only [List.mapM_cons, Option.bind_eq_bind, Option.bind_eq_some_iff] at h
        obtain ⟨v, hv, r, hr, e⟩ := h
        cases e
        obtain ⟨i1, i2⟩ := ih r hr
        refine ⟨by simp [i1], fun i k hk => ?_⟩
        cases i with
        | zero => simp at hk; subst hk; simpa using hv
        | succ i => simp at hk; simpa using i2 i k hk
    obtain ⟨k1, k2⟩ := key _ _ h
    exact ⟨by simpa using k1, fun i hi => k2 i i (by simp [hi])⟩
  · cases h
theorem flatten_at {sz : Nat} (hs : 0 < sz) : ∀ {rows : List (List Value)}, (∀ r ∈ rows, r.length = sz) → ∀ (j : Nat), rows.flatten[j]? = (rows[j / sz]?).bind (·[j % sz]?)
  | [], _, j => by simp
  | r :: rows, h, j => by
    have hr := h r (by simp)
    rw [List.flatten_cons]
    by_cases hj : j < sz
    · rw [List.getElem?_append_left (by omega), Nat.div_eq_of_lt hj, Nat.mod_eq_of_lt hj]; rfl
    · have ih := flatten_at hs (rows := rows) (fun q hq => h q (List.mem_cons_of_mem _ hq)) (j - sz)
      rw [List.getElem?_append_right (by omega), hr, ih]
      have e1 : j / sz = (j - sz) / sz + 1 := by rw [Nat.div_eq_sub_div hs (by omega)]
      have e2 : j % sz = (j - sz) % sz := Nat.mod_eq_sub_mod (by omega)
      rw [e1, e2]; rfl
/-- a slice of records that was handed in; Q: what each record's cells are, by their reading -/
theorem recs_in {H : Type} {r : Reach} {b0 : Nat} {enc : TypeId × Value → H} {P : Program} {w : World} {t e : TypeId} {v : Value} {d : DataW H} {ps : List MemPlace} {sz : Nat} {Q : List Value → Prop} (hs : 0 < sz) (ht : P.underlying t = some (.slice e)) (hc : P.cellsOf e = sz) (hval : Value.okWide P w r b0 t v)
    (hQ : ∀ (n : Nat) (cs : List Value) (x : DataW H × List MemPlace), cs.length = sz → DataW.trod enc P w 0 (fun _ => true) true n e cs = some x → Q cs)
    (h : DataW.Trod enc P w 0 (fun _ => true) true t v d ps) : ∃ (a : Option Addr) (rows : List (List Value)) (c : Nat), v = .slice a rows.length c ∧ rows.length ≤ c ∧ c ≤ maxLen ∧ Rd w a rows.flatten ∧ ∀ r ∈ rows, r.length = sz ∧ Q r := by
  obtain ⟨fuel, hf⟩ := h
  obtain ⟨a0, l0, c0, rfl⟩ := okWide_slice ht hval
  rcases DataW.trod_slice ht hf with ⟨hcs, hx⟩ | ⟨a, len, cap, elems, rest, n, _, hcs, hx, hb, hl, hm, hlen, hel, _, _⟩
  · simp [Value.cells] at hcs
    obtain ⟨rfl, rfl, rfl⟩ := hcs
    exact ⟨none, [], 0, rfl, Nat.le_refl _, Nat.zero_le _, Rd.nil _ _, by simp⟩
  · simp [Value.cells] at hcs
    obtain ⟨rfl, rfl, rfl⟩ := hcs
    rw [hc] at hel
    have each : ∀ i, i < l0 → ∃ cs, w.cells? 0 (a.add (i * sz)) sz = some cs ∧ Q cs := by
      intro i hi
      have h1 := hel i hi
      obtain ⟨x, hx⟩ : ∃ x, elems[i]? = some x := ⟨elems[i]'(by omega), by simp⟩
      rw [hx, Option.bind_eq_some_iff] at h1
      obtain ⟨cs, h2, h3⟩ := h1
      exact ⟨cs, h2, hQ n cs x (cells_list h2).1 h3⟩
    have all : ∀ l, l ≤ l0 → ∃ rows : List (List Value), rows.length = l ∧ (∀ i r, rows[i]? = some r → w.cells? 0 (a.add (i * sz)) sz = some r) ∧ ∀ r ∈ rows, Q r := by
      intro l
      induction l with
      | zero => intro _; exact ⟨[], rfl, by simp, by simp⟩
      | succ l ih =>
        intro hl'
        obtain ⟨rows, r1, r2, r3⟩ := ih (by omega)
        obtain ⟨cs, h1, h2⟩ := each l (by omega)
        refine ⟨rows ++ [cs], by simp [r1], fun i r hr => ?_, fun r hr => ?_⟩
        · rcases Nat.lt_or_ge i rows.length with hi | hi
          · rw [List.getElem?_append_left hi] at hr; exact r2 i r hr
          · rw [List.getElem?_append_right hi] at hr
            have : i - rows.length = 0 := by
              rcases Nat.eq_zero_or_pos (i - rows.length) with h | h
              · exact h
              · rw [List.getElem?_eq_none (by simp; omega)] at hr; cases hr
            rw [this] at hr
            simp at hr; subst hr
            have : i = l := by omega
            subst this; exact h1
        · rcases List.mem_append.1 hr with hr | hr
          · exact r3 r hr
          · simp at hr; subst hr; exact h2
    obtain ⟨rows, r1, r2, r3⟩ := all l0 (Nat.le_refl _)
    have hrl : ∀ r ∈ rows, r.length = sz := fun r hr => by
      obtain ⟨i, hi⟩ := List.getElem?_of_mem hr
      exact (cells_list (r2 i r hi)).1
    refine ⟨some a, rows, c0, by rw [r1], by omega, hm, fun j u hj => ⟨a, rfl, ?_⟩, fun r hr => ⟨hrl r hr, r3 r hr⟩⟩
    rw [flatten_at hs hrl, Option.bind_eq_some_iff] at hj
    obtain ⟨r, h1, h2⟩ := hj
    have h3 := (cells_list (r2 _ r h1)).2 (j % sz) (Nat.mod_lt _ hs)
    rw [add_add, h2] at h3
    rw [← h3]
    congr 2
    have := Nat.div_add_mod j sz
    rw [Nat.mul_comm] at this
    exact this.symm
/-- a struct's fields: their types and places -/
def structIs (P : Program) (t : TypeId) (l : List (TypeId × Nat)) : Bool :=
  match P.underlying t with
  | some (.struct fs) => decide (fs.toList.map (fun f => (f.type, f.offset)) = l)
  | _ => false
theorem struct_of {P : Program} {t : TypeId} {l : List (TypeId × Nat)} (h : structIs P t l = true) : ∃ fs, P.underlying t = some (.struct fs) ∧ fs.toList.map (fun f => (f.type, f.offset)) = l := by
  unfold structIs at h
  split at h
  · rename_i fs e
    exact ⟨fs, e, of_decide_eq_true h⟩
  · cases h
theorem struct2_of {P : Program} {t a b : TypeId} {i j : Nat} (h : structIs P t [(a, i), (b, j)] = true) : ∃ f0 f1, P.underlying t = some (.struct #[f0, f1]) ∧ f0.offset = i ∧ f1.offset = j ∧ f0.type = a ∧ f1.type = b := by
  obtain ⟨fs, h1, h2⟩ := struct_of h
  obtain ⟨l⟩ := fs
  match l, h2 with
  | [f0, f1], h2 =>
    simp at h2
    exact ⟨f0, f1, h1, h2.1.2, h2.2.2, h2.1.1, h2.2.1⟩
theorem struct3_of {P : Program} {t a b c : TypeId} {i j k : Nat} (h : structIs P t [(a, i), (b, j), (c, k)] = true) : ∃ f0 f1 f2, P.underlying t = some (.struct #[f0, f1, f2]) ∧ f0.offset = i ∧ f1.offset = j ∧ f2.offset = k ∧ f0.type = a ∧ f1.type = b ∧ f2.type = c := by
  obtain ⟨fs, h1, h2⟩ := struct_of h
  obtain ⟨l⟩ := fs
  match l, h2 with
  | [f0, f1, f2], h2 =>
    simp at h2
    exact ⟨f0, f1, f2, h1, h2.1.2, h2.2.1.2, h2.2.2.2, h2.1.1, h2.2.1.1, h2.2.2.1⟩
end Go.Sh
namespace Go.Sh
open Go
open Go.ChangeShapes Go.WideShapes Go.ChangeAt Go.WideMaps Go.WideElems Go.RowKit
section
variable {H : Type} {enc : TypeId × Value → H} {P : Program} {w : World}
theorem lits_length (k : IntKind) (l : List Int) : (lits (H := H) k l).length = l.length := by simp [lits]
theorem ints_open {t e : TypeId} {k : IntKind} {n : Nat} {cs : List Value} {x : DataW H × List MemPlace} (ht : P.underlying t = some (.slice e)) (he : P.underlying e = some (.int k)) (hc : P.cellsOf e = 1)
    (h : DataW.trod enc P w 0 (fun _ => true) true n t cs = some x) : ∃ (a : Option Addr) (X : List Int) (c : Nat), cs = [.slice a X.length c] ∧ X.length ≤ c ∧ c ≤ maxLen ∧ (a = none → c = 0) ∧ Rd w a (X.map (Value.int k)) ∧ (∀ x ∈ X, (Lit.int k x).wf = true) ∧ (X = [] ∨ ∃ es sp, x.1 = .slice es sp ∧ X.length ≤ es.length + sp.length) := by
  rcases open_ints ht he hc h with ⟨hcs, hx⟩ | ⟨a, len, cap, zs, hcs, _, hl, hm, hz, hx, hcl, hwz⟩
  · exact ⟨none, [], 0, hcs, Nat.le_refl _, Nat.zero_le _, fun _ => rfl, Rd.nil _ _, by simp, .inl rfl⟩
  · simp only [if_true] at hz
    have hlen : (zs.take len).length = len := by rw [List.length_take]; omega
    refine ⟨some a, zs.take len, cap, by rw [hlen]; exact hcs, by omega, hm, (fun h => by cases h), fun j u hj => ⟨a, rfl, ?_⟩, fun x hx => hwz x (List.mem_of_mem_take hx), .inr ⟨_, _, by rw [hx], by rw [lits_length]; omega⟩⟩
    rw [List.getElem?_map, List.getElem?_take] at hj
    split at hj
    · rename_i hjl
      obtain ⟨x, hx⟩ : ∃ x, zs[j]? = some x := ⟨zs[j]'(by omega), by simp⟩
      rw [hx] at hj
      cases hj
      have := hcl j (by omega)
      rw [List.getD_eq_getElem?_getD, hx] at this
      exact this
    · cases hj
theorem ints_in2 {r : Reach} {b0 : Nat} {t e : TypeId} {k : IntKind} {v : Value} {d : DataW H} {ps : List MemPlace} (ht : P.underlying t = some (.slice e)) (he : P.underlying e = some (.int k)) (hc : P.cellsOf e = 1) (hval : Value.okWide P w r b0 t v)
    (h : DataW.Trod enc P w 0 (fun _ => true) true t v d ps) : ∃ (a : Option Addr) (X : List Int) (c : Nat), v = .slice a X.length c ∧ X.length ≤ c ∧ c ≤ maxLen ∧ (a = none → c = 0) ∧ Rd w a (X.map (Value.int k)) ∧ (∀ x ∈ X, (Lit.int k x).wf = true) ∧ (X = [] ∨ ∃ es sp, d = .slice es sp ∧ X.length ≤ es.length + sp.length) := by
  obtain ⟨fuel, hf⟩ := h
  obtain ⟨a0, l0, c0, rfl⟩ := okWide_slice ht hval
  obtain ⟨a, X, c, h1, h2⟩ := ints_open ht he hc hf
  simp [Value.cells] at h1
  obtain ⟨rfl, rfl, rfl⟩ := h1
  exact ⟨_, X, _, rfl, h2⟩
/-- a struct's fields, each by its reading -/
theorem fld_of {t : TypeId} {l : List (TypeId × Nat)} {n : Nat} {cs : List Value} {x : DataW H × List MemPlace} (hs : structIs P t l = true) (h : DataW.trod enc P w 0 (fun _ => true) true n t cs = some x) :
    ∃ m, ∀ (i : Nat) ty off, l[i]? = some (ty, off) → ∃ y, DataW.trod enc P w 0 (fun _ => true) true m ty ((cs.drop off).take (P.cellsOf ty)) = some y := by
  obtain ⟨fs, hu, hl⟩ := struct_of hs
  obtain ⟨xs, m, _, _, _, hxl, hx⟩ := DataW.trod_struct hu h
  refine ⟨m, fun i ty off hi => ?_⟩
  rw [← hl, List.getElem?_map] at hi
  cases hf : fs.toList[i]? with
  | none => rw [hf] at hi; cases hi
  | some f =>
    rw [hf] at hi
    cases hi
    have hf' : fs[i]? = some f := by rw [← Array.getElem?_toList]; exact hf
    have hlt := (Array.getElem?_eq_some_iff.1 hf').1
    have := hx i f hf'
    obtain ⟨y, hy⟩ : ∃ y, xs[i]? = some y := ⟨xs[i]'(by omega), by simp⟩
    exact ⟨y, by rw [this, hy]⟩
theorem recs_of {α : Type} {f : α → List Value} {ok : α → Prop} : ∀ (rows : List (List Value)), (∀ r ∈ rows, ∃ q, r = f q ∧ ok q) → ∃ l : List α, l.length = rows.length ∧ rows.flatten = l.flatMap f ∧ ∀ q ∈ l, ok q
  | [], _ => ⟨[], rfl, rfl, by simp⟩
  | r :: rows, h => by
    obtain ⟨l, h1, h2, h3⟩ := recs_of rows fun q hq => h q (List.mem_cons_of_mem _ hq)
    obtain ⟨q, rfl, hq⟩ := h r List.mem_cons_self
    refine ⟨q :: l, by simp [h1], by rw [List.flatten_cons, h2]; rfl, fun x hx => ?_⟩
    rcases List.mem_cons.1 hx with rfl | hx
    · exact hq
    · exact h3 x hx
theorem wf_u8 {x : Int} (h : (Lit.int .u8 x).wf = true) : 0 ≤ x ∧ x < 256 := by
  simp [Lit.wf, IntKind.min, IntKind.max, IntKind.signed, IntKind.bits] at h; omega
theorem wf_i64 {x : Int} (h : (Lit.int .i64 x).wf = true) : -9223372036854775808 ≤ x ∧ x ≤ 9223372036854775807 := by
  simp [Lit.wf, IntKind.min, IntKind.max, IntKind.signed, IntKind.bits] at h; omega
end
end Go.Sh
