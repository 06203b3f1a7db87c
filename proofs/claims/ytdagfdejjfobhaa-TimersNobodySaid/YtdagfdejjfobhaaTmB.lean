/-
  Timers: their order; what lies in a heap; the heap's methods.
-/
import Derived.Test.YtdagfdejjfobhaaTmF
import Derived.Test.YtdagfdejjfobhaaTmA
import Derived.Test.YtdagfdejjfobhaaShMr
import Derived.Test.YtdagfdejjfobhaaShP
import Derived.Test.YtdagfdejjfobhaaShV
namespace Go.Proofs.Ytdagfdejjfobhaa
open Go Go.Sh Go.Tm
set_option maxRecDepth 100000
noncomputable def E22i : TypeInfo := (Try.prog.info? 30).getD default
theorem E22 : ElemT Try.prog 22 30 2 16 (.agg #[.int .i64 0, .int .i64 0]) E22i := ⟨by kernel_rfl, by kernel_rfl, by kernel_rfl, by kernel_rfl, by kernel_rfl, rfl, by decide⟩
theorem u3 : Try.prog.underlying 3 = some (.int .i64) := by kernel_rfl
theorem u51 : Try.prog.underlying 51 = some (.map 3 3) := by kernel_rfl
theorem z3v : (Try.prog.info? 3).bind (·.zero) = some (.int .i64 0) := by kernel_rfl
theorem m_len (p : Value) (w : World) : Sem.run Try.prog (callMethod (.iface 63 p) "Len" #[]) w = .ok (.enter 25 #[p]) w := by kernel_rfl
theorem m_less (p x y : Value) (w : World) : Sem.run Try.prog (callMethod (.iface 63 p) "Less" #[x, y]) w = .ok (.enter 77 #[p, x, y]) w := by kernel_rfl
theorem m_swap (p x y : Value) (w : World) : Sem.run Try.prog (callMethod (.iface 63 p) "Swap" #[x, y]) w = .ok (.enter 80 #[p, x, y]) w := by kernel_rfl
theorem m_push (p x : Value) (w : World) : Sem.run Try.prog (callMethod (.iface 63 p) "Push" #[x]) w = .ok (.enter 79 #[p, x]) w := by kernel_rfl
theorem m_pop (p : Value) (w : World) : Sem.run Try.prog (callMethod (.iface 63 p) "Pop" #[]) w = .ok (.enter 78 #[p]) w := by kernel_rfl
theorem t_due (v : Value) (w : World) : Sem.run Try.prog (Instr.typeAssert (.iface 30 v) 20 30 false) w = .ok v w := by kernel_rfl
/-- a timer's two cells -/
def du (d : Du) : List Value := [.int .i64 d.1, .int .i64 d.2]
theorem du_len (d : Du) : (du d).length = 2 := rfl
def duV (l : List Du) : List Value := l.flatMap du
theorem duV_length (l : List Du) : (duV l).length = l.length * 2 := flat_length du_len l
/-- the first n of a function -/
def fl (n : Nat) (h : Nat → Du) : List Du := (List.range n).map h
theorem fl_length (n : Nat) (h : Nat → Du) : (fl n h).length = n := by simp [fl]
theorem fl_at {n p : Nat} {h : Nat → Du} (hp : p < n) : (fl n h)[p]? = some (h p) := by simp [fl, hp]
theorem fl_congr {n : Nat} {h g : Nat → Du} (he : ∀ k < n, h k = g k) : fl n h = fl n g := List.map_congr_left fun p hp => he p (by simpa using hp)
theorem fl_set {n p : Nat} {h : Nat → Du} {x : Du} (hp : p < n) : (fl n h).set p x = fl n fun k => if k = p then x else h k := by
  apply List.ext_getElem?
  intro k
  rw [List.getElem?_set]
  by_cases hk : k < n
  · rw [fl_at hk]
    by_cases hpk : p = k
    · subst hpk; simp [fl, hk]
    · rw [if_neg hpk, fl_at hk, if_neg (fun e => hpk e.symm)]
  · rw [List.getElem?_eq_none (by simp [fl]; omega), List.getElem?_eq_none (by simp [fl]; omega)]
    split
    · rw [if_neg (by simp [fl]; omega)]
    · rfl
theorem fl_sw {n i j : Nat} {h : Nat → Du} (hi : i < n) (hj : j < n) : ((fl n h).set i (h j)).set j (h i) = fl n (swF h i j) := by
  rw [fl_set hi, fl_set hj]
  refine fl_congr fun k _ => ?_
  unfold swF
  by_cases h1 : k = j
  · subst h1
    by_cases h2 : k = i
    · subst h2; simp
    · simp [h2]
  · simp [h1]
theorem fl_succ (n : Nat) (h : Nat → Du) : fl (n + 1) h = fl n h ++ [h n] := by
  unfold fl
  rw [List.range_succ, List.map_append]
  rfl
theorem duV_snoc (l : List Du) (d : Du) : duV (l ++ [d]) = duV l ++ du d := by unfold duV; simp
theorem duV_take (l : List Du) (n : Nat) : (duV l).take (n * 2) = duV (l.take n) := flat_take du_len l n
theorem fl_take {n m : Nat} {h : Nat → Du} (hm : m ≤ n) : (fl n h).take m = fl m h := by
  unfold fl
  rw [← List.map_take]
  congr 1
  apply List.ext_getElem?
  intro k
  rw [List.getElem?_take]
  by_cases hk : k < m
  · rw [if_pos hk]; simp [hk, Nat.lt_of_lt_of_le hk hm]
  · rw [if_neg hk, List.getElem?_eq_none (by simp; omega)]
theorem du_at {l : List Du} {p j : Nat} {d : Du} {v : Value} (h : l[p]? = some d) (hv : (du d)[j]? = some v) : (duV l)[p * 2 + j]? = some v := flat_at du_len h hv
theorem du_one (d : Du) : ∀ u ∈ du d, u.oneCell' = true := by
  intro u hu
  simp [du] at hu
  rcases hu with rfl | rfl <;> rfl
theorem duV_one (l : List Du) : ∀ u ∈ duV l, u.oneCell' = true := by
  intro u hu
  obtain ⟨d, _, h⟩ := List.mem_flatMap.1 hu
  exact du_one d u h
/-! the order -/
def cmpI (a b : Int) : Int := if a < b then -1 else if a > b then 1 else 0
def ordI (a b : Du) : Int := if cmpI a.2 b.2 ≠ 0 then cmpI a.2 b.2 else cmpI a.1 b.1
theorem ordI_lt (a b : Du) : decide (ordI a b < 0) = decide (lt a b) := by
  unfold ordI cmpI lt
  congr 1
  apply propext
  split <;> split <;> (try split) <;> (try split) <;> omega
section
variable {W w : World} {L M : List HP}
theorem c42 (a : Int) (w : World) : Calls Try.prog 42 #[.int .i64 a] w (rt (KR (.bool false) w)) := by
  refine F42_ok ?_
  unfold F42
  simp only [rdI_mk]
  exact ⟨by simp, rfl⟩
theorem c37 (a b : Int) (w : World) : Calls Try.prog 37 #[.int .i64 a, .int .i64 b] w (rt (KR (.int .i64 (cmpI a b)) w)) := by
  refine F37_ok ?_
  unfold F37
  simp only [rdI_mk]
  refine clr (c42 a w) ⟨_, rfl, ?_⟩
  refine clr (c42 b w) ⟨_, rfl, ?_⟩
  rw [br_false, br_false, br_dec]
  refine ⟨fun h => ⟨by unfold cmpI; rw [if_pos h], rfl⟩, fun h => ?_⟩
  rw [br_dec]
  exact ⟨fun h2 => ⟨by unfold cmpI; rw [if_neg h, if_pos h2], rfl⟩, fun h2 => ⟨by unfold cmpI; rw [if_neg h, if_neg h2], rfl⟩⟩
theorem c36 {b : Nat} {x y : Int} (hb : w.heap[b]? = some (.cells #[.int .i64 x, .int .i64 y] 3 (0, 0))) : Calls Try.prog 36 #[.slice (some ⟨b, 0, none⟩) 2 2] w (rt (KR (.int .i64 (if x ≠ 0 then x else y)) w)) := by
  refine F36_ok ?_
  unfold F36
  simp only [rdC_mk]
  refine ⟨3, ?_⟩
  show F36_1B _ _ _ _ _ _ _ _
  unfold F36_1B
  simp only [rdI_mk, rdC_mk]
  rw [br_dec]
  refine ⟨fun _ => ?_, fun h => by exfalso; exact h (by decide)⟩
  refine ixS_to (p := 0) rfl (by omega) (ldI_at hb rfl ?_)
  rw [br_iff]
  refine ⟨fun hx => ?_, fun hx => ?_⟩
  · intro _g
    have hx : x ≠ 0 := by simpa using hx
    refine ⟨by rw [if_pos hx], rfl⟩
  have hx : x = 0 := by simpa using hx
  rw [if_neg (by omega)]
  show F36_1B _ _ _ _ _ _ _ _
  unfold F36_1B
  simp only [rdI_mk, rdC_mk]
  rw [br_dec]
  refine ⟨fun _ => ?_, fun h => by exfalso; exact h (by decide)⟩
  refine ixS_to (p := 1) rfl (by omega) (ldI_at hb rfl ?_)
  rw [br_iff]
  refine ⟨fun hy => ?_, fun hy => ?_⟩
  · intro _g
    exact ⟨rfl, rfl⟩
  have hy : y = 0 := by simpa using hy
  show F36_1B _ _ _ _ _ _ _ _
  unfold F36_1B
  simp only [rdI_mk, rdC_mk]
  rw [br_dec]
  refine ⟨fun h => by exfalso; revert h; decide, fun _ => ?_⟩
  intro _g
  exact ⟨by rw [hy], rfl⟩
theorem c21 (a b : Du) (h : Hs W L w) : Calls Try.prog 21 #[.agg #[.int .i64 a.1, .int .i64 a.2], .agg #[.int .i64 b.1, .int .i64 b.2]] w (rt fun v w' => v = .int .i64 (ordI a b) ∧ Hs W L w') := by
  refine F21_ok ?_
  unfold F21
  refine ⟨a.1, a.2, rfl, b.1, b.2, rfl, ?_⟩
  refine h.alc fun b5 w1 h1 => h1.alc fun b7 w2 h2 => h2.drw fun w3 h3 => ⟨w3, Pres.refl _, ?_⟩
  simp only [add_mk]
  refine h3.ldI 1 rfl rfl (h3.ldI 0 rfl rfl (h3.ldI 1 rfl rfl (h3.ldI 0 rfl rfl ?_)))
  refine clr (c37 _ _ w3) ⟨_, rfl, Pres.refl _, ?_⟩
  refine clr (c37 _ _ w3) ⟨_, rfl, ?_⟩
  refine h3.alc fun b21 w4 h4 => ?_
  refine clr (c36 (h4.at 0 rfl)) ⟨_, rfl, ?_⟩
  exact ⟨rfl, h4.drop.drop.drop⟩
theorem c20 (a b : Du) (h : Hs W L w) : Calls Try.prog 20 #[.agg #[.int .i64 a.1, .int .i64 a.2], .agg #[.int .i64 b.1, .int .i64 b.2]] w (rt fun v w' => v = .bool (decide (lt a b)) ∧ Hs W L w') := by
  refine F20_ok ?_
  unfold F20
  refine ⟨a.1, a.2, rfl, b.1, b.2, rfl, ?_⟩
  refine h.alc fun b5 w1 h1 => h1.alc fun b7 w2 h2 => ?_
  simp only [add_mk]
  refine h2.ldI 1 rfl rfl (h2.ldI 1 rfl rfl (h2.ldI 0 rfl rfl (h2.ldI 0 rfl rfl ?_)))
  refine cl (c21 a b h2) ?_
  rintro _ w3 ⟨rfl, h3⟩
  exact ⟨_, rfl, by rw [ordI_lt], h3.drop.drop⟩
/-! the heap's methods -/
/-- the table's block, the heap's slice -/
def hpL (tb : Nat) (la : Option Addr) (lc m n : Nat) (h : Nat → Du) (last : Int) : List HP :=
  [pt tb (.cells #[.slice la n lc, .func (.func 20) #[] #[], .map (some m), .int .i64 last] 53 (0, 0)), slP 30 2 la n lc (duV (fl n h))]
variable {tb lc m n : Nat} {la : Option Addr} {h : Nat → Du} {last : Int}
theorem c25 (hs : Hs W (hpL tb la lc m n h last ++ L) w) : Calls Try.prog 25 #[.pointer (some ⟨tb, 0, none⟩)] w (rt (KR (.int .i64 (n : Int)) w)) := by
  refine F25_ok ?_
  unfold F25
  simp only [rdP_mk, nn_some, add_mk]
  exact hs.ldC 0 rfl rfl ⟨rfl, rfl⟩
theorem c77 (hs : Hs W (hpL tb la lc m n h last ++ L) w) {i j : Nat} (hi : i < n) (hj : j < n) :
    Calls Try.prog 77 #[.pointer (some ⟨tb, 0, none⟩), .int .i64 (i : Int), .int .i64 (j : Int)] w (rt fun v w' => v = .bool (decide (lt (h i) (h j))) ∧ Hs W (hpL tb la lc m n h last ++ L) w') := by
  refine F77_ok ?_
  unfold F77
  simp only [rdP_mk, rdI_mk]
  refine hs.drw fun w1 h1 => ?_
  simp only [nn_some, add_mk]
  refine ldV_at (h1.at 0 rfl) rfl (h1.ldC 0 rfl rfl ?_)
  have hr : Rd w1 la (duV (fl n h)) := h1.rd 1 rfl
  obtain ⟨ad, rfl⟩ := hr.some (by rw [duV_length, fl_length]; omega)
  refine ixS_to (p := i) rfl hi ?_
  simp only [add_add]
  refine ldI_c (hr.at (u := .int .i64 (h i).1) (du_at (fl_at hi) rfl)) (ldI_c (hr.at (u := .int .i64 (h i).2) (du_at (fl_at hi) rfl)) ?_)
  refine h1.ldC 0 rfl rfl ?_
  refine ixS_to (p := j) rfl hj ?_
  simp only [add_add]
  refine ldI_c (hr.at (u := .int .i64 (h j).1) (du_at (fl_at hj) rfl)) (ldI_c (hr.at (u := .int .i64 (h j).2) (du_at (fl_at hj) rfl)) ?_)
  refine callV_of (by kernel_rfl) (call_of (c20 (h i) (h j) h1) ?_)
  rintro _ w2 ⟨v, rfl, rfl, h2⟩
  exact ⟨_, rfl, _, rfl, rfl, h2⟩
theorem c80 (hs : Hs W (hpL tb la lc m n h last ++ L) w) {i j : Nat} (hi : i < n) (hj : j < n) :
    Calls Try.prog 80 #[.pointer (some ⟨tb, 0, none⟩), .int .i64 (i : Int), .int .i64 (j : Int)] w (rt fun v w' => v = .tuple #[] ∧ Hs W (hpL tb la lc m n (swF h i j) last ++ L) w') := by
  refine F80_ok ?_
  unfold F80
  simp only [rdP_mk, rdI_mk]
  refine hs.drw fun w1 h1 => ?_
  simp only [nn_some, add_mk]
  refine h1.ldC 0 rfl rfl (h1.ldC 0 rfl rfl (h1.ldC 0 rfl rfl ?_))
  have hr : Rd w1 la (duV (fl n h)) := h1.rd 1 rfl
  obtain ⟨ad, rfl⟩ := hr.some (by rw [duV_length, fl_length]; omega)
  refine ixS_to (p := j) rfl hj ?_
  simp only [add_add]
  refine ldI_c (hr.at (u := .int .i64 (h j).1) (du_at (fl_at hj) rfl)) (ldI_c (hr.at (u := .int .i64 (h j).2) (du_at (fl_at hj) rfl)) ?_)
  refine h1.ldC 0 rfl rfl ?_
  refine ixS_to (p := i) rfl hi ?_
  simp only [add_add]
  refine ldI_c (hr.at (u := .int .i64 (h i).1) (du_at (fl_at hi) rfl)) (ldI_c (hr.at (u := .int .i64 (h i).2) (du_at (fl_at hi) rfl)) ?_)
  refine ixS_to (p := i) rfl hi ?_
  simp only [add_add]
  have two : ∀ {w : World} {g : Nat → Du} {p : Nat} {x : Du} {K : World → Prop}, p < n → Hs W (hpL tb (some ad) lc m n g last ++ L) w → (∀ w', Hs W (hpL tb (some ad) lc m n (fun k => if k = p then x else g k) last ++ L) w' → K w') →
      stc (ad.add (p * 2 + 0)) (.int .i64 x.1) w fun w2 => stc (ad.add (p * 2 + 1)) (.int .i64 x.2) w2 K := by
    intro w g p x K hp hs hK
    refine hs.put 1 rfl (by rw [duV_length, fl_length]; omega) fun w2 h2 => ?_
    refine h2.put 1 rfl (by rw [List.length_set, duV_length, fl_length]; omega) fun w3 h3 => hK w3 ?_
    refine h3.cast ?_
    show _ :: slP 30 2 (some ad) n lc (((duV (fl n g)).set (p * 2 + 0) (.int .i64 x.1)).set (p * 2 + 1) (.int .i64 x.2)) :: L = _ :: slP 30 2 (some ad) n lc (duV (fl n fun k => if k = p then x else g k)) :: L
    rw [← fl_set hp]
    have e1 : (duV (fl n g)).set (p * 2 + 0) (.int .i64 x.1) = duV ((fl n g).set p (x.1, (g p).2)) := (flat_set du_len (fl_at hp) (by omega) rfl).symm
    have e2 : (duV ((fl n g).set p (x.1, (g p).2))).set (p * 2 + 1) (.int .i64 x.2) = duV (((fl n g).set p (x.1, (g p).2)).set p x) := (flat_set du_len (a := (x.1, (g p).2)) (by rw [List.getElem?_set_self (by rw [fl_length]; exact hp)]) (by omega) rfl).symm
    rw [e1, e2, List.set_set]
  refine two (x := h j) hi h1 fun w2 h2 => ?_
  refine ixS_to (p := j) rfl hj ?_
  simp only [add_add]
  refine two (x := h i) hj h2 fun w3 h3 => ⟨trivial, ?_⟩
  refine h3.cast ?_
  unfold hpL
  rw [← fl_sw hi hj, fl_set hi, fl_set hj]
/-- an element more -/
theorem c79 (hs : Hs W (hpL tb la lc m n h last ++ L) w) (hn : n ≤ 1000000) (x : Du) :
    Calls Try.prog 79 #[.pointer (some ⟨tb, 0, none⟩), .iface 30 (.agg #[.int .i64 x.1, .int .i64 x.2])] w (rt fun v w' => v = .tuple #[] ∧ ∃ la lc, Hs W (hpL tb la lc m (n + 1) (fun k => if k = n then x else h k) last ++ L) w') := by
  refine F79_ok ?_
  unfold F79
  simp only [rdP_mk]
  refine hs.drw fun w1 h1 => ?_
  simp only [nn_some, add_mk]
  refine h1.ldC 0 rfl rfl ?_
  refine ⟨x.1, x.2, w1, t_due _ w1, Pres.refl _, ?_⟩
  refine ⟨?_, ?_⟩
  · exact Pres.of_Same ((Fr.refl w1).alloc _)
  refine h1.push (ty := 22) E22 1 rfl (news := #[.int .i64 x.1, .int .i64 x.2]) rfl (du_one x) (by omega) (by omega) fun a' c' w2 h2 => ?_
  have h2 : Hs W (pt tb (.cells #[.slice la n lc, .func (.func 20) #[] #[], .map (some m), .int .i64 last] 53 (0, 0)) :: slP 30 2 a' (n + 1) c' (duV (fl n h) ++ du x) :: L) w2 := h2
  refine h2.stc 0 rfl (by simp) fun w3 h3 => ⟨trivial, a', c', ?_⟩
  refine h3.cast ?_
  unfold hpL
  rw [fl_succ, duV_snoc, if_pos rfl]
  rw [show fl n (fun k => if k = n then x else h k) = fl n h from fl_congr fun k hk => if_neg (by omega)]
  rfl
/-- the last one is taken off -/
theorem c78 (hs : Hs W (hpL tb la lc m (n + 1) h last ++ L) w) (hn : n ≤ 1000000) :
    Calls Try.prog 78 #[.pointer (some ⟨tb, 0, none⟩)] w (rt fun v w' => v = .iface 30 (.agg #[.int .i64 (h n).1, .int .i64 (h n).2]) ∧ Hs W (hpL tb la lc m n h last ++ L) w') := by
  refine F78_ok ?_
  unfold F78
  simp only [rdP_mk]
  refine hs.drw fun w1 h1 => ?_
  simp only [nn_some, add_mk]
  refine h1.ldC 0 rfl rfl (h1.ldC 0 rfl rfl ?_)
  have hr : Rd w1 la (duV (fl (n + 1) h)) := h1.rd 1 rfl
  obtain ⟨ad, rfl⟩ := hr.some (by rw [duV_length, fl_length]; omega)
  have e1 : IntKind.wrap .i64 (((n + 1 : Nat) : Int) - 1) = (n : Int) := by rw [wrap_i64 (by omega) (by omega)]; omega
  rw [e1]
  refine ixS_to (p := n) rfl (by omega) ?_
  simp only [add_add]
  refine ldI_c (hr.at (u := .int .i64 (h n).1) (du_at (fl_at (by omega)) rfl)) (ldI_c (hr.at (u := .int .i64 (h n).2) (du_at (fl_at (by omega)) rfl)) ?_)
  refine ⟨Pres.of_Same ((Fr.refl w1).alloc _), ?_⟩
  have h2 := h1.alloc (.cells #[.int .i64 0, .int .i64 0] 30)
  refine h2.stc 0 rfl (by simp) fun w3 h3 => h3.stc 0 rfl (by simp) fun w4 h4 => h4.drw fun w5 h5 => ?_
  obtain ⟨b10, hb10⟩ : ∃ b, b = w1.heap.size := ⟨_, rfl⟩
  rw [← hb10] at h5 ⊢
  have h5 : Hs W (pt b10 (.cells #[.int .i64 (h n).1, .int .i64 (h n).2] 30 (0, 0)) :: (hpL tb (some ad) lc m (n + 1) h last ++ L)) w5 := h5
  refine h5.ldC 1 rfl rfl (h5.ldC 1 rfl rfl ?_)
  rw [e1]
  have hcap : n + 1 ≤ lc := by
    rcases Own.cases (h5.own 2 rfl) with ⟨e, _⟩ | ⟨_, _, _, _, _, hc, _⟩
    · cases e
    · exact hc
  refine slS_hi (by omega) ?_
  have h6 := h5.cut (n := n) 2 rfl (by omega)
  have h6 : Hs W (pt b10 (.cells #[.int .i64 (h n).1, .int .i64 (h n).2] 30 (0, 0)) :: pt tb (.cells #[.slice (some ad) (n + 1) lc, .func (.func 20) #[] #[], .map (some m), .int .i64 last] 53 (0, 0)) :: slP 30 2 (some ad) n lc ((duV (fl (n + 1) h)).take (n * 2)) :: L) w5 := h6
  rw [duV_take, fl_take (by omega)] at h6
  refine h6.stc 1 rfl (by simp) fun w6 h7 => ?_
  refine h7.ldI 0 rfl rfl (h7.ldI 0 rfl rfl ⟨rfl, ?_⟩)
  exact h7.drop
end
end Go.Proofs.Ytdagfdejjfobhaa
