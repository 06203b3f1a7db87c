/- Own text: part of the shallow reading of the code and of the contracts that are proved over it. -/
import Derived.Test.YtaiofglmcoojbaaScF
import Derived.Test.YtaiofglmcoojbaaShU
namespace Go.Proofs.Ytaiofglmcoojbaa
open Go Go.Sh
/-! views; the plain law of a schedule -/
structure VW where
  st : Int
  sp : Int
  tr : Int
  sh : Bool
instance : Inhabited VW := ⟨⟨0, 0, 0, false⟩⟩
def vwC (v : VW) : List Value := [.int .i64 v.st, .int .i64 v.sp, .int .i64 v.tr, .bool v.sh]
theorem vwC_len (v : VW) : (vwC v).length = 4 := rfl
def inV (xs : List Nat) : List Value := xs.map fun (i : Nat) => Value.int .i64 (i : Int)
theorem inV_length (xs : List Nat) : (inV xs).length = xs.length := by simp [inV]
theorem inV_at {xs : List Nat} {j x : Nat} (h : xs[j]? = some x) : (inV xs)[j]? = some (.int .i64 (x : Int)) := by simp [inV, h]
theorem inV_snoc (xs : List Nat) (x : Nat) : inV (xs ++ [x]) = inV xs ++ [.int .i64 (x : Int)] := by simp [inV]
def gv (vs : List VW) (i : Nat) : VW := vs.getD i default
theorem gv_at {vs : List VW} {i : Nat} (h : i < vs.length) : vs[i]? = some (gv vs i) := by simp [gv, h]
def okV (v : VW) : Bool := decide (1 ≤ v.st) && decide (v.st ≤ 3) && decide (0 ≤ v.sp) && decide (v.sp ≤ 1073741824) && decide (0 ≤ v.tr) && decide (v.tr ≤ 1048576)
def chk (vs : List VW) : Int := if vs.length = 0 ∨ 8 < vs.length then 3 else if vs.all okV then 0 else 1
def ofS (vs : List VW) (s : Int) : List Nat := (List.range vs.length).filter fun i => decide ((gv vs i).st = s)
def isFit (vs : List VW) (i : Nat) : Bool := decide (0 < (gv vs i).sp) && (gv vs i).sh
def cls (vs : List VW) : List Nat := if (ofS vs 1).length > 0 then ofS vs 1 else if (ofS vs 2).length > 0 then ofS vs 2 else ofS vs 3
def fit (vs : List VW) : List Nat := (cls vs).filter (isFit vs)
def lt (kind last : Int) (vs : List VW) (i k : Nat) : Bool :=
  if kind = 1 then (if (gv vs i).tr ≠ (gv vs k).tr then decide ((gv vs i).tr < (gv vs k).tr) else decide (i < k))
  else if kind = 2 then (if (gv vs i).sp ≠ (gv vs k).sp then decide ((gv vs i).sp > (gv vs k).sp) else decide (i < k))
  else if 0 ≤ last ∧ last < (vs.length : Int) ∧ (decide ((i : Int) > last)) ≠ (decide ((k : Int) > last)) then decide ((i : Int) > last) else decide (i < k)
/-! the order is strict and total -/
theorem lt_irr {kind last : Int} {vs : List VW} {i k : Nat} (h : lt kind last vs i k = true) : lt kind last vs k i = false := by
  unfold lt at *
  split at h
  · rename_i h1; simp only [h1, if_true]
    split at h
    · rename_i h2; rw [if_pos (fun e => h2 e.symm)]; simp only [decide_eq_true_eq, decide_eq_false_iff_not] at *; omega
    · rename_i h2; rw [if_neg (fun e => h2 (fun e' => e e'.symm))]; simp only [decide_eq_true_eq, decide_eq_false_iff_not] at *; omega
  · rename_i h1; simp only [h1, if_false]
    split at h
    · rename_i h2; simp only [h2, if_true]
      split at h
      · rename_i h3; rw [if_pos (fun e => h3 e.symm)]; simp only [decide_eq_true_eq, decide_eq_false_iff_not] at *; omega
      · rename_i h3; rw [if_neg (fun e => h3 (fun e' => e e'.symm))]; simp only [decide_eq_true_eq, decide_eq_false_iff_not] at *; omega
    · rename_i h2; simp only [h2, if_false]
      split at h
      · rename_i h3
        rw [if_pos ⟨h3.1, h3.2.1, fun e => h3.2.2 e.symm⟩]
        simp only [decide_eq_true_eq, decide_eq_false_iff_not, ne_eq, decide_eq_decide] at *; omega
      · rename_i h3
        rw [if_neg (fun e => h3 ⟨e.1, e.2.1, fun e' => e.2.2 e'.symm⟩)]
        simp only [decide_eq_true_eq, decide_eq_false_iff_not] at *; omega
theorem lt_tot {kind last : Int} {vs : List VW} {i k : Nat} (hne : i ≠ k) (h : lt kind last vs i k = false) : lt kind last vs k i = true := by
  unfold lt at *
  split at h
  · rename_i h1; simp only [h1, if_true]
    split at h
    · rename_i h2; rw [if_pos (fun e => h2 e.symm)]; simp only [decide_eq_true_eq, decide_eq_false_iff_not] at *; omega
    · rename_i h2; rw [if_neg (fun e => h2 (fun e' => e e'.symm))]; simp only [decide_eq_true_eq, decide_eq_false_iff_not] at *; omega
  · rename_i h1; simp only [h1, if_false]
    split at h
    · rename_i h2; simp only [h2, if_true]
      split at h
      · rename_i h3; rw [if_pos (fun e => h3 e.symm)]; simp only [decide_eq_true_eq, decide_eq_false_iff_not] at *; omega
      · rename_i h3; rw [if_neg (fun e => h3 (fun e' => e e'.symm))]; simp only [decide_eq_true_eq, decide_eq_false_iff_not] at *; omega
    · rename_i h2; simp only [h2, if_false]
      split at h
      · rename_i h3
        rw [if_pos ⟨h3.1, h3.2.1, fun e => h3.2.2 e.symm⟩]
        simp only [decide_eq_true_eq, decide_eq_false_iff_not, ne_eq, decide_eq_decide] at *; omega
      · rename_i h3
        rw [if_neg (fun e => h3 ⟨e.1, e.2.1, fun e' => e.2.2 e'.symm⟩)]
        simp only [decide_eq_true_eq, decide_eq_false_iff_not] at *; omega
theorem lt_trans {kind last : Int} {vs : List VW} {i j k : Nat} (h1 : lt kind last vs i j = true) (h2 : lt kind last vs j k = true) : lt kind last vs i k = true := by
  unfold lt at *
  by_cases c1 : kind = 1
  · simp only [c1, if_true] at *
    split at h1 <;> split at h2 <;> split <;> simp only [decide_eq_true_eq] at * <;> omega
  · simp only [c1, if_false] at *
    by_cases c2 : kind = 2
    · simp only [c2, if_true] at *
      split at h1 <;> split at h2 <;> split <;> simp only [decide_eq_true_eq] at * <;> omega
    · simp only [c2, if_false] at *
      split at h1 <;> split at h2 <;> split <;> simp only [decide_eq_true_eq, ne_eq, decide_eq_decide, not_and] at * <;> omega
/-! sorting by insertion, from either side -/
section
variable {f : Nat → Nat → Bool}
def insR (f : Nat → Nat → Bool) (x : Nat) : List Nat → List Nat
  | [] => [x]
  | a :: r => if f x a then a :: insR f x r else x :: a :: r
def insL (f : Nat → Nat → Bool) (x : Nat) (l : List Nat) : List Nat := l.takeWhile (fun a => f a x) ++ x :: l.dropWhile (fun a => f a x)
def isort (f : Nat → Nat → Bool) (xs : List Nat) : List Nat := (xs.foldl (fun r x => insR f x r) []).reverse
structure Strict (f : Nat → Nat → Bool) : Prop where
  irr : ∀ i k, f i k = true → f k i = false
  tot : ∀ i k, i ≠ k → f i k = false → f k i = true
  tr : ∀ i j k, f i j = true → f j k = true → f i k = true
theorem strict (kind last : Int) (vs : List VW) : Strict (lt kind last vs) := ⟨fun _ _ h => lt_irr h, fun _ _ hn h => lt_tot hn h, fun _ _ _ h h' => lt_trans h h'⟩
theorem mem_insR {x y : Nat} : ∀ {r : List Nat}, y ∈ insR f x r ↔ y = x ∨ y ∈ r
  | [] => by simp [insR]
  | a :: r => by
    unfold insR
    split
    · rw [List.mem_cons, mem_insR, List.mem_cons]; constructor
      · rintro (h | h | h) <;> simp [h]
      · rintro (h | h | h) <;> simp [h]
    · simp
theorem desc_insR (S : Strict f) {x : Nat} : ∀ {r : List Nat}, x ∉ r → r.Pairwise (fun a b => f b a = true) → (insR f x r).Pairwise (fun a b => f b a = true)
  | [], _, _ => by simp [insR]
  | a :: r, hx, h => by
    simp only [List.mem_cons, not_or] at hx
    rw [List.pairwise_cons] at h
    unfold insR
    split
    · rename_i hxa
      rw [List.pairwise_cons]
      refine ⟨fun b hb => ?_, desc_insR S hx.2 h.2⟩
      rcases mem_insR.1 hb with rfl | hb
      · exact hxa
      · exact h.1 b hb
    · rename_i hxa
      have hax := S.tot x a hx.1 (by simpa using hxa)
      rw [List.pairwise_cons]
      refine ⟨fun b hb => ?_, List.pairwise_cons.2 h⟩
      rcases List.mem_cons.1 hb with rfl | hb
      · exact hax
      · exact S.tr b a x (h.1 b hb) hax
theorem takeWhile_snoc {α : Type} {p : α → Bool} {a : α} (ha : p a = false) : ∀ (l : List α), (l ++ [a]).takeWhile p = l.takeWhile p ∧ (l ++ [a]).dropWhile p = l.dropWhile p ++ [a]
  | [] => by simp [ha]
  | b :: l => by
    have ih := takeWhile_snoc ha l
    rw [List.cons_append, List.takeWhile_cons, List.takeWhile_cons, List.dropWhile_cons, List.dropWhile_cons]
    cases p b
    · simp
    · simp [ih.1, ih.2]
theorem takeWhile_all {α : Type} {p : α → Bool} : ∀ {l : List α}, (∀ a ∈ l, p a = true) → l.takeWhile p = l ∧ l.dropWhile p = []
  | [], _ => by simp
  | b :: l, h => by
    have ih := takeWhile_all (p := p) (l := l) fun a ha => h a (List.mem_cons_of_mem _ ha)
    rw [List.takeWhile_cons, List.dropWhile_cons, h b (by simp)]
    simp [ih.1, ih.2]
theorem ins_eq (S : Strict f) {x : Nat} : ∀ {r : List Nat}, x ∉ r → r.Pairwise (fun a b => f b a = true) → (insR f x r).reverse = insL f x r.reverse
  | [], _, _ => by simp [insR, insL]
  | a :: r, hx, h => by
    simp only [List.mem_cons, not_or] at hx
    rw [List.pairwise_cons] at h
    unfold insR
    split
    · rename_i hxa
      have hax := S.irr x a hxa
      rw [List.reverse_cons, List.reverse_cons, ins_eq S hx.2 h.2]
      unfold insL
      obtain ⟨e1, e2⟩ := takeWhile_snoc (p := fun a => f a x) hax r.reverse
      rw [e1, e2]
      simp
    · rename_i hxa
      have hax := S.tot x a hx.1 (by simpa using hxa)
      unfold insL
      obtain ⟨e1, e2⟩ := takeWhile_all (p := fun a => f a x) (l := (a :: r).reverse) fun b hb => by
        rw [List.mem_reverse] at hb
        rcases List.mem_cons.1 hb with rfl | hb
        · exact hax
        · exact S.tr b a x (h.1 b hb) hax
      rw [e1, e2]
      simp
theorem fold_ins (S : Strict f) : ∀ (xs r : List Nat), (∀ x ∈ xs, x ∉ r) → xs.Nodup → r.Pairwise (fun a b => f b a = true) → (xs.foldl (fun r x => insR f x r) r).reverse = xs.foldl (fun l x => insL f x l) r.reverse ∧ (xs.foldl (fun r x => insR f x r) r).Pairwise (fun a b => f b a = true) ∧ ∀ y, y ∈ xs.foldl (fun r x => insR f x r) r ↔ y ∈ xs ∨ y ∈ r
  | [], r, _, _, h => ⟨rfl, h, fun y => by simp⟩
  | x :: xs, r, hd, hn, h => by
    rw [List.nodup_cons] at hn
    have hx := hd x (by simp)
    rw [List.foldl_cons, List.foldl_cons, ← ins_eq S hx h]
    obtain ⟨h1, h2, h3⟩ := fold_ins S xs (insR f x r) (fun y hy hm => by
      rcases mem_insR.1 hm with rfl | hm
      · exact hn.1 hy
      · exact hd y (List.mem_cons_of_mem _ hy) hm) hn.2 (desc_insR S hx h)
    refine ⟨h1, h2, fun y => ?_⟩
    rw [h3, mem_insR, List.mem_cons]
    constructor
    · rintro (h | h | h) <;> simp [h]
    · rintro ((h | h) | h) <;> simp [h]
theorem isort_eq (S : Strict f) {xs : List Nat} (hn : xs.Nodup) : isort f xs = xs.foldl (fun l x => insL f x l) [] := (fold_ins S xs [] (by simp) hn List.Pairwise.nil).1
theorem mem_isort (S : Strict f) {xs : List Nat} (hn : xs.Nodup) {y : Nat} : y ∈ isort f xs ↔ y ∈ xs := by
  unfold isort
  rw [List.mem_reverse, (fold_ins S xs [] (by simp) hn List.Pairwise.nil).2.2]
  simp
theorem sorted_isort (S : Strict f) {xs : List Nat} (hn : xs.Nodup) : (isort f xs).Pairwise (fun a b => f a b = true) := by
  unfold isort
  rw [List.pairwise_reverse]
  exact (fold_ins S xs [] (by simp) hn List.Pairwise.nil).2.1
theorem len_insR {x : Nat} : ∀ {r : List Nat}, (insR f x r).length = r.length + 1
  | [] => rfl
  | a :: r => by
    unfold insR
    split
    · rw [List.length_cons, len_insR, List.length_cons]
    · rfl
theorem len_fold : ∀ (xs r : List Nat), (xs.foldl (fun r x => insR f x r) r).length = xs.length + r.length
  | [], r => by simp
  | x :: xs, r => by rw [List.foldl_cons, len_fold, len_insR, List.length_cons]; omega
theorem len_isort {xs : List Nat} : (isort f xs).length = xs.length := by unfold isort; rw [List.length_reverse, len_fold]; simp
/-- the first one -/
theorem head_isort (S : Strict f) {xs : List Nat} (hn : xs.Nodup) {x : Nat} (h : (isort f xs)[0]? = some x) : x ∈ xs ∧ ∀ y ∈ xs, y ≠ x → f x y = true := by
  have hs := sorted_isort S hn
  cases e : isort f xs with
  | nil => rw [e] at h; simp at h
  | cons a r =>
    rw [e] at h hs
    simp at h; subst h
    rw [List.pairwise_cons] at hs
    refine ⟨(mem_isort S hn).1 (by rw [e]; simp), fun y hy hne => ?_⟩
    have := (mem_isort S hn).2 hy
    rw [e] at this
    rcases List.mem_cons.1 this with rfl | this
    · exact absurd rfl hne
    · exact hs.1 y this
end
theorem ofS_nodup (vs : List VW) (s : Int) : (ofS vs s).Nodup := List.nodup_range.filter _
theorem cls_nodup (vs : List VW) : (cls vs).Nodup := by
  unfold cls
  split
  · exact ofS_nodup vs 1
  · split
    · exact ofS_nodup vs 2
    · exact ofS_nodup vs 3
theorem fit_nodup (vs : List VW) : (fit vs).Nodup := (cls_nodup vs).filter _
theorem ofS_lt {vs : List VW} {s : Int} {i : Nat} (h : i ∈ ofS vs s) : i < vs.length ∧ (gv vs i).st = s := by
  unfold ofS at h
  rw [List.mem_filter] at h
  exact ⟨List.mem_range.1 h.1, by simpa using h.2⟩
theorem cls_lt {vs : List VW} {i : Nat} (h : i ∈ cls vs) : i < vs.length := by
  unfold cls at h
  split at h
  · exact (ofS_lt h).1
  · split at h <;> exact (ofS_lt h).1
theorem fit_lt {vs : List VW} {i : Nat} (h : i ∈ fit vs) : i < vs.length ∧ isFit vs i = true := by
  unfold fit at h
  rw [List.mem_filter] at h
  exact ⟨cls_lt h.1, h.2⟩
theorem ofS_len (vs : List VW) (s : Int) : (ofS vs s).length ≤ vs.length := by
  unfold ofS
  exact Nat.le_trans (List.length_filter_le _ _) (by simp)
theorem cls_len (vs : List VW) : (cls vs).length ≤ vs.length := by
  unfold cls
  split
  · exact ofS_len vs 1
  · split <;> exact ofS_len vs _
theorem fit_len (vs : List VW) : (fit vs).length ≤ vs.length := Nat.le_trans (List.length_filter_le _ _) (cls_len vs)
def order (kind last : Int) (vs : List VW) : List Nat := isort (lt kind last vs) (fit vs)
def ordE (kind : Int) (vs : List VW) : Int := if chk vs ≠ 0 then chk vs else if 0 ≤ kind ∧ kind ≤ 2 then 0 else 5
def ordL (kind last : Int) (vs : List VW) : List Nat := if ordE kind vs = 0 then order kind last vs else []
end Go.Proofs.Ytaiofglmcoojbaa
