/-
  Go's sort of numbers of 32 bits: the whole (slices.Sort).
-/
import Derived.Test.YtaflmpbeonoilaaRmSe
import Derived.Test.YtaflmpbeonoilaaShMv
namespace Go.Proofs.Ytaflmpbeonoilaa
open Go Go.Sh Go.RowKit Go.Sort
section
variable {W w : World} {L : List HP} {e : TypeId} {a : Addr} {n c : Nat} {d : Array Int}
/-- What a call of pdqsort comes to. -/
def Done (W : World) (L : List HP) (e : TypeId) (a : Addr) (n c : Nat) (a' b : Nat) (d : Array Int) : Value → World → Prop := fun v w' => v = .tuple #[] ∧ ∃ d', PermIn a' b d d' ∧ SortedIn ltInt a' b d' ∧ UN W L e a n c d' w'
/-- What is owed behind a part that is not sorted yet. -/
def Owed (W : World) (L : List HP) (e : TypeId) (a : Addr) (n c : Nat) (K : World → Prop) (a' b : Nat) (d : Array Int) : Prop := ∀ d' w', PermIn a' b d d' → SortedIn ltInt a' b d' → UN W L e a n c d' w' → K w'
theorem Owed.turn {K : World → Prop} {a' b : Nat} {d d1 : Array Int} (h : Owed W L e a n c K a' b d) (hp : PermIn a' b d d1) : Owed W L e a n c K a' b d1 := fun d' w' p s u => h d' w' (permIn_trans _ _ _ _ _ hp p) s u
def Rec (W : World) (L : List HP) (e : TypeId) (a : Addr) (n c : Nat) (lim : Int) (z : Nat) : Prop := ∀ a2 b2 d w, b2 - a2 < z → a2 ≤ b2 → b2 ≤ n → Below ltInt a2 b2 d → UN W L e a n c d w → Calls Try.prog 59 #[.slice (some a) n c, .int .i64 (a2 : Int), .int .i64 (b2 : Int), .int .i64 lim] w (rt (Done W L e a n c a2 b2 d))
theorem st1 {K : World → Prop} {Kn : Value → Value → Value → Value → Value → Value → World → Prop} {a' b p : Nat} {lim len : Int} (hrec : Rec W L e a n c lim (b - a')) (h : UN W L e a n c d w) (hp1 : a' ≤ p) (hp2 : p < b) (hb : b ≤ n) (hB : Below ltInt a' b d) (ho : Owed W L e a n c K a' b d)
    (hn : ∀ a2 b2 bal prt d4 w4, b2 - a2 < b - a' → a2 ≤ b2 → b2 ≤ n → UN W L e a n c d4 w4 → Below ltInt a2 b2 d4 → Owed W L e a n c K a2 b2 d4 → Kn (.slice (some a) n c) (.int .i64 (a2 : Int)) (.int .i64 (b2 : Int)) (.int .i64 lim) (.bool bal) (.bool prt) w4) :
    F59_1 Kn (.slice (some a) n c) (.int .i64 (a' : Int)) (.int .i64 (b : Int)) (.int .i64 lim) (.int .i64 len) (.int .i64 (p : Int)) w := by
  unfold F59_1
  have hbn := h.2.1
  simp only [rdC_mk, rdI_mk]
  refine cl (c88 h hp1 hp2 hb) fun v w1 ⟨hv, u1⟩ => ⟨(((partition ltInt d a' b p).1 : Nat) : Int), (partition ltInt d a' b p).2.1, by rw [hv], ?_⟩
  obtain ⟨m1, m2, m3, m4, m5, m6, m7⟩ := round_part (mid := (partition ltInt d a' b p).1) (ap := (partition ltInt d a' b p).2.1) (d4 := (partition ltInt d a' b p).2.2) swo_ltInt (partition_holds ltInt) hp1 hp2 (by rw [h.1]; exact hb) hB rfl
  generalize (partition ltInt d a' b p).1 = mid at *
  generalize (partition ltInt d a' b p).2.1 = ap at *
  generalize (partition ltInt d a' b p).2.2 = d4 at *
  have e1 : IntKind.wrap .i64 ((mid : Int) + 1) = ((mid + 1 : Nat) : Int) := by rw [wrap_i64 (by omega) (by omega)]; omega
  simp only [e1]
  rw [br_iff]
  refine ⟨fun _ => ?_, fun _ => ?_⟩
  · refine cl (hrec a' mid d4 w1 (by omega) (by omega) (by omega) m4 u1) fun v w2 ⟨hv, d5, hp5, hs5, u2⟩ => ⟨by rw [hv], ?_⟩
    obtain ⟨q1, q2⟩ := m6 d5 hp5 hs5
    exact hn (mid + 1) b _ _ d5 w2 (by omega) (by omega) (by omega) u2 q1 fun d' w' p' s' u' => ho d' w' (q2 d' p' s').1 (q2 d' p' s').2 u'
  · refine cl (hrec (mid + 1) b d4 w1 (by omega) (by omega) (by omega) m5 u1) fun v w2 ⟨hv, d5, hp5, hs5, u2⟩ => ⟨by rw [hv], ?_⟩
    obtain ⟨q1, q2⟩ := m7 d5 hp5 hs5
    exact hn a' mid _ _ d5 w2 (by omega) (by omega) (by omega) u2 q1 fun d' w' p' s' u' => ho d' w' (q2 d' p' s').1 (q2 d' p' s').2 u'
theorem st2 {K : World → Prop} {K1 Kn : Value → Value → Value → Value → Value → Value → World → Prop} {a' b p : Nat} {lim len : Int} {bal prt : Bool} (hrec : Rec W L e a n c lim (b - a')) (h : UN W L e a n c d w) (hp1 : a' ≤ p) (hp2 : p < b) (hb : b ≤ n) (hB : Below ltInt a' b d) (ho : Owed W L e a n c K a' b d)
    (h1 : ∀ a2 b2 bal prt d4 w4, b2 - a2 < b - a' → a2 ≤ b2 → b2 ≤ n → UN W L e a n c d4 w4 → Below ltInt a2 b2 d4 → Owed W L e a n c K a2 b2 d4 → K1 (.slice (some a) n c) (.int .i64 (a2 : Int)) (.int .i64 (b2 : Int)) (.int .i64 lim) (.bool bal) (.bool prt) w4)
    (hn : ∀ a2 b2 bal prt d4 w4, b2 - a2 < b - a' → a2 ≤ b2 → b2 ≤ n → UN W L e a n c d4 w4 → Below ltInt a2 b2 d4 → Owed W L e a n c K a2 b2 d4 → Kn (.slice (some a) n c) (.int .i64 (a2 : Int)) (.int .i64 (b2 : Int)) (.int .i64 lim) (.bool bal) (.bool prt) w4) :
    F59_2 K1 Kn (.slice (some a) n c) (.int .i64 (a' : Int)) (.int .i64 (b : Int)) (.int .i64 lim) (.bool bal) (.bool prt) (.int .i64 len) (.int .i64 (p : Int)) w := by
  unfold F59_2
  have hbn := h.2.1
  simp only [rdC_mk, rdI_mk, rdB_mk]
  refine h.2.2.drw fun w1 h1' => ?_
  have u1 : UN W L e a n c d w1 := ⟨h.1, h.2.1, h1'⟩
  have hn' : ∀ a2 b2 bal prt d4 w4, b2 - a2 < b - a' → a2 ≤ b2 → b2 ≤ n → UN W L e a n c d4 w4 → Below ltInt a2 b2 d4 → Owed W L e a n c K a2 b2 d4 → (fun (y0 y1 y2 y3 y8 y9 : Value) (w : World) => ∀ _g : Tm, rdC y0 fun la ln lc => rdI .i64 y1 fun n1 => rdI .i64 y2 fun n2 => rdI .i64 y3 fun n3 => rdB y8 fun b1 => rdB y9 fun b2 => Kn (.slice la ln lc) (.int .i64 n1) (.int .i64 n2) (.int .i64 n3) (.bool b1) (.bool b2) w) (.slice (some a) n c) (.int .i64 (a2 : Int)) (.int .i64 (b2 : Int)) (.int .i64 lim) (.bool bal) (.bool prt) w4 := by
    intro a2 b2 bal prt d4 w4 q1 q2 q3 q4 q5 q6 _g
    simp only [rdC_mk, rdI_mk, rdB_mk]
    exact hn a2 b2 bal prt d4 w4 q1 q2 q3 q4 q5 q6
  rw [br_dec]
  refine ⟨fun ha0 => ?_, fun _ => ?_⟩
  · have e1 : IntKind.wrap .i64 ((a' : Int) - 1) = ((a' - 1 : Nat) : Int) := by rw [wrap_i64 (by omega) (by omega)]; omega
    rw [e1]
    refine u1.ld rfl (by omega) ?_
    refine u1.ld rfl (by omega) ?_
    refine clr c86 ⟨_, rfl, ?_⟩
    rw [br_iff]
    refine ⟨fun hl => ?_, fun _ => ?_⟩
    · refine cl (c87 u1 hp1 hp2 hb) fun v w2 ⟨hv, u2⟩ => ⟨(((partitionEqual ltInt d a' b p).1 : Nat) : Int), by rw [hv], ?_⟩
      obtain ⟨m1, m2, m3, m4, m5⟩ := round_eq (mid := (partitionEqual ltInt d a' b p).1) (d4 := (partitionEqual ltInt d a' b p).2) swo_ltInt (partitionEqual_holds ltInt) (by omega) hp1 hp2 (by rw [h.1]; exact hb) hB (by simpa using hl) rfl
      exact h1 _ b _ _ _ w2 (by omega) (by omega) (by omega) u2 m4 fun d' w' p' s' u' => ho d' w' (m5 d' p' s').1 (m5 d' p' s').2 u'
    · exact st1 (K := K) hrec u1 hp1 hp2 hb hB ho hn'
  · exact st1 (K := K) hrec u1 hp1 hp2 hb hB ho hn'
theorem st3 {K Kr : World → Prop} {K1 Kn : Value → Value → Value → Value → Value → Value → World → Prop} {a' b p : Nat} {lim len g : Int} {bal prt : Bool} (hrec : Rec W L e a n c lim (b - a')) (h : UN W L e a n c d w) (hp1 : a' ≤ p) (hp2 : p < b) (hb : b ≤ n) (hB : Below ltInt a' b d) (ho : Owed W L e a n c K a' b d) (hr : ∀ w, K w → Kr w)
    (h1 : ∀ a2 b2 bal prt d4 w4, b2 - a2 < b - a' → a2 ≤ b2 → b2 ≤ n → UN W L e a n c d4 w4 → Below ltInt a2 b2 d4 → Owed W L e a n c K a2 b2 d4 → K1 (.slice (some a) n c) (.int .i64 (a2 : Int)) (.int .i64 (b2 : Int)) (.int .i64 lim) (.bool bal) (.bool prt) w4)
    (hn : ∀ a2 b2 bal prt d4 w4, b2 - a2 < b - a' → a2 ≤ b2 → b2 ≤ n → UN W L e a n c d4 w4 → Below ltInt a2 b2 d4 → Owed W L e a n c K a2 b2 d4 → Kn (.slice (some a) n c) (.int .i64 (a2 : Int)) (.int .i64 (b2 : Int)) (.int .i64 lim) (.bool bal) (.bool prt) w4) :
    F59_3 K1 Kn Kr (.slice (some a) n c) (.int .i64 (a' : Int)) (.int .i64 (b : Int)) (.int .i64 lim) (.bool bal) (.bool prt) (.int .i64 len) (.int .i64 (p : Int)) (.int .i64 g) w := by
  unfold F59_3
  have hbn := h.2.1
  simp only [rdC_mk, rdI_mk, rdB_mk]
  have h1' : ∀ a2 b2 bal prt d4 w4, b2 - a2 < b - a' → a2 ≤ b2 → b2 ≤ n → UN W L e a n c d4 w4 → Below ltInt a2 b2 d4 → Owed W L e a n c K a2 b2 d4 → (fun (y0 y1 y2 y3 y8 y9 : Value) (w : World) => ∀ _g : Tm, rdC y0 fun la ln lc => rdI .i64 y1 fun n1 => rdI .i64 y2 fun n2 => rdI .i64 y3 fun n3 => rdB y8 fun b1 => rdB y9 fun b2 => K1 (.slice la ln lc) (.int .i64 n1) (.int .i64 n2) (.int .i64 n3) (.bool b1) (.bool b2) w) (.slice (some a) n c) (.int .i64 (a2 : Int)) (.int .i64 (b2 : Int)) (.int .i64 lim) (.bool bal) (.bool prt) w4 := by
    intro a2 b2 bal prt d4 w4 q1 q2 q3 q4 q5 q6 _g
    simp only [rdC_mk, rdI_mk, rdB_mk]
    exact h1 a2 b2 bal prt d4 w4 q1 q2 q3 q4 q5 q6
  have hn' : ∀ a2 b2 bal prt d4 w4, b2 - a2 < b - a' → a2 ≤ b2 → b2 ≤ n → UN W L e a n c d4 w4 → Below ltInt a2 b2 d4 → Owed W L e a n c K a2 b2 d4 → (fun (y0 y1 y2 y3 y8 y9 : Value) (w : World) => ∀ _g : Tm, rdC y0 fun la ln lc => rdI .i64 y1 fun n1 => rdI .i64 y2 fun n2 => rdI .i64 y3 fun n3 => rdB y8 fun b1 => rdB y9 fun b2 => Kn (.slice la ln lc) (.int .i64 n1) (.int .i64 n2) (.int .i64 n3) (.bool b1) (.bool b2) w) (.slice (some a) n c) (.int .i64 (a2 : Int)) (.int .i64 (b2 : Int)) (.int .i64 lim) (.bool bal) (.bool prt) w4 := by
    intro a2 b2 bal prt d4 w4 q1 q2 q3 q4 q5 q6 _g
    simp only [rdC_mk, rdI_mk, rdB_mk]
    exact hn a2 b2 bal prt d4 w4 q1 q2 q3 q4 q5 q6
  simp only [br_iff]
  refine ⟨fun _ => ⟨fun _ => ⟨fun _ => ?_, fun _ => ?_⟩, fun _ => ?_⟩, fun _ => ?_⟩
  · refine cl (c85 h (by omega) hb) fun v w1 ⟨hv, u1⟩ => ⟨(partialInsertionSort ltInt d a' b).2, by rw [hv], ?_⟩
    obtain ⟨q1, q2⟩ := partialInsertionSort_holds swo_ltInt d a' b (by omega) (by rw [h.1]; exact hb) hB
    refine ⟨fun hs => hr _ (ho _ w1 q1 (q2 hs) u1), fun _ => ?_⟩
    exact st2 (K := K) hrec u1 hp1 hp2 hb (hB.permA permIn_all (by rw [h.1]; exact hb) q1) (ho.turn q1) h1' hn'
  · exact st2 (K := K) hrec h hp1 hp2 hb hB ho h1' hn'
  · exact st2 (K := K) hrec h hp1 hp2 hb hB ho h1' hn'
  · exact st2 (K := K) hrec h hp1 hp2 hb hB ho h1' hn'
theorem st4 {K Kr : World → Prop} {K1 Kn : Value → Value → Value → Value → Value → Value → World → Prop} {a' b : Nat} {lim len : Int} {bal prt : Bool} (hrec : Rec W L e a n c lim (b - a')) (h : UN W L e a n c d w) (hab : a' + 12 < b) (hb : b ≤ n) (hB : Below ltInt a' b d) (ho : Owed W L e a n c K a' b d) (hr : ∀ w, K w → Kr w)
    (h1 : ∀ a2 b2 bal prt d4 w4, b2 - a2 < b - a' → a2 ≤ b2 → b2 ≤ n → UN W L e a n c d4 w4 → Below ltInt a2 b2 d4 → Owed W L e a n c K a2 b2 d4 → K1 (.slice (some a) n c) (.int .i64 (a2 : Int)) (.int .i64 (b2 : Int)) (.int .i64 lim) (.bool bal) (.bool prt) w4)
    (hn : ∀ a2 b2 bal prt d4 w4, b2 - a2 < b - a' → a2 ≤ b2 → b2 ≤ n → UN W L e a n c d4 w4 → Below ltInt a2 b2 d4 → Owed W L e a n c K a2 b2 d4 → Kn (.slice (some a) n c) (.int .i64 (a2 : Int)) (.int .i64 (b2 : Int)) (.int .i64 lim) (.bool bal) (.bool prt) w4) :
    F59_4 K1 Kn Kr (.slice (some a) n c) (.int .i64 (a' : Int)) (.int .i64 (b : Int)) (.int .i64 lim) (.bool bal) (.bool prt) (.int .i64 len) w := by
  unfold F59_4
  have hbn := h.2.1
  simp only [rdC_mk, rdI_mk, rdB_mk]
  have h1' : ∀ a2 b2 bal prt d4 w4, b2 - a2 < b - a' → a2 ≤ b2 → b2 ≤ n → UN W L e a n c d4 w4 → Below ltInt a2 b2 d4 → Owed W L e a n c K a2 b2 d4 → (fun (y0 y1 y2 y3 y8 y9 : Value) (w : World) => ∀ _g : Tm, rdC y0 fun la ln lc => rdI .i64 y1 fun n1 => rdI .i64 y2 fun n2 => rdI .i64 y3 fun n3 => rdB y8 fun b1 => rdB y9 fun b2 => K1 (.slice la ln lc) (.int .i64 n1) (.int .i64 n2) (.int .i64 n3) (.bool b1) (.bool b2) w) (.slice (some a) n c) (.int .i64 (a2 : Int)) (.int .i64 (b2 : Int)) (.int .i64 lim) (.bool bal) (.bool prt) w4 := by
    intro a2 b2 bal prt d4 w4 q1 q2 q3 q4 q5 q6 _g
    simp only [rdC_mk, rdI_mk, rdB_mk]
    exact h1 a2 b2 bal prt d4 w4 q1 q2 q3 q4 q5 q6
  have hn' : ∀ a2 b2 bal prt d4 w4, b2 - a2 < b - a' → a2 ≤ b2 → b2 ≤ n → UN W L e a n c d4 w4 → Below ltInt a2 b2 d4 → Owed W L e a n c K a2 b2 d4 → (fun (y0 y1 y2 y3 y8 y9 : Value) (w : World) => ∀ _g : Tm, rdC y0 fun la ln lc => rdI .i64 y1 fun n1 => rdI .i64 y2 fun n2 => rdI .i64 y3 fun n3 => rdB y8 fun b1 => rdB y9 fun b2 => Kn (.slice la ln lc) (.int .i64 n1) (.int .i64 n2) (.int .i64 n3) (.bool b1) (.bool b2) w) (.slice (some a) n c) (.int .i64 (a2 : Int)) (.int .i64 (b2 : Int)) (.int .i64 lim) (.bool bal) (.bool prt) w4 := by
    intro a2 b2 bal prt d4 w4 q1 q2 q3 q4 q5 q6 _g
    simp only [rdC_mk, rdI_mk, rdB_mk]
    exact hn a2 b2 bal prt d4 w4 q1 q2 q3 q4 q5 q6
  refine cl (c83 h hab hb) fun v w1 ⟨x, g, hv, hx1, hx2, u1⟩ => ⟨(x : Int), g, by rw [hv], ?_⟩
  rw [br_iff]
  refine ⟨fun _ => ?_, fun _ => ?_⟩
  · refine cl (c84 u1 (by omega) hb) fun v w2 ⟨hv, u2⟩ => ⟨by rw [hv], ?_⟩
    have q1 := reverseRange_holds d a' b (by omega) (by rw [h.1]; exact hb)
    have e1 : IntKind.wrap .i64 ((b : Int) - 1) = ((b - 1 : Nat) : Int) := by rw [wrap_i64 (by omega) (by omega)]; omega
    have e2 : IntKind.wrap .i64 ((x : Int) - a') = ((x - a' : Nat) : Int) := by rw [wrap_i64 (by omega) (by omega)]; omega
    have e3 : IntKind.wrap .i64 (((b - 1 : Nat) : Int) - ((x - a' : Nat) : Int)) = ((b - 1 - (x - a') : Nat) : Int) := by rw [wrap_i64 (by omega) (by omega)]; omega
    rw [e1, e2, e3]
    exact st3 (K := K) hrec u2 (by omega) (by omega) hb (hB.permA permIn_all (by rw [h.1]; exact hb) q1) (ho.turn q1) (fun w hw _g => hr w hw) h1' hn'
  · exact st3 (K := K) hrec u1 hx1 hx2 hb hB ho (fun w hw _g => hr w hw) h1' hn'
theorem pdq_all (lim0 : Nat) (hl0 : lim0 ≤ 64) : ∀ (m : Nat) (a' b : Nat) (lim : Nat) (bal prt : Bool) (k : Nat) (d : Array Int) (w : World) (K : World → Prop), lim ≤ lim0 → b - a' ≤ m → m < k → a' ≤ b → b ≤ n → Below ltInt a' b d → UN W L e a n c d w → Owed W L e a n c K a' b d →
    F59_5 K k (.slice (some a) n c) (.int .i64 (a' : Int)) (.int .i64 (b : Int)) (.int .i64 (lim : Int)) (.bool bal) (.bool prt) w := by
  intro m
  induction m using Nat.strongRecOn with
  | ind m ih =>
    intro a' b lim bal prt k d w K hl hm hk hab hb hB h ho
    obtain ⟨k, rfl⟩ : ∃ j, k = j + 1 := ⟨k - 1, by omega⟩
    have hbn := h.2.1
    have hrec : ∀ lim : Nat, lim ≤ lim0 → 0 < b - a' → Rec W L e a n c (lim : Int) (b - a') := by
      intro lim hl hpos a2 b2 d w hlt h1 h2 hB2 h3
      refine F59_ok ?_
      unfold F59
      simp only [rdC_mk, rdI_mk]
      exact ⟨b2 - a2 + 1, ih (b2 - a2) (by omega) a2 b2 lim true true _ d w _ hl (by omega) (by omega) h1 h2 hB2 h3 fun d' w' p' s' u' _g => ⟨rfl, d', p', s', u'⟩⟩
    show F59_5B _ _ _ _ _ _ _ _ _
    unfold F59_5B
    have e1 : IntKind.wrap .i64 ((b : Int) - a') = ((b - a' : Nat) : Int) := by rw [wrap_i64 (by omega) (by omega)]; omega
    simp only [rdC_mk, rdI_mk, rdB_mk, e1]
    rw [br_dec]
    refine ⟨fun _ => ?_, fun hg => ?_⟩
    · refine cl (c80 h (by omega) hb) fun v w1 ⟨hv, u1⟩ => ⟨by rw [hv], ?_⟩
      obtain ⟨q1, q2⟩ := insertionSort_holds swo_ltInt d a' b hab (by rw [h.1]; exact hb)
      exact ho _ w1 q1 q2 u1
    rw [br_iff]
    refine ⟨fun _ => ?_, fun hz => ?_⟩
    · refine cl (c81 h hab hb) fun v w1 ⟨hv, u1⟩ => ⟨by rw [hv], ?_⟩
      obtain ⟨q1, q2⟩ := heapSort_holds swo_ltInt d a' b hab (by rw [h.1]; exact hb)
      exact ho _ w1 q1 q2 u1
    have hlz : 0 < lim := by
      have : (lim : Int) ≠ 0 := by simpa using hz
      omega
    have nx : ∀ lim2 : Nat, lim2 ≤ lim0 → ∀ a2 b2 bal prt d4 w4, b2 - a2 < b - a' → a2 ≤ b2 → b2 ≤ n → UN W L e a n c d4 w4 → Below ltInt a2 b2 d4 → Owed W L e a n c K a2 b2 d4 → (fun (y0 y1 y2 y3 y8 y9 : Value) (w : World) => ∀ _g : Tm, rdC y0 fun la ln lc => rdI .i64 y1 fun n1 => rdI .i64 y2 fun n2 => rdI .i64 y3 fun n3 => rdB y8 fun b1 => rdB y9 fun b2 => F59_5 K k (.slice la ln lc) (.int .i64 n1) (.int .i64 n2) (.int .i64 n3) (.bool b1) (.bool b2) w) (.slice (some a) n c) (.int .i64 (a2 : Int)) (.int .i64 (b2 : Int)) (.int .i64 (lim2 : Int)) (.bool bal) (.bool prt) w4 := by
      intro lim2 hl2 a2 b2 bal prt d4 w4 q1 q2 q3 q4 q5 q6 _g
      simp only [rdC_mk, rdI_mk, rdB_mk]
      exact ih (m - 1) (by omega) a2 b2 lim2 bal prt k d4 w4 K hl2 (by omega) (by omega) q2 q3 q5 q4 q6
    rw [br_iff]
    refine ⟨fun _ => ?_, fun _ => ?_⟩
    · refine cl (c82 h (by omega) hb) fun v w1 ⟨hv, d1, q1, u1⟩ => ⟨by rw [hv], ?_⟩
      have e2 : IntKind.wrap .i64 ((lim : Int) - 1) = ((lim - 1 : Nat) : Int) := by rw [wrap_i64 (by omega) (by omega)]; omega
      rw [e2]
      exact st4 (K := K) (hrec (lim - 1) (by omega) (by omega)) u1 (by omega) hb (hB.permA permIn_all (by rw [h.1]; exact hb) q1) (ho.turn q1) (fun w hw _g => hw) (nx (lim - 1) (by omega)) (nx (lim - 1) (by omega))
    · exact st4 (K := K) (hrec lim hl (by omega)) h (by omega) hb hB ho (fun w hw _g => hw) (nx lim hl) (nx lim hl)
theorem c59 {lim : Nat} (hl : lim ≤ 64) (h : UN W L e a n c d w) : Calls Try.prog 59 #[.slice (some a) n c, .int .i64 0, .int .i64 (n : Int), .int .i64 (lim : Int)] w (rt (Done W L e a n c 0 n d)) := by
  refine F59_ok ?_
  unfold F59
  simp only [rdC_mk, rdI_mk]
  exact ⟨n + 1, pdq_all lim hl n 0 n lim true true _ d w _ (Nat.le_refl _) (by omega) (by omega) (by omega) (by omega) (Or.inl rfl) h fun d' w' p' s' u' _g => ⟨rfl, d', p', s', u'⟩⟩
/-- The sorted list of a list. -/
def srt (X : List Int) : List Int := X.mergeSort (fun x y => !ltInt y x)
theorem c37 {X : List Int} (h : Hs W (slP e 1 (some a) X.length c (inV .u32 X) :: L) w) (hl : X.length ≤ 1152921504606846976) : Calls Try.prog 37 #[.slice (some a) X.length c] w (rt fun v w' => v = .tuple #[] ∧ Hs W (slP e 1 (some a) X.length c (inV .u32 (srt X)) :: L) w') := by
  refine F37_ok ?_
  unfold F37
  simp only [rdC_mk]
  rw [wrap_u64 (by omega) (by omega)]
  refine cl (c57 (by omega)) fun v w1 ⟨hw, b, hv, hb, hb'⟩ => ⟨(b : Int), by rw [hv], ?_⟩
  subst hw
  have u : UN W L e a X.length c X.toArray w1 := ⟨by simp, hl, h⟩
  refine cl (c59 hb' u) fun v w2 ⟨hv, d', p', s', u'⟩ => ⟨by rw [hv], ?_⟩
  have q := sorted_unique_holds swo_ltInt (fun x y h1 h2 => by simp [ltInt] at h1 h2; omega) X.toArray d' (by simpa using p') (by simpa using s')
  refine ⟨trivial, ?_⟩
  have := u'.2.2
  rw [q] at this
  exact this
end
end Go.Proofs.Ytaflmpbeonoilaa
namespace Go.Sh
open Go Go.RowKit
section
variable {W w : World} {L : List HP} {kk kd : IntKind} {m c : Nat} {P : Program} {T kt et : TypeId} {k : Int} {es : Array MapEntry} {l : List (Int × Value)}
theorem delete_at {ats : Array TypeId} {ty : TypeId} (ha : ats[0]? = some T) (hT : P.underlying T = some (.map kt et)) (hk : P.underlying kt = some (.int kd)) (h1 : w.heap[m]? = some (.map es c)) (h2 : VRep kk es.toList l) (hnd : (l.map Prod.fst).Nodup) (hstp : MapKept.Stamped es c) :
    ∃ es' l', (Builtin.delete_ ats ty #[.map (some m), .int kk k]).run P w = .ok (.tuple #[]) (sb w m (.map es' c)) ∧ VRep kk es'.toList l' ∧ (l'.map Prod.fst).Nodup ∧ (∀ i, vval l' i = if i = k then none else vval l i) ∧ MapKept.Stamped es' c ∧ es'.toList.Sublist es.toList := by
  have hck : ∀ g, (Instr.checkKey g 10000 kt (.int kk k)).run P w = .ok () w := fun g => checkKey_int hk g 9999 _
  have hg : (getObj m).run P w = .ok (.map es c) w := run_getObj h1 (fun _ _ _ e => by cases e)
  unfold Builtin.delete_
  simp only [ha, List.getElem?_toArray, List.getElem?_cons_zero, List.getElem?_cons_succ, Sem.run_bind, run_under hT, Result.andThen_ok, hg, hck]
  rcases findNow_val (k := k) (kd := kd) 0 h2 with ⟨h, h'⟩ | ⟨j, u, h, h', hj⟩
  · rw [run_findKey_int hk h']
    simp only [Result.andThen_ok]
    rw [Sem.run_bind, run_setObj h1 (fun _ _ _ e => by cases e)]
    simp only [Result.andThen_ok, Sem.run_pure]
    refine ⟨_, l, rfl, h2, hnd, fun i => ?_, hstp, List.Sublist.refl _⟩
    by_cases hi : i = k
    · rw [if_pos hi, hi, h]
    · rw [if_neg hi]
  · rw [run_findKey_int hk h']
    simp only [Result.andThen_ok, Nat.zero_add]
    rw [Sem.run_bind, run_setObj h1 (fun _ _ _ e => by cases e)]
    simp only [Result.andThen_ok, Sem.run_pure]
    refine ⟨_, l.eraseIdx j, rfl, ?_, ?_, fun i => ?_, MapKept.stamped_erase hstp j, ?_⟩
    · rw [Array.toList_eraseIdxIfInBounds]; exact vrep_erase h2
    · rw [vmap_erase]; exact hnd.sublist (List.eraseIdx_sublist _ _)
    · rw [vval_erase hj hnd]
    · rw [Array.toList_eraseIdxIfInBounds]; exact List.eraseIdx_sublist _ _
end
end Go.Sh
