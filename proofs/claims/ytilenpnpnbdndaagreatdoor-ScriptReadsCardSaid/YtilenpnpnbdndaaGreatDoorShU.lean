/- Own text: part of the shallow reading of the code and of the contracts that are proved over it. -/
import Derived.Test.YtilenpnpnbdndaaGreatDoorShM
import Derived.Laws.OwnMore
namespace Go.Sh
open Go
abbrev Hl := Nat -> Option Obj
abbrev HP := Hl -> Prop
def hun (a b : Hl) : Hl := fun k => (a k).or (b k)
def dj (a b : Hl) : Prop := ∀ k,a k = none \/ b k = none
def star (A B : HP) : HP := fun h => ∃ x y,A x /\ B y /\ dj x y /\ h = hun x y
def emp : HP := fun h => h = fun _ => none
def bigS : List HP -> HP
  | [] => emp
  | A :: L => star A (bigS L)
def ag (h : Hl) (w : World) : Prop := ∀ b o,h b = some o -> w.heap[b]? = some o
def pt (b : Nat) (o : Obj) : HP := fun h => h = fun k => if k = b then some o else none
def ex {α : Sort _} (A : α -> HP) : HP := fun h => ∃ x,A x h
def pr (p : Prop) (A : HP) : HP := fun h => p /\ A h
abbrev Same (w w' : World) : Prop := Fr (fun _ => False) w w'
theorem dj.symm {a b : Hl} (h : dj a b) : dj b a := fun k => (h k).symm
theorem hun_comm {a b : Hl} (h : dj a b) : hun a b = hun b a := by
  funext k
  unfold hun
  rcases h k with h | h <;> rw [h] <;> simp
theorem hun_assoc (a b c : Hl) : hun (hun a b) c = hun a (hun b c) := by
  funext k
  unfold hun
  cases a k <;> simp
theorem hun_none {a b : Hl} {k : Nat} : hun a b k = none ↔ a k = none /\ b k = none := by
  unfold hun
  cases a k <;> simp
theorem dj_hun {a b c : Hl} : dj (hun a b) c ↔ dj a c /\ dj b c := by
  constructor
  · intro h
    exact ⟨fun k => (h k).imp (fun x => (hun_none.1 x).1) id,fun k => (h k).imp (fun x => (hun_none.1 x).2) id⟩
  · rintro ⟨h1,h2⟩ k
    rcases h1 k with a | a
    · rcases h2 k with b | b
      · exact .inl (hun_none.2 ⟨a,b⟩)
      · exact .inr b
    · exact .inr a
theorem dj_hun' {a b c : Hl} : dj a (hun b c) ↔ dj a b /\ dj a c := by
  constructor
  · intro h
    have := dj_hun.1 h.symm
    exact ⟨this.1.symm,this.2.symm⟩
  · rintro ⟨h1,h2⟩
    exact (dj_hun.2 ⟨h1.symm,h2.symm⟩).symm
theorem star_comm (A B : HP) : star A B = star B A := by
  funext h
  apply propext
  constructor <;>
  · rintro ⟨x,y,a,b,d,rfl⟩
    exact ⟨y,x,b,a,d.symm,hun_comm d⟩
theorem star_assoc (A B C : HP) : star (star A B) C = star A (star B C) := by
  funext h
  apply propext
  constructor
  · rintro ⟨z,c,⟨x,y,a,b,d,rfl⟩,hc,d2,rfl⟩
    obtain ⟨d3,d4⟩ := dj_hun.1 d2
    exact ⟨x,hun y c,a,⟨y,c,b,hc,d4,rfl⟩,dj_hun'.2 ⟨d,d3⟩,hun_assoc _ _ _⟩
  · rintro ⟨x,z,a,⟨y,c,b,hc,d,rfl⟩,d2,rfl⟩
    obtain ⟨d3,d4⟩ := dj_hun'.1 d2
    exact ⟨hun x y,c,⟨x,y,a,b,d3,rfl⟩,hc,dj_hun.2 ⟨d4,d⟩,(hun_assoc _ _ _).symm⟩
theorem star_emp (A : HP) : star A emp = A := by
  funext h
  apply propext
  have e : ∀ x : Hl,hun x (fun _ => none) = x := fun x => by funext k; unfold hun; simp
  constructor
  · rintro ⟨x,y,a,rfl,_,rfl⟩
    rw [e]; exact a
  · intro a
    exact ⟨h,_,a,rfl,fun _ => .inr rfl,(e h).symm⟩
theorem emp_star (A : HP) : star emp A = A := by rw [star_comm,star_emp]
theorem star_left (A B C : HP) : star A (star B C) = star B (star A C) := by rw [← star_assoc,star_comm A B,star_assoc]
theorem bigS_append (L M : List HP) : bigS (L ++ M) = star (bigS L) (bigS M) := by
  induction L with
  | nil => simp [bigS,emp_star]
  | cons A L ih => rw [List.cons_append,bigS,bigS,ih,star_assoc]
theorem bigS_perm {L M : List HP} (h : L.Perm M) : bigS L = bigS M := by
  induction h with
  | nil => rfl
  | cons A _ ih => rw [bigS,bigS,ih]
  | swap A B L => rw [bigS,bigS,bigS,bigS,star_left]
  | trans _ _ h1 h2 => rw [h1,h2]
theorem bigS_focus {L : List HP} {i : Nat} {A : HP} (h : L[i]? = some A) : bigS L = star A (bigS (L.eraseIdx i)) := by
  induction L generalizing i with
  | nil => simp at h
  | cons B L ih =>
    cases i with
    | zero => simp at h; subst h; rfl
    | succ i =>
      rw [List.eraseIdx_cons_succ,bigS,bigS,ih (by simpa using h),star_left]
def Hs (W : World) (L : List HP) (w : World) : Prop := Same W w /\ ∃ h,bigS L h /\ ag h w /\ ∀ k,h k ≠ none -> W.heap.size <= k
theorem ag_lt {h : Hl} {w : World} (a : ag h w) {k : Nat} (hk : h k ≠ none) : k < w.heap.size := by
  cases e : h k with
  | none => exact absurd e hk
  | some o => exact lt_of_blk (a k o e)
section
variable {W w : World} {L M : List HP} {A B : HP}
theorem Hs.old (h : Hs W L w) : Same W w := h.1
theorem Hs.start (W : World) : Hs W [] W := ⟨Fr.refl W,_,rfl,fun _ _ e => by simp at e,fun _ e => absurd rfl e⟩
theorem Hs.size (h : Hs W L w) : W.heap.size <= w.heap.size := h.1.size
theorem Hs.of_eq (h : Hs W L w) (e : bigS L = bigS M) : Hs W M w := by
  obtain ⟨f,x,b,r⟩ := h
  exact ⟨f,x,e ▸ b,r⟩
theorem Hs.perm (h : Hs W L w) (p : L.Perm M) : Hs W M w := h.of_eq (bigS_perm p)
theorem Hs.drop (h : Hs W (A :: L) w) : Hs W L w := by
  obtain ⟨f,x,⟨y,z,_,hz,d,rfl⟩,a,b⟩ := h
  refine ⟨f,z,hz,fun k o e => a k o ?_,fun k e => b k fun x => e (hun_none.1 x).2⟩
  unfold hun
  rcases d k with d | d
  · rw [d]; simpa using e
  · rw [d] at e; cases e
theorem Hs.focus (h : Hs W L w) {i : Nat} (hi : L[i]? = some A) : Hs W (A :: L.eraseIdx i) w := h.of_eq (bigS_focus hi)
theorem Hs.unfocus {i : Nat} (h : Hs W (A :: L.eraseIdx i) w) (hi : i < L.length) : Hs W (L.set i A) w := by
  refine h.of_eq ?_
  have e1 : (L.set i A)[i]? = some A := by simp [hi]
  have e2 : (L.set i A).eraseIdx i = L.eraseIdx i := by rw [List.eraseIdx_set_eq]
  rw [bigS_focus e1,e2]
  rfl
theorem Hs.erase (h : Hs W L w) (i : Nat) : Hs W (L.eraseIdx i) w := by
  cases e : L[i]? with
  | none =>
    have : L.length <= i := by simpa using e
    rw [List.eraseIdx_of_length_le this]; exact h
  | some A => exact (h.focus e).drop
def pickAt (L : List HP) : List Nat -> List HP
  | [] => []
  | i :: r => (match L[i]? with | some A => A | none => emp) :: pickAt L r
theorem emp_intro : bigS (emp :: L) = bigS L := by rw [bigS,emp_star]
theorem pick_aux : ∀ (is : List Nat) (L : List HP),is.Nodup -> ∃ R,bigS L = bigS (pickAt L is ++ R)
  | [],L,_ => ⟨L,rfl⟩
  | i :: r,L,hn => by
    rw [List.nodup_cons] at hn
    -- set the i-th to emp: the others are as_ before
    have hset : pickAt (L.set i emp) r = pickAt L r := by
      have : ∀ r : List Nat,i ∉ r -> pickAt (L.set i emp) r = pickAt L r := by
        intro r
        induction r with
        | nil => intro _; rfl
        | cons j r ih =>
          intro hj
          simp only [List.mem_cons,not_or] at hj
          unfold pickAt
          rw [ih hj.2,List.getElem?_set_ne hj.1]
      exact this r hn.1
    obtain ⟨R,hR⟩ := pick_aux r (L.set i emp) hn.2
    rw [hset] at hR
    refine ⟨R,?_⟩
    show _ = star _ (bigS (pickAt L r ++ R))
    rw [← hR]
    cases e : L[i]? with
    | none =>
      have hle : L.length <= i := by simpa using e
      simp only
      rw [emp_star,List.set_eq_of_length_le hle]
    | some A =>
      have hlt := (List.getElem?_eq_some_iff.1 e).1
      have e1 : (L.set i emp)[i]? = some emp := by simp [hlt]
      simp only
      rw [bigS_focus e,bigS_focus e1,List.eraseIdx_set_eq,emp_star]
theorem Hs.pick (h : Hs W L w) (is : List Nat) (hn : is.Nodup := by decide) : Hs W (pickAt L is) w := by
  obtain ⟨R,e⟩ := pick_aux is L hn
  have h := h.of_eq e
  rw [bigS_append] at e
  have : ∀ (R : List HP),Hs W (pickAt L is ++ R) w -> Hs W (pickAt L is) w := by
    intro R h
    have := (h.perm List.perm_append_comm)
    clear h
    induction R with
    | nil => simpa using this
    | cons A R ih => exact ih this.drop
  exact this R h
theorem Hs.same {w' : World} (h : Hs W L w) (hs : Same w w') : Hs W L w' := by
  obtain ⟨f,x,b,a,r⟩ := h
  exact ⟨f.trans hs fun _ _ x => x,x,b,fun k o e => hs.blk (a k o e) fun x => x,r⟩
theorem Hs.drew (h : Hs W L w) : Hs W L w.drew := h.same (Fr.refl w).drew
theorem Hs.cons_ex {α : Sort _} {F : α -> HP} : Hs W (ex F :: L) w ↔ ∃ x,Hs W (F x :: L) w := by
  constructor
  · rintro ⟨f,h,⟨y,z,⟨x,hy⟩,hz,d,e⟩,r⟩
    exact ⟨x,f,h,⟨y,z,hy,hz,d,e⟩,r⟩
  · rintro ⟨x,f,h,⟨y,z,hy,hz,d,e⟩,r⟩
    exact ⟨f,h,⟨y,z,⟨x,hy⟩,hz,d,e⟩,r⟩
theorem Hs.cons_pr {p : Prop} : Hs W (pr p A :: L) w ↔ p /\ Hs W (A :: L) w := by
  constructor
  · rintro ⟨f,h,⟨y,z,⟨x,hy⟩,hz,d,e⟩,r⟩
    exact ⟨x,f,h,⟨y,z,hy,hz,d,e⟩,r⟩
  · rintro ⟨x,f,h,⟨y,z,hy,hz,d,e⟩,r⟩
    exact ⟨f,h,⟨y,z,⟨x,hy⟩,hz,d,e⟩,r⟩
theorem Hs.cons_bigS : Hs W (bigS M :: L) w ↔ Hs W (M ++ L) w :=
  ⟨fun h => h.of_eq (bigS_append M L).symm,fun h => h.of_eq (bigS_append M L)⟩
theorem Hs.append_assoc {X Y : List HP} : Hs W (X ++ (Y ++ L)) w ↔ Hs W ((X ++ Y) ++ L) w := by rw [List.append_assoc]
theorem Hs.upd {w' : World} (h : Hs W L w) (i : Nat) (hi : L[i]? = some A)
    (hk : ∀ x,A x -> ag x w -> (∀ k,x k ≠ none -> W.heap.size <= k) -> ∃ y,B y /\ ag y w' /\ (∀ k,y k ≠ none -> x k ≠ none \/ w.heap.size <= k) /\ Fr (fun k => x k ≠ none) w w') : Hs W (L.set i B) w' := by
  have h1 := h.focus hi
  refine Hs.unfocus ?_ (List.getElem?_eq_some_iff.1 hi).1
  generalize L.eraseIdx i = R at h1 ⊢
  obtain ⟨f,g,⟨x,z,hx,hz,d,rfl⟩,a,b⟩ := h1
  have ax : ag x w := fun k o e => a k o (by unfold hun; rw [e]; rfl)
  have az : ag z w := fun k o e => a k o (by
    unfold hun
    rcases d k with d | d
    · rw [d]; simpa using e
    · rw [d] at e; cases e)
  have bx : ∀ k,x k ≠ none -> W.heap.size <= k := fun k e => b k fun u => e (hun_none.1 u).1
  have bz : ∀ k,z k ≠ none -> W.heap.size <= k := fun k e => b k fun u => e (hun_none.1 u).2
  obtain ⟨y,hy,ay,sy,fr⟩ := hk x hx ax bx
  refine ⟨((f.mono (S' := fun k => W.heap.size <= k) fun _ _ x => x.elim).trans fr fun k hk e => bx k e).mono fun i hi x => by omega,hun y z,⟨y,z,hy,hz,fun k => ?_,rfl⟩,fun k o e => ?_,fun k e => ?_⟩
  · rcases Classical.em (y k = none) with h | h
    · exact .inl h
    · refine .inr ?_
      rcases sy k h with h | h
      · exact (d k).resolve_left h
      · rcases Classical.em (z k = none) with hz' | hz'
        · exact hz'
        · have := ag_lt az hz'; omega
  · unfold hun at e
    cases ey : y k with
    | some o' => rw [ey] at e; cases e; exact ay k _ ey
    | none =>
      rw [ey] at e
      have e : z k = some o := by simpa using e
      have hk' := az k o e
      refine fr.blk hk' fun hx' => ?_
      rcases d k with d | d
      · exact hx' d
      · rw [d] at e; cases e
  · rcases Classical.em (y k = none) with h | h
    · exact bz k fun u => e (hun_none.2 ⟨h,u⟩)
    · rcases sy k h with h | h
      · exact bx k h
      · have := f.size; omega
theorem Hs.new {w' : World} (h : Hs W L w) (hs : Same w w') {x : Hl} (hx : A x) (a : ag x w') (b : ∀ k,x k ≠ none -> w.heap.size <= k) : Hs W (A :: L) w' := by
  obtain ⟨f,g,hg,ag',bg⟩ := h
  refine ⟨f.trans hs fun _ _ x => x,hun x g,⟨x,g,hx,hg,fun k => ?_,rfl⟩,fun k o e => ?_,fun k e => ?_⟩
  · rcases Classical.em (x k = none) with h | h
    · exact .inl h
    · refine .inr ?_
      rcases Classical.em (g k = none) with h' | h'
      · exact h'
      · have := ag_lt ag' h'; have := b k h; omega
  · unfold hun at e
    cases ex' : x k with
    | some o' => rw [ex'] at e; cases e; exact a k _ ex'
    | none =>
      rw [ex'] at e
      exact hs.blk (ag' k o (by simpa using e)) fun x => x
  · rcases Classical.em (x k = none) with h | h
    · exact bg k fun u => e (hun_none.2 ⟨h,u⟩)
    · have := b k h; have := f.size; omega
theorem Hs.look (h : Hs W L w) {i : Nat} (hi : L[i]? = some A) : ∃ x,A x /\ ag x w /\ ∀ k,x k ≠ none -> W.heap.size <= k := by
  obtain ⟨f,g,⟨x,z,hx,hz,d,rfl⟩,a,b⟩ := h.focus hi
  exact ⟨x,hx,fun k o e => a k o (by unfold hun; rw [e]; rfl),fun k e => b k fun u => e (hun_none.1 u).1⟩
theorem Hs.at (h : Hs W L w) (i : Nat) {b : Nat} {o : Obj} (hi : L[i]? = some (pt b o)) : w.heap[b]? = some o := by
  obtain ⟨x,rfl,a,_⟩ := h.look hi
  exact a b o (by simp)
theorem Hs.sb (h : Hs W L w) (i : Nat) {b : Nat} {o : Obj} (hi : L[i]? = some (pt b o)) (o' : Obj) : Hs W (L.set i (pt b o')) (Sh.sb w b o') := by
  refine h.upd i hi ?_
  rintro _ rfl a l
  have hb := a b o (by simp)
  refine ⟨_,rfl,fun k o1 e => ?_,fun k e => .inl ?_,(Fr.refl w).sb fun _ => by simp⟩
  · by_cases hk : k = b
    · subst hk
      simp at e; subst e
      exact sb_same hb
    · simp [hk] at e
  · by_cases hk : k = b
    · subst hk; simp
    · simp [hk] at e
theorem Hs.alloc (h : Hs W L w) (o : Obj) : Hs W (pt w.heap.size o :: L) (w.alloc o) :=
  h.new ((Fr.refl w).alloc _) rfl (fun k o' e => by
    by_cases hk : k = w.heap.size
    · subst hk; simp at e; subst e; exact alloc_new w _
    · simp [hk] at e) (fun k e => by
    by_cases hk : k = w.heap.size
    · omega
    · simp [hk] at e)
variable {K : World -> Prop}
theorem Hs.alc (h : Hs W L w) {o : Obj} {K : Nat -> World -> Prop} (hk : ∀ b w',Hs W (pt b o :: L) w' -> K b w') : Sh.alc o w K := hk _ _ (h.alloc o)
theorem Hs.drw (h : Hs W L w) (hk : ∀ w',Hs W L w' -> K w') : Sh.drw w K := hk _ h.drew
theorem Hs.stc (h : Hs W L w) (i : Nat) {b o : Nat} {cs : Array Value} {T : TypeId} {v : Value} (hi : L[i]? = some (pt b (.cells cs T (0,0)))) (ho : o < cs.size)
    (hk : ∀ w',Hs W (L.set i (pt b (.cells (cs.setIfInBounds o v) T (0,0)))) w' -> K w') : Sh.stc (Addr.mk b o none) v w K :=
  stc_at (h.at i hi) ho (hk _ (h.sb i hi _))
theorem Hs.ldI (h : Hs W L w) (i : Nat) {b o : Nat} {cs : Array Value} {T : TypeId} {k : IntKind} {n : Int} {K : Int -> Prop} (hi : L[i]? = some (pt b (.cells cs T (0,0)))) (hv : cs[o]? = some (.int k n)) (hk : K n) : Sh.ldI k (Addr.mk b o none) w K := ldI_at (h.at i hi) hv hk
theorem Hs.ldB (h : Hs W L w) (i : Nat) {b o : Nat} {cs : Array Value} {T : TypeId} {n : Bool} {K : Bool -> Prop} (hi : L[i]? = some (pt b (.cells cs T (0,0)))) (hv : cs[o]? = some (.bool n)) (hk : K n) : Sh.ldB (Addr.mk b o none) w K := ldB_at (h.at i hi) hv hk
theorem Hs.ldS (h : Hs W L w) (i : Nat) {b o : Nat} {cs : Array Value} {T : TypeId} {n : ByteArray} {K : ByteArray -> Prop} (hi : L[i]? = some (pt b (.cells cs T (0,0)))) (hv : cs[o]? = some (.string n)) (hk : K n) : Sh.ldS (Addr.mk b o none) w K := ldS_at (h.at i hi) hv hk
theorem Hs.ldP (h : Hs W L w) (i : Nat) {b o : Nat} {cs : Array Value} {T : TypeId} {n : Option Addr} {K : Option Addr -> Prop} (hi : L[i]? = some (pt b (.cells cs T (0,0)))) (hv : cs[o]? = some (.pointer n)) (hk : K n) : Sh.ldP (Addr.mk b o none) w K := ldP_at (h.at i hi) hv hk
theorem Hs.ldC (h : Hs W L w) (i : Nat) {b o : Nat} {cs : Array Value} {T : TypeId} {a : Option Addr} {l c : Nat} {K : Option Addr -> Nat -> Nat -> Prop} (hi : L[i]? = some (pt b (.cells cs T (0,0)))) (hv : cs[o]? = some (.slice a l c)) (hk : K a l c) : Sh.ldC (Addr.mk b o none) w K := ldC_at (h.at i hi) hv hk
def slP (e : TypeId) (size : Nat) (a : Option Addr) (l c : Nat) (xs : List Value) : HP := fun h =>
  xs.length = l * size /\ ((a = none /\ l = 0 /\ c = 0 /\ h = fun _ => none) \/ ∃ g cur,a = some ⟨g,0,none⟩ /\ pt g (.cells cur e (0,0)) h /\ l <= c /\ c <= maxLen /\ cur.size = c * size /\ cur.toList.take (l * size) = xs)
variable {e : TypeId} {size : Nat} {a : Option Addr} {l c : Nat} {xs : List Value}
theorem own_of {x : Hl} {B : Nat} (hx : slP e size a l c xs x) (g : ag x w) (lo : ∀ k,x k ≠ none -> B <= k) : Own w B e size a l c xs := by
  obtain ⟨hl,hx⟩ := hx
  rcases hx with ⟨rfl,rfl,rfl,rfl⟩ | ⟨b,cur,rfl,rfl,h1,h2,h3,h4⟩
  · exact ⟨hl,.inl ⟨rfl,rfl⟩⟩
  · exact ⟨hl,.inr ⟨b,c,cur,rfl,lo b (by simp),g b _ (by simp),h1,h2,h3,h4⟩⟩
theorem inB_of {x : Hl} (hx : slP e size a l c xs x) (k : Nat) : x k ≠ none ↔ inB a k := by
  obtain ⟨_,hx⟩ := hx
  rcases hx with ⟨rfl,rfl,rfl,rfl⟩ | ⟨b,cur,rfl,rfl,_⟩
  · simp [inB]
  · simp only [inB,Option.some.injEq,exists_eq_left',ne_eq]
    constructor
    · intro h
      by_cases hk : k = b
      · exact hk.symm
      · simp [hk] at h
    · rintro rfl; simp
theorem own_to {B : Nat} (h : Own w B e size a l c xs) : ∃ x,slP e size a l c xs x /\ ag x w := by
  rcases h.cases with ⟨rfl,rfl,rfl⟩ | ⟨g,cur,rfl,h2,h3,h4,h5,h6,h7⟩
  · exact ⟨fun _ => none,⟨h.1,.inl ⟨rfl,rfl,rfl,rfl⟩⟩,fun _ _ e => by simp at e⟩
  · refine ⟨_,⟨h.1,.inr ⟨g,cur,rfl,rfl,h4,h5,h6,h7⟩⟩,fun k o e => ?_⟩
    by_cases hk : k = g
    · subst hk; simp at e; subst e; exact h3
    · simp [hk] at e
theorem Hs.own (h : Hs W L w) (i : Nat) (hi : L[i]? = some (slP e size a l c xs)) : Own w W.heap.size e size a l c xs := by
  obtain ⟨x,hx,g,lo⟩ := h.look hi
  exact own_of hx g lo
theorem Hs.rd (h : Hs W L w) (i : Nat) (hi : L[i]? = some (slP e size a l c xs)) : Rd w a xs := (h.own i hi).rd
theorem Hs.slice {w' : World} {a' : Option Addr} {l' c' : Nat} {xs' : List Value} {B : Nat} (h : Hs W L w) (i : Nat) (hi : L[i]? = some (slP e size a l c xs)) (ho : Own w' B e size a' l' c' xs') (hf : Fr (inB a) w w') (hn : ∀ k,inB a' k -> inB a k \/ w.heap.size <= k) : Hs W (L.set i (slP e size a' l' c' xs')) w' := by
  refine h.upd i hi fun x hx g lo => ?_
  obtain ⟨y,hy,gy⟩ := own_to ho
  refine ⟨y,hy,gy,fun k hk => ?_,hf.mono fun k _ hk => (inB_of hx k).2 hk⟩
  rcases hn k ((inB_of hy k).1 hk) with h | h
  · exact .inl ((inB_of hx k).2 h)
  · exact .inr h
theorem Hs.new_own {w' : World} {B : Nat} (h : Hs W L w) (hs : Same w w') (ho : Own w' B e size a l c xs) (hn : ∀ k,inB a k -> w.heap.size <= k) : Hs W (slP e size a l c xs :: L) w' := by
  obtain ⟨y,hy,gy⟩ := own_to ho
  exact h.new hs hy gy fun k hk => hn k ((inB_of hy k).1 hk)
theorem Hs.nil (h : Hs W L w) (e : TypeId) (size : Nat) : Hs W (slP e size none 0 0 [] :: L) w := h.new_own (Fr.refl w) (Own.nil w 0 e size) fun k ⟨_,e,_⟩ => by cases e
theorem Hs.own_new (h : Hs W L w) {w' : World} (hs : Same w w') (ho : Own w' w.heap.size e size a l c xs) : Hs W (slP e size a l c xs :: L) w' := h.new_own hs ho fun _ hk => (ho.base_le hk).1
variable {P : Program} {t ty : TypeId} {bytes : Nat} {z : Value} {inf : TypeInfo}
theorem Hs.append (E : ElemT P t e size bytes z inf) (h : Hs W L w) (i : Nat) (hi : L[i]? = some (slP e size a l c xs)) {b : Addr} {m d : Nat} {news : List Value} (hl : news.length = m * size) (hnews : Rd w (some b) news) (h1 : ∀ u ∈ news,u.oneCell' = true) (hn : l + m <= 281474976710656) (hb : (l + m) * bytes <= 140737488355328)
    {K : Option Addr -> Nat -> Nat -> World -> Prop} (hk : ∀ a' c' w',Hs W (L.set i (slP e size a' (l + m) c' (xs ++ news))) w' -> Fr (inB a) w w' -> K a' (l + m) c' w') :
    ∃ a' l' c' w',Sem.run P (Builtin.append_ #[t,t] ty #[.slice a l c,.slice (some b) m d]) w = .ok (.slice a' l' c') w' /\ K a' l' c' w' := by
  obtain ⟨a',l',c',w',hr,rfl,ho,hf,hs⟩ := append_own (ty := ty) E (h.own i hi) (d := d) hl hnews h1 hn hb h.size
  exact ⟨a',_,c',w',hr,hk a' c' w' (h.slice i hi ho hf hs) hf⟩
theorem Hs.push (E : ElemT P t e size bytes z inf) (h : Hs W L w) (i : Nat) (hi : L[i]? = some (slP e size a l c xs)) {news : Array Value} (hz : news.size = size) (h1 : ∀ u ∈ news.toList,u.oneCell' = true) (hn : l + 1 <= 281474976710656) (hb : (l + 1) * bytes <= 140737488355328)
    {K : Option Addr -> Nat -> Nat -> World -> Prop} (hk : ∀ a' c' w',Hs W (L.set i (slP e size a' (l + 1) c' (xs ++ news.toList))) w' -> K a' (l + 1) c' w') :
    ∃ a' l' c' w',Sem.run P (Builtin.append_ #[t,t] ty #[.slice a l c,.slice (some (Addr.mk w.heap.size 0 none)) 1 1]) (w.alloc (.cells news e)) = .ok (.slice a' l' c') w' /\ K a' l' c' w' :=
  Sh.push E (h.own i hi) hz h1 hn hb h.size fun a' c' w' ho hf hs => hk a' c' w' (h.slice i hi ho hf hs)
theorem Hs.put {ad : Addr} {j : Nat} {v : Value} (h : Hs W L w) (i : Nat) (hi : L[i]? = some (slP e size (some ad) l c xs)) (hj : j < xs.length) (hk : ∀ w',Hs W (L.set i (slP e size (some ad) l c (xs.set j v))) w' -> K w') : Sh.stc (ad.add j) v w K :=
  Own.put (h.own i hi) hj fun w' ho hf => hk w' (h.slice i hi ho hf fun _ hk => .inl hk)
theorem Hs.cut {n : Nat} (h : Hs W L w) (i : Nat) (hi : L[i]? = some (slP e size a l c xs)) (hn : n <= l) : Hs W (L.set i (slP e size a n c (xs.take (n * size)))) w :=
  h.slice i hi ((h.own i hi).cut hn) (Fr.refl w) fun _ hk => .inl hk
theorem Hs.make (E : ElemT P t e size bytes z inf) (h : Hs W L w) {kl kc : IntKind} {n : Nat} (hn : n * size <= 16777216) (hb : bytes * n <= 281474976710656) (hm : n <= 281474976710656) {K : Option Addr -> Nat -> Nat -> World -> Prop}
    (hk : ∀ a w',Hs W (slP e size a n n (madeCells z.cells (n * size)).toList :: L) w' -> Same w w' -> K a n n w') :
    ∃ a l c w',Sem.run P (Instr.makeSlice t (.int kl (n : Int)) (.int kc (n : Int))) w = .ok (.slice a l c) w' /\ K a l c w' :=
  make_own (base := w.heap.size) E hn hb hm (Nat.le_refl _) fun w' ho hf => hk _ w' (h.own_new hf ho) hf
end
end Go.Sh
namespace Go.Sh
open Go
def bk : Option Addr -> List Nat
  | none => []
  | some ad => [ad.block]
theorem mem_bk {a : Option Addr} {k : Nat} : k ∈ bk a ↔ inB a k := by
  cases a with
  | none => simp [bk,inB]
  | some ad => simp [bk,inB]; exact eq_comm
def Dm (A : HP) (f : List Nat) : Prop := ∀ x,A x -> f.Nodup /\ ∀ k,x k ≠ none ↔ k ∈ f
def Bu (w : World) (A : HP) : Prop := ∃ x,A x /\ ag x w
section
variable {W w : World} {A B : HP} {L : List HP} {f g : List Nat}
theorem Dm.pt (b : Nat) (o : Obj) : Dm (pt b o) [b] := by
  rintro _ rfl
  refine ⟨by simp,fun k => ?_⟩
  by_cases h : k = b <;> simp [h]
theorem Dm.sl {e : TypeId} {s l c : Nat} {a : Option Addr} {xs : List Value} : Dm (slP e s a l c xs) (bk a) := fun x hx => ⟨by cases a <;> simp [bk],fun k => by rw [mem_bk]; exact inB_of hx k⟩
theorem Dm.emp : Dm emp [] := by
  rintro _ rfl
  exact ⟨by simp,fun k => by simp⟩
theorem Dm.star (hA : Dm A f) (hB : Dm B g) : Dm (star A B) (f ++ g) := by
  rintro _ ⟨x,y,hx,hy,d,rfl⟩
  obtain ⟨n1,m1⟩ := hA x hx
  obtain ⟨n2,m2⟩ := hB y hy
  refine ⟨List.nodup_append.2 ⟨n1,n2,fun a ha b hb e => ?_⟩,fun k => ?_⟩
  · subst e
    rcases d a with d | d
    · exact (m1 a).2 ha d
    · exact (m2 a).2 hb d
  · rw [List.mem_append,← m1,← m2,Ne,hun_none,Classical.not_and_iff_not_or_not]
theorem Dm.cons (hA : Dm A f) (hB : Dm (bigS L) g) : Dm (bigS (A :: L)) (f ++ g) := Dm.star hA hB
theorem Dm.pr {p : Prop} (h : p -> Dm A f) : Dm (pr p A) f := fun x hx => h hx.1 x hx.2
theorem Bu.pt {b : Nat} {o : Obj} (h : w.heap[b]? = some o) : Bu w (pt b o) := ⟨_,rfl,fun k o' e => by
  by_cases hk : k = b
  · subst hk; simp at e; subst e; exact h
  · simp [hk] at e⟩
theorem Bu.sl {e : TypeId} {s l c B : Nat} {a : Option Addr} {xs : List Value} (h : Own w B e s a l c xs) : Bu w (slP e s a l c xs) := own_to h
theorem Bu.emp : Bu w emp := ⟨_,rfl,fun _ _ e => by simp at e⟩
theorem Bu.star (h1 : Bu w A) (h2 : Bu w B) (d1 : Dm A f) (d2 : Dm B g) (hn : (f ++ g).Nodup) : Bu w (star A B) := by
  obtain ⟨x,hx,ax⟩ := h1
  obtain ⟨y,hy,ay⟩ := h2
  refine ⟨hun x y,⟨x,y,hx,hy,fun k => ?_,rfl⟩,fun k o e => ?_⟩
  · rcases Classical.em (x k = none) with h | h
    · exact .inl h
    · rcases Classical.em (y k = none) with h' | h'
      · exact .inr h'
      · exact absurd rfl ((List.nodup_append.1 hn).2.2 k (((d1 x hx).2 k).1 h) k (((d2 y hy).2 k).1 h'))
  · unfold hun at e
    cases e' : x k with
    | some o' => rw [e'] at e; cases e; exact ax k _ e'
    | none => rw [e'] at e; exact ay k o (by simpa using e)
theorem Bu.cons (h1 : Bu w A) (h2 : Bu w (bigS L)) (d1 : Dm A f) (d2 : Dm (bigS L) g) (hn : (f ++ g).Nodup) : Bu w (bigS (A :: L)) := Bu.star h1 h2 d1 d2 hn
theorem Bu.pr {p : Prop} (hp : p) (h : Bu w A) : Bu w (pr p A) := by
  obtain ⟨x,hx,ax⟩ := h
  exact ⟨x,⟨hp,hx⟩,ax⟩
theorem piece {x : Hl} (h : bigS L x) (a : ag x w) {i : Nat} (hi : L[i]? = some A) : ∃ y,A y /\ ag y w /\ ∀ k,y k ≠ none -> x k ≠ none := by
  rw [bigS_focus hi] at h
  obtain ⟨y,z,hy,hz,d,rfl⟩ := h
  exact ⟨y,hy,fun k o e => a k o (by unfold hun; rw [e]; rfl),fun k e u => e (hun_none.1 u).1⟩
theorem Hs.apart (h : Hs W L w) {i j : Nat} (hij : i ≠ j) (hi : L[i]? = some A) (hj : L[j]? = some B) (d1 : Dm A f) (d2 : Dm B g) : ∀ k ∈ f,k ∉ g := by
  have h1 := h.focus hi
  have hj' : ∃ j' : Nat,(L.eraseIdx i)[j']? = some B := by
    rcases Nat.lt_or_ge j i with hl | hl
    · exact ⟨j,by rw [List.getElem?_eraseIdx,if_pos hl]; exact hj⟩
    · exact ⟨j - 1,by rw [List.getElem?_eraseIdx,if_neg (by omega),show j - 1 + 1 = j by omega]; exact hj⟩
  obtain ⟨j',hj'⟩ := hj'
  obtain ⟨_,x,⟨y,z,hy,hz,d,rfl⟩,_,_⟩ := h1
  rw [bigS_focus hj'] at hz
  obtain ⟨u,v,hu,hv,d',rfl⟩ := hz
  intro k hk hk'
  have e1 := ((d1 y hy).2 k).2 hk
  have e2 := ((d2 u hu).2 k).2 hk'
  rcases d k with d | d
  · exact e1 d
  · exact e2 (hun_none.1 d).1
theorem Hs.ne (h : Hs W L w) (i j : Nat) {b b' : Nat} {o o' : Obj} (hi : L[i]? = some (Sh.pt b o)) (hj : L[j]? = some (Sh.pt b' o')) (hij : i ≠ j := by decide) : b ≠ b' := fun e => h.apart hij hi hj (Dm.pt b o) (Dm.pt b' o') b (by simp) (by simp [e])
theorem Hs.mem {_ : Hl} (h : Hs W L w) (hm : A ∈ L) : ∃ x,A x /\ ag x w /\ ∀ k,x k ≠ none -> W.heap.size <= k := by
  obtain ⟨i,hi⟩ := List.getElem?_of_mem hm
  exact h.look hi
theorem Hs.rdm {e : TypeId} {s l c : Nat} {a : Option Addr} {xs : List Value} (h : Hs W L w) (hm : slP e s a l c xs ∈ L) : Rd w a xs := by
  obtain ⟨i,hi⟩ := List.getElem?_of_mem hm
  exact h.rd i hi
theorem Hs.build {w' : World} (h : Hs W L w) (hs : Same w w') (hb : Bu w' A) (hd : Dm A f) (hn : ∀ k ∈ f,w.heap.size <= k) : Hs W (A :: L) w' := by
  obtain ⟨x,hx,ax⟩ := hb
  exact h.new hs hx ax fun k hk => hn k (((hd x hx).2 k).1 hk)
end
end Go.Sh
namespace Go.Sh
open Go
section
variable {α β : Type} {f : α -> List β} {m : Nat}
theorem flat_length (hf : ∀ a,(f a).length = m) (l : List α) : (l.flatMap f).length = l.length * m := by
  induction l with
  | nil => simp
  | cons a l ih => rw [List.flatMap_cons,List.length_append,hf,ih,List.length_cons,Nat.add_mul,Nat.one_mul,Nat.add_comm]
theorem flat_get (hf : ∀ a,(f a).length = m) {l : List α} {i j : Nat} {a : α} (h : l[i]? = some a) (hj : j < m) : (l.flatMap f)[i * m + j]? = (f a)[j]? := by
  induction l generalizing i with
  | nil => simp at h
  | cons b l ih =>
    rw [List.flatMap_cons]
    cases i with
    | zero =>
      simp at h; subst h
      rw [Nat.zero_mul,Nat.zero_add,List.getElem?_append_left (by rw [hf]; exact hj)]
    | succ i =>
      rw [List.getElem?_append_right (by rw [hf,Nat.add_mul]; omega),← ih (by simpa using h)]
      congr 1
      rw [hf,Nat.add_mul]; omega
theorem flat_at (hf : ∀ a,(f a).length = m) {l : List α} {i j : Nat} {a : α} {v : β} (h : l[i]? = some a) (hv : (f a)[j]? = some v) : (l.flatMap f)[i * m + j]? = some v := by
  rw [flat_get hf h,hv]
  have := (List.getElem?_eq_some_iff.1 hv).1
  rwa [hf] at this
end
theorem split_of {α : Type} {l : List α} {k : Nat} {d : α} (h : l[k]? = some d) : l = l.take k ++ d :: l.drop (k + 1) := by
  have hk := (List.getElem?_eq_some_iff.1 h).1
  have e := (List.getElem?_eq_some_iff.1 h).2
  have h1 := List.take_append_drop k l
  rw [List.drop_eq_getElem_cons hk,e] at h1
  exact h1.symm
theorem perm_out {α : Type} {l : List α} {i : Nat} {x : α} (h : l[i]? = some x) : l.Perm (x :: l.eraseIdx i) := by
  rw [List.eraseIdx_eq_take_drop_succ]
  exact (List.Perm.of_eq (split_of h)).trans List.perm_middle
theorem set_id {α : Type} {l : List α} {k : Nat} {d : α} (h : l[k]? = some d) : l.set k d = l := by
  have hk := (List.getElem?_eq_some_iff.1 h).1
  rw [List.set_eq_take_append_cons_drop,if_pos hk]
  exact (split_of h).symm
theorem Pres.of_Same {w w' : World} (h : Same w w') : Pres w w' :=
  ⟨h.size,fun a v hv => by rw [← hv]; exact World.cell?_of_block (h.block _ (World.block_lt_of_cell? w a hv) fun x => x),fun r es c hr => h.blk hr fun x => x⟩
section
variable {W w : World} {A B C D : HP} {L M : List HP}
theorem Hs.part {α : Type} {F : α -> HP} {l : List α} {i : Nat} {x : α} (hi : l[i]? = some x) (h : Hs W (M ++ l.map F) w) : Hs W (F x :: (M ++ (l.map F).eraseIdx i)) w := by
  have hpm := perm_out (l := l.map F) (i := i) (x := F x) (by simp [hi])
  exact h.perm ((List.Perm.append_left M hpm).trans List.perm_middle)
theorem Hs.behind (h : Hs W (A :: (L ++ M)) w) : Hs W (L ++ A :: M) w := h.perm List.perm_middle.symm
variable {P : Program} {t ty e : TypeId} {size bytes : Nat} {z : Value} {inf : TypeInfo} {a : Option Addr} {l c : Nat} {xs : List Value}
end
end Go.Sh
namespace Go.Sh
open Go
def lone (w : World) (b : Nat) (o : Obj) : World := { w with heap := (Array.replicate b (.cells #[] 0 (0,0))).push o }
theorem lone_at (w : World) (b : Nat) (o : Obj) : (lone w b o).heap[b]? = some o := by
  show ((Array.replicate b (Obj.cells #[] 0 (0,0))).push o)[b]? = some o
  rw [Array.getElem?_push]
  simp
theorem lone_other {w : World} {b k : Nat} {o o' : Obj} (h : (lone w b o).heap[k]? = some o') (hk : k ≠ b) : o' = .cells #[] 0 (0,0) := by
  have : ((Array.replicate b (Obj.cells #[] 0 (0,0))).push o)[k]? = some o' := h
  rw [Array.getElem?_push] at this
  have hs : (Array.replicate b (Obj.cells #[] 0 (0,0))).size = b := by simp
  rw [hs,if_neg hk] at this
  rw [Array.getElem?_replicate] at this
  split at this
  · cases this; rfl
  · cases this
theorem Pres.lone {w w' : World} {b : Nat} {o : Obj} (h : w'.heap[b]? = some o) : Pres (Sh.lone w b o) w' := by
  have hlt := lt_of_blk h
  refine ⟨?_,fun a v e => ?_,fun r es c e => ?_⟩
  · show ((Array.replicate b (Obj.cells #[] 0 (0,0))).push o).size <= _
    simp; omega
  · by_cases ha : a.block = b
    · rw [← e]
      refine World.cell?_of_block ?_
      rw [ha,lone_at,h]
    · exfalso
      unfold World.cell? at e
      cases ho : (Sh.lone w b o).heap[a.block]? with
      | none => rw [ho] at e; cases e
      | some o' =>
        have := lone_other ho ha
        subst this
        rw [ho] at e
        simp at e
  · by_cases hr : r = b
    · subst hr; rw [lone_at] at e; rw [h]; exact e
    · have := lone_other e hr
      cases this
end Go.Sh
