/- Own text: part of the shallow reading of the code and of the contracts that are proved over it. -/
import Derived.Test.YtccffjlahpfdaaaDoorIpX3
import Derived.Test.YtccffjlahpfdaaaDoorShX
import Derived.Test.YtccffjlahpfdaaaDoorShW
namespace Go.Proofs.YtccffjlahpfdaaaDoor
open Go Go.Sh Go.Sp
/-! sets and boxes, owned -/
theorem SetR.loc {w w' : World} {b m : Nat} {cum : Int} {S : List Nat} (h : SetR w b m cum S) (e1 : w'.heap[b]? = w.heap[b]?) (e2 : w'.heap[m]? = w.heap[m]?) : SetR w' b m cum S := by
  obtain ⟨hf, h2, h3, h4, h5⟩ := h
  obtain ⟨g1, g2, g3, f, g4, g5⟩ := hf
  exact ⟨⟨by rw [e1]; exact g1, g2, g3, f, g4.of_blk e2, g5⟩, h2, h3, h4, h5⟩
theorem SetR.ne {w : World} {b m : Nat} {cum : Int} {S : List Nat} (h : SetR w b m cum S) : m ≠ b := by
  obtain ⟨f, g4, _⟩ := h.fld.map
  exact g4.ne_cells h.fld.blk
def setP (b : Nat) (cum : Int) (S : List Nat) : HP := ex fun m => on [b, m] fun w => SetR w b m cum S
theorem setP_of {w : World} {b m : Nat} {cum : Int} {S : List Nat} (h : SetR w b m cum S) : Bu w (on [b, m] fun w => SetR w b m cum S) :=
  Bu.on (by have := h.ne; simp; omega) (by have := h.blt; have := h.mlt; simp; omega) fun w' e => h.loc (e b (by simp)) (e m (by simp))
section
variable {W w : World} {L : List HP} {b rb : Nat} {cum : Int} {S : List Nat}
theorem Hs.ex_at {α : Sort _} {F : α → HP} (h : Hs W L w) (i : Nat) (hi : L[i]? = some (ex F)) : ∃ x, Hs W (L.set i (F x)) w := by
  obtain ⟨x, hx⟩ := Hs.cons_ex.1 (h.focus hi)
  exact ⟨x, hx.unfocus (List.getElem?_eq_some_iff.1 hi).1⟩
theorem Hs.at_ex {α : Sort _} {F : α → HP} (h : Hs W L w) (i : Nat) {x : α} (hi : L[i]? = some (F x)) : Hs W (L.set i (ex F)) w :=
  (Hs.cons_ex.2 ⟨x, h.focus hi⟩).unfocus (List.getElem?_eq_some_iff.1 hi).1
theorem Hs.setR (h : Hs W L w) (i : Nat) (hi : L[i]? = some (setP b cum S)) : ∃ m, SetR w b m cum S ∧ ∀ {w' : World} {m' : Nat} {cum' : Int} {S' : List Nat}, (m' = m ∨ w.heap.size ≤ m') → SetR w' b m' cum' S' → Fr (Bm b m) w w' → Hs W (L.set i (setP b cum' S')) w' := by
  have hl := (List.getElem?_eq_some_iff.1 hi).1
  obtain ⟨m, h1⟩ := Hs.ex_at h i hi
  have e1 : (L.set i (on [b, m] fun w => SetR w b m cum S))[i]? = some (on [b, m] fun w => SetR w b m cum S) := by simp [hl]
  refine ⟨m, h1.got i e1, fun {w'} {m'} {cum'} {S'} hm hs hf => ?_⟩
  have h2 := h1.turn_at (B := on [b, m'] fun w => SetR w b m' cum' S') i e1 Dm.on (hf.mono fun k _ x => by rcases x with rfl | rfl <;> simp) (setP_of hs) Dm.on fun k hk => by
    simp at hk
    rcases hk with rfl | rfl
    · simp
    · rcases hm with rfl | hm
      · simp
      · exact .inr hm
  rw [List.set_set] at h2
  have h3 := Hs.at_ex (F := fun m => on [b, m] fun w => SetR w b m cum' S') h2 i (x := m') (by simp [hl])
  rw [List.set_set] at h3
  exact h3
theorem RefR.loc {w w' : World} {b : Nat} {a : Option Addr} {cum : Int} {S : List Nat} (h : RefR w b a cum S) (e1 : w'.heap[b]? = w.heap[b]?) (e2 : ∀ k, inB a k → w'.heap[k]? = w.heap[k]?) : RefR w' b a cum S := by
  obtain ⟨⟨c, h1, h2⟩, h3, h4, h5, h6⟩ := h
  exact ⟨⟨c, by rw [e1]; exact h1, h2.loc fun k hk => ⟨e2 k hk, (h2.base_le hk).1⟩⟩, h3, h4, h5, h6⟩
def refP (rb : Nat) (cum : Int) (S : List Nat) : HP := ex fun a => on (rb :: bk a) fun w => RefR w rb a cum S
theorem refP_of {w : World} {a : Option Addr} (h : RefR w rb a cum S) : Bu w (on (rb :: bk a) fun w => RefR w rb a cum S) := by
  refine Bu.on ?_ (fun k hk => ?_) fun w' e => h.loc (e rb (by simp)) fun k hk => e k (by simp [mem_bk.2 hk])
  · rw [List.nodup_cons]
    refine ⟨fun hm => ?_, by cases a <;> simp [bk]⟩
    have := (h.alt (mem_bk.1 hm)).1
    omega
  · rcases List.mem_cons.1 hk with rfl | hk
    · exact h.blt
    · exact (h.alt (mem_bk.1 hk)).2
theorem Hs.refR (h : Hs W L w) (i : Nat) (hi : L[i]? = some (refP rb cum S)) : ∃ a, RefR w rb a cum S ∧ ∀ {w' : World} {a' : Option Addr} {cum' : Int} {S' : List Nat}, (∀ k, inB a' k → inB a k ∨ w.heap.size ≤ k) → RefR w' rb a' cum' S' → Fr (fun k => k = rb ∨ inB a k) w w' → Hs W (L.set i (refP rb cum' S')) w' := by
  have hl := (List.getElem?_eq_some_iff.1 hi).1
  obtain ⟨a, h1⟩ := Hs.ex_at h i hi
  have e1 : (L.set i (on (rb :: bk a) fun w => RefR w rb a cum S))[i]? = some (on (rb :: bk a) fun w => RefR w rb a cum S) := by simp [hl]
  refine ⟨a, h1.got i e1, fun {w'} {a'} {cum'} {S'} hm hs hf => ?_⟩
  have h2 := h1.turn_at (B := on (rb :: bk a') fun w => RefR w rb a' cum' S') i e1 Dm.on (hf.mono fun k _ x => by rcases x with rfl | x; simp; exact List.mem_cons_of_mem _ (mem_bk.2 x)) (refP_of hs) Dm.on fun k hk => by
    rcases List.mem_cons.1 hk with rfl | hk
    · simp
    · rcases hm k (mem_bk.1 hk) with x | x
      · exact .inl (List.mem_cons_of_mem _ (mem_bk.2 x))
      · exact .inr x
  rw [List.set_set] at h2
  have h3 := Hs.at_ex (F := fun a => on (rb :: bk a) fun w => RefR w rb a cum' S') h2 i (x := a') (by simp [hl])
  rw [List.set_set] at h3
  exact h3
theorem Hs.tb (h : Hs W L w) (ht : TB W) : TB w := ht.fr h.1 fun x => x
end
/-! the plain box -/
structure BX where
  cum : Int
  S : List Nat
  fx : List Int
  dup : List Int
  delay : Int
  nr : Bool
  pk : Int
  made : Bool
  due : Int
def nV (l : List Int) : List Value := l.map (Value.int .u32)
theorem nV_length (l : List Int) : (nV l).length = l.length := by simp [nV]
theorem nV_at {l : List Int} {j : Nat} {x : Int} (h : l[j]? = some x) : (nV l)[j]? = some (.int .u32 x) := by simp [nV, h]
theorem nV_snoc (l : List Int) (x : Int) : nV (l ++ [x]) = nV l ++ [.int .u32 x] := by simp [nV]
def fxF (l : List Int) : Int → Option Int := fun t => if t ∈ l then some 1 else none
structure BD where
  s : Nat
  m : Nat
  a : Option Addr
  c : Nat
def boxL (bb : Nat) (D : BD) (x : BX) : List HP := [pt bb (.cells #[.pointer (some ⟨D.s, 0, none⟩), .map (some D.m), .slice D.a x.dup.length D.c, .int .i64 x.delay, .bool x.nr, .int .i64 x.pk, .bool x.made, .int .i64 x.due] 80 (0, 0)), setP D.s x.cum x.S, mapP .u32 .i64 D.m (fxF x.fx), slP 22 1 D.a x.dup.length D.c (nV x.dup)]
structure RD where
  s : Nat
  fa : Option Addr
  fc : Nat
  da : Option Addr
  dc : Nat
def refL (rr : Nat) (R : RD) (x : BX) : List HP := [pt rr (.cells #[.pointer (some ⟨R.s, 0, none⟩), .bool x.nr, .int .i64 x.delay, .slice R.fa x.fx.length R.fc, .slice R.da x.dup.length R.dc, .int .i64 x.pk, .bool x.made, .bool (decide (0 ≤ x.due)), .int .i64 (if 0 ≤ x.due then x.due else 0)] 36 (0, 0)), refP R.s x.cum x.S, slP 22 1 R.fa x.fx.length R.fc (nV x.fx), slP 22 1 R.da x.dup.length R.dc (nV x.dup)]
end Go.Proofs.YtccffjlahpfdaaaDoor
