/-
  Owned memory: what a contract of another kind says of some blocks, as an assertion.
-/
import Derived.Test.YtaflmpbeonoilaaShU
namespace Go.Sh
open Go
/-- a fact that rests on some blocks alone -/
def on (f : List Nat) (P : World → Prop) : HP := fun x => f.Nodup ∧ (∀ k, x k ≠ none ↔ k ∈ f) ∧ ∀ w, ag x w → P w
section
variable {W w : World} {L M : List HP} {A B : HP} {f g : List Nat} {P Q : World → Prop}
theorem Dm.on : Dm (Sh.on f P) f := fun _ hx => ⟨hx.1, hx.2.1⟩
theorem Bu.on (hn : f.Nodup) (hb : ∀ k ∈ f, k < w.heap.size) (hl : ∀ w', (∀ k ∈ f, w'.heap[k]? = w.heap[k]?) → P w') : Bu w (Sh.on f P) := by
  refine ⟨fun k => if k ∈ f then w.heap[k]? else none, ⟨hn, fun k => ?_, fun w' a => hl w' fun k hk => ?_⟩, fun k o e => ?_⟩
  · constructor
    · intro h
      rcases Classical.em (k ∈ f) with h' | h'
      · exact h'
      · exact absurd (if_neg h') h
    · intro h
      show (if k ∈ f then w.heap[k]? else none) ≠ none
      rw [if_pos h]
      simp [hb k h]
  · have e : w.heap[k]? = some (w.heap[k]'(hb k hk)) := by simp [hb k hk]
    rw [e]
    exact a k _ (by show (if k ∈ f then w.heap[k]? else none) = _; rw [if_pos hk, e])
  · have e : (if k ∈ f then w.heap[k]? else none) = some o := e
    split at e
    · exact e
    · cases e
theorem Hs.got (h : Hs W L w) (i : Nat) (hi : L[i]? = some (Sh.on f P)) : P w := by
  obtain ⟨x, hx, a, _⟩ := h.look hi
  exact hx.2.2 w a
theorem Hs.on_low (h : Hs W L w) (i : Nat) (hi : L[i]? = some (Sh.on f P)) : ∀ k ∈ f, W.heap.size ≤ k ∧ k < w.heap.size := by
  obtain ⟨x, hx, a, lo⟩ := h.look hi
  intro k hk
  have := (hx.2.1 k).2 hk
  exact ⟨lo k this, ag_lt a this⟩
/-- it turns, at its place -/
theorem Hs.turn_at {w' : World} (h : Hs W L w) (i : Nat) (hi : L[i]? = some A) (d1 : Dm A f) (hf : Fr (· ∈ f) w w') (hb : Bu w' B) (d2 : Dm B g) (hg : ∀ k ∈ g, k ∈ f ∨ w.heap.size ≤ k) : Hs W (L.set i B) w' :=
  ((h.focus hi).turn d1 hf hb d2 hg).unfocus (List.getElem?_eq_some_iff.1 hi).1
theorem Hs.on_turn {w' : World} (h : Hs W L w) (i : Nat) (hi : L[i]? = some (Sh.on f P)) (hf : Fr (· ∈ f) w w') (hn : g.Nodup) (hb : ∀ k ∈ g, k < w'.heap.size) (hl : ∀ w2, (∀ k ∈ g, w2.heap[k]? = w'.heap[k]?) → Q w2) (hg : ∀ k ∈ g, k ∈ f ∨ w.heap.size ≤ k) : Hs W (L.set i (Sh.on g Q)) w' :=
  h.turn_at i hi Dm.on hf (Bu.on hn hb hl) Dm.on hg
/-- two lists of parts change their places -/
theorem Hs.flip {X Y : List HP} : Hs W (X ++ (Y ++ L)) w ↔ Hs W (Y ++ (X ++ L)) w := by
  have p : ∀ (X Y : List HP), (X ++ (Y ++ L)).Perm (Y ++ (X ++ L)) := fun X Y => by
    rw [← List.append_assoc, ← List.append_assoc]
    exact List.Perm.append_right L List.perm_append_comm
  exact ⟨fun h => h.perm (p X Y), fun h => h.perm (p Y X)⟩
theorem Hs.cast (h : Hs W L w) (e : L = M) : Hs W M w := e ▸ h
end
/-! a map of ints, owned -/
section
variable {W w : World} {L : List HP} {kk kv kd : IntKind} {m : Nat} {f : Int → Option Int} {P : Program} {T kt et : TypeId} {k v : Int}
def mapP (kk kv : IntKind) (m : Nat) (f : Int → Option Int) : HP := on [m] fun w => MapI kk kv w m f
theorem mapP_of {w : World} (h : MapI kk kv w m f) : Bu w (mapP kk kv m f) := Bu.on (by simp) (by simpa using h.lt) fun _ h' => h.of_blk (h' m (by simp))
theorem Hs.map (h : Hs W L w) (i : Nat) (hi : L[i]? = some (mapP kk kv m f)) : MapI kk kv w m f := h.got i hi
theorem Hs.map_turn {w' : World} {f' : Int → Option Int} (h : Hs W L w) (i : Nat) (hi : L[i]? = some (mapP kk kv m f)) (hf : Fr (· = m) w w') (hm : MapI kk kv w' m f') : Hs W (L.set i (mapP kk kv m f')) w' :=
  h.turn_at i hi Dm.on (hf.mono fun k _ e => by simp [e]) (mapP_of hm) Dm.on fun k hk => .inl hk
theorem Hs.map_new (h : Hs W L w) (kk kv : IntKind) : Hs W (mapP kk kv w.heap.size (fun _ => none) :: L) (w.alloc (.map #[] 0)) :=
  h.build ((Fr.refl w).alloc _) (mapP_of (MapI.new kk kv w)) Dm.on fun k hk => by simp at hk; omega
end
end Go.Sh
