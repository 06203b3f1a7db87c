/-
  Records of many cells, loaded and stored as one.
-/
import Derived.Test.YtaflmpbeonoilaaShU
import Derived.Test.YtaflmpbeonoilaaShN
namespace Go.Sh
open Go
def stcL (a : Addr) : Nat → List Value → World → (World → Prop) → Prop
  | _, [], w, K => K w
  | i, v :: r, w, K => stc (a.add i) v w fun w => stcL a (i + 1) r w K
def At (w : World) (a : Addr) (l : List Value) : Prop := ∀ j v, l[j]? = some v → w.cell? (a.add j) = some v
theorem Rd.atL {w : World} {a : Addr} {l : List Value} (h : Rd w (Option.some a) l) : At w a l := fun _ _ hj => h.at hj
theorem Rd.atI {α : Type} {w : World} {a : Addr} {f : α → List Value} {m i : Nat} {xs : List α} {x : α} (h : Rd w (Option.some a) (xs.flatMap f)) (hf : ∀ a, (f a).length = m) (hi : xs[i]? = Option.some x) : At w (a.add (i * m)) (f x) := fun j v hj => by
  rw [add_add]
  exact h.at (flat_at hf hi hj)
theorem At.blk {w : World} {b : Nat} {cs : Array Value} {T : TypeId} {z : Nat × Nat} (h : w.heap[b]? = some (.cells cs T z)) : At w ⟨b, 0, none⟩ cs.toList := fun j v hj => by
  rw [add_mk, Nat.zero_add, cell_at h]
  simpa using hj
theorem At.off {w : World} {b o : Nat} {cs : Array Value} {T : TypeId} {z : Nat × Nat} (h : w.heap[b]? = some (.cells cs T z)) {l : List Value} (hl : ∀ j v, l[j]? = some v → cs[o + j]? = some v) : At w ⟨b, o, none⟩ l := fun j v hj => by
  rw [add_mk, cell_at h]
  exact hl j v hj
section
variable {W w : World} {L : List HP}
theorem Hs.atL (h : Hs W L w) (i : Nat) {b : Nat} {cs : Array Value} {T : TypeId} (hi : L[i]? = some (pt b (.cells cs T (0, 0)))) : At w ⟨b, 0, none⟩ cs.toList := At.blk (h.at i hi)
theorem setL_all : ∀ (l : List Value) (cs : Array Value) (o : Nat), l.length + o = cs.size → (l.zipIdx o).foldl (fun c (p : Value × Nat) => c.setIfInBounds p.2 p.1) cs = ((cs.toList.take o) ++ l).toArray
  | [], cs, o, h => by
    apply Array.toList_inj.1
    simp only [List.zipIdx_nil, List.foldl_nil, List.append_nil]
    rw [List.take_of_length_le (by simp at h ⊢; omega)]
  | v :: l, cs, o, h => by
    simp only [List.zipIdx_cons, List.foldl_cons]
    rw [setL_all l _ (o + 1) (by simp at h ⊢; omega)]
    apply Array.toList_inj.1
    simp only [Array.toList_setIfInBounds]
    rw [List.take_add_one, List.take_set_of_le (Nat.le_refl _), List.getElem?_set, if_pos rfl, if_pos (by simp at h ⊢; omega), List.append_assoc]
    rfl
theorem Hs.stcs {b : Nat} {T : TypeId} : ∀ (l : List Value) (i o : Nat) {L : List HP} {w : World} {cs : Array Value} {K : World → Prop} (_ : Hs W L w) (_ : L[i]? = some (pt b (.cells cs T (0, 0)))) (_ : l.length + o ≤ cs.size)
    (_ : ∀ w', Hs W (L.set i (pt b (.cells ((l.zipIdx o).foldl (fun c (p : Value × Nat) => c.setIfInBounds p.2 p.1) cs) T (0, 0)))) w' → K w'), stcL ⟨b, 0, none⟩ o l w K
  | [], i, o, L, w, cs, K, h, hi, _, hk => hk w (by rw [List.zipIdx_nil, List.foldl_nil, set_id hi]; exact h)
  | v :: l, i, o, L, w, cs, K, h, hi, hl, hk => by
    unfold stcL
    rw [add_mk, Nat.zero_add]
    refine h.stc i hi (by simp at hl; omega) fun w1 h1 => ?_
    refine Hs.stcs (T := T) l i (o + 1) (cs := cs.setIfInBounds o v) h1 (by simp [(List.getElem?_eq_some_iff.1 hi).1]) (by simp at hl ⊢; omega) fun w2 h2 => hk w2 ?_
    rw [List.set_set] at h2
    exact h2
/-- a block is overwritten whole -/
theorem Hs.stcL (h : Hs W L w) (i : Nat) {b : Nat} {T : TypeId} {cs : Array Value} {K : World → Prop} (hi : L[i]? = some (pt b (.cells cs T (0, 0)))) {l : List Value} (hl : l.length = cs.size)
    (hk : ∀ w', Hs W (L.set i (pt b (.cells l.toArray T (0, 0)))) w' → K w') : Sh.stcL ⟨b, 0, none⟩ 0 l w K :=
  Hs.stcs l i 0 h hi (by omega) fun w' h' => hk w' (by
    rw [setL_all l cs 0 (by omega), List.take_zero, List.nil_append] at h'
    exact h')
/-- some cells of a slice are overwritten -/
theorem Hs.putL {e : TypeId} {size n c : Nat} {ad : Addr} : ∀ (l : List Value) (i j : Nat) {L : List HP} {w : World} {xs : List Value} {o : Nat} {K : World → Prop} (_ : Hs W L w) (_ : L[i]? = some (slP e size (some ad) n c xs)) (_ : o + j + l.length ≤ xs.length)
    (_ : ∀ w', Hs W (L.set i (slP e size (some ad) n c ((l.zipIdx (o + j)).foldl (fun c (p : Value × Nat) => c.set p.2 p.1) xs))) w' → K w'), Sh.stcL (ad.add o) j l w K
  | [], i, j, L, w, xs, o, K, h, hi, _, hk => hk w (by rw [List.zipIdx_nil, List.foldl_nil, set_id hi]; exact h)
  | v :: l, i, j, L, w, xs, o, K, h, hi, hl, hk => by
    unfold Sh.stcL
    rw [add_add]
    refine h.put i hi (by simp at hl; omega) fun w1 h1 => ?_
    refine Hs.putL (e := e) (size := size) (n := n) (c := c) l i (j + 1) (xs := xs.set (o + j) v) h1 (by simp [(List.getElem?_eq_some_iff.1 hi).1]) (by simp at hl ⊢; omega) fun w2 h2 => hk w2 ?_
    rw [List.set_set] at h2
    exact h2
end
end Go.Sh
namespace Go.Sh
open Go
def vcRG (P : Program) (orc : Orc) (π : Path) (R : Rnd) (c : Code) (Q : Post) (t : Tm) (w : World) : Prop :=
  match c with
  | .seq (.seq a (.block i (.rangeFunc g ps _ _))) T =>
    vc P orc (0 :: 0 :: π) a (fun o t w => match o with
      | .normal => rgf P (ev t g) (fun vs w0 wb Kn Kx => bdv ps.toList vs t fun t => R t w0 wb Kn Kx) w (fun D w' => vc P orc (1 :: π) T (tl Q D) t w')
          (fun c D w' => jmp c i False (vc P orc (1 :: π) T (tl Q D) t w'))
      | _ => False) t w
  | _ => False
section
variable {P : Program} {N : Nat} {t : Tm} {w : World}
theorem vcRG_sound (hm : P.follows .mixedOrders = true) {c0 : Code} {orc : Orc} (ho : OrcOk P N c0 orc) {π : Path} {R : Rnd} {c : Code} (hπ : getAt c0 π = c) (hok : okC P N c = true) {Q : Post} {ρ : Path} (hρ : ρ = 0 :: 1 :: 0 :: π)
    (hR : ∀ g ps as bd, getAt c0 ρ = .rangeFunc g ps as bd → okC P N (.rangeFunc g ps as bd) = true → ∀ t w wb Kn Kx, R t w wb Kn Kx → W P N as (fun o t1 w1 => match o with | .normal => w1 = w ∧ W P N bd (rndPost Kn Kx) t1 wb | _ => False) t w)
    (h : vcRG P orc π R c Q t w) : Wt P N c Q t w := by
  intro a ha
  unfold vcRG at h
  split at h
  · rename_i a0 i g ps as bd T
    have hR := hR g ps as bd (by rw [hρ]; simp [getAt, hπ, child]) (by
      have : okC P N (.seq (.seq a0 (.block i (.rangeFunc g ps as bd))) T) = true := hok
      rw [okC, okC, Bool.and_eq_true, Bool.and_eq_true] at this
      exact this.1.2)
    simp only [okC, Bool.and_eq_true] at hok
    have ha0 := vc_sound hm ho a0 (0 :: 0 :: π) (by simp [getAt, hπ, child]) hok.1.1 _ t w h
    refine wpIn_seq (wpIn_seq (wpIn_mono (ha0 none [] a ha) fun e y w q => ?_))
    cases e with
    | normal =>
      obtain ⟨t, hM, h⟩ := q
      have hT : ∀ D w', vc P orc (1 :: π) T (tl Q D) t w' → T.wpIn (fw none) 0 P (upT N Q) { y with defers := [{ target := .collected D, args := #[] }] } w' := fun D w' hv =>
        wpIn_mono ((vc_sound hm ho T (1 :: π) (by simp [getAt, hπ, child]) hok.2 _ t w' hv) none _ _ ⟨hM.1, rfl, hM.2.2⟩) tl_up
      refine wpIn_block (wp_rgf hM hok.1.2.1.1 hR h ?_ ?_)
      · exact fun D w' hv => hT D w' hv
      · intro c D w' hv
        unfold jmp at hv
        split at hv
        · exact hv.elim
        · rename_i j
          split at hv
          · rename_i hj
            rw [nbeq] at hj
            subst hj
            refine wpIn_exit ?_
            show if j = j then _ else _
            rw [if_pos rfl]
            exact hT D w' hv
          · exact hv.elim
        · exact hv.elim
    | exit i => obtain ⟨_, _, q⟩ := q; exact q.elim
    | ret => obtain ⟨_, _, q⟩ := q; exact q.elim
    | goto l => exact q.elim
    | panic c => exact q.elim
    | outgrown => exact q.elim
  · exact h.elim
end
end Go.Sh
