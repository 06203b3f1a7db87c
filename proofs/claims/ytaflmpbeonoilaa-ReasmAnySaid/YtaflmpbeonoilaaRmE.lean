/-
  The row of a chunk: its iterator, collected.
-/
import Derived.Test.YtaflmpbeonoilaaRmC
import Derived.Test.YtaflmpbeonoilaaShMr
import Derived.Test.YtaflmpbeonoilaaShM
namespace Go.Proofs.Ytaflmpbeonoilaa
open Go Go.Sh
section
variable {W w : World} {L M : List HP} {tb mc mf : Nat} {hd : Int} {d : TD} {s : St} {es : List Ec}
abbrev rowZ (b3 b5 tb : Nat) (hd : Int) (d : TD) (s : St) (A : List HP) (t : Int) : List HP := pt b3 (.cells #[.pointer (some ⟨tb, 0, none⟩)] 92 (0, 0)) :: pt b5 (.cells #[.int .u32 t] 30 (0, 0)) :: (tabL tb hd d s ++ A)
theorem rowZ_rt {b3 b5 : Nat} {A : List HP} {t : Int} (h : Hs W (rowZ b3 b5 tb hd d s A t) w) : RT w tb d.mc d.mf d.es s.F := tab_rt (L := A) h.drop.drop
theorem c50 {b3 b5 : Nat} {A : List Int → List HP} {x0 : Value} {t : Int} (hl : d.es.length ≤ 4000000000) (ht : 0 ≤ t ∧ t < 4294967296) (h : Hs W (rowZ b3 b5 tb hd d s (A []) t) w)
    (hy : ∀ (l : List Int) (t : Int) (w : World) (K : Value → World → Prop), l.length ≤ 4294967295 → Hs W (rowZ b3 b5 tb hd d s (A l) t) w → (∀ w', Hs W (rowZ b3 b5 tb hd d s (A (l ++ [t])) t) w' → K (.bool true) w') → callV Try.prog x0 #[.int .u32 t] w (.one (.one .bool)) K) :
    Calls Try.prog 50 #[x0, .pointer (some ⟨b3, 0, none⟩), .pointer (some ⟨b5, 0, none⟩)] w (rt fun v w' => v = .tuple #[] ∧ ∃ t', Hs W (rowZ b3 b5 tb hd d s (A (rowOf (pl d.es) t)) t') w') := by
  refine F50_ok ?_
  unfold F50
  simp only [rdA_mk]
  have hl' : (pl d.es).length = d.es.length := by simp [pl]
  have loop1 : ∀ (n : Nat) (t : Int) (w1 : World) (k : Nat) (K0 : Value → Value → Value → World → Prop), 0 ≤ t ∧ t < 4294967296 → fitB (pl d.es) (dn1 (goB (pl d.es) n t)) (goB (pl d.es) n t) = false → Hs W (rowZ b3 b5 tb hd d s (A []) t) w1 → n < k →
      (∀ w', Hs W (rowZ b3 b5 tb hd d s (A []) (goB (pl d.es) n t)) w' → K0 x0 (.pointer (some ⟨b3, 0, none⟩)) (.pointer (some ⟨b5, 0, none⟩)) w') →
      F50_1 K0 k x0 (.pointer (some ⟨b3, 0, none⟩)) (.pointer (some ⟨b5, 0, none⟩)) w1 := by
    intro n
    induction n with
    | zero =>
      intro t w1 k K0 ht hf h hk hK
      obtain ⟨k, rfl⟩ : ∃ j, k = j + 1 := ⟨k - 1, by omega⟩
      show F50_1B _ _ _ _ _ _
      unfold F50_1B
      simp only [rdA_mk]
      refine h.ldP 0 rfl rfl (h.ldI 1 rfl rfl (h.ldI 1 rfl rfl ?_))
      refine cl (c51 (rowZ_rt h) _ _) ?_
      rintro _ w6 ⟨rfl, s6⟩
      refine ⟨_, rfl, bt_false hf ?_⟩
      exact hK _ (h.same s6)
    | succ n ih =>
      intro t w1 k K0 ht hf h hk hK
      obtain ⟨k, rfl⟩ : ∃ j, k = j + 1 := ⟨k - 1, by omega⟩
      show F50_1B _ _ _ _ _ _
      unfold F50_1B
      simp only [rdA_mk]
      refine h.ldP 0 rfl rfl (h.ldI 1 rfl rfl (h.ldI 1 rfl rfl ?_))
      refine cl (c51 (rowZ_rt h) _ _) ?_
      rintro _ w6 ⟨rfl, s6⟩
      refine ⟨_, rfl, ?_⟩
      have h6 := h.same s6
      unfold goB at hf hK
      cases hb : fitB (pl d.es) (dn1 t) t with
      | false =>
        rw [hb] at hf hK
        simp only [Bool.false_eq_true, if_false] at hf hK
        exact bt_false hb (hK _ h6)
      | true =>
        rw [hb] at hf hK
        simp only [if_true] at hf hK
        refine bt_true hb ?_
        refine h6.ldI 1 rfl rfl (h6.stc 1 rfl (by simp) fun w10 h10 => ?_)
        exact ih (dn1 t) w10 k K0 (by rw [dn1_mod]; omega) hf h10 (by omega) hK
  have loop2 : ∀ (n : Nat) (l : List Int) (t : Int) (w1 : World) (k : Nat) (K2 : World → Prop), 0 ≤ t ∧ t < 4294967296 → endF (pl d.es) n t → l.length + n ≤ 4294967290 → Hs W (rowZ b3 b5 tb hd d s (A l) t) w1 → n < k →
      (∀ w' t', Hs W (rowZ b3 b5 tb hd d s (A (l ++ goF (pl d.es) n t)) t') w' → K2 w') →
      F50_2 K2 k x0 (.pointer (some ⟨b3, 0, none⟩)) (.pointer (some ⟨b5, 0, none⟩)) w1 := by
    intro n
    induction n with
    | zero =>
      intro l t w1 k K2 ht hf hll h hk hK
      obtain ⟨k, rfl⟩ : ∃ j, k = j + 1 := ⟨k - 1, by omega⟩
      show F50_2B _ _ _ _ _ _
      unfold F50_2B
      simp only [rdA_mk]
      refine h.ldI 1 rfl rfl ?_
      refine hy l t w1 _ (by omega) h fun w4 h4 => ⟨true, rfl, ?_⟩
      rw [br_true]
      refine h4.ldP 0 rfl rfl (h4.ldI 1 rfl rfl (h4.ldI 1 rfl rfl ?_))
      refine cl (c51 (rowZ_rt h4) _ _) ?_
      rintro _ w6 ⟨rfl, s6⟩
      refine ⟨_, rfl, bt_false hf ?_⟩
      exact hK _ _ (h4.same s6)
    | succ n ih =>
      intro l t w1 k K2 ht hf hll h hk hK
      obtain ⟨k, rfl⟩ : ∃ j, k = j + 1 := ⟨k - 1, by omega⟩
      show F50_2B _ _ _ _ _ _
      unfold F50_2B
      simp only [rdA_mk]
      refine h.ldI 1 rfl rfl ?_
      refine hy l t w1 _ (by omega) h fun w4 h4 => ⟨true, rfl, ?_⟩
      rw [br_true]
      refine h4.ldP 0 rfl rfl (h4.ldI 1 rfl rfl (h4.ldI 1 rfl rfl ?_))
      refine cl (c51 (rowZ_rt h4) _ _) ?_
      rintro _ w6 ⟨rfl, s6⟩
      refine ⟨_, rfl, ?_⟩
      have h6 := h4.same s6
      unfold goF at hK
      unfold endF at hf
      cases hb : fitB (pl d.es) t (up1 t) with
      | false =>
        rw [hb] at hK
        simp only [Bool.false_eq_true, if_false] at hK
        exact bt_false hb (hK _ _ h6)
      | true =>
        rw [hb] at hK
        simp only [if_true] at hK
        refine bt_true hb ?_
        refine h6.ldI 1 rfl rfl (h6.stc 1 rfl (by simp) fun w10 h10 => ?_)
        refine ih (l ++ [t]) (up1 t) w10 k K2 (by rw [up1_mod]; omega) (hf hb) (by simp; omega) h10 (by omega) fun w' t' h' => ?_
        rw [List.append_assoc] at h'
        exact hK w' t' h'
  have hs := goB_stop (L := pl d.es) (by omega) ht
  have hr := goB_rng (L := pl d.es) (pl d.es).length ht
  have he := goF_stop (L := pl d.es) (by omega) hr
  refine ⟨(pl d.es).length + 1, loop1 (pl d.es).length t w _ _ ht hs h (by omega) fun w4 h4 _g => ?_⟩
  simp only [rdA_mk]
  refine ⟨(pl d.es).length + 1, loop2 (pl d.es).length [] _ w4 _ _ hr he (by simp; omega) h4 (by omega) fun w9 t' h9 _g => ?_⟩
  rw [List.nil_append] at h9
  exact ⟨by first | rfl | trivial, t', h9⟩
/-- the list that is collected, in its variable -/
def colP (b2 : Nat) (l : List Int) : HP := ex fun p : Option Addr × Nat => bigS [pt b2 (.cells #[.slice p.1 l.length p.2] 33 (0, 0)), slP 30 1 p.1 l.length p.2 (inV .u32 l)]
theorem col_open {b2 : Nat} {l : List Int} (h : Hs W (colP b2 l :: L) w) : ∃ a c, Hs W (pt b2 (.cells #[.slice a l.length c] 33 (0, 0)) :: slP 30 1 a l.length c (inV .u32 l) :: L) w := by
  obtain ⟨p, h⟩ := Hs.cons_ex.1 h
  exact ⟨p.1, p.2, Hs.cons_bigS.1 h⟩
theorem col_shut {b2 : Nat} {l : List Int} {a : Option Addr} {c : Nat} (h : Hs W (pt b2 (.cells #[.slice a l.length c] 33 (0, 0)) :: slP 30 1 a l.length c (inV .u32 l) :: L) w) : Hs W (colP b2 l :: L) w :=
  Hs.cons_ex.2 ⟨(a, c), Hs.cons_bigS.2 h⟩
theorem inV_snoc (k : IntKind) (l : List Int) (t : Int) : inV k (l ++ [t]) = inV k l ++ [.int k t] := by simp [inV]
theorem c49 {b3 b5 : Nat} {t : Int} (hl : d.es.length ≤ 4000000000) (ht : 0 ≤ t ∧ t < 4294967296) (h : Hs W (rowZ b3 b5 tb hd d s L t) w) :
    Calls Try.prog 49 #[.slice none 0 0, .func (.func 50) #[] #[.pointer (some ⟨b3, 0, none⟩), .pointer (some ⟨b5, 0, none⟩)]] w (rt fun v w' => ∃ a c, v = .slice a (rowOf (pl d.es) t).length c ∧ Hs W (slP 30 1 a (rowOf (pl d.es) t).length c (inV .u32 (rowOf (pl d.es) t)) :: (tabL tb hd d s ++ L)) w') := by
  refine F49_ok ?_
  unfold F49
  simp only [rdC_mk]
  refine h.alc fun b2 w3 h3 => ?_
  unfold F49_1
  simp only [rdA_mk]
  refine ⟨50, #[.pointer (some ⟨b3, 0, none⟩), .pointer (some ⟨b5, 0, none⟩)], rfl, by kernel_rfl, fun rec hy => ?_⟩
  have h1 := ((((h3.nil 30 1).alloc (.deferred (some []))).alloc (rec .ready none)))
  have hsz : (w3.alloc (.deferred (some []))).heap.size = w3.heap.size + 1 := by simp
  rw [hsz] at h1
  generalize (w3.alloc (.deferred (some []))).alloc (rec .ready none) = w1 at h1 ⊢
  obtain ⟨l, hl0⟩ : ∃ l, l = w3.heap.size + 1 := ⟨_, rfl⟩
  obtain ⟨D, hD⟩ : ∃ D, D = w3.heap.size := ⟨_, rfl⟩
  rw [← hl0] at h1 hy ⊢
  rw [← hD] at h1 ⊢
  clear h3 h
  have hA : ∃ A : List Int → List HP, A = fun r => pt l (rec .ready none) :: colP b2 r :: pt D (.deferred (some [])) :: L := ⟨_, rfl⟩
  obtain ⟨A, hA⟩ := hA
  have back : ∀ {x y p q r : HP} {X Z : List HP} {w : World}, Hs W (p :: q :: r :: x :: y :: (X ++ Z)) w → Hs W (x :: y :: (X ++ (p :: q :: r :: Z))) w := by
    intro x y p q r X Z w h
    have e : (p :: q :: r :: x :: y :: (X ++ Z)).Perm (x :: y :: (X ++ (p :: q :: r :: Z))) := by
      have := (List.perm_append_comm (l₁ := [p, q, r]) (l₂ := x :: y :: X)).append_right Z
      simpa using this
    exact h.perm e
  have fore : ∀ {x y p q r : HP} {X Z : List HP} {w : World}, Hs W (x :: y :: (X ++ (p :: q :: r :: Z))) w → Hs W (p :: q :: r :: x :: y :: (X ++ Z)) w := by
    intro x y p q r X Z w h
    have e : (p :: q :: r :: x :: y :: (X ++ Z)).Perm (x :: y :: (X ++ (p :: q :: r :: Z))) := by
      have := (List.perm_append_comm (l₁ := [p, q, r]) (l₂ := x :: y :: X)).append_right Z
      simpa using this
    exact h.perm e.symm
  have h2 : Hs W (rowZ b3 b5 tb hd d s (A []) t) w1 := by
    rw [hA]
    refine back ?_
    have h4 : Hs W (pt b2 (.cells #[.slice none 0 0] 33 (0, 0)) :: slP 30 1 none 0 0 [] :: pt l (rec .ready none) :: pt D (.deferred (some [])) :: (pt b3 (.cells #[.pointer (some ⟨tb, 0, none⟩)] 92 (0, 0)) :: pt b5 (.cells #[.int .u32 t] 30 (0, 0)) :: (tabL tb hd d s ++ L))) w1 :=
      h1.perm (by
        refine List.Perm.trans ?_ (List.Perm.swap _ _ _)
        refine List.perm_middle (l₁ := [pt l (rec .ready none), pt D (.deferred (some []))]) |>.trans (List.Perm.cons _ ?_)
        exact (List.perm_middle (l₁ := [pt l (rec .ready none), pt D (.deferred (some []))])))
    have h5 := col_shut (l := []) h4
    exact h5.perm (List.Perm.swap _ _ _)
  show Calls Try.prog 50 #[.func (.yield l) #[] #[], .pointer (some ⟨b3, 0, none⟩), .pointer (some ⟨b5, 0, none⟩)] w1 _
  refine cl (c50 (A := A) hl ht h2 fun r t w2 K hr h2 hK => ?_) ?_
  · rw [hA] at h2
    have h4 := fore h2
    refine .inr ⟨l, rfl, hy _ _ _ (h4.at 0 rfl) ⟨_, rfl, ?_⟩⟩
    have h5 : Hs W (pt l (rec .busy none) :: _) (w2.putObj l (rec .busy none)) := h4.sb 0 rfl (rec .busy none)
    have h6 := h5.perm (List.Perm.swap _ _ _)
    obtain ⟨a, c, h7⟩ := col_open h6
    unfold F49_1r
    simp only [rdA_mk, rdI_mk]
    refine ⟨trivial, ?_⟩
    refine h7.ldC 0 rfl rfl ?_
    unfold alc
    refine h7.push E33 1 rfl (news := #[_]) rfl (by simp [Value.oneCell']) (by omega) (by omega) ?_
    intro a' c' w8 h8
    refine h8.stc 0 rfl (by simp) fun w9 h9 => ?_
    have h10 : Hs W (pt b2 (.cells #[.slice a' (r ++ [t]).length c'] 33 (0, 0)) :: slP 30 1 a' (r ++ [t]).length c' (inV .u32 (r ++ [t])) :: pt l (rec .busy none) :: pt D (.deferred (some [])) :: (pt b3 (.cells #[.pointer (some ⟨tb, 0, none⟩)] 92 (0, 0)) :: pt b5 (.cells #[.int .u32 t] 30 (0, 0)) :: (tabL tb hd d s ++ L))) w9 := by
      have e : (r ++ [t]).length = r.length + 1 := by simp
      rw [e, inV_snoc]
      exact h9
    have h11 := (col_shut h10).perm (List.Perm.swap _ _ _)
    refine ⟨h11.at 0 rfl, true, rfl, ?_⟩
    have h12 : Hs W (pt l (rec .ready none) :: _) (w9.putObj l (rec .ready none)) := h11.sb 0 rfl (rec .ready none)
    refine hK _ ?_
    rw [hA]
    exact back h12
  · rintro _ w2 ⟨rfl, t', h2⟩
    rw [hA] at h2
    have h4 := fore h2
    refine ⟨_, rfl, .inl ⟨h4.at 0 rfl, ?_⟩⟩
    have h5 : Hs W (pt l (rec .exhausted none) :: _) (w2.putObj l (rec .exhausted none)) := h4.sb 0 rfl (rec .exhausted none)
    obtain ⟨a, c, h6⟩ := col_open h5.drop
    refine h6.ldC 0 rfl rfl ?_
    refine ⟨h6.at 2 rfl, fun _g => ?_⟩
    simp only [rdC_mk]
    have h7 : Hs W _ ((w2.putObj l (rec .exhausted none)).putObj D (.deferred none)) := h6.sb 2 rfl (.deferred none)
    refine ⟨a, c, rfl, ?_⟩
    have h8 := h7.drop
    exact (h8.erase 1).erase 1 |>.erase 1
theorem c28 {b3 b5 : Nat} {t : Int} (hl : d.es.length ≤ 4000000000) (ht : 0 ≤ t ∧ t < 4294967296) (h : Hs W (rowZ b3 b5 tb hd d s L t) w) :
    Calls Try.prog 28 #[.func (.func 50) #[] #[.pointer (some ⟨b3, 0, none⟩), .pointer (some ⟨b5, 0, none⟩)]] w (rt fun v w' => ∃ a c, v = .slice a (rowOf (pl d.es) t).length c ∧ Hs W (slP 30 1 a (rowOf (pl d.es) t).length c (inV .u32 (rowOf (pl d.es) t)) :: (tabL tb hd d s ++ L)) w') := by
  refine F28_ok ?_
  unfold F28
  refine cl (c49 hl ht h) ?_
  rintro _ w1 ⟨a, c, rfl, h1⟩
  exact ⟨_, _, _, rfl, a, c, rfl, h1⟩
end
end Go.Proofs.Ytaflmpbeonoilaa
namespace Go.Sh
open Go
theorem own_nilc {w : World} {base : Nat} {e : TypeId} {s l c : Nat} {a : Option Addr} {xs : List Value} (h : Own w base e s a l c xs) : a = none → c = 0 := by
  rcases h.cases with ⟨_, _, hc⟩ | ⟨g, cur, ha, _⟩
  · exact fun _ => hc
  · intro h; rw [h] at ha; cases ha
theorem rd_tail {w : World} {a : Option Addr} {xs : List Value} {c f sz : Nat} (hr : Rd w a xs) (hc : c = f → xs.drop (f * sz) = []) : Rd w (if c = f then a else a.map (·.add (f * sz))) (xs.drop (f * sz)) := by
  by_cases h : c = f
  · rw [if_pos h, hc h]; exact Rd.nil _ _
  · rw [if_neg h]
    intro j u hj
    rw [List.getElem?_drop] at hj
    obtain ⟨ad, e, h⟩ := hr (f * sz + j) u hj
    refine ⟨ad.add (f * sz), by rw [e]; rfl, ?_⟩
    rw [add_add]
    exact h
theorem rd_take {w : World} {a : Option Addr} {xs : List Value} {k : Nat} (hr : Rd w a xs) : Rd w a (xs.take k) := by
  intro j u hj
  rw [List.getElem?_take] at hj
  split at hj
  · exact hr j u hj
  · cases hj
section
variable {W w : World} {L : List HP} {P : Program} {t ty e : TypeId} {size bytes : Nat} {z : Value} {inf : TypeInfo} {a oa : Option Addr} {l c ol oc n : Nat} {xs ys : List Value} {k : IntKind}
theorem Hs.appHi (E : ElemT P t e size bytes z inf) (h : Hs W L w) (i j : Nat) (hi : L[i]? = some (slP e size oa ol oc xs)) (hj : L[j]? = some (slP e size a l c ys)) (hnl : n ≤ l) (h1 : ∀ u ∈ ys, u.oneCell' = true) (hn : ol + n ≤ 281474976710656) (hb : (ol + n) * bytes ≤ 140737488355328)
    {K : Option Addr → Nat → Nat → World → Prop} (hk : ∀ a' c' w', Hs W (L.set i (slP e size a' (ol + n) c' (xs ++ ys.take (n * size)))) w' → K a' (ol + n) c' w') :
    slS size a l c none (some (.int k (n : Int))) fun b m d => ∃ a' l' c' w', Sem.run P (Builtin.append_ #[t, t] ty #[.slice oa ol oc, .slice b m d]) w = .ok (.slice a' l' c') w' ∧ K a' l' c' w' := by
  have ho := h.own j hj
  refine slS_hi (Nat.le_trans hnl ho.le) ?_
  have hlen := ho.length
  refine h.appendA E i hi (m := n) (news := ys.take (n * size)) ?_ (rd_take ho.rd) (fun h => own_nilc ho h) (fun u hu => h1 u (List.mem_of_mem_take hu)) hn hb fun a' c' w' h' _ => hk a' c' w' h'
  rw [List.length_take, hlen]
  exact Nat.min_eq_left (Nat.mul_le_mul_right size hnl)
theorem Hs.appLo (E : ElemT P t e size bytes z inf) (h : Hs W L w) (i j : Nat) (hi : L[i]? = some (slP e size oa ol oc xs)) (hj : L[j]? = some (slP e size a l c ys)) (hnl : n ≤ l) (h1 : ∀ u ∈ ys, u.oneCell' = true) (hn : ol + l ≤ 281474976710656) (hb : (ol + l) * bytes ≤ 140737488355328)
    {K : Option Addr → Nat → Nat → World → Prop} (hk : ∀ a' c' w', Hs W (L.set i (slP e size a' (ol + (l - n)) c' (xs ++ ys.drop (n * size)))) w' → K a' (ol + (l - n)) c' w') :
    slS size a l c (some (.int k (n : Int))) none fun b m d => ∃ a' l' c' w', Sem.run P (Builtin.append_ #[t, t] ty #[.slice oa ol oc, .slice b m d]) w = .ok (.slice a' l' c') w' ∧ K a' l' c' w' := by
  have ho := h.own j hj
  refine slS_lo hnl ?_
  have hlen := ho.length
  have hle := ho.le
  refine h.appendA E i hi (m := l - n) (news := ys.drop (n * size)) ?_ (rd_tail ho.rd fun hc => ?_) (fun h => ?_) (fun u hu => h1 u (List.mem_of_mem_drop hu)) (by omega) (Nat.le_trans (Nat.mul_le_mul_right bytes (by omega)) hb) fun a' c' w' h' _ => hk a' c' w' h'
  · rw [List.length_drop, hlen, Nat.sub_mul]
  · have : n = l := by omega
    subst this
    exact List.drop_eq_nil_of_le (by omega)
  · by_cases hcf : c = n
    · omega
    · rw [if_neg hcf] at h
      cases ha : a with
      | none => rw [own_nilc ho ha]; omega
      | some x => rw [ha] at h; cases h
end
end Go.Sh
namespace Go.Proofs.Ytaflmpbeonoilaa
open Go Go.Sh
section
variable {W w : World} {L M : List HP} {tb mc mf : Nat} {hd : Int} {d : TD} {s : St} {es : List Ec} {F : List Int}
theorem c24_none (w : World) : Calls Try.prog 24 #[.pointer none] w (rt (KR (.bool false) w)) := by
  refine F24_ok ?_
  unfold F24
  simp only [rdP_mk]
  exact KR.mk _ _
theorem c24 {cs : Array Value} {m : Option Nat} (h : w.heap[tb]? = some (.cells cs 70 (0, 0))) (h0 : cs[0]? = some (.map m)) : Calls Try.prog 24 #[.pointer (some ⟨tb, 0, none⟩)] w (rt (KR (.bool m.isSome) w)) := by
  refine F24_ok ?_
  unfold F24
  simp only [rdP_mk, Option.isNone_some, Bool.not_false, br_true, nn_some, add_mk]
  refine ldM_at h h0 ?_
  cases m <;> exact KR.mk _ _
theorem c24t (h : Hs W (tabL tb hd d s ++ L) w) : Calls Try.prog 24 #[.pointer (some ⟨tb, 0, none⟩)] w (rt (KR (.bool true) w)) := c24 (h.at 0 rfl) rfl
theorem c25 (h : RT w tb mc mf es F) (k : Int) : Calls Try.prog 25 #[.pointer (some ⟨tb, 0, none⟩), .int .u32 k] w (rt fun v w' => v = .bool ((look (pl es) k).isSome || decide (k ∈ F)) ∧ Same w w') := by
  refine F25_ok ?_
  unfold F25
  simp only [rdP_mk, rdI_mk, nn_some, add_mk]
  refine h.ldC0 ?_
  obtain ⟨s1, h1, _⟩ := h.look k
  refine exR35_of s1 ⟨_, h1 true, ?_⟩
  refine (Hs.start w).alc fun b8 w9 h9 => ?_
  refine h9.stcL 0 rfl rfl fun w10 h10 => ?_
  rw [br_iff]
  refine ⟨fun e => ⟨by rw [e]; rfl, h10.old⟩, fun e => ?_⟩
  have h10' := h.same h10.old
  refine h10'.ldC1 ⟨decide (k ∈ F), ?_, by rw [e, Bool.false_or], h10.old⟩
  rw [look_val u30 z4 h10'.fix]
  unfold fMap
  by_cases hk : k ∈ F
  · rw [if_pos hk, decide_eq_true hk]; rfl
  · rw [if_neg hk, decide_eq_false hk]; rfl
theorem nodup_same_len {a b : List Int} (ha : a.Nodup) (hb : b.Nodup) (h : ∀ x, x ∈ a ↔ x ∈ b) : a.length = b.length :=
  Nat.le_antisymm (nodup_sub_len a b ha fun x hx => (h x).1 hx) (nodup_sub_len b a hb fun x hx => (h x).2 hx)
theorem vval_mem_fst {l : List (Int × Value)} {k : Int} : k ∈ l.map Prod.fst ↔ (vval l k).isSome = true := by
  constructor
  · intro h
    obtain ⟨u, hu⟩ := vval_mem h
    rw [hu]; rfl
  · intro h
    induction l with
    | nil => cases h
    | cons p l ih =>
      simp only [vval] at h
      by_cases hk : k = p.1
      · simp [hk]
      · rw [if_neg hk] at h
        simp only [List.map_cons, List.mem_cons]
        exact .inr (ih h)
theorem mapv_size {m : Nat} {f : Int → Option Value} (h : MapV .u32 w m f) {ks : List Int} (hn : ks.Nodup) (hk : ∀ k, k ∈ ks ↔ (f k).isSome = true) : ∃ es c, w.heap[m]? = some (.map es c) ∧ es.size = ks.length := by
  obtain ⟨es, c, l, h1, h2, h3, h4, _⟩ := h
  refine ⟨es, c, h1, ?_⟩
  have e1 : es.size = l.length := by
    have := congrArg List.length h2
    simpa using this
  have := nodup_same_len h3 hn fun x => by rw [vval_mem_fst, h4, hk]
  simp only [List.length_map] at this
  omega
theorem cMap_some (es : List Ec) (k : Int) : k ∈ (pl es).map Ch.tsn ↔ (cMap es k).isSome = true := by
  rw [← look_isSome, ← cMap_look]
  unfold cMap
  cases es.find? fun e => e.x.tsn == k <;> rfl
theorem fMap_some (F : List Int) (k : Int) : k ∈ F ↔ (fMap F k).isSome = true := by
  unfold fMap
  by_cases h : k ∈ F
  · simp [h]
  · simp [h]
theorem c26 (h : RT w tb mc mf es F) (hn : ((pl es).map Ch.tsn).Nodup) (hF : F.Nodup) (hb : es.length + F.length ≤ 4294967296) : Calls Try.prog 26 #[.pointer (some ⟨tb, 0, none⟩)] w (rt fun v w' => v = .int .i64 ((es.length + F.length : Nat) : Int) ∧ Same w w') := by
  refine F26_ok ?_
  unfold F26
  simp only [rdP_mk, nn_some, add_mk]
  have s1 : Same w w.drew := (Fr.refl w).drew
  unfold drw
  have h1 := h.same s1
  refine h1.ldC0 (h1.ldC1 ?_)
  obtain ⟨e1, c1, g1, l1⟩ := mapv_size h1.map hn (cMap_some es)
  obtain ⟨e2, c2, g2, l2⟩ := mapv_size h1.fix hF (fMap_some F)
  refine ⟨_, _, Sh.run_len_map (P := Try.prog) (ats := #[64]) (t := 3) rfl u64 g1 l1, Pres.refl _, _, _, Sh.run_len_map (P := Try.prog) (ats := #[65]) (t := 3) rfl u65 g2 l2, ?_, s1⟩
  have : ((pl es).map Ch.tsn).length = es.length := by simp [pl]
  rw [this, wrap_i64 (by omega) (by omega)]
  congr 1
theorem c18 (h : Hs W (tabL tb hd d s ++ L) w) : Calls Try.prog 18 #[.pointer (some ⟨tb, 0, none⟩)] w (rt (KR (.int .i64 hd) w)) := by
  refine F18_ok ?_
  unfold F18
  simp only [rdP_mk]
  refine clr (c24t h) ⟨_, rfl, ?_⟩
  simp only [Bool.not_true, br_false, nn_some, add_mk]
  exact h.ldI 0 rfl rfl (KR.mk _ _)
theorem c16 (h : Hs W (tabL tb hd d s ++ L) w) : Calls Try.prog 16 #[.pointer (some ⟨tb, 0, none⟩)] w (rt (KR (.int .i64 (d.ms.length : Int)) w)) := by
  refine F16_ok ?_
  unfold F16
  simp only [rdP_mk]
  refine clr (c24t h) ⟨_, rfl, ?_⟩
  simp only [Bool.not_true, br_false, nn_some, add_mk]
  exact h.ldC 0 rfl rfl (KR.mk _ _)
/-! a row's message -/
def bodyOf (L : List Ch) (t : Int) : List Int := match look L t with | some x => x.b | none => []
def msgOf (x : Ch) (D : List Int) : Ms := ⟨x.r.f3, if x.has 4 then 0 else x.r.f4, x.r.f5, x.has 4, D⟩
def tellS (s : St) (row : List Int) : St :=
  { s with L := s.L.filter fun x => !row.contains x.tsn, F := s.F ++ row,
           M := s.M ++ [msgOf ((look s.L (row.headD 0)).getD ⟨R35.z, []⟩) (row.flatMap (bodyOf s.L))] }
def rem (es : List Ec) (l : List Int) : List Ec := es.filter fun e => !l.contains e.x.tsn
theorem rem_nil (es : List Ec) : rem es [] = es := by unfold rem; simp
theorem rem_snoc (es : List Ec) (l : List Int) (t : Int) : (rem es l).filter (fun e => e.x.tsn != t) = rem es (l ++ [t]) := by
  unfold rem
  rw [List.filter_filter]
  congr 1
  funext e
  simp only [List.contains_eq_mem, List.mem_append, List.mem_singleton]
  by_cases h1 : e.x.tsn = t <;> by_cases h2 : e.x.tsn ∈ l <;> simp [h1, h2]
theorem rem_find {es : List Ec} {l : List Int} {t : Int} (h : t ∉ l) : ((rem es l).find? fun e => e.x.tsn == t) = es.find? fun e => e.x.tsn == t := by
  unfold rem
  rw [List.find?_filter]
  congr 1
  funext e
  by_cases he : e.x.tsn = t
  · simp [he, h]
  · simp [he]
theorem cMap_del (es : List Ec) (t : Int) : updV (cMap es) t none = cMap (es.filter fun e => e.x.tsn != t) := by
  funext k
  unfold updV cMap
  rw [List.find?_filter]
  by_cases hk : k = t
  · subst hk
    rw [if_pos rfl]
    have : (es.find? fun a => (a.x.tsn != k && a.x.tsn == k)) = none := by
      rw [List.find?_eq_none]
      intro e _
      by_cases he : e.x.tsn = k <;> simp [he]
    have h2 : (fun a : Ec => decide ((a.x.tsn != k) = true ∧ (a.x.tsn == k) = true)) = fun a => (a.x.tsn != k && a.x.tsn == k) := by
      funext a
      by_cases he : a.x.tsn = k <;> simp [he]
    rw [h2, this]; rfl
  · rw [if_neg hk]
    congr 2
    funext e
    by_cases he : e.x.tsn = k
    · simp [he, hk]
    · simp [he]
theorem fMap_put (F : List Int) (t : Int) : updV (fMap F) t (some (.bool true)) = fMap (F ++ [t]) := by
  funext k
  unfold updV fMap
  by_cases hk : k = t
  · simp [hk]
  · simp [hk]
/-- some of many like parts are let go -/
theorem big_filter {α : Type} {G : α → HP} {l : List α} (p : α → Bool) (h : Hs W L w) (i : Nat) (hi : L[i]? = some (bigS (l.map G))) : Hs W (L.set i (bigS ((l.filter p).map G))) w := by
  have hlt := (List.getElem?_eq_some_iff.1 hi).1
  have hp : (l.map G).Perm ((l.filter fun x => !p x).map G ++ (l.filter p).map G) := by
    rw [← List.map_append]
    exact ((List.filter_append_perm p l).symm.trans List.perm_append_comm).map G
  have h1 : Hs W (((l.filter fun x => !p x).map G ++ (l.filter p).map G) ++ L.eraseIdx i) w := by
    refine Hs.cons_bigS.1 ?_
    rw [← bigS_perm hp]
    exact h.focus hi
  rw [List.append_assoc] at h1
  exact (Hs.cons_bigS.2 h1.dropL).unfocus hlt
end
end Go.Proofs.Ytaflmpbeonoilaa
