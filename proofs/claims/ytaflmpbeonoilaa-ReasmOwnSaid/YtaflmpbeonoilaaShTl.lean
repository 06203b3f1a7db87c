/-
  Appending the first, or the last, cells of a slice of one's own.
-/
import Derived.Test.YtaflmpbeonoilaaShMr
import Derived.Test.YtaflmpbeonoilaaShM
namespace Go.Sh
open Go
theorem own_nilc {w : World} {base : Nat} {e : TypeId} {s l c : Nat} {a : Option Addr} {xs : List Value} (h : Own w base e s a l c xs) : a = none → c = 0 := by
  rcases h.cases with ⟨_, _, hc⟩ | ⟨g, cur, ha, _⟩
  · exact fun _ => hc
  · intro h; rw [h] at ha; cases ha
theorem rd_tail {w : World} {a : Option Addr} {xs : List Value} {c f sz : Nat} (hr : Rd w a xs) (hc : c = f → xs.drop (f * sz) = []) : Rd w (if c = f then a else a.map (·.add (f * sz))) (xs.drop (f * sz)) := by
  by_cases h : c = f
  · rw [if_pos h, hc h]; exact Rd.nil _ _
  · rw [if_neg h]
    intro j u hj
    rw [List.getElem?_drop] at hj
    obtain ⟨ad, e, h⟩ := hr (f * sz + j) u hj
    refine ⟨ad.add (f * sz), by rw [e]; rfl, ?_⟩
    rw [add_add]
    exact h
theorem rd_take {w : World} {a : Option Addr} {xs : List Value} {k : Nat} (hr : Rd w a xs) : Rd w a (xs.take k) := by
  intro j u hj
  rw [List.getElem?_take] at hj
  split at hj
  · exact hr j u hj
  · cases hj
section
variable {W w : World} {L : List HP} {P : Program} {t ty e : TypeId} {size bytes : Nat} {z : Value} {inf : TypeInfo} {a oa : Option Addr} {l c ol oc n : Nat} {xs ys : List Value} {k : IntKind}
theorem Hs.appHi (E : ElemT P t e size bytes z inf) (h : Hs W L w) (i j : Nat) (hi : L[i]? = some (slP e size oa ol oc xs)) (hj : L[j]? = some (slP e size a l c ys)) (hnl : n ≤ l) (h1 : ∀ u ∈ ys, u.oneCell' = true) (hn : ol + n ≤ 281474976710656) (hb : (ol + n) * bytes ≤ 140737488355328)
    {K : Option Addr → Nat → Nat → World → Prop} (hk : ∀ a' c' w', Hs W (L.set i (slP e size a' (ol + n) c' (xs ++ ys.take (n * size)))) w' → K a' (ol + n) c' w') :
    slS size a l c none (some (.int k (n : Int))) fun b m d => ∃ a' l' c' w', Sem.run P (Builtin.append_ #[t, t] ty #[.slice oa ol oc, .slice b m d]) w = .ok (.slice a' l' c') w' ∧ K a' l' c' w' := by
  have ho := h.own j hj
  refine slS_hi (Nat.le_trans hnl ho.le) ?_
  have hlen := ho.length
  refine h.appendA E i hi (m := n) (news := ys.take (n * size)) ?_ (rd_take ho.rd) (fun h => own_nilc ho h) (fun u hu => h1 u (List.mem_of_mem_take hu)) hn hb fun a' c' w' h' _ => hk a' c' w' h'
  rw [List.length_take, hlen]
  exact Nat.min_eq_left (Nat.mul_le_mul_right size hnl)
theorem Hs.appLo (E : ElemT P t e size bytes z inf) (h : Hs W L w) (i j : Nat) (hi : L[i]? = some (slP e size oa ol oc xs)) (hj : L[j]? = some (slP e size a l c ys)) (hnl : n ≤ l) (h1 : ∀ u ∈ ys, u.oneCell' = true) (hn : ol + l ≤ 281474976710656) (hb : (ol + l) * bytes ≤ 140737488355328)
    {K : Option Addr → Nat → Nat → World → Prop} (hk : ∀ a' c' w', Hs W (L.set i (slP e size a' (ol + (l - n)) c' (xs ++ ys.drop (n * size)))) w' → K a' (ol + (l - n)) c' w') :
    slS size a l c (some (.int k (n : Int))) none fun b m d => ∃ a' l' c' w', Sem.run P (Builtin.append_ #[t, t] ty #[.slice oa ol oc, .slice b m d]) w = .ok (.slice a' l' c') w' ∧ K a' l' c' w' := by
  have ho := h.own j hj
  refine slS_lo hnl ?_
  have hlen := ho.length
  have hle := ho.le
  refine h.appendA E i hi (m := l - n) (news := ys.drop (n * size)) ?_ (rd_tail ho.rd fun hc => ?_) (fun h => ?_) (fun u hu => h1 u (List.mem_of_mem_drop hu)) (by omega) (Nat.le_trans (Nat.mul_le_mul_right bytes (by omega)) hb) fun a' c' w' h' _ => hk a' c' w' h'
  · rw [List.length_drop, hlen, Nat.sub_mul]
  · have : n = l := by omega
    subst this
    exact List.drop_eq_nil_of_le (by omega)
  · by_cases hcf : c = n
    · omega
    · rw [if_neg hcf] at h
      cases ha : a with
      | none => rw [own_nilc ho ha]; omega
      | some x => rw [ha] at h; cases h
end
end Go.Sh
