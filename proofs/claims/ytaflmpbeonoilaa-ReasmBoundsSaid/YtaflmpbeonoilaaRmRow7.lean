/-
  No table holds more than its limit (ReasmBounds).
-/
import Derived.Test.YtaflmpbeonoilaaRmBa
import Derived.Test.YtaflmpbeonoilaaRmX
namespace Go.Proofs.Ytaflmpbeonoilaa
open Go Go.Sh Go.RowKit
theorem Ox.at_x {w : World} {a : Addr} {o : Ox} (h : At w a o.r.l) : At w (a.add 1) o.x.l := fun j v hj => by
  rw [add_add]
  refine h (1 + j) v ?_
  rw [Ox.r_l, Nat.add_comm]
  show (o.x.l ++ [_])[j]? = _
  rw [List.getElem?_append_left (List.getElem?_eq_some_iff.1 hj).1]
  exact hj
theorem Ox.at_t {w : World} {a : Addr} {o : Ox} (h : At w a o.r.l) : w.cell? (a.add 16) = some (.int .u32 o.t) := h 16 _ rfl
theorem Ox.at_k {w : World} {a : Addr} {o : Ox} (h : At w a o.r.l) : w.cell? (a.add 0) = some (.int .i64 o.k) := h 0 _ rfl
section
variable {W w : World} {L M Z : List HP} {tb n : Nat} {s : St} {lim : Int}
theorem c7_1 {Kn : Value → Value → Value → Value → World → Prop} {Kr : Value → World → Prop} {x2 : Value} {xa : Option Addr} {m xc : Nat} {j : Int} (hok : OkL s n lim) (h : Hs W (tabP tb (tot s) s :: L) w) (hK : Kn (.int .i64 lim) (.slice xa m xc) (.pointer (some ⟨tb, 0, none⟩)) (.int .i64 j) w) :
    F7_1 Kn Kr (.int .i64 lim) (.slice xa m xc) (.pointer (some ⟨tb, 0, none⟩)) (.int .i64 j) w := by
  unfold F7_1
  simp only [rdI_mk, rdC_mk, rdP_mk]
  refine clr (c18s h) ⟨_, rfl, ?_⟩
  rw [br_dec]
  refine ⟨fun hx => by exfalso; omega, fun _ => ?_⟩
  refine clr (c18s h) ⟨_, rfl, ?_⟩
  rw [br_dec]
  exact ⟨fun hx => by exfalso; have := hok.within; omega, fun _ => hK⟩
theorem c7_2 {K0 : World → Prop} {Kr : Value → World → Prop} {xa : Option Addr} {xc : Nat} {ops : List Ox} (hX : Rd W xa (ops.flatMap fun o => o.r.l)) (hOx : ∀ o ∈ ops, OxOk W o) (hl : ops.length ≤ 9223372036854775807) (hK : ∀ w', Same W w' → K0 w') :
    ∀ (i j k : Nat) (s : St) (w : World), j + i = ops.length → OkL s n lim → Hs W [tabP tb (tot s) s] w → i < k →
      F7_2 K0 Kr k (.int .i64 lim) (.slice xa ops.length xc) (.pointer (some ⟨tb, 0, none⟩)) (.int .i64 (j : Int)) w := by
  intro i
  induction i with
  | zero =>
    intro j k s w hj hok h hk
    obtain ⟨k, rfl⟩ : ∃ j, k = j + 1 := ⟨k - 1, by omega⟩
    show F7_2B _ _ _ _ _ _ _ _
    unfold F7_2B
    simp only [rdC_mk, rdI_mk, rdP_mk]
    rw [br_dec]
    exact ⟨fun hx => by exfalso; omega, fun _ => hK w h.old⟩
  | succ i ih =>
    intro j k s w hj hok h hk
    obtain ⟨k, rfl⟩ : ∃ j, k = j + 1 := ⟨k - 1, by omega⟩
    show F7_2B _ _ _ _ _ _ _ _
    unfold F7_2B
    have e1 : IntKind.wrap .i64 ((j : Int) + 1) = ((j + 1 : Nat) : Int) := by rw [wrap_i64 (by omega) (by omega)]; omega
    simp only [rdC_mk, rdI_mk, rdP_mk, rdB_mk, e1]
    have nx : ∀ (s' : St) (L' : List HP) (w' : World), OkL s' n lim → Hs W (tabP tb (tot s') s' :: L') w' → F7_1 (fun y1 y2 y7 y9 w34 => ∀ _g : Tm, rdI .i64 y1 fun n36 => rdC y2 fun la ln lc => rdP y7 fun p38 => rdI .i64 y9 fun n39 => F7_2 K0 Kr k (.int .i64 n36) (.slice la ln lc) (.pointer p38) (.int .i64 (IntKind.wrap .i64 (n39 + 1))) w34) (fun y6 w41 => ∀ _g : Tm, rdB y6 fun b43 => Kr (.bool b43) w41) (.int .i64 lim) (.slice xa ops.length xc) (.pointer (some ⟨tb, 0, none⟩)) (.int .i64 (j : Int)) w' := by
      intro s' L' w' hok' h'
      refine c7_1 (x2 := .bool true) hok' h' fun _g => ?_
      simp only [rdC_mk, rdI_mk, rdP_mk, e1]
      exact ih (j + 1) k s' w' (by omega) hok' (h'.pick [0]) (by omega)
    rw [br_dec]
    refine ⟨fun _ => ?_, fun hx => by exfalso; omega⟩
    refine clr (c18s h) ⟨_, rfl, ?_⟩
    refine clr (c16s h) ⟨_, rfl, ?_⟩
    refine cl (c19s hok.toOkB h) ?_
    rintro _ w1 ⟨a1, c1, rfl, h1⟩
    refine ⟨_, _, _, rfl, ?_⟩
    have h2 := h1.perm (List.Perm.swap _ _ _)
    obtain ⟨o, ho⟩ : ∃ o, ops[j]? = some o := ⟨ops[j]'(by omega), by simp⟩
    have hoo := hOx o (List.mem_of_getElem? ho)
    have hX1 := h2.rd_old hX
    have hlen : (ops.flatMap fun o => o.r.l).length = ops.length * 17 := flat_length (f := fun o : Ox => o.r.l) (m := 17) (fun _ => rfl) _
    obtain ⟨xd, hxa⟩ := hX1.some (by rw [hlen]; omega)
    rw [hxa] at hX1
    have hat := fun {w'} (hr : Rd w' (some xd) (ops.flatMap fun o => o.r.l)) => hr.atI (f := fun o : Ox => o.r.l) (m := 17) (i := j) (fun _ => rfl) ho
    have hrd : ∀ {L' : List HP} {w'}, Hs W L' w' → Rd w' (some xd) (ops.flatMap fun o => o.r.l) := fun h' => by rw [← hxa]; exact h'.rd_old hX
    have ex : ∀ {K : Addr → Prop}, K (xd.add (j * 17)) → ixS 17 xa ops.length (j : Int) K := fun hk' => by rw [hxa]; exact ixS_to rfl (by omega) hk'
    refine ex ?_
    refine ldI_c (Ox.at_k (hat hX1)) ?_
    simp only [br_iff]
    refine ⟨fun _ => ?_, fun _ => ⟨fun _ => ?_, fun _ => ⟨fun _ => ?_, fun _ => ⟨fun _ => ?_, fun _ => ?_⟩⟩⟩⟩
    · refine ex ?_
      refine ldR35_of (Ox.at_x (hat hX1)) ?_
      refine cl (c11 (x := o.x) (b := o.b) hok.toOkB hoo.ck hoo.len (by rw [hok.limE]; have := hok.limR; omega) (by rw [hok.nxl]; have := hok.nR; omega) (fun w' h' => h'.rd_old hoo.rd) h2) ?_
      rintro _ w2 ⟨rfl, h3⟩
      refine ⟨_, rfl, ?_⟩
      have hok2 := hok.put (c := ⟨o.x, o.b⟩) hoo.ck
      refine ⟨fun he => ?_, fun he => ?_⟩
      · have hne : putE s ⟨o.x, o.b⟩ ≠ 0 := by simpa using he
        have hs : putT s ⟨o.x, o.b⟩ = s := by unfold putT; rw [if_neg hne]
        rw [hs] at h3
        refine clr (c18s h3) ⟨_, rfl, ?_⟩
        refine ⟨fun hx => by simp at hx, fun _ => ?_⟩
        refine clr (c16s h3) ⟨_, rfl, ?_⟩
        refine ⟨fun hx => by simp at hx, fun _ => ?_⟩
        refine cl (c19s hok.toOkB h3) ?_
        rintro _ w3 ⟨a3, c3, rfl, h4⟩
        refine ⟨_, _, _, rfl, ?_⟩
        have hcnt := hok.cnt
        have hsl : (srt (keys s.L)).length ≤ 4294967296 := by
          rw [srt_len]
          have : (keys s.L).length = s.L.length := by simp
          omega
        refine cl (c15 (h4.rd 0 rfl) (h4.rd 2 rfl) hsl) ?_
        rintro _ w4 ⟨rfl, s4⟩
        refine ⟨_, rfl, ?_⟩
        have h5 := h4.same s4
        refine ⟨fun hx => by simp at hx, fun _ => ?_⟩
        exact nx s _ w4 hok (h5.perm (List.Perm.swap _ _ _))
      · have he0 : putE s ⟨o.x, o.b⟩ = 0 := by simpa using he
        have hs : putT s ⟨o.x, o.b⟩ = putS s ⟨o.x, o.b⟩ := by unfold putT; rw [if_pos he0]
        have ht := (put_ok hok.toOkB hoo.ck (by rw [hok.limE]; exact hok.limR.2) he0).2
        refine h3.drw fun w3 h4 => ⟨w3, Pres.refl _, ?_⟩
        refine ex ?_
        have hc := (hat (hrd h4))
        have hc13 : w3.cell? (((xd.add (j * 17)).add 1).add 13) = some (.slice o.x.f13a o.x.f13n o.x.f13c) := Ox.at_x hc 13 _ rfl
        refine ldC_c hc13 ?_
        refine clr (c18s h4) ⟨_, rfl, Pres.refl _, ?_⟩
        have e2 : IntKind.wrap .i64 (((tot (putT s ⟨o.x, o.b⟩) : Nat) : Int) - (tot s : Int)) = (o.x.f13n : Int) := by
          rw [hs, ht, hoo.len]
          have h1 := hok.tot
          obtain ⟨_, _, q3, _⟩ := putE_0 he0
          have q4 : ((⟨o.x, o.b⟩ : Ch).b.length : Int) = (o.b.length : Int) := rfl
          rw [wrap_i64 (by omega) (by omega)]
          omega
        rw [e2]
        refine ⟨fun hx => by simp at hx, fun _ => ?_⟩
        exact nx _ _ w3 hok2 h4
    · refine cl (c13a hok.tot h2) ?_
      rintro _ w2 ⟨r, a, c, rfl, hm⟩
      refine exR38_of r ⟨_, rfl, ?_⟩
      cases hh : s.M.head? with
      | none =>
        rw [hh] at hm
        exact nx _ _ w2 hok.take hm.2
      | some m =>
        rw [hh] at hm
        exact nx _ _ w2 hok.take hm.2
    · refine ex ?_
      refine ldI_c (Ox.at_t (hat hX1)) ?_
      refine cl (c22s hok.toOkB h2) ?_
      rintro _ w2 ⟨rfl, h3⟩
      exact ⟨_, _, rfl, nx _ _ w2 (hok.drop o.t) h3⟩
    · refine ex ?_
      refine ldI_c (Ox.at_t (hat hX1)) ?_
      refine cl (c23s h2) ?_
      rintro _ w2 ⟨rfl, h3⟩
      exact ⟨_, rfl, nx _ _ w2 (hok.move o.t) h3⟩
    · exact nx _ _ w1 hok h2
theorem c7 {n1 n2 : Int} {xa : Option Addr} {xc : Nat} {ops : List Ox} (hX : Rd w xa (ops.flatMap fun o => o.r.l)) (hOx : ∀ o ∈ ops, OxOk w o) (hl : ops.length ≤ 9223372036854775807) : Calls Try.prog 7 #[.int .i64 n1, .int .i64 n2, .slice xa ops.length xc] w (rt fun v w' => v = .bool true ∧ Same w w') := by
  refine F7_ok ?_
  unfold F7
  simp only [rdC_mk, rdI_mk, rdP_mk, rdB_mk]
  by_cases hb : n1 < 1 ∨ 1024 < n1 ∨ n2 < 1 ∨ 1073741824 < n2
  · refine clr (c9_err hb w) ⟨_, _, rfl, ?_⟩
    refine cl (c10 w) ?_
    rintro _ w6 ⟨rfl, s6⟩
    refine ⟨_, rfl, ?_⟩
    have e0 : ((1 : Int) != 0) = true := rfl
    simp only [Bool.not_true, br_false, e0, br_true, Option.isNone_none]
    exact ⟨by first | rfl | trivial, s6⟩
  · obtain ⟨m, hm⟩ : ∃ m : Nat, n1 = (m : Int) := ⟨n1.toNat, by omega⟩
    subst hm
    have h1 : 1 ≤ m ∧ m ≤ 1024 := by omega
    have h2 : 1 ≤ n2 ∧ n2 ≤ 1073741824 := by omega
    refine cl (c9 h1 h2 (Hs.start w)) ?_
    rintro _ w2 ⟨tb, rfl, h3⟩
    refine ⟨_, _, rfl, ?_⟩
    refine cl (c10 w2) ?_
    rintro _ w6 ⟨rfl, s6⟩
    refine ⟨_, rfl, ?_⟩
    have h6 := h3.same s6
    have e0 : ((0 : Int) != 0) = false := rfl
    simp only [Bool.not_true, br_false, e0]
    exact ⟨ops.length + 1, c7_2 (n := m) (lim := n2) hX hOx hl (fun w' hs _g => ⟨by first | rfl | trivial, hs⟩) ops.length 0 _ (newS m n2) w6 (by omega) (OkL.new h1 h2) h6 (by omega)⟩
end
end Go.Proofs.Ytaflmpbeonoilaa
namespace Go.Proofs.Ytaflmpbeonoilaa
open Go Go.Sh
open Go.ChangeShapes Go.WideShapes Go.ChangeAt Go.WideMaps Go.WideElems Go.RowKit
open Row

namespace Row7
theorem func7 : Try.prog.funcs[7]? = some Try.f7 := by kernel_rfl
theorem params7 : Try.f7.params.toList = [3, 3, 53] := by kernel_rfl
set_option maxRecDepth 100000 in
theorem lifted7 (os : Os) (started : os.Started) (H : Type) (enc : TypeId × Value → H) :
    ReturnsInHanded {} Try.checked os 7 .any (Rows.reasmBoundsSpec.pre6 enc Try.prog Try.f7 Rows.reasmBoundsRow.domain false) (Rows.reasmBoundsSpec.post enc Try.prog Try.f7 false true false false) := by
  refine returnsInHanded_of_change (C := Try.checked) own started (by kernel_rfl) func7
    (ChangeSpec.witness6 (enc := enc) (C := Try.checked) false ⟨#[], #[.int .i64 0, .int .i64 0, .slice none 0 0], []⟩ 8 (by kernel_rfl) (by kernel_rfl) (by kernel_rfl) (by kernel_rfl)) ?_
  intro W base args ds gs before hval0 hW _ _
  have hval : ∀ (j : Nat) t v, Try.f7.params[j]? = some t → args[j]? = some v → Value.okWide Try.prog W .any base t v := hval0
  have hW' := hW
  obtain ⟨p, q, hA0, hV, rfl, hfz, hnd⟩ := hW
  have hA : DataW.TrodAll enc Try.prog W 0 (fun _ => true) true Try.f7.params.toList args.toList ds p := hA0
  rw [params7] at hA
  obtain ⟨v0, v1, v2, d0, d1, d2, p0, p1, p2, rfl, rfl, rfl, h0, h1, h2⟩ := trodAll_three hA
  obtain ⟨rfl, rfl⟩ := trodVars_none hV
  clear hA0 hval0
  have hlt0 : ∀ x ∈ p0, x.block < W.heap.size := fun x hx => by simpa using hW'.lt x (by simp [hx])
  have h0k := h0
  have hlt1 : ∀ x ∈ p1, x.block < W.heap.size := fun x hx => by simpa using hW'.lt x (by simp [hx])
  have h1k := h1
  have hlt2 : ∀ x ∈ p2, x.block < W.heap.size := fun x hx => by simpa using hW'.lt x (by simp [hx])
  have h2k := h2
  obtain ⟨n0, rfl, rfl, rfl, hn0⟩ := open_int Row.u3 (hval 0 3 v0 (by kernel_rfl) rfl) h0
  obtain ⟨n1, rfl, rfl, rfl, hn1⟩ := open_int Row.u3 (hval 1 3 v1 (by kernel_rfl) rfl) h1
  obtain ⟨a2, c2, os2, rfl, hl2, hr2, ok2⟩ := ops_in (hval 2 53 v2 (by kernel_rfl) rfl) h2
  have key := c7 (n1 := n0) (n2 := n1) (xc := c2) hr2 ok2 hl2
  refine key.mono fun e W' ⟨v, he, hv, hf⟩ => ?_
  subst he; subst hv
  have hbelow : Below W.heap.size W W' := hf.below (Nat.le_refl _) fun _ x => x.elim
  refine ⟨_, rfl, _, _, _, [], [] ++ ([] ++ (p2)), [], hW', ?_, ?_, rfl, hbelow.frame _, fun h => by cases h⟩
  · exact trodAll_mk1 (shut_bool u4 _)
  · exact trodAll_mk3 (Below.trod laidOut (by kernel_rfl) (of_decide_eq_true (by kernel_rfl)) h0k hbelow hlt0) (Below.trod laidOut (by kernel_rfl) (of_decide_eq_true (by kernel_rfl)) h1k hbelow hlt1) (Below.trod laidOut (by kernel_rfl) (of_decide_eq_true (by kernel_rfl)) h2k hbelow hlt2)
end Row7
theorem reasmBounds_holds : Rows.ReasmBoundsSaid :=
  OpenClaim.holds_of_wide 7 Try.f7 rfl rfl rfl rfl rfl rfl rfl ⟨rfl, rfl, rfl, rfl, rfl⟩ rfl rfl rfl rfl rfl (by kernel_rfl) Row7.func7 (by kernel_rfl)
    (of_decide_eq_true (by kernel_rfl)) (by unfold Func.isWrapper; first | (rw [if_pos (by decide +kernel)]; kernel_rfl) | (rw [if_neg (by decide +kernel)]; exact ⟨rfl, rfl⟩))
    (fun os started H enc _ => Row7.lifted7 os started H enc)
#print axioms reasmBounds_holds
end Go.Proofs.Ytaflmpbeonoilaa
