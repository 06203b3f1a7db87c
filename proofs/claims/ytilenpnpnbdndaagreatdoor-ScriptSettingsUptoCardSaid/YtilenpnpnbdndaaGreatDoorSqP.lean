/- Own text: part of the shallow reading of the code and of the contracts that are proved over it. -/
import Derived.Test.YtilenpnpnbdndaaGreatDoorSqM
import Derived.Laws.CopyRow
/-
  Settings, word by word, in either mode.
-/
namespace Go.Proofs.YtilenpnpnbdndaaGreatDoor
open Go Go.Sh
set_option maxRecDepth 100000
theorem hexs_inj : ∀ {a b : List UInt8}, hexs a = hexs b → a = b
  | [], [], _ => rfl
  | [], _ :: _, h => by cases h
  | _ :: _, [], h => by cases h
  | x :: a, y :: b, h => by
    rw [hexs_cons, hexs_cons] at h
    injection h with h1 h
    injection h with h2 h3
    have hx := x.toNat_lt
    have hy := y.toNat_lt
    have e1 := congrArg Fin.val (hxd_inj ⟨x.toNat / 16, by omega⟩ ⟨y.toNat / 16, by omega⟩ h1)
    have e2 := congrArg Fin.val (hxd_inj ⟨x.toNat % 16, by omega⟩ ⟨y.toNat % 16, by omega⟩ h2)
    simp only at e1 e2
    have : x = y := UInt8.toNat.inj (by omega)
    rw [this, hexs_inj h3]
theorem hexW_inj {a b : List UInt8} (h : hexW a = hexW b) : a = b := by
  unfold hexW at h
  have odd : ∀ l : List UInt8, hexs l ≠ [45] := fun l e => by
    have := congrArg List.length e
    rw [hexs_len] at this
    simp at this
    omega
  split at h
  · split at h
    · rename_i e1 e2; rw [e1, e2]
    · exact absurd h.symm (odd _)
  · split at h
    · exact absurd h (odd _)
    · exact hexs_inj h
def GoodC (cs : Array Value) : Prop := okI ⟨cs, []⟩ (.num 16 .u64 18446744073709551615) ∧ okI ⟨cs, []⟩ (.num 18 .u32 4294967295) ∧ okI ⟨cs, []⟩ (.num 19 .u16 65535) ∧ okI ⟨cs, []⟩ (.num 20 .u16 65535) ∧ okI ⟨cs, []⟩ (.num 23 .u16 65535) ∧ okI ⟨cs, []⟩ (.num 24 .u16 65535) ∧ cs.toList.take 16 = u8v (keyAt cs)
def CE (W : World) (M : List HP) (r : Bool) (its : List It) (S : Sc) (ws : List ByteArray) : List PanicEntry → World → Prop := fun ch w' => ∃ c, ch = PE c ∧ Bad r its S ws c ∧ Hs W M w'
structure CI (W : World) (M : List HP) (r : Bool) (lb cb : Nat) (S0 : Sc) (ws0 : List ByteArray) (i : Nat) (S : Sc) (ws : List ByteArray) (w : World) : Prop where
  le : i ≤ 53
  sts : Sts r (confItems.take i) S0 ws0 S ws
  hs : Hs W (lnP lb r ws :: pt cb (.cells S.cs 50 (0, 0)) :: M) w
  fit : Fit r (53 - i) ws
  shape : Shape S.cs
  good : r = false → GoodC S0.cs
theorem take_at {l : List It} {i : Nat} {it : It} (h : l[i]? = some it) : l = l.take i ++ it :: l.drop (i + 1) := by
  obtain ⟨h1, h2⟩ := List.getElem?_eq_some_iff.1 h
  rw [← h2]
  simp
theorem take_snoc {l : List It} {i : Nat} {it : It} (h : l[i]? = some it) : l.take (i + 1) = l.take i ++ [it] := by
  rw [List.take_add_one, h]
  rfl
section
variable {W w : World} {M : List HP} {lb cb i : Nat} {r : Bool} {S0 S : Sc} {ws0 ws : List ByteArray}
theorem CI.err (I : CI W M r lb cb S0 ws0 i S ws w) {it : It} {c : Int} (h : confItems[i]? = some it) (hn : Nop r it S ws c) : Bad r confItems S0 ws0 c := I.sts.no _ hn (take_at h)
theorem CI.next (I : CI W M r lb cb S0 ws0 i S ws w) {it : It} {S' : Sc} {ws' : List ByteArray} {w' : World} (h : confItems[i]? = some it) (hs : Stp r it S ws S' ws') (hsh : Shape S'.cs) (hw : Hs W (lnP lb r ws' :: pt cb (.cells S'.cs 50 (0, 0)) :: M) w') : CI W M r lb cb S0 ws0 (i + 1) S' ws' w' := by
  have hi : i < 53 := (List.getElem?_eq_some_iff.1 h).1
  refine ⟨by omega, ?_, hw, ?_, hsh, I.good⟩
  · rw [take_snoc h]
    exact I.sts.snoc hs
  · have : 53 - i = 53 - (i + 1) + 1 := by omega
    have hf := I.fit
    rw [this] at hf
    exact hf.step hs
theorem CI.gd (I : CI W M r lb cb S0 ws0 i S ws w) (hr : r = false) : GoodC S.cs := by
  subst hr
  rw [I.sts.w.1]
  exact I.good rfl
theorem CI.one (I : CI W M r lb cb S0 ws0 i S ws w) (hi : i < 53) : r = false → ws.length ≤ 1000 := by
  have hf := I.fit
  have : 53 - i = (53 - (i + 1)) + 1 := by omega
  rw [this] at hf
  exact hf.one
theorem CI.word (I : CI W M r lb cb S0 ws0 i S ws w) {s : ByteArray} (h : confItems[i]? = some (.lit s)) : Calls Tryz.prog 50 #[.pointer (some ⟨lb, 0, none⟩), .string s] w
    (rtp (fun v w' => v = .tuple #[] ∧ ∃ S' ws', CI W M r lb cb S0 ws0 (i + 1) S' ws' w') (CE W M r confItems S0 ws0)) := by
  have hi : i < 53 := (List.getElem?_eq_some_iff.1 h).1
  refine (c50 (S := S) I.hs (I.one hi)).mono fun e w' q => ?_
  rcases q with ⟨v, he, rfl, ws', hs, h2⟩ | ⟨ch, he, c, rfl, hn, hs⟩
  · exact .inl ⟨_, he, rfl, S, ws', I.next h hs I.shape h2⟩
  · exact .inr ⟨_, he, c, rfl, I.err h hn, hs.drop⟩
theorem CI.item (I : CI W M r lb cb S0 ws0 i S ws w) {it : It} (h : confItems[i]? = some it) (hsh : ∀ S', Chg S S' it → Shape S'.cs) {f : Nat} {xs : Array Value}
    (hc : Calls Tryz.prog f xs w (rtp (IP W M r lb cb 50 it S ws) (IE W M r it S ws))) : Calls Tryz.prog f xs w (rtp (fun v w' => v = .tuple #[] ∧ ∃ S' ws', CI W M r lb cb S0 ws0 (i + 1) S' ws' w') (CE W M r confItems S0 ws0)) := by
  refine hc.mono fun e w' q => ?_
  rcases q with ⟨v, he, rfl, S', ws', hs, h2⟩ | ⟨ch, he, c, rfl, hn, hs⟩
  · exact .inl ⟨_, he, rfl, S', ws', I.next h hs (hsh S' hs.1) h2⟩
  · exact .inr ⟨_, he, c, rfl, I.err h hn, hs⟩
theorem CI.num (I : CI W M r lb cb S0 ws0 i S ws w) {o m : Nat} {k : IntKind} (hm : (o, k) ∈ cfK) : ∀ S', Chg S S' (.num o k m) → Shape S'.cs := by
  rintro S' ⟨n, rfl⟩
  exact I.shape.num hm
theorem CI.flag (I : CI W M r lb cb S0 ws0 i S ws w) {o : Nat} {a b : ByteArray} (hm : o ∈ [38, 39, 40]) : ∀ S', Chg S S' (.flag o a b) → Shape S'.cs := by
  rintro S' ⟨n, rfl⟩
  exact I.shape.flag hm
theorem shape_named {ns : List ByteArray} : ∀ {os : List Nat} {S S' : Sc} {ws ws' : List ByteArray}, (∀ o ∈ os, (o, IntKind.i64) ∈ cfK) → Sts r (namedI ns os) S ws S' ws' → Shape S.cs → Shape S'.cs := by
  induction ns with
  | nil => rintro os S S' ws ws' _ ⟨rfl, _⟩ h; exact h
  | cons n ns ih =>
    intro os S S' ws ws' ho hs h
    cases os with
    | nil => obtain ⟨rfl, _⟩ := hs; exact h
    | cons o os =>
      obtain ⟨S1, ws1, h1, S2, ws2, h2, h3⟩ := hs
      have e1 : S1 = S := h1.1
      subst e1
      refine ih (fun o' ho' => ho o' (by simp [ho'])) h3 ?_
      obtain ⟨x, rfl⟩ := h2.1
      exact h.num (ho o (by simp))
theorem CI.named (I : CI W M r lb cb S0 ws0 i S ws w) {ns : List ByteArray} {os : List Nat} {nb xb n : Nat} (hT : TB W) (hn : ns.length = n) (ho : os.length = n) (hN : n ≤ 100) {w2 : World}
    (h : Hs W (lnP lb r ws :: pt cb (.cells S.cs 50 (0, 0)) :: pt nb (.cells (nmV ns) 9 (0, 0)) :: pt xb (.cells (ptV cb os) 129 (0, 0)) :: M) w2)
    (hk : ∀ o ∈ os, (o, IntKind.i64) ∈ cfK) (hi : i + 2 * n ≤ 53) (he : (confItems.drop i).take (2 * n) = namedI ns os) :
    Calls Tryz.prog 59 #[.pointer (some ⟨lb, 0, none⟩), .slice (some ⟨nb, 0, none⟩) n n, .slice (some ⟨xb, 0, none⟩) n n] w2
      (rtp (fun v w' => v = .tuple #[] ∧ ∃ S' ws', CI W M r lb cb S0 ws0 (i + 2 * n) S' ws' w') (CE W M r confItems S0 ws0)) := by
  refine (c59 hT hn ho hN h (fun o ho => I.shape.ty (hk o ho)) (I.fit.less (by omega))).mono fun e w' q => ?_
  rcases q with ⟨v, he', rfl, S', ws', hs, h2⟩ | ⟨ch, he', c, rfl, hb, hs⟩
  · refine .inl ⟨_, he', rfl, S', ws', hi, ?_, h2, ?_, shape_named hk hs I.shape, I.good⟩
    · rw [List.take_add, he]
      exact I.sts.app hs
    · have hf := I.fit
      have e1 : 53 - i = 53 - (i + 2 * n) + (namedI ns os).length := by rw [namedI_len ns os (by omega), hn]; omega
      rw [e1] at hf
      exact hf.steps hs
  · refine .inr ⟨_, he', c, rfl, ?_, hs⟩
    refine Bad.wide (l := namedI ns os) (confItems.take i) ((confItems.drop i).drop (2 * n)) I.sts hb ?_
    rw [← he, List.take_append_drop, List.take_append_drop]
theorem sl16 {w : World} {b : Nat} : Sem.run Tryz.prog (Instr.sliceAt 41 (.pointer (some (Addr.mk b 0 none))) none none none) w = .ok (.slice (some ⟨b, 0, none⟩) 16 16) w := by
  have hal : Tryz.prog.arrayLen 41 = 16 := by simp [Program.arrayLen, Tryz.underlying41]
  have := run_sliceAt_array_all (P := Tryz.prog) w 41 ⟨b, 0, none⟩ (by simp [Program.arrayLen, Program.elem, Tryz.underlying41])
  refine this.trans ?_
  simp [hal, Program.elem, Tryz.underlying41, slicedAt, Tryz.sizeOf5]
theorem keyAt_len (cs : Array Value) : (keyAt cs).length = 16 := by simp [keyAt]
theorem setK_self {cs : Array Value} (h : cs.toList.take 16 = u8v (keyAt cs)) : setK cs (keyAt cs) = cs := by
  unfold setK
  rw [← h, List.take_append_drop]
theorem copy16 {b : Nat} {cs : Array Value} {T : TypeId} {L : List HP} {l : List UInt8} {a : Option Addr} {c : Nat} {j : Nat} (h : Hs W L w) (hj : L[j]? = some (pt b (.cells cs T (0, 0)))) (hl : l.length = 16) (hr : Rd w a (u8v l)) (hs : 16 ≤ cs.size) {K : World → Prop}
    (hk : ∀ w', Hs W (L.set j (pt b (.cells (setK cs l) T (0, 0)))) w' → K w') :
    ∃ n w', Sem.run Tryz.prog (Builtin.copy_ #[25, 25] 3 #[.slice (some ⟨b, 0, none⟩) 16 16, .slice a 16 c]) w = .ok (.int .i64 n) w' ∧ K w' := by
  obtain ⟨ad, rfl⟩ := hr.some (by simp [u8v, hl])
  have hrun := run_copy_row (P := Tryz.prog) w 25 25 3 5 b 0 16 16 ad 16 c cs T (u8v l) Tryz.underlying25 (by rw [E25.hi]; simp [E25.hsize]) (h.at j hj) (by simp [u8v, hl]) (fun i v hi => hr.at hi) (by simp [u8v, hl]; exact hs) (u8v_one l)
  rw [setRow_sb (h.at j hj)] at hrun
  refine ⟨_, _, hrun, hk _ ?_⟩
  have := h.sb j hj (.cells (setK cs l) T (0, 0))
  have e : (cs.toList.take 0 ++ u8v l ++ cs.toList.drop (0 + (u8v l).length)).toArray = setK cs l := by simp [setK, u8v, hl]
  rw [e]
  exact this
end
end Go.Proofs.YtilenpnpnbdndaaGreatDoor
/-
  Settings, fn 39 (printed by ogen.py).
-/
namespace Go.Proofs.YtilenpnpnbdndaaGreatDoor
open Go Go.Sh
set_option maxRecDepth 100000
section
variable {W w : World} {M : List HP} {lb cb i : Nat} {r : Bool} {S0 S : Sc} {ws0 ws : List ByteArray}
theorem rot4 {A B C D : HP} {L : List HP} (h : Hs W (A :: B :: C :: D :: L) w) : Hs W (C :: D :: B :: A :: L) w := ((h.focus (i := 1) rfl).focus (i := 3) rfl).focus (i := 3) rfl
theorem rot4b {A B C D : HP} {L : List HP} (h : Hs W (A :: B :: C :: D :: L) w) : Hs W (C :: D :: A :: B :: L) w := (h.focus (i := 3) rfl).focus (i := 3) rfl
theorem F39_1_go [Esc] {K : World → Prop} (_ : TB W) (I : CI W M r lb cb S0 ws0 47 S ws w) (hE : ∀ ch w', CE W M r confItems S0 ws0 ch w' → Esc.E ch w') (hK : ∀ S' ws' w', CI W M r lb cb S0 ws0 53 S' ws' w' → K w') : F39_1 K (.pointer (some ⟨lb, 0, none⟩)) (.pointer (some ⟨cb, 0, none⟩)) w := by
  unfold F39_1
  simp only [rdP_mk, nn, add_mk, Nat.zero_add]
  refine clp (I.word (i := 47) rfl) ?_ hE
  rintro _ w47 ⟨rfl, S47, ws47, I⟩
  refine ⟨rfl, ?_⟩
  refine clp (I.item (i := 48) rfl (I.flag (by simp)) (c62 (by decide) I.hs (I.shape.bty (by simp)) (I.one (by omega)))) ?_ hE
  rintro _ w48 ⟨rfl, S48, ws48, I⟩
  refine ⟨rfl, ?_⟩
  refine clp (I.word (i := 49) rfl) ?_ hE
  rintro _ w49 ⟨rfl, S49, ws49, I⟩
  refine ⟨rfl, ?_⟩
  refine clp (I.item (i := 50) rfl (I.flag (by simp)) (c62 (by decide) I.hs (I.shape.bty (by simp)) (I.one (by omega)))) ?_ hE
  rintro _ w50 ⟨rfl, S50, ws50, I⟩
  refine ⟨rfl, ?_⟩
  refine clp (I.word (i := 51) rfl) ?_ hE
  rintro _ w51 ⟨rfl, S51, ws51, I⟩
  refine ⟨rfl, ?_⟩
  refine clp (I.item (i := 52) rfl (I.flag (by simp)) (c62 (by decide) I.hs (I.shape.bty (by simp)) (I.one (by omega)))) ?_ hE
  rintro _ w52 ⟨rfl, S52, ws52, I⟩
  exact ⟨rfl, hK _ _ _ I⟩
theorem F39_2_go [Esc] {K : World → Prop} (hT : TB W) (I : CI W M r lb cb S0 ws0 39 S ws w) (hE : ∀ ch w', CE W M r confItems S0 ws0 ch w' → Esc.E ch w') (hK : ∀ S' ws' w', CI W M r lb cb S0 ws0 53 S' ws' w' → K w') : F39_2 K (.pointer (some ⟨lb, 0, none⟩)) (.pointer (some ⟨cb, 0, none⟩)) w := by
  unfold F39_2
  simp only [rdP_mk, nn, add_mk, Nat.zero_add]
  have h1 := I.hs
  refine h1.drw fun w1 h1 => ⟨?_, ?_⟩
  · refine h1.alc fun nb w2 h2 => h2.alc fun xb w3 h3 => ?_
    refine clp (I.named (ns := [⟨#[109, 111, 115, 116]⟩, ⟨#[100, 101, 108, 97, 121]⟩, ⟨#[115, 99, 104, 101, 100]⟩, ⟨#[99, 97, 112]⟩]) (os := [34, 35, 36, 37]) (n := 4) hT rfl rfl (by omega) (rot4 h3) (by simp [cfK]) (by omega) rfl) ?_ hE
    rintro _ w8 ⟨rfl, S8, ws8, I⟩
    refine ⟨rfl, ?_⟩
    exact F39_1_go hT I hE fun S9 ws9 w9 I9 _ => hK S9 ws9 w9 I9
  · refine h1.alc fun xb w2 h2 => h2.alc fun nb w3 h3 => ?_
    refine clp (I.named (ns := [⟨#[109, 111, 115, 116]⟩, ⟨#[100, 101, 108, 97, 121]⟩, ⟨#[115, 99, 104, 101, 100]⟩, ⟨#[99, 97, 112]⟩]) (os := [34, 35, 36, 37]) (n := 4) hT rfl rfl (by omega) (rot4b h3) (by simp [cfK]) (by omega) rfl) ?_ hE
    rintro _ w8 ⟨rfl, S8, ws8, I⟩
    refine ⟨rfl, ?_⟩
    exact F39_1_go hT I hE fun S9 ws9 w9 I9 _ => hK S9 ws9 w9 I9
theorem F39_3_go [Esc] {K : World → Prop} (hT : TB W) (I : CI W M r lb cb S0 ws0 33 S ws w) (hE : ∀ ch w', CE W M r confItems S0 ws0 ch w' → Esc.E ch w') (hK : ∀ S' ws' w', CI W M r lb cb S0 ws0 53 S' ws' w' → K w') : F39_3 K (.pointer (some ⟨lb, 0, none⟩)) (.pointer (some ⟨cb, 0, none⟩)) w := by
  unfold F39_3
  simp only [rdP_mk, nn, add_mk, Nat.reduceAdd, Nat.zero_add, Nat.add_zero]
  have h1 := I.hs
  refine h1.drw fun w1 h1 => ⟨?_, ?_⟩
  · refine h1.alc fun nb w2 h2 => h2.alc fun xb w3 h3 => ?_
    refine clp (I.named (ns := [⟨#[101, 114, 114, 111, 114, 115]⟩, ⟨#[102, 97, 105, 108]⟩, ⟨#[112, 97, 117, 115, 101]⟩]) (os := [31, 32, 33]) (n := 3) hT rfl rfl (by omega) (rot4 h3) (by simp [cfK]) (by omega) rfl) ?_ hE
    rintro _ w8 ⟨rfl, S8, ws8, I⟩
    refine ⟨rfl, ?_⟩
    exact F39_2_go hT I hE fun S9 ws9 w9 I9 _ => hK S9 ws9 w9 I9
  · refine h1.alc fun xb w2 h2 => h2.alc fun nb w3 h3 => ?_
    refine clp (I.named (ns := [⟨#[101, 114, 114, 111, 114, 115]⟩, ⟨#[102, 97, 105, 108]⟩, ⟨#[112, 97, 117, 115, 101]⟩]) (os := [31, 32, 33]) (n := 3) hT rfl rfl (by omega) (rot4b h3) (by simp [cfK]) (by omega) rfl) ?_ hE
    rintro _ w8 ⟨rfl, S8, ws8, I⟩
    refine ⟨rfl, ?_⟩
    exact F39_2_go hT I hE fun S9 ws9 w9 I9 _ => hK S9 ws9 w9 I9
theorem F39_4_go [Esc] {K : World → Prop} (hT : TB W) (I : CI W M r lb cb S0 ws0 17 S ws w) (hE : ∀ ch w', CE W M r confItems S0 ws0 ch w' → Esc.E ch w') (hK : ∀ S' ws' w', CI W M r lb cb S0 ws0 53 S' ws' w' → K w') : F39_4 K (.pointer (some ⟨lb, 0, none⟩)) (.pointer (some ⟨cb, 0, none⟩)) w := by
  unfold F39_4
  simp only [rdP_mk, nn, add_mk, Nat.reduceAdd, Nat.zero_add, Nat.add_zero]
  refine clp (I.word (i := 17) rfl) ?_ hE
  rintro _ w17 ⟨rfl, S17, ws17, I⟩
  refine ⟨rfl, ?_⟩
  refine clp (I.item (i := 18) rfl (I.num (by simp [cfK])) (c61 hT I.hs (I.shape.ty (by simp [cfK])) (fun hr => (I.gd hr).2.2.2.2.1) (I.one (by omega)) I.fit.2)) ?_ hE
  rintro _ w18 ⟨rfl, S18, ws18, I⟩
  refine ⟨rfl, ?_⟩
  refine clp (I.word (i := 19) rfl) ?_ hE
  rintro _ w19 ⟨rfl, S19, ws19, I⟩
  refine ⟨rfl, ?_⟩
  refine clp (I.item (i := 20) rfl (I.num (by simp [cfK])) (c61 hT I.hs (I.shape.ty (by simp [cfK])) (fun hr => (I.gd hr).2.2.2.2.2.1) (I.one (by omega)) I.fit.2)) ?_ hE
  rintro _ w20 ⟨rfl, S20, ws20, I⟩
  refine ⟨rfl, ?_⟩
  have h1 := I.hs
  refine h1.drw fun w1 h1 => ⟨?_, ?_⟩
  · refine h1.alc fun nb w2 h2 => h2.alc fun xb w3 h3 => ?_
    refine clp (I.named (ns := [⟨#[112, 97, 116, 104, 115]⟩, ⟨#[109, 116, 117]⟩, ⟨#[98, 117, 102, 102, 101, 114]⟩, ⟨#[105, 110, 105, 116]⟩, ⟨#[109, 105, 110]⟩, ⟨#[109, 97, 120]⟩]) (os := [25, 26, 27, 28, 29, 30]) (n := 6) hT rfl rfl (by omega) (rot4 h3) (by simp [cfK]) (by omega) rfl) ?_ hE
    rintro _ w8 ⟨rfl, S8, ws8, I⟩
    refine ⟨rfl, ?_⟩
    exact F39_3_go hT I hE fun S9 ws9 w9 I9 _ => hK S9 ws9 w9 I9
  · refine h1.alc fun xb w2 h2 => h2.alc fun nb w3 h3 => ?_
    refine clp (I.named (ns := [⟨#[112, 97, 116, 104, 115]⟩, ⟨#[109, 116, 117]⟩, ⟨#[98, 117, 102, 102, 101, 114]⟩, ⟨#[105, 110, 105, 116]⟩, ⟨#[109, 105, 110]⟩, ⟨#[109, 97, 120]⟩]) (os := [25, 26, 27, 28, 29, 30]) (n := 6) hT rfl rfl (by omega) (rot4b h3) (by simp [cfK]) (by omega) rfl) ?_ hE
    rintro _ w8 ⟨rfl, S8, ws8, I⟩
    refine ⟨rfl, ?_⟩
    exact F39_3_go hT I hE fun S9 ws9 w9 I9 _ => hK S9 ws9 w9 I9
theorem key_go [Esc] {S0 S : Sc} {ws0 ws : List ByteArray} {w : World} {K : World → Prop} (I : CI W M r lb cb S0 ws0 4 S ws w) (hE : ∀ ch w', CE W M r confItems S0 ws0 ch w' → Esc.E ch w') (hK : ∀ S' ws' w', CI W M r lb cb S0 ws0 5 S' ws' w' → K w') :
    Calls Tryz.prog 58 #[.pointer (some ⟨lb, 0, none⟩), .slice (some ⟨cb, 0, none⟩) 16 16] w (en fun e16 w15 => ∃ l17a l17n l17c, e16 = .returned (.slice l17a l17n l17c) ∧ (Calls Tryz.prog 28 #[.bool ((l17n : Int) == 16), .int .i64 250] w15 (en fun e19 w18 => e19 = .returned (.tuple #[]) ∧
      (∃ l21a l21n l21c, ∃ w22, Sem.run Tryz.prog (Instr.sliceAt 41 (.pointer (some (Addr.mk cb 0 none))) none none none) w18 = .ok (.slice l21a l21n l21c) w22 ∧ (∃ n23 w24, Sem.run Tryz.prog (Builtin.copy_ #[25, 25] 3 #[.slice l21a l21n l21c, .slice l17a l17n l17c]) w22 = .ok (.int .i64 n23) w24 ∧ K w24))))) := by
  have hsz : 16 ≤ S.cs.size := by obtain ⟨R, e⟩ := I.shape; rw [e]; show 16 ≤ 41; omega
  cases r with
  | false =>
    have hkey := (I.gd rfl).2.2.2.2.2.2
    have hrd : ∀ w', Hs W (lnP lb false ws :: pt cb (.cells S.cs 50 (0, 0)) :: M) w' → Rd w' (some ⟨cb, 0, none⟩) (u8v (keyAt S.cs)) := fun w' h' j u hj => by
      refine ⟨_, rfl, ?_⟩
      rw [add_mk, cell_at (h'.at 1 rfl), Nat.zero_add, ← Array.getElem?_toList]
      have hj16 : j < 16 := by
        have := (List.getElem?_eq_some_iff.1 hj).1
        simpa [u8v, keyAt] using this
      rw [← hkey, List.getElem?_take_of_lt hj16] at hj
      exact hj
    have hc := c58w (l := keyAt S.cs) (c := 16) I.hs hrd (I.one (by omega) rfl)
    rw [keyAt_len] at hc
    refine clp hc ?_ ?_
    · rintro _ w2 ⟨rfl, _, h2⟩
      refine ⟨_, _, _, rfl, ?_⟩
      refine clp c28 ?_ ?_
      · rintro _ w3 ⟨_, rfl, rfl⟩
        refine ⟨rfl, _, _, _, _, sl16, ?_⟩
        have hr2 : Rd w3 (some ⟨cb, 0, none⟩) (u8v (keyAt S.cs)) := fun j u hj => by
          refine ⟨_, rfl, ?_⟩
          rw [add_mk, cell_at (h2.at 1 rfl), Nat.zero_add, ← Array.getElem?_toList]
          have hj16 : j < 16 := by
            have := (List.getElem?_eq_some_iff.1 hj).1
            simpa [u8v, keyAt] using this
          rw [← hkey, List.getElem?_take_of_lt hj16] at hj
          exact hj
        refine copy16 h2 (j := 1) rfl (keyAt_len _) hr2 hsz fun w4 h4 => ?_
        rw [setK_self hkey] at h4
        refine hK S _ w4 (I.next (i := 4) (it := .key) rfl ⟨⟨keyAt S.cs, keyAt_len _, by rw [setK_self hkey]⟩, trivial, ?_, fun x => (nomatch x), fun _ => ⟨rfl, rfl⟩⟩ I.shape h4)
        intro j hj
        have hjl : j < (keyAt S.cs).length := by rw [keyAt_len]; exact hj
        refine ⟨(keyAt S.cs)[j]'hjl, ?_⟩
        have h5 : (S.cs.toList.take 16)[j]? = (u8v (keyAt S.cs))[j]? := by rw [hkey]
        rw [List.getElem?_take_of_lt hj, Array.getElem?_toList] at h5
        rw [h5]
        simp [u8v, hjl]
      · rintro ch _ ⟨hb, _⟩
        cases hb
    · rintro ch w2 ⟨hn, _⟩
      exact absurd (by decide) hn
  | true =>
    have hinj : ∀ (l : List UInt8) (rest ws' : List ByteArray) (s' : Sc), bs (hexW l) :: rest = wd s' .key :: ws' → l.length = 16 := fun l rest ws' s' e => by
      injection e with e1 _
      rw [hexW_inj (bs_inj e1), keyAt_len]
    refine clp (c58r I.hs (I.fit.2 rfl)) ?_ ?_
    · rintro _ w2 ⟨l, rest, a, c', hl, rfl, rfl, h2⟩
      refine ⟨_, _, _, rfl, ?_⟩
      refine clp c28 ?_ ?_
      · rintro _ w3 ⟨hb, rfl, rfl⟩
        have h16 : l.length = 16 := by have := eq_of_beq hb; omega
        refine ⟨rfl, _, _, _, _, sl16, ?_⟩
        have hr2 := h2.rd 0 rfl
        rw [h16] at h2 ⊢
        refine copy16 h2 (j := 2) rfl h16 hr2 hsz fun w4 h4 => ?_
        have h4 : Hs W (slP 5 1 a 16 c' (u8v l) :: lnP lb true rest :: pt cb (.cells (setK S.cs l) 50 (0, 0)) :: M) w4 := h4
        refine hK ⟨setK S.cs l, S.dat⟩ _ w4 (I.next (i := 4) (it := .key) rfl ⟨⟨l, h16, rfl⟩, trivial, ?_, fun _ => ?_, fun x => (nomatch x)⟩ (I.shape.key h16) h4.drop)
        · intro j hj
          exact ⟨_, setK_in h16 hj⟩
        · show _ = bs (hexW (keyAt (setK S.cs l))) :: rest
          rw [keyAt_setK h16]
      · rintro ch _ ⟨hb, rfl, rfl⟩
        refine hE _ _ ⟨250, rfl, I.err (i := 4) (it := .key) rfl ⟨fun _ => ⟨rfl, fun s' ws' _ e => ?_⟩, fun x => (nomatch x)⟩, h2.drop.drop.drop⟩
        have := hinj _ _ _ _ e
        rw [this] at hb
        cases hb
    · rintro ch w2 ⟨rfl, hn, hs⟩
      exact hE _ _ ⟨250, rfl, I.err (i := 4) (it := .key) rfl ⟨fun _ => ⟨rfl, fun s' ws' _ e => hn _ _ (by rw [keyAt_len]; omega) e⟩, fun x => (nomatch x)⟩, hs.drop⟩
theorem c39 (hT : TB W) (h : Hs W (lnP lb r ws :: pt cb (.cells S.cs 50 (0, 0)) :: M) w) (hsh : Shape S.cs) (hG : r = false → GoodC S.cs) (hf : Fit r 53 ws) :
    Calls Tryz.prog 39 #[.pointer (some ⟨lb, 0, none⟩), .pointer (some ⟨cb, 0, none⟩)] w (rtp (fun v w' => v = .tuple #[] ∧ ∃ S' ws', CI W M r lb cb S ws 53 S' ws' w') (CE W M r confItems S ws)) := by
  have I : CI W M r lb cb S ws 0 S ws w := ⟨by omega, ⟨rfl, rfl⟩, h, hf, hsh, hG⟩
  clear h
  refine escI fun hE => F39_ok ?_
  unfold F39
  simp only [rdP_mk, nn, add_mk, Nat.zero_add, Nat.add_zero]
  refine clp (I.word (i := 0) rfl) ?_ hE
  rintro _ w0 ⟨rfl, S0, ws0, I⟩
  refine ⟨rfl, ?_⟩
  refine clp (I.word (i := 1) rfl) ?_ hE
  rintro _ w1 ⟨rfl, S1, ws1, I⟩
  refine ⟨rfl, ?_⟩
  refine clp (I.item (i := 2) rfl (I.num (by simp [cfK])) (c57 hT I.hs (I.shape.ty (by simp [cfK])) (fun hr => (I.gd hr).1) (I.one (by omega)) (by decide) I.fit.2)) ?_ hE
  rintro _ w2 ⟨rfl, S2, ws2, I⟩
  refine ⟨rfl, ?_⟩
  refine clp (I.word (i := 3) rfl) ?_ hE
  rintro _ w3 ⟨rfl, S3, ws3, I⟩
  refine ⟨rfl, ?_⟩
  refine ⟨_, _, _, _, sl16, ?_⟩
  refine key_go I hE fun S4 ws4 w4 I => ?_
  have h1 := I.hs
  refine h1.alc fun nb w5 h5 => h5.alc fun xb w6 h6 => ?_
  refine clp (I.named (ns := [⟨#[108, 105, 102, 101]⟩]) (os := [17]) (n := 1) hT rfl rfl (by omega) (rot4 h6) (by simp [cfK]) (by omega) rfl) ?_ hE
  rintro _ w8 ⟨rfl, S8, ws8, I⟩
  refine ⟨rfl, ?_⟩
  refine clp (I.word (i := 7) rfl) ?_ hE
  rintro _ w7 ⟨rfl, S7, ws7, I⟩
  refine ⟨rfl, ?_⟩
  refine clp (I.item (i := 8) rfl (I.num (by simp [cfK])) (c60 hT I.hs (I.shape.ty (by simp [cfK])) (fun hr => (I.gd hr).2.1) (I.one (by omega)) I.fit.2)) ?_ hE
  rintro _ w8 ⟨rfl, S8, ws8, I⟩
  refine ⟨rfl, ?_⟩
  refine clp (I.word (i := 9) rfl) ?_ hE
  rintro _ w9 ⟨rfl, S9, ws9, I⟩
  refine ⟨rfl, ?_⟩
  refine clp (I.item (i := 10) rfl (I.num (by simp [cfK])) (c61 hT I.hs (I.shape.ty (by simp [cfK])) (fun hr => (I.gd hr).2.2.1) (I.one (by omega)) I.fit.2)) ?_ hE
  rintro _ w10 ⟨rfl, S10, ws10, I⟩
  refine ⟨rfl, ?_⟩
  refine clp (I.word (i := 11) rfl) ?_ hE
  rintro _ w11 ⟨rfl, S11, ws11, I⟩
  refine ⟨rfl, ?_⟩
  refine clp (I.item (i := 12) rfl (I.num (by simp [cfK])) (c61 hT I.hs (I.shape.ty (by simp [cfK])) (fun hr => (I.gd hr).2.2.2.1) (I.one (by omega)) I.fit.2)) ?_ hE
  rintro _ w12 ⟨rfl, S12, ws12, I⟩
  refine ⟨rfl, ?_⟩
  have h1 := I.hs
  refine h1.drw fun w1 h1 => ⟨?_, ?_⟩
  · refine h1.alc fun nb w2 h2 => h2.alc fun xb w3 h3 => ?_
    refine clp (I.named (ns := [⟨#[116, 114, 105, 101, 115]⟩, ⟨#[108, 97, 115, 116, 115]⟩]) (os := [21, 22]) (n := 2) hT rfl rfl (by omega) (rot4 h3) (by simp [cfK]) (by omega) rfl) ?_ hE
    rintro _ w8 ⟨rfl, S8, ws8, I⟩
    refine ⟨rfl, ?_⟩
    exact F39_4_go hT I hE fun S9 ws9 w9 I9 _ => ⟨by first | rfl | trivial, S9, ws9, I9⟩
  · refine h1.alc fun xb w2 h2 => h2.alc fun nb w3 h3 => ?_
    refine clp (I.named (ns := [⟨#[116, 114, 105, 101, 115]⟩, ⟨#[108, 97, 115, 116, 115]⟩]) (os := [21, 22]) (n := 2) hT rfl rfl (by omega) (rot4b h3) (by simp [cfK]) (by omega) rfl) ?_ hE
    rintro _ w8 ⟨rfl, S8, ws8, I⟩
    refine ⟨rfl, ?_⟩
    exact F39_4_go hT I hE fun S9 ws9 w9 I9 _ => ⟨by first | rfl | trivial, S9, ws9, I9⟩
end
end Go.Proofs.YtilenpnpnbdndaaGreatDoor
/-
  Setting: fn 14.
-/
namespace Go.Proofs.YtilenpnpnbdndaaGreatDoor
open Go Go.Sh
set_option maxRecDepth 100000
/-! how long a line is -/
def smallIt : It → Bool
  | .lit x => decide (x.size ≤ 100)
  | .num _ _ m => decide (m < 18446744073709551616)
  | .flag _ a b => decide (a.size ≤ 100) && decide (b.size ≤ 100)
  | _ => true
theorem wd_size {s : Sc} {it : It} (h : smallIt it = true) (ho : okI s it) : (wd s it).size ≤ 131100 := by
  cases it with
  | lit x => have := of_decide_eq_true h; show x.size ≤ _; omega
  | num o k m =>
    have hm := of_decide_eq_true h
    obtain ⟨h0, h1⟩ := ho
    show (dec (iAt s.cs o)).size ≤ _
    unfold dec
    rw [← bl_len, bl_bs, Lib.decDigits_length]
    have := Lib.nDigits_le20 (iAt s.cs o).toNat (by omega)
    omega
  | flag o a b =>
    rw [smallIt, Bool.and_eq_true] at h
    have h1 := of_decide_eq_true h.1
    have h2 := of_decide_eq_true h.2
    show (if bAt s.cs o then b else a).size ≤ _
    split <;> omega
  | key =>
    show (bs (hexW (keyAt s.cs))).size ≤ _
    rw [← bl_len, bl_bs]
    have := hexW_len (keyAt s.cs)
    rw [keyAt_len] at this
    omega
  | dat o =>
    show (bs (hexW s.dat)).size ≤ _
    rw [← bl_len, bl_bs]
    have := hexW_len s.dat
    have h2 : s.dat.length ≤ 65536 := ho
    omega
  | why o =>
    show (bs (hexW (bl (sAt s.cs o)))).size ≤ _
    rw [← bl_len, bl_bs]
    have := hexW_len (bl (sAt s.cs o))
    rw [bl_len] at this
    have h2 : (sAt s.cs o).size ≤ 65536 := ho
    omega
theorem joined_cons (x : ByteArray) (ws : List ByteArray) : (joined (x :: ws)).size ≤ x.size + (joined ws).size + 1 := by
  rw [← bl_len, ← bl_len, ← bl_len]
  unfold joined
  rw [bl_bs, bl_bs, List.map_cons]
  cases ws with
  | nil => simp [Lib.join, List.intercalate]
  | cons y r =>
    have : Lib.join (bl x :: List.map bl (y :: r)) [32] = bl x ++ 32 :: Lib.join (List.map bl (y :: r)) [32] := by
      simp [Lib.join, List.intercalate]
    rw [this]
    simp
    omega
theorem joined_size {ws : List ByteArray} (h : ∀ x ∈ ws, x.size ≤ 131100) : (joined ws).size ≤ ws.length * 131101 := by
  induction ws with
  | nil => show _ ≤ _; simp [joined, bs, Lib.join, List.intercalate]; rfl
  | cons x r ih =>
    have h1 := joined_cons x r
    have h2 := h x (by simp)
    have h3 := ih fun y hy => h y (by simp [hy])
    simp only [List.length_cons]
    omega
theorem conf_small : ∀ it ∈ confItems, smallIt it = true := by
  have : confItems.all smallIt = true := by decide
  exact List.all_eq_true.1 this
theorem items_size {its : List It} {s : Sc} (h : ∀ it ∈ its, smallIt it = true) (ho : ∀ it ∈ its, okI s it) : (joined (its.map (wd s))).size ≤ its.length * 131101 := by
  have := joined_size (ws := its.map (wd s)) (fun x hx => by
    obtain ⟨it, hi, rfl⟩ := List.mem_map.1 hx
    exact wd_size (h it hi) (ho it hi))
  simpa using this
section
variable {W w : World} {M : List HP} {lb cb kb : Nat} {r : Bool} {S : Sc} {ws : List ByteArray}
theorem ln_new (h : Hs W (pt lb (.cells #[.slice none 0 0, .bool r] 79 (0, 0)) :: M) w) : Hs W (lnP lb r [] :: M) w := by
  have h2 := (h.nil 9 1).perm (List.Perm.swap _ _ _)
  exact ln_shut (a := none) (c := 0) (h2.toO 1 rfl)
end
theorem hb14 : Tryz.f14.body = some (.seq (getAt F14_code [0]) (.seq (.region 1 #[{ dst := none, op := .defer { callee := .value (.func 24), args := #[.tmp 3], argTypes := #[75] }, type := 0, pos := "script.go:183", after := #[], guard := none }] false) (getAt F14_code [1, 1]))) := by kernel_rfl
theorem res14 (t : Tm) (w : World) (K : List Value → Prop) : resL Tryz.prog t w Tryz.f14.results.toList K = (match t 3 with | .pointer (some b) => ldI .i64 b w fun n => K [t 2, .int .i64 n] | _ => False) := by kernel_rfl
theorem ok24 : okFn Tryz.prog 24 = true := by kernel_rfl
theorem nt14 : Tryz.f14.ntmps = 11 := by kernel_rfl
end Go.Proofs.YtilenpnpnbdndaaGreatDoor
