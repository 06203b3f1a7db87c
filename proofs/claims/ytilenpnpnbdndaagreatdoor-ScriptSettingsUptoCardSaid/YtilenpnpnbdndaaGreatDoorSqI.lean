/- Own text: part of the shallow reading of the code and of the contracts that are proved over it. -/
import Derived.Test.YtilenpnpnbdndaaGreatDoorSqG
/-
  The items of a line, each in either mode: words, numbers, choices.
-/
namespace Go.Proofs.YtilenpnpnbdndaaGreatDoor
open Go Go.Sh
set_option maxRecDepth 100000
theorem set_same {cs : Array Value} {o : Nat} {v : Value} (h : cs[o]? = some v) : cs.setIfInBounds o v = cs := by
  apply Array.ext
  · simp
  · intro i h1 h2
    rw [Array.getElem_setIfInBounds]
    split
    · rename_i e
      subst e
      rw [Array.getElem?_eq_getElem h2] at h
      exact (Option.some.inj h).symm
    · rfl
theorem lt_of_at {cs : Array Value} {o : Nat} {v : Value} (h : cs[o]? = some v) : o < cs.size := by
  rcases Nat.lt_or_ge o cs.size with h1 | h1
  · exact h1
  · rw [Array.getElem?_eq_none h1] at h; cases h
theorem set_at {cs : Array Value} {o : Nat} {u v : Value} (h : cs[o]? = some u) : (cs.setIfInBounds o v)[o]? = some v := by
  rw [Array.getElem?_setIfInBounds_self, if_pos (lt_of_at h)]
theorem iAt_of {cs : Array Value} {o : Nat} {k : IntKind} {n : Int} (h : cs[o]? = some (.int k n)) : iAt cs o = n := by unfold iAt; rw [h]
theorem bAt_of {cs : Array Value} {o : Nat} {n : Bool} (h : cs[o]? = some (.bool n)) : bAt cs o = n := by unfold bAt; rw [h]
theorem dec_nat (n : Nat) : dec (n : Int) = bs (Lib.decDigits n) := rfl
def IP (W : World) (M : List HP) (r : Bool) (lb cb : Nat) (T : TypeId) (it : It) (S : Sc) (ws : List ByteArray) : Value → World → Prop := fun v w' =>
  v = .tuple #[] ∧ ∃ S' ws', Stp r it S ws S' ws' ∧ Hs W (lnP lb r ws' :: pt cb (.cells S'.cs T (0, 0)) :: M) w'
def IE (W : World) (M : List HP) (r : Bool) (it : It) (S : Sc) (ws : List ByteArray) : List PanicEntry → World → Prop := fun ch w' => ∃ c, ch = PE c ∧ Nop r it S ws c ∧ Hs W M w'
def small (ws : List ByteArray) : Prop := ∀ x ∈ ws, x.size ≤ 281474976710656
section
variable {W w : World} {M : List HP} {lb cb o m : Nat} {r : Bool} {T : TypeId} {S : Sc} {ws : List ByteArray}
/-- a number in a cell of its own, carried to its place -/
theorem Stp.num {k : IntKind} {n0 : Int} {S5 : Sc} {ws' : List ByteArray} (h : Stp r (.num 0 .u64 m) ⟨#[.int .u64 n0], []⟩ ws S5 ws') (ht : tyI S (.num o k m)) (h0 : r = false → n0 = iAt S.cs o) :
    ∃ n : Int, S5.cs = #[.int .u64 n] ∧ 0 ≤ n ∧ n ≤ (m : Int) ∧ Stp r (.num o k m) S ws ⟨S.cs.setIfInBounds o (.int k n), S.dat⟩ ws' := by
  obtain ⟨⟨n, rfl⟩, ⟨h1, h2⟩, _, h3, h4⟩ := h
  refine ⟨n, rfl, h1, h2, ⟨n, rfl⟩, ?_, ?_, ?_, ?_⟩
  · show 0 ≤ iAt _ o ∧ iAt _ o ≤ _
    rw [iAt_of (set_at ht)]
    exact ⟨h1, h2⟩
  · show _ = some _
    rw [set_at ht, iAt_of (set_at ht)]
  · intro hr
    rw [h3 hr]
    show _ = dec (iAt _ o) :: _
    rw [iAt_of (set_at ht)]
    rfl
  · intro hr
    obtain ⟨e1, e2⟩ := h4 hr
    have e3 : n = n0 := by
      have := congrArg (fun s : Sc => iAt s.cs 0) e1
      exact this
    subst e3
    have e4 := h0 hr
    refine ⟨?_, ?_⟩
    · rw [e4, set_same ht]
    · rw [e2]
      show _ ++ [dec n] = _ ++ [dec (iAt S.cs o)]
      rw [e4]
theorem Nop.num {k : IntKind} {n0 : Int} {c : Int} (h : Nop r (.num 0 .u64 m) ⟨#[.int .u64 n0], []⟩ ws c) (h0 : r = false → n0 = iAt S.cs o) : Nop r (.num o k m) S ws c := by
  refine ⟨fun hr => ?_, fun hr => ?_⟩
  · obtain ⟨e, h1⟩ := h.1 hr
    refine ⟨e, fun s' ws' hok => ?_⟩
    exact h1 ⟨#[.int .u64 (iAt s'.cs o)], []⟩ ws' hok
  · obtain ⟨e, h1⟩ := h.2 hr
    refine ⟨e, fun hok => h1 ?_⟩
    show 0 ≤ n0 ∧ n0 ≤ _
    rw [h0 hr]
    exact hok
theorem put1 [Esc] {s : ByteArray} {K : Ending → World → Prop} (h : Hs W (lnP lb r ws :: M) w) (hl : ws.length ≤ 1000) (hk : ∀ w', Hs W (lnP lb r (ws ++ [s]) :: M) w' → K (.returned (.tuple #[])) w') :
    alc (.cells #[.string s] 9) w fun b w1 => Calls Tryz.prog 82 #[.pointer (some ⟨lb, 0, none⟩), .slice (some (Addr.mk b 0 none)) 1 1] w1 (en K) := by
  refine h.alc fun b w2 h2 => ?_
  have h3 : Hs W (lnP lb r ws :: pt b (.cells #[.string s] 9 (0, 0)) :: M) w2 := h2.perm (List.Perm.swap _ _ _)
  refine cl (c82 (us := [s]) h3 (fun j u hj => ?_) (by simp; omega)) ?_
  · refine ⟨_, rfl, ?_⟩
    have := h3.at 1 rfl
    rw [add_mk, cell_at this]
    cases j with
    | zero => simpa [wsV] using hj
    | succ j => simp [wsV] at hj
  · rintro _ w4 ⟨rfl, h4⟩
    exact hk w4 (h4.erase 1)
theorem c50 {s : ByteArray} (h : Hs W (lnP lb r ws :: M) w) (hl : r = false → ws.length ≤ 1000) : Calls Tryz.prog 50 #[.pointer (some ⟨lb, 0, none⟩), .string s] w
    (rtp (fun v w' => v = .tuple #[] ∧ ∃ ws', Stp r (.lit s) S ws S ws' ∧ Hs W (lnP lb r ws' :: M) w') (IE W M r (.lit s) S ws)) := by
  cases r with
  | false =>
    refine (c50w h (hl rfl)).mono fun e w' q => ?_
    rcases q with ⟨v, he, rfl, h2⟩ | ⟨ch, he, x⟩
    · exact .inl ⟨_, he, rfl, _, ⟨rfl, trivial, trivial, fun x => (nomatch x), fun _ => ⟨rfl, rfl⟩⟩, h2⟩
    · exact x.elim
  | true =>
    refine (c50r h).mono fun e w' q => ?_
    rcases q with ⟨v, he, rest, rfl, rfl, h2⟩ | ⟨ch, he, hn, rfl, h2⟩
    · exact .inl ⟨_, he, rfl, _, ⟨rfl, trivial, trivial, fun _ => rfl, fun x => (nomatch x)⟩, h2⟩
    · exact .inr ⟨_, he, 250, rfl, ⟨fun _ => ⟨rfl, fun s' ws' _ => hn ws'⟩, fun x => (nomatch x)⟩, h2⟩
theorem bin_nil : ∀ w : World, Sem.run Tryz.prog (binF Tryz.prog .eql 145 (.tmp 28) (.const .nilIface) .nilIface .nilIface) w = .ok (.bool true) w := by intro w; kernel_rfl
theorem bin_ifc : ∀ (w : World) (q : TypeId) (v : Value), Sem.run Tryz.prog (binF Tryz.prog .eql 145 (.tmp 28) (.const .nilIface) (.iface q v) .nilIface) w = .ok (.bool false) w := by intro w q v; kernel_rfl
theorem c57 (hT : TB W) (h : Hs W (lnP lb r ws :: pt cb (.cells S.cs T (0, 0)) :: M) w) (ht : tyI S (.num o .u64 m)) (hw : r = false → okI S (.num o .u64 m)) (hl : r = false → ws.length ≤ 1000) (hm : m < 18446744073709551616) (hsz : r = true → small ws) :
    Calls Tryz.prog 57 #[.pointer (some ⟨lb, 0, none⟩), .pointer (some ⟨cb, o, none⟩), .int .u64 (m : Int)] w (rtp (IP W M r lb cb T (.num o .u64 m) S ws) (IE W M r (.num o .u64 m) S ws)) := by
  refine escI fun hE => F57_ok ?_
  obtain ⟨a, c, h1⟩ := ln_open h
  unfold F57
  simp only [rdP_mk, rdI_mk, nn]
  refine h1.ldB 0 rfl rfl ?_
  cases r with
  | false =>
    rw [Bool.not_false, br_true]
    refine h.ldI 1 rfl ht ?_
    obtain ⟨g0, g1⟩ := hw rfl
    obtain ⟨n, hn⟩ : ∃ n : Nat, iAt S.cs o = n := ⟨(iAt S.cs o).toNat, by omega⟩
    rw [hn]
    refine cl (c40 (Hs.tb h hT) (by omega)) ?_
    rintro _ w2 ⟨rfl, hs⟩
    refine ⟨_, rfl, put1 (h.same hs) (hl rfl) fun w3 h3 => ⟨rfl, ?_⟩⟩
    exact ⟨by first | rfl | trivial, S, _, ⟨⟨iAt S.cs o, by rw [set_same ht]⟩, hw rfl, ht, fun x => (nomatch x), fun _ => ⟨rfl, by show _ = _ ++ [dec (iAt S.cs o)]; rw [hn, dec_nat]⟩⟩, h3⟩
  | true =>
    rw [Bool.not_true, br_false]
    refine clp (c81 h) ?_ ?_
    · rintro _ w2 ⟨s, rest, rfl, rfl, h2⟩
      refine ⟨s, rfl, ?_⟩
      have hno : (∀ n : Nat, n ≤ m → s ≠ bs (Lib.decDigits n)) → Nop true (.num o .u64 m) S (s :: rest) 250 := fun hx =>
        ⟨fun _ => ⟨rfl, fun s' ws' hok he => by
          injection he with h1 _
          obtain ⟨g0, g1⟩ := hok
          exact hx (iAt s'.cs o).toNat (by omega) h1⟩, fun x => (nomatch x)⟩
      refine cl (c89 (Hs.tb h2 hT) (hsz rfl s (by simp))) ?_
      rintro v w3 ⟨hs, hv⟩
      have h3 := h2.same hs
      rcases hv with ⟨u, hp, rfl⟩ | ⟨hp, n, q, x, rfl⟩
      · refine ⟨_, .inl ⟨rfl, true, w3, bin_nil w3, ?_⟩⟩
        rw [br_true, br_dec]
        refine ⟨fun hle => ?_, fun hgt => ?_⟩
        · refine cl (c40 (Hs.tb h3 hT) (by omega)) ?_
          rintro _ w4 ⟨rfl, hs4⟩
          have h4 := h3.same hs4
          refine ⟨_, rfl, ?_⟩
          rw [str_beq]
          refine clp c28 ?_ ?_
          · rintro _ _ ⟨hb, rfl, rfl⟩
            rw [decide_eq_true_eq] at hb
            refine ⟨rfl, h4.stc 1 rfl (lt_of_at ht) fun w5 h5 => ⟨by first | rfl | trivial, ⟨S.cs.setIfInBounds o (.int .u64 u), S.dat⟩, rest, ⟨⟨_, rfl⟩, ?_, ?_, ?_, fun x => (nomatch x)⟩, h5⟩⟩
            · show 0 ≤ iAt _ o ∧ iAt _ o ≤ _
              rw [iAt_of (set_at ht)]
              omega
            · show _ = some _
              rw [set_at ht, iAt_of (set_at ht)]
            · intro _
              show _ = dec (iAt _ o) :: _
              rw [iAt_of (set_at ht), dec_nat, hb]
          · rintro ch _ ⟨hb, rfl, rfl⟩
            rw [decide_eq_false_iff_not] at hb
            refine hE _ _ ⟨250, rfl, hno fun n hn he => hb ?_, h4.drop.drop⟩
            subst he
            rw [bl_bs, parse_dec (by omega)] at hp
            injection hp with e
            rw [e]
        · refine clp c28 ?_ ?_
          · rintro _ _ ⟨hb, _⟩
            cases hb
          · rintro ch _ ⟨_, rfl, rfl⟩
            refine hE _ _ ⟨250, rfl, hno fun n hn he => hgt ?_, h3.drop.drop⟩
            subst he
            rw [bl_bs, parse_dec (by omega)] at hp
            injection hp with e
            omega
      · refine ⟨_, .inr ⟨_, _, rfl, false, w3, bin_ifc w3 _ _, ?_⟩⟩
        rw [br_false]
        refine clp c28 ?_ ?_
        · rintro _ _ ⟨hb, _⟩
          cases hb
        · rintro ch _ ⟨_, rfl, rfl⟩
          refine hE _ _ ⟨250, rfl, hno fun n hn he => ?_, h3.drop.drop⟩
          subst he
          rw [bl_bs] at hp
          exact hp n (parse_dec (by omega))
    · rintro ch w2 ⟨rfl, rfl, h2⟩
      exact hE _ _ ⟨250, rfl, ⟨fun _ => ⟨rfl, fun s' ws' _ he => by cases he⟩, fun x => (nomatch x)⟩, h2.drop⟩
end
end Go.Proofs.YtilenpnpnbdndaaGreatDoor
/-
  Ints, numbers of a lesser width, choices, ints behind their names.
-/
namespace Go.Proofs.YtilenpnpnbdndaaGreatDoor
open Go Go.Sh
set_option maxRecDepth 100000
theorem em32 : IntKind.wrap .u64 (bitI .xor .u32 (if IntKind.signed .u32 then -1 else IntKind.max .u32) (IntKind.wrap .u32 0)) = ((4294967295 : Nat) : Int) := by kernel_rfl
theorem em16 : IntKind.wrap .u64 (bitI .xor .u16 (if IntKind.signed .u16 then -1 else IntKind.max .u16) (IntKind.wrap .u16 0)) = ((65535 : Nat) : Int) := by kernel_rfl
theorem em8 : IntKind.wrap .u64 (bitI .xor .u8 (if IntKind.signed .u8 then -1 else IntKind.max .u8) (IntKind.wrap .u8 0)) = ((255 : Nat) : Int) := by kernel_rfl
section
variable {W w : World} {M : List HP} {lb cb o m : Nat} {r : Bool} {T : TypeId} {S : Sc} {ws : List ByteArray}
theorem c90 (hT : TB W) (h : Hs W (lnP lb r ws :: pt cb (.cells S.cs T (0, 0)) :: M) w) (ht : tyI S (.num o .i64 1099511627776)) (hl : r = false → ws.length ≤ 1000) (hsz : r = true → small ws) :
    Calls Tryz.prog 90 #[.pointer (some ⟨lb, 0, none⟩), .pointer (some ⟨cb, o, none⟩)] w (rtp (IP W M r lb cb T (.num o .i64 1099511627776) S ws) (IE W M r (.num o .i64 1099511627776) S ws)) := by
  refine escI fun hE => F90_ok ?_
  obtain ⟨a, c, h1⟩ := ln_open h
  have hgo : ∀ {K : World → Prop}, (r = false → okI S (.num o .i64 1099511627776)) → (∀ w', IP W M r lb cb T (.num o .i64 1099511627776) S ws (.tuple #[]) w' → K w') → F90_1 K (.pointer (some ⟨lb, 0, none⟩)) (.pointer (some ⟨cb, o, none⟩)) w := by
    intro K hok hk
    unfold F90_1
    simp only [rdP_mk, nn]
    refine h.ldI 1 rfl ht ?_
    refine h.alc fun b w2 h2 => ?_
    refine h2.stc 0 rfl (by decide) fun w3 h3 => ?_
    have h3 : Hs W (pt b (.cells #[.int .u64 (IntKind.wrap .u64 (iAt S.cs o))] 42 (0, 0)) :: lnP lb r ws :: pt cb (.cells S.cs T (0, 0)) :: M) w3 := h3
    have e0 : r = false → IntKind.wrap .u64 (iAt S.cs o) = iAt S.cs o := fun hr => by
      obtain ⟨g0, g1⟩ := hok hr
      rw [wrap_u64 g0 (by omega)]
    refine clp (c57 (S := ⟨#[.int .u64 (IntKind.wrap .u64 (iAt S.cs o))], []⟩) (o := 0) (m := 1099511627776) hT (h3.perm (List.Perm.swap _ _ _)) rfl (fun hr => ?_) hl (by omega) hsz) ?_ ?_
    · show 0 ≤ IntKind.wrap .u64 (iAt S.cs o) ∧ IntKind.wrap .u64 (iAt S.cs o) ≤ _
      rw [e0 hr]
      exact hok hr
    · rintro _ w4 ⟨rfl, S5, ws', hs, h4⟩
      obtain ⟨n, e1, g0, g1, hs'⟩ := hs.num ht e0
      rw [e1] at h4
      refine ⟨rfl, h4.ldI 1 rfl rfl ?_⟩
      rw [wrap_i64 (by omega) (by omega)]
      refine h4.stc 2 rfl (lt_of_at ht) fun w5 h5 => hk w5 ⟨rfl, _, ws', hs', ?_⟩
      have h5 : Hs W (lnP lb r ws' :: pt b (.cells #[.int .u64 n] 42 (0, 0)) :: pt cb (.cells (S.cs.setIfInBounds o (.int .i64 n)) T (0, 0)) :: M) w5 := h5
      exact h5.erase 1
    · rintro ch w4 ⟨cc, rfl, hn, hs⟩
      exact hE _ _ ⟨cc, rfl, hn.num e0, hs.drop⟩
  unfold F90
  simp only [rdP_mk, nn]
  refine h1.ldB 0 rfl rfl ?_
  cases r with
  | true =>
    rw [Bool.not_true, br_false]
    exact hgo (fun x => (nomatch x)) fun w' q _ => q
  | false =>
    rw [Bool.not_false, br_true]
    have hbad : ¬ okI S (.num o .i64 1099511627776) → ∀ w', Hs W M w' → Esc.E (PE 1) w' := fun hn w' hs =>
      hE _ _ ⟨1, rfl, ⟨fun x => (nomatch x), fun _ => ⟨rfl, hn⟩⟩, hs⟩
    refine h.ldI 1 rfl ht ?_
    rw [br_dec]
    refine ⟨fun h0 => h.ldI 1 rfl ht ?_, fun h0 => ?_⟩
    · refine clp c28 ?_ ?_
      · rintro _ _ ⟨hb, rfl, rfl⟩
        rw [decide_eq_true_eq] at hb
        exact ⟨rfl, hgo (fun _ => ⟨h0, hb⟩) fun w' q _ => q⟩
      · rintro ch _ ⟨hb, rfl, rfl⟩
        rw [decide_eq_false_iff_not] at hb
        exact hbad (fun x => hb x.2) _ h.drop.drop
    · refine clp c28 ?_ ?_
      · rintro _ _ ⟨hb, _⟩
        cases hb
      · rintro ch _ ⟨_, rfl, rfl⟩
        exact hbad (fun x => h0 x.1) _ h.drop.drop
theorem c60 (hT : TB W) (h : Hs W (lnP lb r ws :: pt cb (.cells S.cs T (0, 0)) :: M) w) (ht : tyI S (.num o .u32 4294967295)) (hw : r = false → okI S (.num o .u32 4294967295)) (hl : r = false → ws.length ≤ 1000) (hsz : r = true → small ws) :
    Calls Tryz.prog 60 #[.pointer (some ⟨lb, 0, none⟩), .pointer (some ⟨cb, o, none⟩)] w (rtp (IP W M r lb cb T (.num o .u32 4294967295) S ws) (IE W M r (.num o .u32 4294967295) S ws)) := by
  refine escI fun hE => F60_ok ?_
  unfold F60
  simp only [rdP_mk, nn]
  refine h.ldI 1 rfl ht ?_
  refine h.alc fun b w2 h2 => ?_
  refine h2.stc 0 rfl (by decide) fun w3 h3 => ?_
  have h3 : Hs W (pt b (.cells #[.int .u64 (IntKind.wrap .u64 (iAt S.cs o))] 42 (0, 0)) :: lnP lb r ws :: pt cb (.cells S.cs T (0, 0)) :: M) w3 := h3
  have e0 : r = false → IntKind.wrap .u64 (iAt S.cs o) = iAt S.cs o := fun hr => by
    obtain ⟨g0, g1⟩ := hw hr
    rw [wrap_u64 g0 (by omega)]
  rw [em32]
  refine clp (c57 (S := ⟨#[.int .u64 (IntKind.wrap .u64 (iAt S.cs o))], []⟩) (o := 0) (m := 4294967295) hT (h3.perm (List.Perm.swap _ _ _)) rfl (fun hr => ?_) hl (by omega) hsz) ?_ ?_
  · show 0 ≤ IntKind.wrap .u64 (iAt S.cs o) ∧ IntKind.wrap .u64 (iAt S.cs o) ≤ _
    rw [e0 hr]
    exact hw hr
  · rintro _ w4 ⟨rfl, S5, ws', hs, h4⟩
    obtain ⟨n, e1, g0, g1, hs'⟩ := hs.num ht e0
    rw [e1] at h4
    refine ⟨rfl, h4.ldI 1 rfl rfl ?_⟩
    have ew : IntKind.wrap .u32 n = n := by rw [IntKind.wrap_u32]; omega
    rw [ew]
    refine h4.stc 2 rfl (lt_of_at ht) fun w5 h5 => ⟨by first | rfl | trivial, _, ws', hs', ?_⟩
    have h5 : Hs W (lnP lb r ws' :: pt b (.cells #[.int .u64 n] 42 (0, 0)) :: pt cb (.cells (S.cs.setIfInBounds o (.int .u32 n)) T (0, 0)) :: M) w5 := h5
    exact h5.erase 1
  · rintro ch w4 ⟨cc, rfl, hn, hs⟩
    exact hE _ _ ⟨cc, rfl, hn.num e0, hs.drop⟩
theorem c61 (hT : TB W) (h : Hs W (lnP lb r ws :: pt cb (.cells S.cs T (0, 0)) :: M) w) (ht : tyI S (.num o .u16 65535)) (hw : r = false → okI S (.num o .u16 65535)) (hl : r = false → ws.length ≤ 1000) (hsz : r = true → small ws) :
    Calls Tryz.prog 61 #[.pointer (some ⟨lb, 0, none⟩), .pointer (some ⟨cb, o, none⟩)] w (rtp (IP W M r lb cb T (.num o .u16 65535) S ws) (IE W M r (.num o .u16 65535) S ws)) := by
  refine escI fun hE => F61_ok ?_
  unfold F61
  simp only [rdP_mk, nn]
  refine h.ldI 1 rfl ht ?_
  refine h.alc fun b w2 h2 => ?_
  refine h2.stc 0 rfl (by decide) fun w3 h3 => ?_
  have h3 : Hs W (pt b (.cells #[.int .u64 (IntKind.wrap .u64 (iAt S.cs o))] 42 (0, 0)) :: lnP lb r ws :: pt cb (.cells S.cs T (0, 0)) :: M) w3 := h3
  have e0 : r = false → IntKind.wrap .u64 (iAt S.cs o) = iAt S.cs o := fun hr => by
    obtain ⟨g0, g1⟩ := hw hr
    rw [wrap_u64 g0 (by omega)]
  rw [em16]
  refine clp (c57 (S := ⟨#[.int .u64 (IntKind.wrap .u64 (iAt S.cs o))], []⟩) (o := 0) (m := 65535) hT (h3.perm (List.Perm.swap _ _ _)) rfl (fun hr => ?_) hl (by omega) hsz) ?_ ?_
  · show 0 ≤ IntKind.wrap .u64 (iAt S.cs o) ∧ IntKind.wrap .u64 (iAt S.cs o) ≤ _
    rw [e0 hr]
    exact hw hr
  · rintro _ w4 ⟨rfl, S5, ws', hs, h4⟩
    obtain ⟨n, e1, g0, g1, hs'⟩ := hs.num ht e0
    rw [e1] at h4
    refine ⟨rfl, h4.ldI 1 rfl rfl ?_⟩
    have ew : IntKind.wrap .u16 n = n := by rw [IntKind.wrap_u16]; omega
    rw [ew]
    refine h4.stc 2 rfl (lt_of_at ht) fun w5 h5 => ⟨by first | rfl | trivial, _, ws', hs', ?_⟩
    have h5 : Hs W (lnP lb r ws' :: pt b (.cells #[.int .u64 n] 42 (0, 0)) :: pt cb (.cells (S.cs.setIfInBounds o (.int .u16 n)) T (0, 0)) :: M) w5 := h5
    exact h5.erase 1
  · rintro ch w4 ⟨cc, rfl, hn, hs⟩
    exact hE _ _ ⟨cc, rfl, hn.num e0, hs.drop⟩
theorem c98 (hT : TB W) (h : Hs W (lnP lb r ws :: pt cb (.cells S.cs T (0, 0)) :: M) w) (ht : tyI S (.num o .u8 255)) (hw : r = false → okI S (.num o .u8 255)) (hl : r = false → ws.length ≤ 1000) (hsz : r = true → small ws) :
    Calls Tryz.prog 98 #[.pointer (some ⟨lb, 0, none⟩), .pointer (some ⟨cb, o, none⟩)] w (rtp (IP W M r lb cb T (.num o .u8 255) S ws) (IE W M r (.num o .u8 255) S ws)) := by
  refine escI fun hE => F98_ok ?_
  unfold F98
  simp only [rdP_mk, nn]
  refine h.ldI 1 rfl ht ?_
  refine h.alc fun b w2 h2 => ?_
  refine h2.stc 0 rfl (by decide) fun w3 h3 => ?_
  have h3 : Hs W (pt b (.cells #[.int .u64 (IntKind.wrap .u64 (iAt S.cs o))] 42 (0, 0)) :: lnP lb r ws :: pt cb (.cells S.cs T (0, 0)) :: M) w3 := h3
  have e0 : r = false → IntKind.wrap .u64 (iAt S.cs o) = iAt S.cs o := fun hr => by
    obtain ⟨g0, g1⟩ := hw hr
    rw [wrap_u64 g0 (by omega)]
  rw [em8]
  refine clp (c57 (S := ⟨#[.int .u64 (IntKind.wrap .u64 (iAt S.cs o))], []⟩) (o := 0) (m := 255) hT (h3.perm (List.Perm.swap _ _ _)) rfl (fun hr => ?_) hl (by omega) hsz) ?_ ?_
  · show 0 ≤ IntKind.wrap .u64 (iAt S.cs o) ∧ IntKind.wrap .u64 (iAt S.cs o) ≤ _
    rw [e0 hr]
    exact hw hr
  · rintro _ w4 ⟨rfl, S5, ws', hs, h4⟩
    obtain ⟨n, e1, g0, g1, hs'⟩ := hs.num ht e0
    rw [e1] at h4
    refine ⟨rfl, h4.ldI 1 rfl rfl ?_⟩
    have ew : IntKind.wrap .u8 n = n := by rw [IntKind.wrap_u8]; omega
    rw [ew]
    refine h4.stc 2 rfl (lt_of_at ht) fun w5 h5 => ⟨by first | rfl | trivial, _, ws', hs', ?_⟩
    have h5 : Hs W (lnP lb r ws' :: pt b (.cells #[.int .u64 n] 42 (0, 0)) :: pt cb (.cells (S.cs.setIfInBounds o (.int .u8 n)) T (0, 0)) :: M) w5 := h5
    exact h5.erase 1
  · rintro ch w4 ⟨cc, rfl, hn, hs⟩
    exact hE _ _ ⟨cc, rfl, hn.num e0, hs.drop⟩
theorem c62 {no yes : ByteArray} (hne : no ≠ yes) (h : Hs W (lnP lb r ws :: pt cb (.cells S.cs T (0, 0)) :: M) w) (ht : tyI S (.flag o no yes)) (hl : r = false → ws.length ≤ 1000) :
    Calls Tryz.prog 62 #[.pointer (some ⟨lb, 0, none⟩), .pointer (some ⟨cb, o, none⟩), .string no, .string yes] w (rtp (IP W M r lb cb T (.flag o no yes) S ws) (IE W M r (.flag o no yes) S ws)) := by
  refine escI fun hE => F62_ok ?_
  obtain ⟨a, c, h1⟩ := ln_open h
  unfold F62
  simp only [rdP_mk, rdS_mk, nn]
  refine h1.ldB 0 rfl rfl ?_
  cases r with
  | false =>
    rw [Bool.not_false, br_true]
    refine h.ldB 1 rfl ht ?_
    have hS : Stp false (.flag o no yes) S ws S (ws ++ [if bAt S.cs o then yes else no]) := ⟨⟨bAt S.cs o, by rw [set_same ht]⟩, trivial, ht, fun x => (nomatch x), fun _ => ⟨rfl, rfl⟩⟩
    cases hb : bAt S.cs o with
    | true =>
      rw [hb] at hS
      rw [br_true]
      exact put1 h (hl rfl) fun w3 h3 => ⟨rfl, by first | rfl | trivial, S, _, hS, h3⟩
    | false =>
      rw [hb] at hS
      rw [br_false]
      exact put1 h (hl rfl) fun w3 h3 => ⟨rfl, by first | rfl | trivial, S, _, hS, h3⟩
  | true =>
    rw [Bool.not_true, br_false]
    have hset : ∀ (s : ByteArray) (rest : List ByteArray) (b : Bool), s = (if b then yes else no) → Stp true (.flag o no yes) S (s :: rest) ⟨S.cs.setIfInBounds o (.bool b), S.dat⟩ rest := fun s rest b hb => by
      refine ⟨⟨_, rfl⟩, trivial, ?_, fun _ => ?_, fun x => (nomatch x)⟩
      · show _ = some _
        rw [set_at ht, bAt_of (set_at ht)]
      · show _ = (if bAt _ o then yes else no) :: _
        rw [bAt_of (set_at ht), hb]
    refine clp (c81 h) ?_ ?_
    · rintro _ w2 ⟨s, rest, rfl, rfl, h2⟩
      refine ⟨s, rfl, ?_⟩
      rw [str_beq, str_beq, br_dec]
      refine ⟨fun he => ?_, fun he => ?_⟩
      · refine clp c28 ?_ ?_
        · rintro _ _ ⟨_, rfl, rfl⟩
          refine ⟨rfl, h2.stc 1 rfl (lt_of_at ht) fun w5 h5 => ⟨by first | rfl | trivial, _, rest, hset s rest _ ?_, h5⟩⟩
          rw [he, decide_eq_false hne]
          rfl
        · rintro ch _ ⟨hb, _⟩
          cases hb
      · refine clp c28 ?_ ?_
        · rintro _ _ ⟨hb, rfl, rfl⟩
          refine ⟨rfl, h2.stc 1 rfl (lt_of_at ht) fun w5 h5 => ⟨by first | rfl | trivial, _, rest, hset s rest _ ?_, h5⟩⟩
          rw [hb]
          exact of_decide_eq_true hb
        · rintro ch _ ⟨hb, rfl, rfl⟩
          rw [decide_eq_false_iff_not] at hb
          refine hE _ _ ⟨250, rfl, ⟨fun _ => ⟨rfl, fun s' ws' _ e => ?_⟩, fun x => (nomatch x)⟩, h2.drop.drop⟩
          injection e with e1 _
          have e1 : s = if bAt s'.cs o then yes else no := e1
          cases hx : bAt s'.cs o with
          | true => rw [hx] at e1; exact hb e1
          | false => rw [hx] at e1; exact he e1
    · rintro ch w2 ⟨rfl, rfl, h2⟩
      exact hE _ _ ⟨250, rfl, ⟨fun _ => ⟨rfl, fun s' ws' _ he => by cases he⟩, fun x => (nomatch x)⟩, h2.drop⟩
end
end Go.Proofs.YtilenpnpnbdndaaGreatDoor
