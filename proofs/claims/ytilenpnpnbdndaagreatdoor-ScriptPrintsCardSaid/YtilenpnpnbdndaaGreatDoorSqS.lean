/- Own text: part of the shallow reading of the code and of the contracts that are proved over it. -/
import Derived.Test.YtilenpnpnbdndaaGreatDoorSqQ
/-
  ReadSetting: fn 16.
-/
namespace Go.Proofs.YtilenpnpnbdndaaGreatDoor
open Go Go.Sh
set_option maxRecDepth 100000
/-! the key's bytes -/
def KeyOk (cs : Array Value) : Prop := cs.toList.take 16 = u8v (keyAt cs)
def nearIt : It → Bool
  | .num o _ _ => decide (16 ≤ o)
  | .flag o _ _ => decide (16 ≤ o)
  | .why o => decide (16 ≤ o)
  | .dat _ => false
  | _ => true
theorem take_set16 {cs : Array Value} {o : Nat} {v : Value} (h : 16 ≤ o) : (cs.setIfInBounds o v).toList.take 16 = cs.toList.take 16 := by
  rw [Array.toList_setIfInBounds, List.take_set_of_le h]
theorem Chg.key {it : It} {S S' : Sc} (h : Chg S S' it) (hn : nearIt it = true) (hk : KeyOk S.cs) : KeyOk S'.cs ∧ S'.dat = S.dat := by
  cases it with
  | lit x => cases h; exact ⟨hk, rfl⟩
  | num o k m =>
    obtain ⟨n, rfl⟩ := h
    have := of_decide_eq_true hn
    exact ⟨by unfold KeyOk at hk ⊢; rw [take_set16 this, keyAt_set this]; exact hk, rfl⟩
  | flag o a b =>
    obtain ⟨n, rfl⟩ := h
    have := of_decide_eq_true hn
    exact ⟨by unfold KeyOk at hk ⊢; rw [take_set16 this, keyAt_set this]; exact hk, rfl⟩
  | why o =>
    obtain ⟨n, rfl⟩ := h
    have := of_decide_eq_true hn
    exact ⟨by unfold KeyOk at hk ⊢; rw [take_set16 this, keyAt_set this]; exact hk, rfl⟩
  | key =>
    obtain ⟨l, hl, rfl⟩ := h
    refine ⟨?_, rfl⟩
    unfold KeyOk
    rw [keyAt_setK hl]
    unfold setK
    simp [u8v, hl]
  | dat o => cases hn
theorem Sts.key {r : Bool} : ∀ {l : List It} {S S' : Sc} {ws ws' : List ByteArray}, Sts r l S ws S' ws' → (∀ it ∈ l, nearIt it = true) → KeyOk S.cs → KeyOk S'.cs ∧ S'.dat = S.dat
  | [], _, _, _, _, ⟨e, _⟩, _, hk => by subst e; exact ⟨hk, rfl⟩
  | it :: l, _, _, _, _, ⟨_, _, h1, h2⟩, hn, hk => by
    obtain ⟨a, b⟩ := h1.1.key (hn it (by simp)) hk
    obtain ⟨c, d⟩ := Sts.key h2 (fun x hx => hn x (by simp [hx])) a
    exact ⟨c, d.trans b⟩
theorem conf_near : ∀ it ∈ confItems, nearIt it = true := by
  have : confItems.all nearIt = true := by decide
  exact List.all_eq_true.1 this
def apartB : List It → Bool
  | [] => true
  | a :: l => l.all (fun b => (foot b).all fun o => !(foot a).contains o) && apartB l
theorem apart_of : ∀ {l : List It}, apartB l = true → Apart l
  | [], _ => List.Pairwise.nil
  | a :: l, h => by
    rw [apartB, Bool.and_eq_true] at h
    refine List.pairwise_cons.2 ⟨fun b hb o ho hoa => ?_, apart_of h.2⟩
    have h1 := List.all_eq_true.1 (List.all_eq_true.1 h.1 b hb) o ho
    simp [hoa] at h1
theorem conf_apart : Apart confItems := apart_of (by decide)
/-! words of a line -/
theorem wrds_le : ∀ (l : List UInt8), ∀ x ∈ wrds l, x.length ≤ l.length
  | [], x, hx => by simp [wrds] at hx; simp [hx]
  | b :: l, x, hx => by
    have ih := wrds_le l
    unfold wrds at hx
    split at hx
    · rcases List.mem_cons.1 hx with rfl | hx
      · simp
      · have := ih x hx; simp; omega
    · split at hx
      · rename_i w ws e
        rcases List.mem_cons.1 hx with rfl | hx
        · have := ih w (by rw [e]; simp); simpa using this
        · have := ih x (by rw [e]; simp [hx]); simp; omega
      · rename_i e
        exact absurd e (wrds_ne l)
theorem words_small {s : ByteArray} (h : s.size ≤ 281474976710656) : small (words s) := fun x hx => by
  obtain ⟨l, hl, rfl⟩ := List.mem_map.1 hx
  have := wrds_le _ l hl
  rw [← bl_len, bl_bs]
  rw [bl_len] at this
  omega
theorem join_cons2 (x y : List UInt8) (r : List (List UInt8)) : Lib.join (x :: y :: r) [32] = x ++ 32 :: Lib.join (y :: r) [32] := by
  simp [Lib.join, List.intercalate, List.intersperse]
theorem wrds_join : ∀ (ws : List (List UInt8)), ws ≠ [] → (∀ x ∈ ws, 32 ∉ x) → wrds (Lib.join ws [32]) = ws
  | [], h, _ => absurd rfl h
  | [x], _, h => by
    have : Lib.join [x] [32] = x := Lib.join_one x [32]
    rw [this, wrds_none (h x (by simp))]
  | x :: y :: r, _, h => by
    rw [join_cons2, wrds_split _ _ (h x (by simp)), wrds_join (y :: r) (by simp) fun z hz => h z (by simp [hz])]
theorem join_wrds : ∀ (l : List UInt8), Lib.join (wrds l) [32] = l
  | [] => Lib.join_one [] [32]
  | b :: l => by
    have ih := join_wrds l
    unfold wrds
    split
    · rename_i hb
      subst hb
      cases e : wrds l with
      | nil => exact absurd e (wrds_ne l)
      | cons y r => rw [join_cons2, ← e, ih]; rfl
    · split
      · rename_i w ws e
        rw [e] at ih
        cases ws with
        | nil =>
          rw [Lib.join_one] at ih ⊢
          rw [ih]
        | cons y r =>
          rw [join_cons2] at ih ⊢
          rw [List.cons_append, ih]
      · rename_i e
        exact absurd e (wrds_ne l)
theorem words_joined {ws : List ByteArray} (h0 : ws ≠ []) (h : ∀ x ∈ ws, 32 ∉ bl x) : words (joined ws) = ws := by
  unfold words joined
  rw [bl_bs, wrds_join (ws.map bl) (by simpa using h0) (fun x hx => by obtain ⟨y, hy, rfl⟩ := List.mem_map.1 hx; exact h y hy), List.map_map]
  conv => rhs; rw [← List.map_id ws]
  exact List.map_congr_left fun x _ => bs_bl x
theorem joined_words (s : ByteArray) : joined (words s) = s := by
  unfold words joined
  rw [List.map_map]
  have : List.map (bl ∘ bs) (wrds (bl s)) = wrds (bl s) := by
    conv => rhs; rw [← List.map_id (wrds (bl s))]
    exact List.map_congr_left fun x _ => bl_bs x
  rw [this, join_wrds, bs_bl]
theorem words_ne (s : ByteArray) : words s ≠ [] := by
  unfold words
  simpa using wrds_ne (bl s)
/-! fn 16 -/
def R49.zz : R49 := R49.mk 0 0 0 0 0 0 0 0 0 0 0 0 0 0 0 0 0 0 0 0 0 0 0 0 0 0 0 0 0 0 0 0 0 0 0 0 0 0 false false false
theorem hb16 : Tryz.f16.body = some (.seq (getAt F16_code [0]) (.seq (.region 1 #[{ dst := none, op := .defer { callee := .value (.func 24), args := #[.tmp 3], argTypes := #[75] }, type := 0, pos := "script.go:191", after := #[], guard := none }] false) (getAt F16_code [1, 1]))) := by kernel_rfl
theorem res16 (t : Tm) (w : World) (K : List Value → Prop) : resL Tryz.prog t w Tryz.f16.results.toList K = (match t 2 with | .pointer (some a) => ldR49 a w fun s => (match t 3 with | .pointer (some b) => ldI .i64 b w fun n => K [s.v, .int .i64 n] | _ => False) | _ => False) := by kernel_rfl
theorem nt16 : Tryz.f16.ntmps = 15 := by kernel_rfl
/-- the settings that a line is of -/
def IsConf (s : ByteArray) (R : R49) : Prop := KeyOk R.c ∧ okAll confItems ⟨R.c, []⟩ ∧ words s = confItems.map (wd ⟨R.c, []⟩)
section
variable {W w : World} {M : List HP} {lb cb kb : Nat} {x : Int}
theorem F16_1_go [Esc] {s : ByteArray} {Kr : Value → Value → World → Prop} (hT : TB W) (hs : s.size ≤ 8000000) (h : Hs W (pt kb (.cells #[.int .i64 0] 28 (0, 0)) :: pt cb (.cells R49.zz.c 50 (0, 0)) :: M) w)
    (hE : ∀ ch w', ch = PE 250 → (¬ ∃ R, IsConf s R) → Hs W (pt kb (.cells #[.int .i64 0] 28 (0, 0)) :: pt cb (.cells R49.zz.c 50 (0, 0)) :: M) w' → Esc.E ch w')
    (hK : ∀ w' R, IsConf s R → Hs W (pt kb (.cells #[.int .i64 0] 28 (0, 0)) :: pt cb (.cells R.c 50 (0, 0)) :: M) w' → Kr (.pointer (some ⟨cb, 0, none⟩)) (.pointer (some ⟨kb, 0, none⟩)) w') :
    F16_1 Kr (.string s) (.pointer (some ⟨cb, 0, none⟩)) (.pointer (some ⟨kb, 0, none⟩)) w := by
  unfold F16_1
  simp only [rdA_mk, rdS_mk]
  refine h.alc fun ob w2 h2 => ?_
  refine cl (c32 hs h2) ?_
  rintro _ w3 ⟨a, rfl, h3⟩
  refine ⟨_, _, _, rfl, h3.alc fun lb w4 h4 => ?_⟩
  have h5 : Hs W (lnP lb true (words s) :: pt ob (.cells R49.zz.c 50 (0, 0)) :: pt kb (.cells #[.int .i64 0] 28 (0, 0)) :: pt cb (.cells R49.zz.c 50 (0, 0)) :: M) w4 := ln_shut (h4.toO 1 rfl)
  refine clp (c39 (S := ⟨R49.zz.c, []⟩) hT h5 ⟨R49.zz, rfl⟩ (fun x => (nomatch x)) ⟨fun x => (nomatch x), fun _ => words_small (by omega)⟩) ?_ ?_
  · rintro _ w6 ⟨rfl, S', ws', I⟩
    refine ⟨rfl, ?_⟩
    have hsts := I.sts
    have e53 : confItems.take 53 = confItems := rfl
    rw [e53] at hsts
    obtain ⟨hw, hok⟩ := hsts.r conf_apart
    obtain ⟨hko, hda⟩ := hsts.key conf_near (by unfold KeyOk; rfl)
    obtain ⟨R, hR⟩ := I.shape
    refine clp (c34 I.hs) ?_ ?_
    · rintro _ w7 ⟨rfl, rfl, h7⟩
      rw [hR] at h7 hko
      have hS : S' = ⟨R.c, []⟩ := by cases S'; simp only at hR hda; rw [hR, hda]
      subst hS
      rw [List.append_nil] at hw
      refine ⟨rfl, ldR49_of (s := R) (h7.atL 0 rfl) ?_⟩
      refine h7.stcL 2 rfl (by rfl) fun w8 h8 => ?_
      refine h8.stc 1 rfl (by simp) fun w9 h9 => hK w9 R ⟨hko, hok, hw⟩ ?_
      exact h9.drop
    · rintro ch w7 ⟨hne, rfl, h7⟩
      refine hE _ _ rfl ?_ h7.drop
      rintro ⟨R2, _, _, h2⟩
      rw [h2] at hw
      have := congrArg List.length hw
      rw [List.length_append, List.length_map, List.length_map] at this
      exact hne (List.length_eq_zero_iff.1 (by omega))
  · rintro ch w6 ⟨c, rfl, hb, h6⟩
    obtain ⟨e, hb2⟩ := hb.1 rfl
    subst e
    refine hE _ _ rfl ?_ h6
    rintro ⟨R2, _, h1, h2⟩
    exact hb2 ⟨R2.c, []⟩ [] h1 (by rw [List.append_nil]; exact h2)
theorem c16 {s : ByteArray} (hT : TB W) (h : Hs W M w) (hs : s.size ≤ 8000000) : Calls Tryz.prog 16 #[.string s] w (rt fun v w' => Hs W M w' ∧
    ((∃ R, IsConf s R ∧ v = .tuple #[R.v, .int .i64 0]) ∨ ((¬ ∃ R, IsConf s R) ∧ v = .tuple #[R49.zz.v, .int .i64 250]))) := by
  refine calls_ofD Tryz.func16 hb16 rfl rfl rfl ok24 (by rw [nt16]; show 1 ≤ 15; omega) ?_
  refine F16_0_ok0 _ _ _ ?_
  show F16_0 _ (.string s) w
  unfold F16_0
  simp only [rdS_mk]
  refine h.alc fun b2 w2 h2 => h2.alc fun b4 w4 h4 => ?_
  have h4 : Hs W (pt b4 (.cells #[.int .i64 0] 28 (0, 0)) :: pt b2 (.cells R49.zz.c 50 (0, 0)) :: M) w4 := h4
  intro g
  refine ⟨_, rfl, _, rfl, _, rfl, ?_⟩
  refine gen3 0 2 3 (v1 := .string s) (v2 := .pointer (some ⟨b2, 0, none⟩)) (v3 := .pointer (some ⟨b4, 0, none⟩)) ?_ ?_ ?_ fun t t1 t2 t3 => ?_
  · rfl
  · rfl
  · rfl
  show Behind _ _ _ _ _ _ t _
  have hx : (#[Operand.tmp 3]).map (ev t) = #[.pointer (some ⟨b4, 0, none⟩)] := by simp [ev, t3]
  refine ⟨[2, 3], fun ch w' => ch = PE 250 ∧ (¬ ∃ R, IsConf s R) ∧ Hs W (pt b4 (.cells #[.int .i64 0] 28 (0, 0)) :: pt b2 (.cells R49.zz.c 50 (0, 0)) :: M) w', ?_, ?_⟩
  · refine @F16_1_ok ⟨_⟩ _ _ _ _ ?_
    unfold F16_1O
    rw [t1, t2, t3]
    refine @F16_1_go W w4 M b2 b4 ⟨_⟩ s _ hT hs h4 (fun ch w' hc hb hs => ⟨hc, hb, hs⟩) fun w6 R hok h6 => ?_
    intro g2
    refine ⟨_, rfl, _, rfl, ?_⟩
    show dcl Tryz.prog 24 _ .returning w6 _
    rw [hx]
    refine c24r ?_
    rw [res16]
    show ldR49 ⟨b2, 0, none⟩ w6 (fun s => ldI .i64 ⟨b4, 0, none⟩ w6 _)
    refine ldR49_of (s := R) (h6.atL 1 rfl) ?_
    refine h6.ldI 0 rfl rfl ?_
    exact ⟨h6.drop.drop, .inl ⟨R, hok, rfl⟩⟩
  · rintro ch w6 ⟨rfl, hb, h6⟩
    rw [hx]
    refine c24p h6 fun w7 h7 t' ht' => ?_
    rw [res16, ht' 3 (by simp), ht' 2 (by simp), t3, t2]
    show ldR49 ⟨b2, 0, none⟩ w7 (fun s => ldI .i64 ⟨b4, 0, none⟩ w7 _)
    refine ldR49_of (s := R49.zz) (h7.atL 1 rfl) ?_
    refine h7.ldI 0 rfl rfl ?_
    exact ⟨h7.drop.drop, .inr ⟨hb, rfl⟩⟩
end
end Go.Proofs.YtilenpnpnbdndaaGreatDoor
/-
  The parts of a deed's line (printed by sgen.py).
-/
namespace Go.Proofs.YtilenpnpnbdndaaGreatDoor
open Go Go.Sh
set_option maxRecDepth 100000
/-- a deed's bytes: of its own, or handed in -/
def dtP (W : World) (cs : Array Value) (dat : List UInt8) : HP := fun h => ∃ a c, cs[10]? = some (.slice a dat.length c) ∧ (slP 5 1 a dat.length c (u8v dat) h ∨ (Rd W a (u8v dat) ∧ h = fun _ => none))
def ShD (cs : Array Value) : Prop := ∃ R : R26, cs = R.c
section
variable {W w : World} {M : List HP} {lb db : Nat} {r : Bool} {S : Sc} {ws : List ByteArray} {cs : Array Value} {dat : List UInt8}
theorem dt_open (h : Hs W (dtP W cs dat :: M) w) : ∃ a c, cs[10]? = some (.slice a dat.length c) ∧ Rd w a (u8v dat) := by
  obtain ⟨f, g, ⟨x, y, ⟨a, c, e, hx⟩, hy, d, rfl⟩, ag', b⟩ := h
  refine ⟨a, c, e, ?_⟩
  rcases hx with hx | ⟨hx, _⟩
  · have h' : Hs W (slP 5 1 a dat.length c (u8v dat) :: M) w := ⟨f, _, ⟨x, y, hx, hy, d, rfl⟩, ag', b⟩
    exact h'.rd 0 rfl
  · exact hx.fr f fun _ _ x => x
theorem dt_old {a : Option Addr} {c : Nat} (hc : cs[10]? = some (.slice a dat.length c)) (hr : Rd W a (u8v dat)) (h : Hs W M w) : Hs W (dtP W cs dat :: M) w :=
  h.new (Fr.refl w) (x := fun _ => none) ⟨a, c, hc, .inr ⟨hr, rfl⟩⟩ (fun k o e => by cases e) (fun k e => absurd rfl e)
theorem dt_own {a : Option Addr} {c : Nat} (hc : cs[10]? = some (.slice a dat.length c)) (h : Hs W (slP 5 1 a dat.length c (u8v dat) :: M) w) : Hs W (dtP W cs dat :: M) w :=
  h.weak 0 rfl fun _ hx => ⟨a, c, hc, .inl hx⟩
theorem dt_cs {cs' : Array Value} (e : cs'[10]? = cs[10]?) : dtP W cs' dat = dtP W cs dat := by unfold dtP; rw [e]
theorem rot3 {A B C D : HP} {L : List HP} (h : Hs W (A :: B :: C :: D :: L) w) : Hs W (B :: C :: D :: A :: L) w := ((h.focus (i := 3) rfl).focus (i := 3) rfl).focus (i := 3) rfl
def PP (W : World) (M : List HP) (r : Bool) (lb db : Nat) (it : It) (S : Sc) (ws : List ByteArray) : Value → World → Prop := fun v w' =>
  v = .tuple #[] ∧ ∃ S' ws', Stp r it S ws S' ws' ∧ ShD S'.cs ∧ Hs W (lnP lb r ws' :: pt db (.cells S'.cs 27 (0, 0)) :: dtP W S'.cs S'.dat :: M) w'
def dfK : List (Nat × IntKind) := [(0, .i64), (1, .i64), (2, .i64), (3, .i64), (4, .i64), (5, .u8), (6, .i64), (7, .u16), (8, .u32)]
theorem ShD.num {cs : Array Value} {o : Nat} {k : IntKind} {n : Int} (h : ShD cs) (hm : (o, k) ∈ dfK) : ShD (cs.setIfInBounds o (.int k n)) ∧ (cs.setIfInBounds o (.int k n))[10]? = cs[10]? := by
  obtain ⟨R, rfl⟩ := h
  simp only [dfK, List.mem_cons, Prod.mk.injEq, List.not_mem_nil, or_false] at hm
  rcases hm with ⟨rfl, rfl⟩ | ⟨rfl, rfl⟩ | ⟨rfl, rfl⟩ | ⟨rfl, rfl⟩ | ⟨rfl, rfl⟩ | ⟨rfl, rfl⟩ | ⟨rfl, rfl⟩ | ⟨rfl, rfl⟩ | ⟨rfl, rfl⟩
  · exact ⟨⟨{ R with f0 := n }, rfl⟩, rfl⟩
  · exact ⟨⟨{ R with f1 := n }, rfl⟩, rfl⟩
  · exact ⟨⟨{ R with f2 := n }, rfl⟩, rfl⟩
  · exact ⟨⟨{ R with f3 := n }, rfl⟩, rfl⟩
  · exact ⟨⟨{ R with f4 := n }, rfl⟩, rfl⟩
  · exact ⟨⟨{ R with f5 := n }, rfl⟩, rfl⟩
  · exact ⟨⟨{ R with f6 := n }, rfl⟩, rfl⟩
  · exact ⟨⟨{ R with f7 := n }, rfl⟩, rfl⟩
  · exact ⟨⟨{ R with f8 := n }, rfl⟩, rfl⟩
theorem ShD.ty {cs : Array Value} {o : Nat} {k : IntKind} (h : ShD cs) (hm : (o, k) ∈ dfK) : cs[o]? = some (.int k (iAt cs o)) := by
  obtain ⟨R, rfl⟩ := h
  simp only [dfK, List.mem_cons, Prod.mk.injEq, List.not_mem_nil, or_false] at hm
  rcases hm with ⟨rfl, rfl⟩ | ⟨rfl, rfl⟩ | ⟨rfl, rfl⟩ | ⟨rfl, rfl⟩ | ⟨rfl, rfl⟩ | ⟨rfl, rfl⟩ | ⟨rfl, rfl⟩ | ⟨rfl, rfl⟩ | ⟨rfl, rfl⟩ <;> rfl
theorem Stp.dnum {o m : Nat} {k : IntKind} {S' : Sc} {ws' : List ByteArray} {A : HP} {w' : World} (hs : Stp r (.num o k m) S ws S' ws') (hsh : ShD S.cs) (hm : (o, k) ∈ dfK)
    (h : Hs W (lnP lb r ws' :: pt db (.cells S'.cs 27 (0, 0)) :: dtP W S.cs S.dat :: A :: M) w') : ShD S'.cs ∧ Hs W (lnP lb r ws' :: pt db (.cells S'.cs 27 (0, 0)) :: dtP W S'.cs S'.dat :: M) w' := by
  obtain ⟨n, rfl⟩ := hs.1
  obtain ⟨h1, h2⟩ := hsh.num (n := n) hm
  refine ⟨h1, ?_⟩
  have h3 := h.erase 3
  show Hs W (_ :: _ :: dtP W (S.cs.setIfInBounds o (.int k n)) S.dat :: M) w'
  rw [dt_cs h2]
  exact h3
theorem c69 (hT : TB W) (h : Hs W (lnP lb r ws :: pt db (.cells S.cs 27 (0, 0)) :: dtP W S.cs S.dat :: M) w) (hsh : ShD S.cs) (hf : Fit r 1 ws) :
    Calls Tryz.prog 69 #[.agg #[.pointer (some ⟨lb, 0, none⟩), .pointer (some ⟨db, 0, none⟩)]] w (rtp (PP W M r lb db (.num 1 .i64 1099511627776) S ws) (IE W M r (.num 1 .i64 1099511627776) S ws)) := by
  refine escI fun hE => F69_ok ?_
  unfold F69
  refine ⟨_, _, rfl, h.alc fun b w2 h2 => h2.drw fun w3 h3 => h3.ldP 0 rfl rfl (h3.ldP 0 rfl rfl ?_)⟩
  simp only [nn, add_mk, Nat.zero_add]
  refine clp (c90 hT (rot3 h3) (hsh.ty (by simp [dfK])) hf.one hf.2) ?_ ?_
  · rintro _ w4 ⟨rfl, S', ws', hs, h4⟩
    exact ⟨rfl, by first | rfl | trivial, S', ws', hs, Stp.dnum hs hsh (by simp [dfK]) h4⟩
  · rintro ch w4 ⟨cc, rfl, hn, h4⟩
    exact hE _ _ ⟨cc, rfl, hn, h4.drop.drop⟩
theorem c70 (hT : TB W) (h : Hs W (lnP lb r ws :: pt db (.cells S.cs 27 (0, 0)) :: dtP W S.cs S.dat :: M) w) (hsh : ShD S.cs) (hf : Fit r 1 ws) :
    Calls Tryz.prog 70 #[.agg #[.pointer (some ⟨lb, 0, none⟩), .pointer (some ⟨db, 0, none⟩)]] w (rtp (PP W M r lb db (.num 2 .i64 1099511627776) S ws) (IE W M r (.num 2 .i64 1099511627776) S ws)) := by
  refine escI fun hE => F70_ok ?_
  unfold F70
  refine ⟨_, _, rfl, h.alc fun b w2 h2 => h2.drw fun w3 h3 => h3.ldP 0 rfl rfl (h3.ldP 0 rfl rfl ?_)⟩
  simp only [nn, add_mk, Nat.zero_add]
  refine clp (c90 hT (rot3 h3) (hsh.ty (by simp [dfK])) hf.one hf.2) ?_ ?_
  · rintro _ w4 ⟨rfl, S', ws', hs, h4⟩
    exact ⟨rfl, by first | rfl | trivial, S', ws', hs, Stp.dnum hs hsh (by simp [dfK]) h4⟩
  · rintro ch w4 ⟨cc, rfl, hn, h4⟩
    exact hE _ _ ⟨cc, rfl, hn, h4.drop.drop⟩
theorem c71 (hT : TB W) (h : Hs W (lnP lb r ws :: pt db (.cells S.cs 27 (0, 0)) :: dtP W S.cs S.dat :: M) w) (hsh : ShD S.cs) (hf : Fit r 1 ws) :
    Calls Tryz.prog 71 #[.agg #[.pointer (some ⟨lb, 0, none⟩), .pointer (some ⟨db, 0, none⟩)]] w (rtp (PP W M r lb db (.num 3 .i64 1099511627776) S ws) (IE W M r (.num 3 .i64 1099511627776) S ws)) := by
  refine escI fun hE => F71_ok ?_
  unfold F71
  refine ⟨_, _, rfl, h.alc fun b w2 h2 => h2.drw fun w3 h3 => h3.ldP 0 rfl rfl (h3.ldP 0 rfl rfl ?_)⟩
  simp only [nn, add_mk, Nat.zero_add]
  refine clp (c90 hT (rot3 h3) (hsh.ty (by simp [dfK])) hf.one hf.2) ?_ ?_
  · rintro _ w4 ⟨rfl, S', ws', hs, h4⟩
    exact ⟨rfl, by first | rfl | trivial, S', ws', hs, Stp.dnum hs hsh (by simp [dfK]) h4⟩
  · rintro ch w4 ⟨cc, rfl, hn, h4⟩
    exact hE _ _ ⟨cc, rfl, hn, h4.drop.drop⟩
theorem c72 (hT : TB W) (h : Hs W (lnP lb r ws :: pt db (.cells S.cs 27 (0, 0)) :: dtP W S.cs S.dat :: M) w) (hsh : ShD S.cs) (hw : r = false → okI S (.num 7 .u16 65535)) (hf : Fit r 1 ws) :
    Calls Tryz.prog 72 #[.agg #[.pointer (some ⟨lb, 0, none⟩), .pointer (some ⟨db, 0, none⟩)]] w (rtp (PP W M r lb db (.num 7 .u16 65535) S ws) (IE W M r (.num 7 .u16 65535) S ws)) := by
  refine escI fun hE => F72_ok ?_
  unfold F72
  refine ⟨_, _, rfl, h.alc fun b w2 h2 => h2.drw fun w3 h3 => h3.ldP 0 rfl rfl (h3.ldP 0 rfl rfl ?_)⟩
  simp only [nn, add_mk, Nat.zero_add]
  refine clp (c61 hT (rot3 h3) (hsh.ty (by simp [dfK])) (fun hr => hw hr) hf.one hf.2) ?_ ?_
  · rintro _ w4 ⟨rfl, S', ws', hs, h4⟩
    exact ⟨rfl, by first | rfl | trivial, S', ws', hs, Stp.dnum hs hsh (by simp [dfK]) h4⟩
  · rintro ch w4 ⟨cc, rfl, hn, h4⟩
    exact hE _ _ ⟨cc, rfl, hn, h4.drop.drop⟩
theorem c73 (hT : TB W) (h : Hs W (lnP lb r ws :: pt db (.cells S.cs 27 (0, 0)) :: dtP W S.cs S.dat :: M) w) (hsh : ShD S.cs) (hw : r = false → okI S (.num 8 .u32 4294967295)) (hf : Fit r 1 ws) :
    Calls Tryz.prog 73 #[.agg #[.pointer (some ⟨lb, 0, none⟩), .pointer (some ⟨db, 0, none⟩)]] w (rtp (PP W M r lb db (.num 8 .u32 4294967295) S ws) (IE W M r (.num 8 .u32 4294967295) S ws)) := by
  refine escI fun hE => F73_ok ?_
  unfold F73
  refine ⟨_, _, rfl, h.alc fun b w2 h2 => h2.drw fun w3 h3 => h3.ldP 0 rfl rfl (h3.ldP 0 rfl rfl ?_)⟩
  simp only [nn, add_mk, Nat.zero_add]
  refine clp (c60 hT (rot3 h3) (hsh.ty (by simp [dfK])) (fun hr => hw hr) hf.one hf.2) ?_ ?_
  · rintro _ w4 ⟨rfl, S', ws', hs, h4⟩
    exact ⟨rfl, by first | rfl | trivial, S', ws', hs, Stp.dnum hs hsh (by simp [dfK]) h4⟩
  · rintro ch w4 ⟨cc, rfl, hn, h4⟩
    exact hE _ _ ⟨cc, rfl, hn, h4.drop.drop⟩
theorem c77 (hT : TB W) (h : Hs W (lnP lb r ws :: pt db (.cells S.cs 27 (0, 0)) :: dtP W S.cs S.dat :: M) w) (hsh : ShD S.cs) (hf : Fit r 1 ws) :
    Calls Tryz.prog 77 #[.agg #[.pointer (some ⟨lb, 0, none⟩), .pointer (some ⟨db, 0, none⟩)]] w (rtp (PP W M r lb db (.num 6 .i64 1099511627776) S ws) (IE W M r (.num 6 .i64 1099511627776) S ws)) := by
  refine escI fun hE => F77_ok ?_
  unfold F77
  refine ⟨_, _, rfl, h.alc fun b w2 h2 => h2.drw fun w3 h3 => h3.ldP 0 rfl rfl (h3.ldP 0 rfl rfl ?_)⟩
  simp only [nn, add_mk, Nat.zero_add]
  refine clp (c90 hT (rot3 h3) (hsh.ty (by simp [dfK])) hf.one hf.2) ?_ ?_
  · rintro _ w4 ⟨rfl, S', ws', hs, h4⟩
    exact ⟨rfl, by first | rfl | trivial, S', ws', hs, Stp.dnum hs hsh (by simp [dfK]) h4⟩
  · rintro ch w4 ⟨cc, rfl, hn, h4⟩
    exact hE _ _ ⟨cc, rfl, hn, h4.drop.drop⟩
theorem c79 (hT : TB W) (h : Hs W (lnP lb r ws :: pt db (.cells S.cs 27 (0, 0)) :: dtP W S.cs S.dat :: M) w) (hsh : ShD S.cs) (hf : Fit r 1 ws) :
    Calls Tryz.prog 79 #[.agg #[.pointer (some ⟨lb, 0, none⟩), .pointer (some ⟨db, 0, none⟩)]] w (rtp (PP W M r lb db (.num 4 .i64 1099511627776) S ws) (IE W M r (.num 4 .i64 1099511627776) S ws)) := by
  refine escI fun hE => F79_ok ?_
  unfold F79
  refine ⟨_, _, rfl, h.alc fun b w2 h2 => h2.drw fun w3 h3 => h3.ldP 0 rfl rfl (h3.ldP 0 rfl rfl ?_)⟩
  simp only [nn, add_mk, Nat.zero_add]
  refine clp (c90 hT (rot3 h3) (hsh.ty (by simp [dfK])) hf.one hf.2) ?_ ?_
  · rintro _ w4 ⟨rfl, S', ws', hs, h4⟩
    exact ⟨rfl, by first | rfl | trivial, S', ws', hs, Stp.dnum hs hsh (by simp [dfK]) h4⟩
  · rintro ch w4 ⟨cc, rfl, hn, h4⟩
    exact hE _ _ ⟨cc, rfl, hn, h4.drop.drop⟩
theorem c80 (hT : TB W) (h : Hs W (lnP lb r ws :: pt db (.cells S.cs 27 (0, 0)) :: dtP W S.cs S.dat :: M) w) (hsh : ShD S.cs) (hw : r = false → okI S (.num 5 .u8 255)) (hf : Fit r 1 ws) :
    Calls Tryz.prog 80 #[.agg #[.pointer (some ⟨lb, 0, none⟩), .pointer (some ⟨db, 0, none⟩)]] w (rtp (PP W M r lb db (.num 5 .u8 255) S ws) (IE W M r (.num 5 .u8 255) S ws)) := by
  refine escI fun hE => F80_ok ?_
  unfold F80
  refine ⟨_, _, rfl, h.alc fun b w2 h2 => h2.drw fun w3 h3 => h3.ldP 0 rfl rfl (h3.ldP 0 rfl rfl ?_)⟩
  simp only [nn, add_mk, Nat.zero_add]
  refine clp (c98 hT (rot3 h3) (hsh.ty (by simp [dfK])) (fun hr => hw hr) hf.one hf.2) ?_ ?_
  · rintro _ w4 ⟨rfl, S', ws', hs, h4⟩
    exact ⟨rfl, by first | rfl | trivial, S', ws', hs, Stp.dnum hs hsh (by simp [dfK]) h4⟩
  · rintro ch w4 ⟨cc, rfl, hn, h4⟩
    exact hE _ _ ⟨cc, rfl, hn, h4.drop.drop⟩
theorem c74 (h : Hs W (lnP lb r ws :: pt db (.cells S.cs 27 (0, 0)) :: dtP W S.cs S.dat :: M) w) (hsh : ShD S.cs) (hf : Fit r 1 ws) :
    Calls Tryz.prog 74 #[.agg #[.pointer (some ⟨lb, 0, none⟩), .pointer (some ⟨db, 0, none⟩)]] w (rtp (PP W M r lb db (.flag 9 ⟨#[111]⟩ ⟨#[117]⟩) S ws) (IE W M r (.flag 9 ⟨#[111]⟩ ⟨#[117]⟩) S ws)) := by
  refine escI fun hE => F74_ok ?_
  unfold F74
  refine ⟨_, _, rfl, h.alc fun b w2 h2 => h2.drw fun w3 h3 => h3.ldP 0 rfl rfl (h3.ldP 0 rfl rfl ?_)⟩
  simp only [nn, add_mk, Nat.zero_add]
  have hty : tyI S (.flag 9 ⟨#[111]⟩ ⟨#[117]⟩) := by obtain ⟨R, e⟩ := hsh; show S.cs[9]? = some (.bool (bAt S.cs 9)); rw [e]; rfl
  refine clp (c62 (by decide) (rot3 h3) hty hf.one) ?_ ?_
  · rintro _ w4 ⟨rfl, S', ws', hs, h4⟩
    obtain ⟨x, rfl⟩ := hs.1
    refine ⟨rfl, by first | rfl | trivial, _, ws', hs, ?_, ?_⟩
    · obtain ⟨R, e⟩ := hsh
      exact ⟨{ R with f9 := x }, by show S.cs.setIfInBounds 9 (.bool x) = _; rw [e]; rfl⟩
    · have h5 := h4.erase 3
      show Hs W (_ :: _ :: dtP W (S.cs.setIfInBounds 9 (.bool x)) S.dat :: M) w4
      rw [dt_cs (Array.getElem?_setIfInBounds_ne (by decide))]
      exact h5
  · rintro ch w4 ⟨cc, rfl, hn, h4⟩
    exact hE _ _ ⟨cc, rfl, hn, h4.drop.drop⟩
theorem c75 (h : Hs W (lnP lb r ws :: pt db (.cells S.cs 27 (0, 0)) :: dtP W S.cs S.dat :: M) w) (hsh : ShD S.cs) (hf : Fit r 1 ws) :
    Calls Tryz.prog 75 #[.agg #[.pointer (some ⟨lb, 0, none⟩), .pointer (some ⟨db, 0, none⟩)]] w (rtp (PP W M r lb db (.dat 10) S ws) (IE W M r (.dat 10) S ws)) := by
  refine escI fun hE => F75_ok ?_
  unfold F75
  refine ⟨_, _, rfl, h.alc fun b w2 h2 => h2.drw fun w3 h3 => ?_⟩
  have hb := h3.at 0 rfl
  have h4 := rot3 h3
  obtain ⟨a, c, hc, _⟩ := dt_open (h4.focus (i := 2) rfl)
  have h10 : 10 < S.cs.size := lt_of_at hc
  refine ⟨Go.Sh.lone w3 b _, Go.Sh.Pres.lone hb, ldP_at (lone_at _ _ _) rfl ?_⟩
  refine h3.ldP 0 rfl rfl (h3.ldP 0 rfl rfl ?_)
  simp only [nn, add_mk, Nat.zero_add]
  refine h4.ldC 1 rfl hc ?_
  cases r with
  | false =>
    have hrd : ∀ w', Hs W (lnP lb false ws :: pt db (.cells S.cs 27 (0, 0)) :: dtP W S.cs S.dat :: pt b (.cells #[.pointer (some ⟨lb, 0, none⟩), .pointer (some ⟨db, 0, none⟩)] 82 (0, 0)) :: M) w' → Rd w' a (u8v S.dat) := fun w' h' => by
      obtain ⟨a', c', hc', hr⟩ := dt_open (h'.focus (i := 2) rfl)
      rw [hc] at hc'
      cases hc'
      exact hr
    refine clp (c58w h4 hrd (hf.one rfl)) ?_ ?_
    · rintro _ w5 ⟨rfl, hle, h5⟩
      refine ⟨_, _, _, rfl, Go.Sh.Pres.lone (h5.at 3 rfl), ?_⟩
      refine h5.stc 1 rfl h10 fun w6 h6 => ?_
      have h6 : Hs W (lnP lb false (ws ++ [bs (hexW S.dat)]) :: pt db (.cells (S.cs.setIfInBounds 10 (.slice a S.dat.length c)) 27 (0, 0)) :: dtP W S.cs S.dat :: pt b (.cells #[.pointer (some ⟨lb, 0, none⟩), .pointer (some ⟨db, 0, none⟩)] 82 (0, 0)) :: M) w6 := h6
      rw [set_same hc] at h6
      exact ⟨by first | rfl | trivial, S, _, ⟨⟨.slice a S.dat.length c, S.dat, by rw [set_same hc]⟩, hle, h10, fun x => (nomatch x), fun _ => ⟨rfl, rfl⟩⟩, hsh, h6.erase 3⟩
    · rintro ch w5 ⟨hn, rfl, h5⟩
      exact hE _ _ ⟨1, rfl, ⟨fun x => (nomatch x), fun _ => ⟨rfl, hn⟩⟩, h5.drop.drop.drop⟩
  | true =>
    refine clp (c58r h4 (hf.2 rfl)) ?_ ?_
    · rintro _ w5 ⟨l, rest, a', c', hl, rfl, rfl, h5⟩
      refine ⟨_, _, _, rfl, Go.Sh.Pres.lone (h5.at 4 rfl), ?_⟩
      refine h5.stc 2 rfl h10 fun w6 h6 => ?_
      have h6 : Hs W (slP 5 1 a' l.length c' (u8v l) :: lnP lb true rest :: pt db (.cells (S.cs.setIfInBounds 10 (.slice a' l.length c')) 27 (0, 0)) :: dtP W S.cs S.dat :: pt b (.cells #[.pointer (some ⟨lb, 0, none⟩), .pointer (some ⟨db, 0, none⟩)] 82 (0, 0)) :: M) w6 := h6
      have h7 := dt_own (cs := S.cs.setIfInBounds 10 (.slice a' l.length c')) (set_at hc) h6
      have h8 : Hs W (dtP W (S.cs.setIfInBounds 10 (.slice a' l.length c')) l :: lnP lb true rest :: pt db (.cells (S.cs.setIfInBounds 10 (.slice a' l.length c')) 27 (0, 0)) :: M) w6 := (h7.erase 3).erase 3
      refine ⟨by first | rfl | trivial, ⟨S.cs.setIfInBounds 10 (.slice a' l.length c'), l⟩, rest, ⟨⟨_, l, rfl⟩, hl, ?_, fun _ => rfl, fun x => (nomatch x)⟩, ?_, (h8.focus (i := 2) rfl).focus (i := 2) rfl⟩
      · show 10 < (S.cs.setIfInBounds 10 _).size
        simpa using h10
      · obtain ⟨R, e⟩ := hsh
        exact ⟨{ R with f10a := a', f10n := l.length, f10c := c' }, by show S.cs.setIfInBounds 10 _ = _; rw [e]; rfl⟩
    · rintro ch w5 ⟨rfl, hn, h5⟩
      exact hE _ _ ⟨250, rfl, ⟨fun _ => ⟨rfl, fun s' ws' hok e => hn _ _ hok e⟩, fun x => (nomatch x)⟩, h5.drop.drop.drop⟩
end
end Go.Proofs.YtilenpnpnbdndaaGreatDoor
