/-
  A chunk is put: all of it.
-/
import Derived.Test.YtaflmpbeonoilaaRmK
import Derived.Test.YtaflmpbeonoilaaShMr
import Derived.Shelf.SlSortCmp.InsertionK
import Derived.Shelf.SlSortCmp.NoneTotal
namespace Go.Proofs.Ytaflmpbeonoilaa
open Go Go.Sh
section
variable {W w : World} {L M Z : List HP} {tb mc mf : Nat} {hd : Int} {d : TD} {s : St} {es : List Ec} {F : List Int} {c : Ch}
theorem c29 {t : Int} (h : Hs W L w) : Calls Try.prog 29 #[.pointer (some ⟨tb, 0, none⟩), .int .u32 t] w (rt fun v w' => ∃ b3 b5, v = .func (.func 50) #[] #[.pointer (some ⟨b3, 0, none⟩), .pointer (some ⟨b5, 0, none⟩)] ∧ Hs W (pt b3 (.cells #[.pointer (some ⟨tb, 0, none⟩)] 92 (0, 0)) :: pt b5 (.cells #[.int .u32 t] 30 (0, 0)) :: L) w') := by
  refine F29_ok ?_
  unfold F29
  simp only [rdP_mk, rdI_mk]
  refine h.alc fun b3 w4 h4 => h4.alc fun b5 w6 h6 => ?_
  exact ⟨b3, b5, rfl, h6.perm (List.Perm.swap _ _ _)⟩
theorem cMap_put {es : List Ec} {e : Ec} (h : e.x.tsn ∉ keys (pl es)) : updV (cMap es) e.x.tsn (some e.rc.v) = cMap (es ++ [e]) := by
  funext k
  unfold updV cMap
  rw [List.find?_append]
  by_cases hk : k = e.x.tsn
  · rw [if_pos hk]
    have : (es.find? fun a => a.x.tsn == k) = none := by
      rw [List.find?_eq_none]
      intro a ha he
      refine h ?_
      rw [← hk]
      have : a.x.tsn = k := by simpa using he
      rw [← this]
      exact List.mem_map.2 ⟨a.x, List.mem_map.2 ⟨a, ha, rfl⟩, rfl⟩
    rw [this, hk]
    simp
  · rw [if_neg hk]
    have : ([e].find? fun a => a.x.tsn == k) = none := by simp; exact fun h => hk h.symm
    rw [this]
    cases es.find? fun a => a.x.tsn == k <;> rfl
theorem c11_T {b3 : Nat} {a3 : Option Addr} {n3 : Nat} {K : Value → World → Prop} (hi : Is d s) (hok : OkB s) (hc : CkOk c) (hlim : 0 ≤ s.lim ∧ s.lim ≤ 1073741824) (he : putE s c = 0) (hrd : ∀ w', Hs W Z w' → Rd w' a3 (inV .u8 c.b))
    (h : Hs W (pt b3 (.cells (c.rc a3 n3).c 36 (0, 0)) :: (tabL tb (tot s) d s ++ Z)) w)
    (hK : ∀ w' d', Is d' (putS s c) → Hs W (tabL tb (tot (putS s c)) d' (putS s c) ++ Z) w' → K (.int .i64 0) w') :
    F11_T K (.pointer (some ⟨tb, 0, none⟩)) (.pointer (some ⟨b3, 0, none⟩)) w := by
  obtain ⟨k1, k2⟩ := put1_ok hok hc hlim.2 he
  obtain ⟨_, p2, p3, p4, p5, p6, p7, p8⟩ := putE_0 he
  have htot := hok.tot
  have etot : tot (putS s c) = tot (put1 s c) := by rw [(put_ok hok hc hlim.2 he).2, k2]
  rw [etot] at hK
  unfold F11_T
  intro _g
  simp only [rdP_mk, rdA_mk, nn_some, add_mk]
  refine h.ldC 0 rfl rfl ?_
  refine cl (c27 (c := n3) (hrd w (Hs.dropL (X := pt b3 (.cells (c.rc a3 n3).c 36 (0, 0)) :: tabL tb (tot s) d s) h)) (by omega)) ?_
  rintro _ w15 ⟨a', c', rfl, o15, s15⟩
  refine ⟨_, _, _, rfl, ?_⟩
  have h15 := (h.own_new s15 o15)
  refine h15.stc 1 rfl (by simp [R35.c]) fun w18 h18 => ?_
  have h18 : Hs W (bodyP ⟨a', c', c⟩ :: pt b3 (.cells (c.rc a' c').c 36 (0, 0)) :: (tabL tb (tot s) d s ++ Z)) w18 := h18
  clear h15 h
  refine h18.drw fun w19 h19 => ?_
  refine h19.ldM 2 rfl rfl (h19.ldI 1 rfl rfl ?_)
  refine ldR35_of (s := c.rc a' c') (h19.atL 1 rfl) ?_
  obtain ⟨o24, hr24, hm24⟩ := store_val (P := Try.prog) (T := 64) u64 u30 (k := c.tsn) (v := (c.rc a' c').v) (h19.mapv 3 rfl)
  refine ⟨_, hr24, ?_⟩
  have h24 := h19.mapv_turn (i := 3) rfl ((Fr.refl w19).sb (fun _ => rfl)) hm24
  have hnk : (⟨a', c', c⟩ : Ec).x.tsn ∉ keys (pl d.es) := by
    have : pl d.es = s.L := hi.L
    rw [this]; exact p5
  rw [show updV (cMap d.es) c.tsn (some (c.rc a' c').v) = cMap (d.es ++ [⟨a', c', c⟩]) from cMap_put hnk] at h24
  have h25 := h24.big_in 7 (l := d.es) rfl
  have h25 : Hs W (pt b3 (.cells (c.rc a' c').c 36 (0, 0)) :: (tabL tb (tot s) { d with es := d.es ++ [⟨a', c', c⟩] } (put1 s c) ++ Z)) _ := h25
  refine h25.drw fun w25 h25 => ?_
  refine h25.ldI 1 rfl rfl (h25.ldC 0 rfl rfl ?_)
  refine h25.stc 1 rfl (by simp [tabC, R69.c]) fun w30 h30 => ?_
  have ew : IntKind.wrap .i64 ((tot s : Int) + (c.b.length : Int)) = ((tot (put1 s c) : Nat) : Int) := by rw [k2, wrap_i64 (by omega) (by omega)]; omega
  have h30 : Hs W (pt b3 (.cells (c.rc a' c').c 36 (0, 0)) :: (tabL tb (tot (put1 s c)) { d with es := d.es ++ [⟨a', c', c⟩] } (put1 s c) ++ Z)) w30 := by
    rw [← ew]; exact h30
  clear h25 h24 h19 h18
  obtain ⟨d2, hd2⟩ : ∃ d2 : TD, d2 = { d with es := d.es ++ [(⟨a', c', c⟩ : Ec)] } := ⟨_, rfl⟩
  rw [← hd2] at h30
  have hi2 : Is d2 (put1 s c) := by
    subst hd2
    exact ⟨by show (d.es ++ [_]).map Ec.x = s.L ++ [c]; rw [List.map_append, hi.L]; rfl, hi.wh, hi.M⟩
  have hbl : pl d2.es = s.L ++ [c] := hi2.L
  clear hd2
  refine h30.drw fun w31 h31 => ?_
  refine h31.ldI 0 rfl rfl ?_
  refine cl (c29 h31.behind) ?_
  rintro _ w34 ⟨b3', b5', rfl, h34⟩
  refine ⟨_, rfl, ?_⟩
  have hcnt := k1.cnt
  have hle : d2.es.length ≤ 32768 := by
    have h1 : d2.es.length = (put1 s c).L.length := by rw [← hi2.L, List.length_map]
    omega
  refine cl (c28 (by omega) hc.t h34) ?_
  rintro _ w37 ⟨ra, rc, rfl, h37⟩
  rw [hbl] at h37
  rw [hbl]
  have h37 : Hs W ([slP 30 1 ra (rowC s c).length rc (inV .u32 (rowC s c))] ++ (tabL tb (tot (put1 s c)) d2 (put1 s c) ++ (pt b3 (.cells (c.rc a' c').c 36 (0, 0)) :: Z))) w37 := h37
  refine ⟨_, _, _, rfl, ?_⟩
  obtain ⟨g, n, g1, g2, g3, g4, g5, g6, g7, g8, g9, g10, ⟨x, hx, hfx⟩, ⟨y, hy, hly⟩, _⟩ := rowC_facts k1 hc
  have hrlen : (rowC s c).length = n + 1 := by rw [g2, numsN_length]
  refine h37.drw fun w40 h40 => ?_
  refine ⟨w40, Pres.refl _, ?_⟩
  refine h40.ldM 1 rfl rfl ?_
  have hrr := h40.rd 0 rfl
  obtain ⟨rd, hrd'⟩ := hrr.some (by rw [inV_length, hrlen]; omega)
  have hrr' : Rd w40 (some rd) (inV .u32 (rowC s c)) := by rw [← hrd']; exact hrr
  have eix : ∀ {p : Nat} {i : Int} {K : Addr → Prop}, i = (p : Int) → p < n + 1 → K (rd.add (p * 1)) → ixS 1 ra (rowC s c).length i K := by
    intro p i K h1 h2 hk
    rw [hrd']
    exact ixS_to h1 (by rw [hrlen]; exact h2) hk
  have e0 : (rowC s c)[0]? = some g := by
    have : (g + ((0 : Nat) : Int)) % 4294967296 = g := by omega
    rw [g2, numsN_get (Nat.zero_le _), this]
  have en : (rowC s c)[n]? = some ((g + (n : Int)) % 4294967296) := by rw [g2, numsN_get (Nat.le_refl _)]
  refine eix (p := 0) rfl (by omega) ?_
  rw [Nat.zero_mul]
  refine ldI_c (hrr'.at (inV_at e0)) ?_
  have hrt := tab_rt (L := pt b3 (.cells (c.rc a' c').c 36 (0, 0)) :: Z) h40.drop
  rw [← hbl] at hx hy
  obtain ⟨s46, hs46, q46⟩ := hrt.look g
  obtain ⟨e1, _, he1, hse1⟩ := q46 x hx
  subst hse1
  refine exR35_of e1.rc ⟨hs46 false, ?_⟩
  refine h40.ldM 1 rfl rfl ?_
  refine eix (p := n) (by show IntKind.wrap .i64 (((rowC s c).length : Int) - 1) = _; rw [hrlen, wrap_i64 (by omega) (by omega)]; omega) (by omega) ?_
  rw [Nat.mul_one]
  refine ldI_c (hrr'.at (inV_at en)) ?_
  obtain ⟨s51, hs51, q51⟩ := hrt.look ((g + (n : Int)) % 4294967296)
  obtain ⟨e2, _, he2, hse2⟩ := q51 y hy
  subst hse2
  refine exR35_of e2.rc ⟨hs51 false, ?_⟩
  have hf : ∀ m, hr e1.rc m = (fstC s c).has m := fun m => by rw [hfx, ← he1]; rfl
  have hl : ∀ m, hr e2.rc m = (lstC s c).has m := fun m => by rw [hly, ← he2]; rfl
  have fin : ∀ {bf bl : Nat} {w57 : World}, Hs w40 [pt bf (.cells e1.rc.c 36 (0, 0)), pt bl (.cells e2.rc.c 36 (0, 0))] w57 →
      F11_2 (fun y4 w59 => ∀ _g : Tm, rdI .i64 y4 fun n61 => K (.int .i64 n61) w59) (.pointer (some ⟨tb, 0, none⟩)) (.pointer (some ⟨b3, 0, none⟩)) (.slice ra (rowC s c).length rc) (.pointer (some ⟨bf, 0, none⟩)) (.pointer (some ⟨bl, 0, none⟩)) w57 := by
    intro bf bl w57 h57
    have h58 := Hs.over h40 h57
    have h59 : Hs W ([slP 30 1 ra (rowC s c).length rc (inV .u32 (rowC s c)), pt bf (.cells e1.rc.c 36 (0, 0)), pt bl (.cells e2.rc.c 36 (0, 0)), pt b3 (.cells (c.rc a' c').c 36 (0, 0))] ++ (tabL tb (tot (put1 s c)) d2 (put1 s c) ++ Z)) w57 := by
      have h60 : Hs W ([pt bf (.cells e1.rc.c 36 (0, 0)), pt bl (.cells e2.rc.c 36 (0, 0)), slP 30 1 ra (rowC s c).length rc (inV .u32 (rowC s c))] ++ (tabL tb (tot (put1 s c)) d2 (put1 s c) ++ ([pt b3 (.cells (c.rc a' c').c 36 (0, 0))] ++ Z))) w57 := h58
      have h62 := h60.perm (List.Perm.append_left _ (List.perm_append_comm_assoc (tabL tb (tot (put1 s c)) d2 (put1 s c)) [pt b3 (.cells (c.rc a' c').c 36 (0, 0))] Z))
      have h63 : Hs W (pt bf (.cells e1.rc.c 36 (0, 0)) :: pt bl (.cells e2.rc.c 36 (0, 0)) :: slP 30 1 ra (rowC s c).length rc (inV .u32 (rowC s c)) :: (pt b3 (.cells (c.rc a' c').c 36 (0, 0)) :: (tabL tb (tot (put1 s c)) d2 (put1 s c) ++ Z))) w57 := h62
      exact h63.perm (List.perm_middle (l₁ := [pt bf (.cells e1.rc.c 36 (0, 0)), pt bl (.cells e2.rc.c 36 (0, 0))]))
    refine c11_2 hi2 hok k1 hc p5 hf hl h59 fun w' d' hi' h' _g => ?_
    simp only [rdI_mk]
    exact hK w' d' hi' h'
  have h0 := Hs.start w40
  constructor
  · refine alcP h0 fun bf w53 p53 h53 => ⟨p53, ?_⟩
    refine alcP h53 fun bl w55 p55 h55 => ⟨p53.trans p55, ?_⟩
    refine h55.stcL 1 rfl rfl fun w56 h56 => ⟨Pres.of_Same h56.old, ?_⟩
    refine h56.stcL 0 rfl rfl fun w57 h57 => ?_
    have h57 : Hs w40 [pt bl (.cells e2.rc.c 36 (0, 0)), pt bf (.cells e1.rc.c 36 (0, 0))] w57 := h57
    exact fin (h57.perm (List.Perm.swap _ _ _))
  · refine alcP h0 fun bl w53 p53 h53 => ⟨p53, ?_⟩
    refine alcP h53 fun bf w55 p55 h55 => ⟨p53.trans p55, ?_⟩
    refine h55.stcL 0 rfl rfl fun w56 h56 => ⟨Pres.of_Same h56.old, ?_⟩
    refine h56.stcL 1 rfl rfl fun w57 h57 => ?_
    have h57 : Hs w40 [pt bf (.cells e1.rc.c 36 (0, 0)), pt bl (.cells e2.rc.c 36 (0, 0))] w57 := h57
    exact fin h57
def putT (s : St) (c : Ch) : St := if putE s c = 0 then putS s c else s
theorem putE_eq (s : St) (c : Ch) : putE s c = if c.r.f0 ≠ 0 ∨ c.b.length = 0 ∨ (65531 : Int) < c.b.length then 201 else putE2 s c := rfl
theorem putT_ok (h : OkB s) (hc : CkOk c) (hl : s.lim ≤ 1073741824) : OkB (putT s c) := by
  unfold putT
  split
  · rename_i he; exact (put_ok h hc hl he).1
  · exact h
theorem c11_none (x : R35) (w : World) : Calls Try.prog 11 #[.pointer none, x.v] w (rt fun v w' => v = .int .i64 4 ∧ Same w w') := by
  refine F11_ok ?_
  unfold F11
  simp only [rdP_mk]
  refine exR35_of x ⟨rfl, ?_⟩
  refine (Hs.start w).alc fun b3 w4 h4 => ?_
  refine clr (c24_none w4) ⟨_, rfl, ?_⟩
  exact ⟨by first | rfl | trivial, h4.old⟩
theorem c11_void {cs : Array Value} (x : R35) (h : w.heap[tb]? = some (.cells cs 70 (0, 0))) (h0 : cs[0]? = some (.map none)) : Calls Try.prog 11 #[.pointer (some ⟨tb, 0, none⟩), x.v] w (rt fun v w' => v = .int .i64 4 ∧ Same w w') := by
  refine F11_ok ?_
  unfold F11
  simp only [rdP_mk]
  refine exR35_of x ⟨rfl, ?_⟩
  refine (Hs.start w).alc fun b3 w4 h4 => ?_
  refine clr (c24 (h4.old.blk h fun x => x) h0) ⟨_, rfl, ?_⟩
  exact ⟨by first | rfl | trivial, h4.old⟩
theorem c11 {x : R35} {b : List Int} (hok : OkB s) (hc : CkOk ⟨x, b⟩) (hx : x.f13n = b.length) (hlim : 0 ≤ s.lim ∧ s.lim ≤ 1073741824) (hnx : s.nx.length ≤ 65536) (hrd : ∀ w', Hs W Z w' → Rd w' x.f13a (inV .u8 b))
    (h : Hs W (tabP tb (tot s) s :: Z) w) :
    Calls Try.prog 11 #[.pointer (some ⟨tb, 0, none⟩), x.v] w (rt fun v w' => v = .int .i64 (putE s ⟨x, b⟩) ∧ Hs W (tabP tb (tot (putT s ⟨x, b⟩)) (putT s ⟨x, b⟩) :: Z) w') := by
  obtain ⟨d, hi, h⟩ := tab_open h
  obtain ⟨c, hcd⟩ : ∃ c : Ch, c = ⟨x, b⟩ := ⟨_, rfl⟩
  have hxe : c.rc x.f13a x.f13c = x := by rw [hcd]; cases x; subst hx; rfl
  rw [← hcd] at hc ⊢
  have hcb : c.b = b := by rw [hcd]
  have hcr : c.r = x := by rw [hcd]
  rw [← hcb] at hrd hx
  refine F11_ok ?_
  unfold F11
  simp only [rdP_mk]
  refine exR35_of x ⟨rfl, ?_⟩
  refine h.alc fun b3 w4 h4 => ?_
  refine clr (c24t h4.drop) ⟨_, rfl, ?_⟩
  simp only [Bool.not_true, br_false]
  have h4 : Hs W (pt b3 (.cells (c.rc x.f13a x.f13c).c 36 (0, 0)) :: (tabL tb (tot s) d s ++ Z)) w4 := by rw [hxe]; exact h4
  have hbad : ∀ e : Int, e = putE s c → e ≠ 0 → ∀ w', Hs W (pt b3 (.cells (c.rc x.f13a x.f13c).c 36 (0, 0)) :: (tabL tb (tot s) d s ++ Z)) w' → (Value.int .i64 e = .int .i64 (putE s c) ∧ Hs W (tabP tb (tot (putT s c)) (putT s c) :: Z) w') := by
    intro e he hne w' h'
    have et : putT s c = s := by unfold putT; rw [if_neg (by rw [← he]; exact hne)]
    rw [et, he]
    exact ⟨rfl, tab_shut hi h'.drop⟩
  have main : ∀ (B : Bool) (w5 : World), (B = true ↔ (c.r.f0 ≠ 0 ∨ c.b.length = 0 ∨ (65531 : Int) < c.b.length)) → Hs W (pt b3 (.cells (c.rc x.f13a x.f13c).c 36 (0, 0)) :: (tabL tb (tot s) d s ++ Z)) w5 →
      F11_3 (F11_T fun v w' => v = .int .i64 (putE s c) ∧ Hs W (tabP tb (tot (putT s c)) (putT s c) :: Z) w') (fun y4 w73 => ∀ _g : Tm, rdI .i64 y4 fun n75 => Value.int .i64 n75 = .int .i64 (putE s c) ∧ Hs W (tabP tb (tot (putT s c)) (putT s c) :: Z) w73) (.pointer (some ⟨tb, 0, none⟩)) (.pointer (some ⟨b3, 0, none⟩)) (.bool B) w5 := by
    intro B w5 hB h5
    have e1 : B = true → putE s c = 201 := fun hb => by rw [putE_eq, if_pos (hB.1 hb)]
    have e2 : B = false → putE s c = putE2 s c := fun hb => by rw [putE_eq, if_neg (fun hx => by rw [hB.2 hx] at hb; cases hb)]
    refine c11_3 hi hok hc hlim hnx h5 (fun hb w' h' _g => ?_) (fun hb hne w' h' _g => ?_) fun hb he w' h' => ?_
    · simp only [rdI_mk]
      exact hbad 201 (e1 hb).symm (by decide) w' h'
    · simp only [rdI_mk]
      exact hbad _ (e2 hb).symm hne w' h'
    · have he' : putE s c = 0 := (e2 hb).trans he
      refine c11_T hi hok hc hlim he' hrd h' fun w2 d' hi' h2 => ?_
      have et : putT s c = putS s c := by unfold putT; rw [if_pos he']
      rw [et, he']
      exact ⟨rfl, tab_shut hi' h2⟩
  refine h4.ldI 0 rfl rfl ?_
  have ek : (c.rc x.f13a x.f13c).f0 = c.r.f0 := rfl
  rw [ek]
  cases hk : c.r.f0 != 0 with
  | true =>
    rw [br_true]
    refine main true w4 ?_ h4
    exact ⟨fun _ => .inl (by simpa using hk), fun _ => rfl⟩
  | false =>
  rw [br_false]
  have hk0 : c.r.f0 = 0 := by simpa using hk
  refine h4.ldC 0 rfl rfl ?_
  show br ((c.b.length : Int) == 0) _ _
  cases hl : ((c.b.length : Int) == 0) with
  | true =>
    rw [br_true]
    refine main true w4 ?_ h4
    have : c.b.length = 0 := by
      have : (c.b.length : Int) = 0 := by simpa using hl
      omega
    exact ⟨fun _ => .inr (.inl this), fun _ => rfl⟩
  | false =>
  rw [br_false]
  have hl0 : c.b.length ≠ 0 := by
    intro e
    rw [e] at hl
    cases hl
  refine h4.ldC 0 rfl rfl ?_
  refine main (decide ((c.b.length : Int) > 65531)) w4 ?_ h4
  rw [decide_eq_true_eq]
  constructor
  · intro h; exact .inr (.inr h)
  · rintro (h | h | h)
    · exact absurd hk0 h
    · exact absurd h hl0
    · exact h
end
end Go.Proofs.Ytaflmpbeonoilaa
namespace Go.Sh
open Go Go.Sort Go.RowKit Go.Shelf Go.Lib Go.Proofs
section
variable {α : Type} [Inhabited α] {W w : World} {L : List HP} {P : Program} {enc : α → List Value} {k blk c : Nat} {e : TypeId} {d d' : Array α}
theorem flat_get! (hk : ∀ x, (enc x).length = k) (d : Array α) (t : Nat) (ht : t < d.size * k) : (d.toList.flatMap enc)[t]? = some ((flatK enc k d)[t]!) := by
  have k0 : 0 < k := by
    rcases Nat.eq_zero_or_pos k with h | h
    · subst h; simp at ht
    · exact h
  have hj : t / k < d.size := (Nat.div_lt_iff_lt_mul k0).2 ht
  rw [get_flatK enc k d t ht]
  have e1 : d.toList[t / k]? = some (d[t / k]!) := by
    rw [getElem!_pos d (t / k) hj]
    simp [hj]
  have hm : t % k < (enc d[t / k]!).length := by rw [hk]; exact Nat.mod_lt _ k0
  have := flat_get hk e1 (j := t % k) (Nat.mod_lt _ k0)
  have e2 : t / k * k + t % k = t := Nat.div_add_mod' t k
  rw [e2] at this
  rw [this, List.getElem?_eq_getElem hm, getElem!_pos (enc d[t / k]!) (t % k) hm]
theorem holds_own (hk : ∀ x, (enc x).length = k) (h : Hs W L w) (i : Nat) (hi : L[i]? = some (slP e k (some ⟨blk, 0, none⟩) d.size c (d.toList.flatMap enc))) : HoldsK enc k w blk 0 d ∧ blk < w.heap.size := by
  rcases Own.cases (h.own i hi) with ⟨h1, _⟩ | ⟨g, cur, h1, _, h3, h4, _, h6, h7⟩
  · cases h1
  have hg : blk = g := by
    have h1 := congrArg Addr.block (Option.some.inj h1)
    exact h1
  subst hg
  refine ⟨fun j hj => ?_, lt_of_blk h3⟩
  have hj : j < d.size * k := by simpa using hj
  have hle : d.size * k ≤ c * k := Nat.mul_le_mul_right k h4
  have hc : cur[j]? = some ((flatK enc k d)[j]!) := by
    rw [← flat_get! hk d j hj, ← h7, List.getElem?_take, if_pos hj, Array.getElem?_toList]
  refine ⟨?_, ?_⟩
  · show w.cell? ⟨blk, 0 + j, none⟩ = _
    unfold World.cell?
    simp only [h3, Nat.zero_add]
    exact hc
  · unfold World.frozen?
    simp [h3]
theorem Hs.sorted (hk : ∀ x, (enc x).length = k) (h : Hs W L w) (i : Nat) (hi : L[i]? = some (slP e k (some ⟨blk, 0, none⟩) d.size c (d.toList.flatMap enc))) (hs : d'.size = d.size) (m : Nat) (os : Array Obj) :
    Hs W (L.set i (slP e k (some ⟨blk, 0, none⟩) d.size c (d'.toList.flatMap enc))) (sortWorldK enc k w blk 0 m d' os) := by
  rcases Own.cases (h.own i hi) with ⟨h1, _⟩ | ⟨g, cur, h1, h2, h3, h4, h5, h6, h7⟩
  · cases h1
  have hg : blk = g := by
    have h1 := congrArg Addr.block (Option.some.inj h1)
    exact h1
  subst hg
  have hlt : blk < w.heap.size := lt_of_blk h3
  have heap : ∀ j, j < w.heap.size → (sortWorldK enc k w blk 0 m d' os).heap[j]? = if j = blk then some (.cells (putCells id 0 (flatK enc k d') cur) e (0, 0)) else w.heap[j]? := by
    intro j hj
    unfold sortWorldK putRowK putRow
    rw [heap_grow_old _ _ (by simpa [mapBlock] using hj)]
    unfold mapBlock
    simp only [heap_ahead, Array.getElem?_modify]
    by_cases hb : j = blk
    · subst hb
      simp only [if_true, h3, Option.map_some]
      rfl
    · rw [if_neg hb, if_neg (fun e => hb e.symm)]
  have hsz : w.heap.size ≤ (sortWorldK enc k w blk 0 m d' os).heap.size := by unfold sortWorldK putRowK; simp
  refine h.slice (B := W.heap.size) i hi ?_ ?_ fun _ hk => .inl hk
  · refine ⟨by rw [flat_length hk]; simp [hs], .inr ⟨blk, c, putCells id 0 (flatK enc k d') cur, rfl, h2, ?_, h4, h5, ?_, ?_⟩⟩
    · rw [heap blk hlt, if_pos rfl]
    · simp [putCells, h6]
    · have hle : d.size * k ≤ c * k := Nat.mul_le_mul_right k h4
      apply List.ext_getElem?
      intro t
      rw [List.getElem?_take]
      by_cases ht : t < d.size * k
      · rw [if_pos ht, flat_get! hk d' t (by rw [hs]; exact ht)]
        have hcur : t < cur.size := by omega
        simp only [putCells, Array.toList_mapIdx, List.getElem?_mapIdx, Array.getElem?_toList, Array.getElem?_eq_getElem hcur, Option.map_some]
        rw [if_pos ⟨Nat.zero_le _, by simp [hs]; exact ht⟩]
        rfl
      · rw [if_neg ht, List.getElem?_eq_none (by rw [flat_length hk]; simp [hs]; omega)]
  · refine ⟨rfl, rfl, rfl, hsz, fun j hj hn => ?_⟩
    rw [heap j hj, if_neg fun e => hn ⟨_, rfl, by rw [e]⟩]
end
end Go.Sh
namespace Go.Sh
open Go Go.Sort Go.RowKit Go.Shelf Go.Lib Go.Proofs
section
variable {α : Type} [Inhabited α] {W w : World} {L : List HP} {P : Program} {enc : α → Value} {blk c : Nat} {e : TypeId} {d d' : Array α}
def enc1 (enc : α → Value) : α → List Value := fun x => [enc x]
omit [Inhabited α] in
theorem enc1_len (enc : α → Value) (x : α) : (enc1 enc x).length = 1 := rfl
theorem flat1_get (d : Array α) (t : Nat) (h : t < d.size) : (flatK (enc1 enc) 1 d)[t]! = enc d[t]! := by
  rw [get_flatK (enc1 enc) 1 d t (by omega)]
  simp [enc1, Nat.mod_one]
theorem sortWorld_one (enc : α → Value) (w : World) (blk m : Nat) (d : Array α) (os : Array Obj) : sortWorld enc w blk 0 m d os = sortWorldK (enc1 enc) 1 w blk 0 m d os := by
  unfold sortWorld sortWorldK putRowK putRow
  congr 2
  funext cs
  unfold putCells
  congr 1
  funext k x
  simp only [size_flatK, Nat.mul_one, Nat.sub_zero, id]
  split
  · rename_i h
    rw [flat1_get d k (by omega)]
  · rfl
omit [Inhabited α] in
theorem flat1 (enc : α → Value) (l : List α) : l.flatMap (enc1 enc) = l.map enc := by
  induction l with
  | nil => rfl
  | cons a l ih => rw [List.flatMap_cons, ih]; rfl
theorem holds_own1 (h : Hs W L w) (i : Nat) (hi : L[i]? = some (slP e 1 (some ⟨blk, 0, none⟩) d.size c (d.toList.map enc))) : Holds enc w blk 0 d ∧ blk < w.heap.size := by
  rw [← flat1] at hi
  obtain ⟨h1, h2⟩ := holds_own (enc := enc1 enc) (k := 1) (enc1_len enc) h i hi
  refine ⟨fun j hj => ?_, h2⟩
  obtain ⟨g1, g2⟩ := h1 j (by simpa using hj)
  rw [flat1_get d j hj] at g1
  exact ⟨g1, g2⟩
theorem Hs.sorted1 (h : Hs W L w) (i : Nat) (hi : L[i]? = some (slP e 1 (some ⟨blk, 0, none⟩) d.size c (d.toList.map enc))) (hs : d'.size = d.size) (m : Nat) (os : Array Obj) :
    Hs W (L.set i (slP e 1 (some ⟨blk, 0, none⟩) d.size c (d'.toList.map enc))) (sortWorld enc w blk 0 m d' os) := by
  rw [← flat1] at hi ⊢
  rw [sortWorld_one]
  exact h.sorted (enc1_len enc) i hi hs m os
/-- what else lies there is as it was -/
theorem sortWorld_other {m j : Nat} {os : Array Obj} {o : Obj} (h : w.heap[j]? = some o) (hj : j ≠ blk) : (sortWorld enc w blk 0 m d os).heap[j]? = some o := by
  have hlt := lt_of_blk h
  unfold sortWorld putRow
  rw [heap_grow_old _ _ (by simpa [mapBlock] using hlt)]
  unfold mapBlock
  simp only [heap_ahead, Array.getElem?_modify]
  rw [if_neg (fun e => hj e.symm)]
  exact h
end
end Go.Sh
