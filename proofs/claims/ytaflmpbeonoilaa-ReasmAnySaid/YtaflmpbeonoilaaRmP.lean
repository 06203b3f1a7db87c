/-
  A message is taken; the rows whose turn it is.
-/
import Derived.Test.YtaflmpbeonoilaaRmH
namespace Go.Proofs.Ytaflmpbeonoilaa
open Go Go.Sh
section
variable {W w : World} {L M : List HP} {tb mc mf : Nat} {hd : Int} {d : TD} {s : St} {es : List Ec} {F : List Int}
theorem c13_none (hi : Is d s) (hM : s.M = []) (h : Hs W (tabL tb hd d s ++ L) w) : Calls Try.prog 13 #[.pointer (some ⟨tb, 0, none⟩)] w (rt fun v w' => v = .tuple #[R38.z.v, .bool false] ∧ Hs W (tabL tb hd d s ++ L) w') := by
  have hms : d.ms = [] := by
    have := hi.M
    rw [hM] at this
    exact List.map_eq_nil_iff.1 this
  refine F13_ok ?_
  unfold F13
  simp only [rdP_mk]
  refine h.alc fun b2 w3 h3 => ?_
  refine clr (c24t h3.drop) ⟨_, rfl, ?_⟩
  simp only [Bool.not_true, br_false, nn_some, add_mk]
  refine h3.ldC 1 rfl rfl ?_
  have e0 : ((d.ms.length : Int) == 0) = true := by rw [hms]; rfl
  rw [e0, br_true]
  refine h3.stcL 0 rfl rfl fun w11 h11 => ?_
  refine ldR38_of (s := R38.z) (h11.atL 0 rfl) ⟨by first | rfl | trivial, h11.drop⟩
theorem c13 {m : Ms} {r : List Ms} (hi : Is d s) (hM : s.M = m :: r) (hb : 0 ≤ hd ∧ hd ≤ 4294967296 ∧ m.d.length ≤ 4294967296) (h : Hs W (tabL tb hd d s ++ L) w) : Calls Try.prog 13 #[.pointer (some ⟨tb, 0, none⟩)] w (rt fun v w' => ∃ a c, v = .tuple #[(m.rc a c).v, .bool true] ∧ ∃ d', Is d' { s with M := r } ∧ Hs W (slP 5 1 a m.d.length c (inV .u8 m.d) :: (tabL tb (hd - m.d.length) d' { s with M := r } ++ L)) w') := by
  obtain ⟨e0, ms', hms, he0, hr0⟩ : ∃ e0 ms', d.ms = e0 :: ms' ∧ e0.m = m ∧ ms'.map Em.m = r := by
    have := hi.M
    rw [hM] at this
    cases hd : d.ms with
    | nil => rw [hd] at this; cases this
    | cons e0 ms' =>
      rw [hd] at this
      simp only [List.map_cons, List.cons.injEq] at this
      exact ⟨e0, ms', rfl, this.1, this.2⟩
  subst he0
  refine F13_ok ?_
  unfold F13
  simp only [rdP_mk]
  refine h.alc fun b2 w3 h3 => ?_
  refine clr (c24t h3.drop) ⟨_, rfl, ?_⟩
  simp only [Bool.not_true, br_false, nn_some, add_mk]
  refine h3.ldC 1 rfl rfl ?_
  have e1 : ((d.ms.length : Int) == 0) = false := by rw [hms, beq_eq_false_iff_ne]; simp; omega
  rw [e1, br_false]
  unfold F13_1
  simp only [rdP_mk, rdA_mk, nn_some, add_mk]
  refine h3.ldC 1 rfl rfl ?_
  have hrd := h3.rdO 6 rfl
  have hl := h3.lenO 6 rfl
  obtain ⟨ad, hra⟩ := hrd.some (by rw [msV_length, hms]; simp)
  have hrd' : Rd w3 (some ad) (msV d.ms) := by rw [← hra]; exact hrd
  have hlt : 0 < d.ms.length := by rw [hms]; simp
  have eix : ∀ {K : Addr → Prop}, K (ad.add (0 * 5)) → ixS 5 d.ra d.ms.length 0 K := by
    intro K hk
    rw [hra]
    exact ixS_to (p := 0) rfl hlt hk
  refine eix ?_
  refine ldR38_of (s := e0.rc) (hrd'.atI (f := fun e : Em => e.rc.l) (m := 5) (i := 0) (fun _ => rfl) (by rw [hms]; rfl)) ?_
  refine h3.alc fun b7 w8 h8 => ?_
  refine h8.stcL 0 rfl rfl fun w9 h9 => ?_
  refine h9.ldC 2 rfl rfl ?_
  refine slS_lo (j := 1) (show 1 ≤ d.ms.length by omega) ?_
  have h9 : Hs W (pt b7 (.cells e0.rc.c 39 (0, 0)) :: pt b2 (.cells R38.z.c 39 (0, 0)) :: (tabL tb hd d s ++ L)) w9 := h9
  have h10 := h9.cutO 7 rfl (j := 1) (by omega)
  refine h10.stc 2 rfl (by simp [tabC, R69.c]) fun w14 h14 => ?_
  refine h14.drw fun w15 h15 => ?_
  refine h15.ldI 2 rfl rfl (h15.ldC 0 rfl rfl ?_)
  refine h15.stc 2 rfl (by simp [tabC, R69.c]) fun w20 h20 => ?_
  refine ldR38_of (s := e0.rc) (h20.atL 0 rfl) ?_
  refine h20.stcL 1 rfl rfl fun w22 h22 _g => ?_
  simp only [rdB_mk]
  refine ldR38_of (s := e0.rc) (h22.atL 1 rfl) ?_
  refine ⟨e0.a, e0.c, by first | rfl | trivial, ?_⟩
  have hsub : IntKind.wrap .i64 (hd - (e0.m.d.length : Int)) = hd - (e0.m.d.length : Int) := wrap_i64 (by omega) (by omega)
  have el : d.ms.length - 1 = ms'.length := by rw [hms]; simp
  have ev : (msV d.ms).drop (1 * 5) = msV ms' := by rw [hms]; rfl
  obtain ⟨ra', hra'⟩ : ∃ ra', ra' = (if d.rc = 1 then d.ra else d.ra.map (·.add (1 * 5))) := ⟨_, rfl⟩
  rw [el, ev, ← hra'] at h22
  have h23 := h22.drop.drop
  refine ⟨{ d with ms := ms', ra := ra', rc := d.rc - 1 }, ⟨hi.L, hi.wh, hr0⟩, ?_⟩
  have h24 := h23.big_out 8 (l := d.ms) (F := datP) (k := 0) (x := e0) rfl (by rw [hms]; rfl)
  have ee : d.ms.eraseIdx 0 = ms' := by rw [hms]; rfl
  rw [ee] at h24
  show Hs W (slP 5 1 e0.a e0.m.d.length e0.c (inV .u8 e0.m.d) :: _) w22
  rw [← hsub]
  exact h24
end
end Go.Proofs.Ytaflmpbeonoilaa
namespace Go.Proofs.Ytaflmpbeonoilaa
open Go Go.Sh
def szL (L : List Ch) : Nat := (L.map fun x => x.b.length).sum
def szM (M : List Ms) : Nat := (M.map fun m => m.d.length).sum
def tot (s : St) : Nat := szL s.L + szM s.M
abbrev keys (L : List Ch) : List Int := L.map Ch.tsn
structure OkA (s : St) : Prop where
  key : (keys s.L).Nodup
  rng : ∀ x ∈ s.L, (0 ≤ x.tsn ∧ x.tsn < 4294967296) ∧ (0 ≤ x.r.f3 ∧ x.r.f3 < s.nx.length) ∧ x.b ≠ []
  fix : s.F.Nodup
  fkey : ∀ t ∈ s.F, t ∉ keys s.L
  cnt : s.L.length + s.F.length ≤ 32768
  rows : ∀ row ∈ s.wh, row ≠ [] ∧ row.Nodup ∧ ∀ t ∈ row, t ∈ keys s.L
  dis : s.wh.Pairwise fun a b => ∀ t ∈ a, t ∉ b
  mne : ∀ m ∈ s.M, m.d ≠ []
  tot : tot s ≤ 1073741824
theorem szL_del {L : List Ch} {x : Ch} (hn : (keys L).Nodup) (hx : x ∈ L) : szL L = x.b.length + szL (L.filter fun y => y.tsn != x.tsn) := by
  unfold szL
  induction L with
  | nil => cases hx
  | cons y L ih =>
    rw [keys, List.map_cons, List.nodup_cons] at hn
    rw [List.map_cons, List.sum_cons, List.filter_cons]
    rcases List.mem_cons.1 hx with rfl | hx
    · have : (L.filter fun y => y.tsn != x.tsn) = L := by
        rw [List.filter_eq_self]
        intro z hz
        rw [bne_iff_ne]
        intro e
        exact hn.1 (by rw [← e]; exact List.mem_map.2 ⟨z, hz, rfl⟩)
      simp [this]
    · have hne : (y.tsn != x.tsn) = true := by
        rw [bne_iff_ne]
        intro e
        exact hn.1 (by rw [e]; exact List.mem_map.2 ⟨x, hx, rfl⟩)
      rw [if_pos hne, List.map_cons, List.sum_cons, ih hn.2 hx]
      omega
theorem keys_filter_nodup {L : List Ch} (hn : (keys L).Nodup) (p : Ch → Bool) : (keys (L.filter p)).Nodup := hn.sublist (List.filter_sublist.map _)
theorem look_filter {L : List Ch} {t : Int} {p : Ch → Bool} (h : ∀ x, x.tsn = t → p x = true) : look (L.filter p) t = look L t := by
  unfold look
  rw [List.find?_filter]
  congr 1
  funext x
  by_cases hx : x.tsn = t
  · simp [hx, h x hx]
  · simp [hx]
theorem body_filter {L : List Ch} {t : Int} {p : Ch → Bool} (h : ∀ x, x.tsn = t → p x = true) : bodyOf (L.filter p) t = bodyOf L t := by
  unfold bodyOf; rw [look_filter h]
theorem szL_rows : ∀ {row : List Int} {L : List Ch}, (keys L).Nodup → row.Nodup → (∀ t ∈ row, t ∈ keys L) → szL L = (row.flatMap (bodyOf L)).length + szL (L.filter fun x => !row.contains x.tsn)
  | [], L, _, _, _ => by
    have : (L.filter fun x => !([] : List Int).contains x.tsn) = L := by rw [List.filter_eq_self]; simp
    rw [this]; simp
  | t :: r, L, hn, hr, hm => by
    rw [List.nodup_cons] at hr
    obtain ⟨x, hx, hxt⟩ := List.mem_map.1 (hm t (by simp))
    have hlk : look L t = some x := by rw [← hxt]; exact look_mem hn hx
    have h1 := szL_del hn hx
    rw [hxt] at h1
    have hbody : ∀ t' ∈ r, bodyOf (L.filter fun y => y.tsn != t) t' = bodyOf L t' := fun t' ht' => body_filter fun y hy => by
      rw [bne_iff_ne, hy]; intro e; exact hr.1 (e ▸ ht')
    have h2 := szL_rows (row := r) (L := L.filter fun y => y.tsn != t) (keys_filter_nodup hn _) hr.2 fun t' ht' => by
      obtain ⟨y, hy, hyt⟩ := List.mem_map.1 (hm t' (by simp [ht']))
      exact List.mem_map.2 ⟨y, List.mem_filter.2 ⟨hy, by rw [bne_iff_ne, hyt]; intro e; exact hr.1 (e ▸ ht')⟩, hyt⟩
    have h3 : r.flatMap (bodyOf (L.filter fun y => y.tsn != t)) = r.flatMap (bodyOf L) := by
      rw [List.flatMap_def, List.flatMap_def, List.map_congr_left hbody]
    have h4 : ((L.filter fun y => y.tsn != t).filter fun x => !r.contains x.tsn) = L.filter fun x => !(t :: r).contains x.tsn := by
      rw [List.filter_filter]
      congr 1
      funext y
      simp only [List.contains_eq_mem, List.mem_cons]
      by_cases e1 : y.tsn = t <;> by_cases e2 : y.tsn ∈ r <;> simp [e1, e2]
    rw [h3, h4] at h2
    have hb : bodyOf L t = x.b := by unfold bodyOf; rw [hlk]
    rw [List.flatMap_cons, List.length_append, hb, h1, h2]
    omega
section
variable {s : St} {row : List Int}
theorem tot_tell (h : OkA s) (_ : row ≠ []) (hn : row.Nodup) (hm : ∀ t ∈ row, t ∈ keys s.L) : tot (tellS s row) = tot s := by
  have := szL_rows h.key hn hm
  unfold tot tellS
  simp only
  have e : szM (s.M ++ [msgOf ((look s.L (row.headD 0)).getD ⟨R35.z, []⟩) (row.flatMap (bodyOf s.L))]) = szM s.M + (row.flatMap (bodyOf s.L)).length := by
    unfold szM
    rw [List.map_append, List.sum_append]
    simp [msgOf]
  rw [e]
  omega
theorem tell_ok (h : OkA s) (hne : row ≠ []) (hn : row.Nodup) (hm : ∀ t ∈ row, t ∈ keys s.L) (hd : ∀ r ∈ s.wh, ∀ t ∈ row, t ∉ r) : OkA (tellS s row) := by
  have hsub : ∀ {t}, t ∈ keys (tellS s row).L ↔ t ∈ keys s.L ∧ t ∉ row := by
    intro t
    show t ∈ (s.L.filter _).map _ ↔ _
    simp only [List.mem_map, List.mem_filter, List.contains_eq_mem, Bool.not_eq_true', decide_eq_false_iff_not]
    constructor
    · rintro ⟨x, ⟨h1, h2⟩, rfl⟩; exact ⟨⟨x, h1, rfl⟩, h2⟩
    · rintro ⟨⟨x, h1, rfl⟩, h2⟩; exact ⟨x, ⟨h1, h2⟩, rfl⟩
  have hfr : (s.F ++ row).Nodup := List.nodup_append.2 ⟨h.fix, hn, fun a ha b hb e => h.fkey a ha (e ▸ hm b hb)⟩
  have hkn : (keys (tellS s row).L).Nodup := keys_filter_nodup h.key _
  refine ⟨hkn, ?_, hfr, ?_, ?_, ?_, h.dis, ?_, ?_⟩
  · intro x hx
    exact h.rng x (List.mem_filter.1 hx).1
  · intro t ht hk
    obtain ⟨h1, h2⟩ := hsub.1 hk
    rcases List.mem_append.1 ht with ht | ht
    · exact h.fkey t ht h1
    · exact h2 ht
  · have hnd : (keys (tellS s row).L ++ (s.F ++ row)).Nodup := List.nodup_append.2 ⟨hkn, hfr, fun a ha b hb e => by
      subst e
      obtain ⟨h1, h2⟩ := hsub.1 ha
      rcases List.mem_append.1 hb with hb | hb
      · exact h.fkey a hb h1
      · exact h2 hb⟩
    have := nodup_sub_len _ (keys s.L ++ s.F) hnd fun t ht => by
      rcases List.mem_append.1 ht with ht | ht
      · exact List.mem_append.2 (.inl (hsub.1 ht).1)
      · rcases List.mem_append.1 ht with ht | ht
        · exact List.mem_append.2 (.inr ht)
        · exact List.mem_append.2 (.inl (hm t ht))
    simp only [List.length_append, keys, List.length_map] at this
    have hc := h.cnt
    show (tellS s row).L.length + (s.F ++ row).length ≤ 32768
    rw [List.length_append]
    omega
  · intro r hr
    obtain ⟨h1, h2, h3⟩ := h.rows r hr
    exact ⟨h1, h2, fun t ht => hsub.2 ⟨h3 t ht, fun hc => hd r hr t hc ht⟩⟩
  · intro m hmm
    rcases List.mem_append.1 hmm with hmm | hmm
    · exact h.mne m hmm
    · rw [List.mem_singleton] at hmm
      subst hmm
      show row.flatMap (bodyOf s.L) ≠ []
      obtain ⟨f, r, rfl⟩ : ∃ f r, row = f :: r := by
        cases row with
        | nil => exact absurd rfl hne
        | cons f r => exact ⟨f, r, rfl⟩
      obtain ⟨x, hx, hxt⟩ := List.mem_map.1 (hm f (by simp))
      rw [List.flatMap_cons]
      have hb : bodyOf s.L f = x.b := by unfold bodyOf; rw [← hxt, look_mem h.key hx]
      rw [hb]
      intro e
      exact (h.rng x hx).2.2 (List.append_eq_nil_iff.1 e).1
  · rw [tot_tell h hne hn hm]; exact h.tot
/-! turns -/
def isTurn (s : St) (st : Int) (row : List Int) : Bool :=
  match look s.L (row.headD 0) with
  | some x => x.r.f3 == st && x.r.f4 == s.nx.getD st.toNat 0
  | none => false
def outS (s : St) (st : Int) (i : Nat) : St := { s with wh := s.wh.eraseIdx i, nx := s.nx.set st.toNat (IntKind.wrap .u16 (s.nx.getD st.toNat 0 + 1)) }
def turnS : Nat → St → Int → St
  | 0, s, _ => s
  | n + 1, s, st =>
    match s.wh.findIdx? (isTurn s st) with
    | none => s
    | some i => turnS n (tellS (outS s st i) (s.wh.getD i [])) st
theorem out_ok (h : OkA s) (st : Int) (i : Nat) : OkA (outS s st i) := by
  refine ⟨h.key, fun x hx => ?_, h.fix, h.fkey, h.cnt, fun r hr => h.rows r ((List.eraseIdx_sublist _ _).subset hr), h.dis.sublist (List.eraseIdx_sublist _ _), h.mne, h.tot⟩
  have := h.rng x hx
  simpa [outS] using this
theorem out_dis (h : OkA s) {st : Int} {i : Nat} {row : List Int} (hi : s.wh[i]? = some row) : ∀ r ∈ (outS s st i).wh, ∀ t ∈ row, t ∉ r := by
  intro r hr t ht htr
  show False
  have hr : r ∈ s.wh.eraseIdx i := hr
  rw [List.eraseIdx_eq_take_drop_succ] at hr
  have hsp := split_of hi
  have hd := h.dis
  rw [hsp, List.pairwise_append, List.pairwise_cons] at hd
  rcases List.mem_append.1 hr with hr | hr
  · exact hd.2.2 r hr row (by simp) t htr ht
  · exact hd.2.1.1 r hr t ht htr
theorem turn_step (h : OkA s) {st : Int} {i : Nat} {row : List Int} (hi : s.wh[i]? = some row) : OkA (tellS (outS s st i) row) ∧ tot (tellS (outS s st i) row) = tot s := by
  obtain ⟨h1, h2, h3⟩ := h.rows row (List.mem_of_getElem? hi)
  have ho := out_ok h st i
  exact ⟨tell_ok ho h1 h2 h3 (out_dis h hi), tot_tell ho h1 h2 h3⟩
theorem turn_ok : ∀ (n : Nat) {s : St} {st : Int}, OkA s → OkA (turnS n s st) ∧ tot (turnS n s st) = tot s
  | 0, _, _, h => ⟨h, rfl⟩
  | n + 1, s, st, h => by
    unfold turnS
    cases hf : s.wh.findIdx? (isTurn s st) with
    | none => exact ⟨h, rfl⟩
    | some i =>
      obtain ⟨hlt, _⟩ := List.findIdx?_eq_some_iff_getElem.1 hf
      have hi : s.wh[i]? = some (s.wh.getD i []) := by
        rw [List.getD_eq_getElem?_getD, List.getElem?_eq_getElem hlt]; rfl
      obtain ⟨h1, h2⟩ := turn_step (st := st) h hi
      obtain ⟨h3, h4⟩ := turn_ok n (st := st) h1
      exact ⟨h3, h4.trans h2⟩
theorem rows_few (h : OkA s) : s.wh.length ≤ 32768 := by
  have hn : (s.wh.map fun r => r.headD 0).Nodup := by
    unfold List.Nodup
    rw [List.pairwise_map]
    refine List.Pairwise.imp_of_mem ?_ h.dis
    intro a b ha hb hab e
    obtain ⟨x, ra, rfl⟩ : ∃ x r, a = x :: r := by
      cases a with
      | nil => exact absurd rfl (h.rows _ ha).1
      | cons x r => exact ⟨x, r, rfl⟩
    obtain ⟨y, rb, rfl⟩ : ∃ x r, b = x :: r := by
      cases b with
      | nil => exact absurd rfl (h.rows _ hb).1
      | cons x r => exact ⟨x, r, rfl⟩
    have e : x = y := e
    exact hab x (by simp) (by simp [e])
  have := nodup_sub_len _ (keys s.L) hn fun t ht => by
    obtain ⟨r, hr, rfl⟩ := List.mem_map.1 ht
    obtain ⟨h1, _, h3⟩ := h.rows r hr
    cases r with
    | nil => exact absurd rfl h1
    | cons x r => exact h3 x (by simp)
  have hc := h.cnt
  simp only [List.length_map, keys] at this
  omega
theorem sum_mem {l : List Nat} {n : Nat} (h : n ∈ l) : n ≤ l.sum := by
  induction l with
  | nil => cases h
  | cons a l ih =>
    rw [List.sum_cons]
    rcases List.mem_cons.1 h with rfl | h
    · omega
    · have := ih h; omega
theorem sum_len {l : List Nat} (h : ∀ n ∈ l, 1 ≤ n) : l.length ≤ l.sum := by
  induction l with
  | nil => simp
  | cons a l ih =>
    rw [List.sum_cons, List.length_cons]
    have := ih fun n hn => h n (by simp [hn])
    have := h a (by simp)
    omega
theorem body_few (h : OkA s) {x : Ch} (hx : x ∈ s.L) : x.b.length ≤ 1073741824 := by
  have h1 : x.b.length ≤ szL s.L := sum_mem (List.mem_map.2 ⟨x, hx, rfl⟩)
  have := h.tot
  unfold tot at this
  omega
theorem msgs_few (h : OkA s) : s.M.length ≤ 1073741824 := by
  have h1 : (s.M.map fun m => m.d.length).length ≤ szM s.M := sum_len fun n hn => by
    obtain ⟨m, hm, rfl⟩ := List.mem_map.1 hn
    have := h.mne m hm
    cases hd : m.d with
    | nil => exact absurd hd this
    | cons a r => simp
  rw [List.length_map] at h1
  have := h.tot
  unfold tot at this
  omega
theorem msg_few (h : OkA s) {m : Ms} (hm : m ∈ s.M) : m.d.length ≤ 1073741824 := by
  have h1 : m.d.length ≤ szM s.M := sum_mem (List.mem_map.2 ⟨m, hm, rfl⟩)
  have := h.tot
  unfold tot at this
  omega
theorem row_few (h : OkA s) {row : List Int} (hn : row.Nodup) (hm : ∀ t ∈ row, t ∈ keys s.L) : (row.flatMap (bodyOf s.L)).length ≤ 1073741824 ∧ row.length ≤ 32768 := by
  have h1 := szL_rows h.key hn hm
  have h2 := h.tot
  have h3 := nodup_sub_len _ _ hn hm
  have hc := h.cnt
  simp only [List.length_map, keys] at h3
  unfold tot at h2
  constructor <;> omega
end
end Go.Proofs.Ytaflmpbeonoilaa
