/-
  The chunks that are handed out hold bytes of their own (OutboxOwn).
-/
import Derived.Test.YtmliokbonkndaaaObO
namespace Go.Proofs.Ytmliokbonkndaaa
open Go Go.Sh
def strOf (bs : List Int) : ByteArray := ⟨(bs.map fun x => UInt8.ofNat x.toNat).toArray⟩
theorem run_str {w : World} {a : Option Addr} {bs : List Int} {c : Nat} (hr : Rd w a (byV bs)) (hb : ∀ x ∈ bs, 0 ≤ x ∧ x < 256) : Sem.run Try.prog (convert 23 9 (.slice a bs.length c)) w = .ok (.string (strOf bs)) w := by
  cases a with
  | none =>
    have : bs = [] := by
      cases bs with
      | nil => rfl
      | cons x r => obtain ⟨ad, e⟩ := hr.some (by simp [byV]); cases e
    subst this
    show Sem.run Try.prog (convert 23 9 (.slice none 0 c)) w = _
    rw [run_convert_bytes_string w 23 9 5 none 0 c u23 u5 u9]
    rfl
  | some ad =>
    have h := run_convert_bytes_back (P := Try.prog) w 23 9 5 ad c (bs.map fun x => UInt8.ofNat x.toNat) u23 u5 u9 (fun j hj => by
      have hj' : j < bs.length := by simpa using hj
      have h1 := hr.at (j := j) (u := .int .u8 bs[j]) (by simp [byV, hj'])
      rw [h1]
      have hx := hb bs[j] (by simp)
      simp only [List.getElem_map]
      congr 2
      have : (UInt8.ofNat bs[j].toNat).toNat = bs[j].toNat := by
        simp [UInt8.toNat_ofNat']
        omega
      rw [this]; omega)
    rw [List.length_map] at h
    exact h
section
variable {W w : World} {L M : List HP} {bb : Nat} {n cum : Int} {a : Option Addr} {c : Nat} {es : List (Nat × En)} {b : Nat} {e : En}
/-- the bytes that were handed in are turned -/
theorem c4_2 {xa : Option Addr} {xn xc : Nat} {K0 : Value → Value → World → Prop} {l : Nat} {sc : Nat} {p : Option Addr} {s : Addr} : ∀ (i j : Nat) (w : World) (k : Nat) (Y : List Int), j + i = l → Y.length = l → Hs W (slP 5 1 (some s) l sc (byV Y) :: L) w → i < k → l ≤ 281474976710656 →
    (∀ w' Y, Hs W (slP 5 1 (some s) l sc (byV Y) :: L) w' → K0 (.slice xa xn xc) (.pointer p) w') →
    F4_2 K0 k (.slice xa xn xc) (.pointer p) (.slice (some s) l sc) (.int .i64 (l : Int)) (.int .i64 (j : Int)) w := by
  intro i
  induction i with
  | zero =>
    intro j w k Y hj hY h hk hl hK
    obtain ⟨k, rfl⟩ : ∃ j, k = j + 1 := ⟨k - 1, by omega⟩
    show F4_2B _ _ _ _ _ _ _ _
    unfold F4_2B
    simp only [rdI_mk, rdC_mk, rdP_mk, br_dec]
    exact ⟨fun h => by exfalso; omega, fun _ => hK w Y h⟩
  | succ i ih =>
    intro j w k Y hj hY h hk hl hK
    obtain ⟨k, rfl⟩ : ∃ j, k = j + 1 := ⟨k - 1, by omega⟩
    show F4_2B _ _ _ _ _ _ _ _
    unfold F4_2B
    simp only [rdI_mk, rdC_mk, rdP_mk, br_dec]
    refine ⟨fun _ => ?_, fun h => by exfalso; omega⟩
    obtain ⟨y, hy⟩ : ∃ y, Y[j]? = some y := ⟨Y[j]'(by omega), by simp⟩
    have e1 : (s.add (j * 1)) = s.add j := by rw [Nat.mul_one]
    refine ixS_to (p := j) rfl (by omega) ?_
    rw [e1]
    refine ldI_c ((h.rd 0 rfl).at (byV_at hy)) ?_
    refine ixS_to (p := j) rfl (by omega) ?_
    rw [e1]
    refine h.put 0 rfl (by rw [byV_length]; omega) fun w1 h1 => ?_
    have e2 : (byV Y).set j (.int .u8 (bitI .xor .u8 y 255)) = byV (Y.set j (bitI .xor .u8 y 255)) := by
      unfold byV
      rw [List.map_set]
    have h1 : Hs W (slP 5 1 (some s) l sc (byV (Y.set j (bitI .xor .u8 y 255))) :: L) w1 := by rw [← e2]; exact h1
    have e1 : IntKind.wrap .i64 ((j : Int) + 1) = ((j + 1 : Nat) : Int) := by rw [wrap_i64 (by omega) (by omega)]; omega
    rw [e1]
    exact ih (j + 1) w1 k _ (by omega) (by rw [List.length_set]; exact hY) h1 (by omega) hl hK
/-- the bytes that were handed out are blotted -/
theorem c4_1 {xa : Option Addr} {xn xc : Nat} {K2 : Value → Value → World → Prop} {l : Nat} {oc : Nat} {p : Option Addr} {oa : Addr} {dc : Nat} {d : Addr} {cs : List Value} (hcs : cs[11]? = some (.slice (some d) l dc)) : ∀ (i j : Nat) (w : World) (k : Nat) (Y : List Int), j + i = l → Y.length = l → Hs W (slP 58 14 (some oa) 1 oc cs :: slP 5 1 (some d) l dc (byV Y) :: L) w → i < k → l ≤ 281474976710656 →
    (∀ w' Y, Hs W (slP 58 14 (some oa) 1 oc cs :: slP 5 1 (some d) l dc (byV Y) :: L) w' → K2 (.slice xa xn xc) (.pointer p) w') →
    F4_1 K2 k (.slice xa xn xc) (.pointer p) (.slice (some oa) 1 oc) (.int .i64 (l : Int)) (.int .i64 (j : Int)) w := by
  intro i
  induction i with
  | zero =>
    intro j w k Y hj hY h hk hl hK
    obtain ⟨k, rfl⟩ : ∃ j, k = j + 1 := ⟨k - 1, by omega⟩
    show F4_1B _ _ _ _ _ _ _ _
    unfold F4_1B
    simp only [rdI_mk, rdC_mk, rdP_mk, br_dec]
    exact ⟨fun h => by exfalso; omega, fun _ => hK w Y h⟩
  | succ i ih =>
    intro j w k Y hj hY h hk hl hK
    obtain ⟨k, rfl⟩ : ∃ j, k = j + 1 := ⟨k - 1, by omega⟩
    show F4_1B _ _ _ _ _ _ _ _
    unfold F4_1B
    simp only [rdI_mk, rdC_mk, rdP_mk, br_dec]
    refine ⟨fun _ => ?_, fun h => by exfalso; omega⟩
    refine ixS_to (p := 0) rfl (by omega) ?_
    simp only [add_add]
    refine ldC_c ((h.rd 0 rfl).at hcs) ?_
    have e1 : (d.add (j * 1)) = d.add j := by rw [Nat.mul_one]
    refine ixS_to (p := j) rfl (by omega) ?_
    rw [e1]
    refine h.put 1 rfl (by rw [byV_length]; omega) fun w1 h1 => ?_
    have e2 : (byV Y).set j (.int .u8 0) = byV (Y.set j 0) := by
      unfold byV
      rw [List.map_set]
    have h1 : Hs W (slP 58 14 (some oa) 1 oc cs :: slP 5 1 (some d) l dc (byV (Y.set j 0)) :: L) w1 := by rw [← e2]; exact h1
    have e1 : IntKind.wrap .i64 ((j : Int) + 1) = ((j + 1 : Nat) : Int) := by rw [wrap_i64 (by omega) (by omega)]; omega
    rw [e1]
    exact ih (j + 1) w1 k _ (by omega) (by rw [List.length_set]; exact hY) h1 (by omega) hl hK
theorem c4_3 {X : List Int} {xa : Option Addr} {xc : Nat} {ed : En × Option Addr × Nat} {oa : Option Addr} {oc : Nat} {V : World} {Kr : Value → World → Prop} (hX : Rd W xa (byV X)) (hx : ∀ x ∈ X, 0 ≤ x ∧ x < 256) (hb : RB V bb 1 cum es) (hV : Same W V) (he : dats es = [e]) (hed : e.data = X) (hon : onB 0 e = true) (h1 : ed.1 = e) (hl : 0 < X.length ∧ X.length ≤ 65536)
    (h : Hs V (outL oa oc [ed]) w) (hK : ∀ w', Same W w' → Kr (.bool true) w') :
    F4_3 Kr (.slice xa X.length xc) (.pointer (some ⟨bb, 0, none⟩)) (.slice oa 1 oc) w := by
  unfold F4_3
  simp only [rdC_mk, rdP_mk]
  have hr := h.rd 0 rfl
  obtain ⟨od, rfl⟩ := hr.some (show 0 < 14 by decide)
  refine ixS_to (p := 0) rfl (by omega) ?_
  simp only [add_add]
  refine ldC_c (hr.at (j := 11) (u := .slice ed.2.1 ed.1.data.length ed.2.2) rfl) ?_
  have hd : ed.1.data = X := by rw [h1]; exact hed
  have h2 : Hs V [slP 58 14 (some od) 1 oc (recV ed), slP 5 1 ed.2.1 X.length ed.2.2 (byV X)] w := by
    rw [← hd]
    have e0 : [ed].flatMap recV = recV ed := by simp
    have h0 : Hs V [slP 58 14 (some od) 1 oc ([ed].flatMap recV), datP ed] w := h
    rw [e0] at h0
    exact h0
  rw [hd]
  obtain ⟨d, hda⟩ := (h2.rd 1 rfl).some (by rw [byV_length]; exact hl.1)
  rw [hda] at h2
  refine ⟨X.length + 1, c4_1 (l := X.length) (cs := recV ed) (dc := ed.2.2) (d := d) (by rw [← hda, ← hd]; rfl) X.length 0 w _ X (by omega) rfl h2 (by omega) (by omega) fun w1 Y h3 _g => ?_⟩
  simp only [rdC_mk, rdP_mk]
  have hb1 := hb.same h3.old
  have hsz : es.length = 1 := by
    have := congrArg List.length he
    simpa [dats] using this
  have hdd : ∀ e' ∈ dats es, e'.data.length ≤ 70000 := by
    intro e' h'
    rw [he] at h'
    cases List.mem_singleton.1 h'
    rw [hed]; omega
  refine cl (c16 hb1 (by decide) (by omega) hdd 0) ?_
  rintro _ w2 ⟨s, b, rfl, ho, s2⟩
  rw [he, show [e].find? (onB 0) = some e from by simp [List.find?, hon]] at ho
  obtain ⟨rfl, a2, c2, rfl, ho⟩ := ho
  refine exR57_of (e.r a2 c2) ⟨true, rfl, ?_⟩
  have h4 := (Hs.start w1).own_new s2 ho
  refine h4.alc fun b15 w3 h5 => h5.stcL 0 rfl rfl fun w4 h6 => ?_
  rw [br_true]
  simp only [add_mk]
  refine h6.ldC 0 rfl rfl ?_
  have hs : Same W w4 := ((hV.trans h3.old fun _ _ x => x).trans h6.old fun _ _ x => x)
  have hr2 := h6.rd 1 rfl
  rw [hed] at hr2
  have k1 := run_str (c := c2) hr2 hx
  rw [← hed] at k1
  refine ⟨_, _, k1, _, _, run_str (hX.fr hs fun _ _ x => x) hx, ?_⟩
  rw [hed, beq_self_eq_true, br_true]
  refine cl (c14 w4) ?_
  rintro _ w5 ⟨rfl, s5⟩
  exact ⟨_, rfl, hK _ (hs.trans s5 fun _ _ x => x)⟩
theorem run_b0' (w : World) : Sem.run Try.prog (Instr.buildSlice 23 0 #[]) w = .ok (.slice (some ⟨w.heap.size, 0, none⟩) 0 0) (w.alloc (.cells #[] 5)) := run_b0 w
theorem newC_in (n : Int) : 0 ≤ newC n ∧ newC n < 4294967296 := by unfold newC; omega
theorem c4 {X : List Int} {xa : Option Addr} {xc : Nat} (hX : Rd W xa (byV X)) (hx : ∀ x ∈ X, 0 ≤ x ∧ x < 256) (hl : X.length ≤ 140737488355328) (hn0 : xa = none → xc = 0) (n : Int) :
    Calls Try.prog 4 #[.int .u32 n, .slice xa X.length xc] W (rt fun v w' => v = .bool true ∧ Same W w') := by
  refine F4_ok ?_
  unfold F4
  simp only [rdI_mk, rdC_mk]
  refine cl (c9 (Hs.start W) n 1) ?_
  rintro _ w1 (⟨h0, _⟩ | ⟨_, bb, rfl, h1⟩)
  · exact absurd (by decide) h0
  refine ⟨_, _, rfl, ?_⟩
  rw [show ((0 : Int) != 0) = false from rfl, br_false]
  simp only [Option.isNone_some, br_false]
  unfold F4_4
  simp only [rdP_mk, rdC_mk]
  refine ⟨_, _, _, _, run_b0 w1, ?_⟩
  have h2 := h1.void 5 1
  generalize w1.alloc (.cells #[] 5) = w2 at h2 ⊢
  refine h2.appendA E23 0 rfl (m := X.length) (by rw [byV_length]; omega) (h2.rd_old hX) hn0 (byV_one X) (by omega) (by omega) fun sa sc w3 h3 _ => ?_
  rw [List.nil_append, Nat.zero_add] at *
  have h3 : Hs W (slP 5 1 sa X.length sc (byV X) :: (boxL bb 1 (newC n) none 0 [] ++ [])) w3 := h3
  have h3 : Hs W (boxL bb 1 (newC n) none 0 [] ++ [slP 5 1 sa X.length sc (byV X)]) w3 := (Hs.flip (X := [_])).1 h3
  have hpt : (Value.agg #[.int .u16 0, .int .u16 0, .int .u32 0, .bool false, .slice sa X.length sc, .bool false, .bool false]) = (({ En.z with data := X } : En).pt sa sc).v := rfl
  rw [hpt]
  refine cl (c10 (e := { En.z with data := X }) h3 (by decide) (by decide) (by simp [dats]) (h3.rd 2 rfl) 0 0) ?_
  have hp : putE 1 0 0 { En.z with data := X } 0 = if X.length = 0 ∨ X.length > 65536 then 1 else 0 := by
    unfold putE
    rw [if_neg (by decide)]
    split
    · rfl
    · rfl
  rintro _ w4 (⟨h0, rfl, h4⟩ | ⟨h0, rfl, b1, a1, k1, h4⟩)
  · have h0 : putE 1 0 0 { En.z with data := X } 0 ≠ 0 := h0
    refine ⟨_, _, rfl, ?_⟩
    rw [show ([] : List (Nat × En)).length = 0 from rfl]
    rw [show (putE 1 0 0 { En.z with data := X } 0 != 0) = true by simpa using h0, br_true]
    rw [hp] at h0
    have hend : Calls Try.prog 14 #[] w4 fun e11 w10 => ∃ b12, e11 = .returned (.bool b12) ∧ ∀ _g : Tm, (Value.bool b12 = .bool true ∧ Same W w10) := by
      refine cl (c14 w4) ?_
      rintro _ w5 ⟨rfl, s5⟩
      exact ⟨_, rfl, fun _ => ⟨rfl, h4.old.trans s5 fun _ _ x => x⟩⟩
    rw [br_iff]
    refine ⟨fun _ => (by simp only [rdB_mk] ; exact hend), fun hz => ?_⟩
    have hz : X.length ≠ 0 := by
      intro h; rw [h] at hz; exact absurd hz (by decide)
    rw [br_dec]
    refine ⟨fun _ => (by simp only [rdB_mk] ; exact hend), fun h6 => ?_⟩
    rw [if_neg (by omega)] at h0
    exact absurd rfl h0
  have h0 : putE 1 0 0 { En.z with data := X } 0 = 0 := h0
  rw [hp] at h0
  have hlen : 0 < X.length ∧ X.length ≤ 65536 := by
    split at h0
    · cases h0
    · omega
  refine ⟨_, _, rfl, ?_⟩
  rw [show ((0 : Int) != 0) = false from rfl, br_false]
  obtain ⟨e, he⟩ : ∃ e, e = En.put { En.z with data := X } (nxt (newC n) 0) 0 0 := ⟨_, rfl⟩
  have hed : e.data = X := by rw [he]; rfl
  have hon : onB 0 e = true := by rw [he]; rfl
  have h4 : Hs W (boxL bb 1 (newC n) a1 k1 [(b1, e)] ++ [slP 5 1 sa X.length sc (byV X)]) w4 := by rw [he]; exact h4
  have h5 : Hs W (slP 5 1 sa X.length sc (byV X) :: (boxL bb 1 (newC n) a1 k1 [(b1, e)] ++ [])) w4 := (Hs.flip (Y := [_])).1 h4
  obtain ⟨s, rfl⟩ := (h5.rd 0 rfl).some (by rw [byV_length]; omega)
  refine ⟨X.length + 1, c4_2 X.length 0 w4 _ X (by omega) rfl h5 (by omega) (by omega) fun w5 Y h6 _g => ?_⟩
  simp only [rdC_mk, rdP_mk]
  have hb : RB w5 bb 1 (newC n) [(b1, e)] := box_rb h6.drop
  have hdd : ∀ e' ∈ dats [(b1, e)], e'.data.length ≤ 70000 := by
    intro e' h'
    cases List.mem_singleton.1 h'
    show e.data.length ≤ 70000
    rw [hed]; omega
  refine cl (c15 hb (by decide) (show (1 : Nat) ≤ 1048576 by decide) hdd) ?_
  rintro _ w6 ⟨oa, oc, ds, rfl, hds, ho⟩
  refine ⟨_, _, _, rfl, ?_⟩
  refine ho.drw fun w7 h7 => ?_
  match ds, hds, h7 with
  | [], hds, _ => exact absurd (congrArg List.length hds) (by simp [dats])
  | _ :: _ :: _, hds, _ => exact absurd (congrArg List.length hds) (by simp [dats])
  | [ed], hds, h7 =>
  have h1 : ed.1 = e := (List.cons.inj hds).1
  have hd : ed.1.data = X := by rw [h1]; exact hed
  rw [show (dats [(b1, e)]).length = 1 from rfl]
  rw [show ((((1 : Nat) : Int)) != 1) = false from rfl, br_false]
  have hr := h7.rd 0 rfl
  obtain ⟨od, rfl⟩ := hr.some (show 0 < 14 by decide)
  refine ixS_to (p := 0) rfl (by omega) ?_
  simp only [add_add]
  refine ldC_c (hr.at (j := 11) (u := .slice ed.2.1 ed.1.data.length ed.2.2) rfl) ?_
  have hV : Same W w5 := h6.old
  have hs : Same W w7 := hV.trans h7.old fun _ _ x => x
  have hr2 : Rd w7 ed.2.1 (byV ed.1.data) := h7.rd 1 rfl
  rw [hd] at hr2 ⊢
  have kx := run_str (c := xc) (hX.fr hs fun _ _ x => x) hx
  have ko := run_str (c := ed.2.2) hr2 hx
  constructor
  · refine ⟨_, _, ko, _, _, kx, Pres.of_Same (Fr.refl _), ?_⟩
    rw [beq_self_eq_true, Bool.not_true, br_false]
    refine c4_3 hX hx hb hV rfl hed hon h1 hlen h7 fun w' s' _g => ?_
    simp only [rdB_mk]
    exact fun _ => ⟨trivial, s'⟩
  · refine ⟨_, _, kx, Pres.of_Same (Fr.refl _), _, _, ko, ?_⟩
    rw [beq_self_eq_true, Bool.not_true, br_false]
    refine c4_3 hX hx hb hV rfl hed hon h1 hlen h7 fun w' s' _g => ?_
    simp only [rdB_mk]
    exact fun _ => ⟨trivial, s'⟩
end
end Go.Proofs.Ytmliokbonkndaaa
