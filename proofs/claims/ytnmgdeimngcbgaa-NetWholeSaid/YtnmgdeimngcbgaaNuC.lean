/- Own text: part of the shallow reading of the code and of the contracts that are proved over it. -/
import Derived.Test.YtnmgdeimngcbgaaNuB
import Derived.Test.YtnmgdeimngcbgaaNtO
import Derived.Test.YtnmgdeimngcbgaaShV
namespace Go.Proofs.Ytnmgdeimngcbgaa
open Go Go.Sh
/-! an act on both -/
structure OpD where
  k : Int
  e : Int
  p : Int
  i : Int
  x : Int
  now : Int
  bits : Int
  bs : List Int
def NT.act (n : NT) (o : OpD) : NT :=
  if o.k = 1 then n.okCode o.e o.p o.now false o.bs else if o.k = 2 then n.okCode o.e o.p o.now true o.bs else if o.k = 3 then n.dlv o.e o.p o.i else if o.k = 4 then n.drp o.e o.p o.i else
  if o.k = 5 then n.twc o.e o.p o.i else if o.k = 6 then n.spl o.e o.p o.i o.x o.bits else if o.k = 7 then n.trn o.p true else if o.k = 8 then n.trn o.p false else n
def okB (bs : List Int) : Prop := ∀ x ∈ bs, 0 ≤ x ∧ x < 256
/-- all that flies is bytes -/
def NT.fine (n : NT) : Prop := ∀ l ∈ n.lanes, ∀ q ∈ l.ps, okB q.bytes
theorem fine_upd {n : NT} {k : Nat} {f : LN → LN} (h : n.fine) (hf : ∀ l ∈ n.lanes, ∀ q ∈ (f l).ps, okB q.bytes) : (n.upd k f).fine := by
  unfold NT.upd
  split
  · rename_i l hl
    intro l' hl' q hq
    rcases List.mem_or_eq_of_mem_set hl' with hl' | rfl
    · exact h l' hl' q hq
    · exact hf l (List.mem_of_getElem? hl) q hq
  · exact h
theorem fine_next {n : NT} {x : Int} (h : n.fine) : ({ n with next := x } : NT).fine := h
theorem fine_down {n : NT} {x : List Bool} (h : n.fine) : ({ n with down := x } : NT).fine := h
theorem xorB_ok (x y : Int) : 0 ≤ xorB x y ∧ xorB x y < 256 := by
  show 0 ≤ IntKind.wrap .u8 _ ∧ IntKind.wrap .u8 _ < 256
  rw [wrap_u8_mod]
  omega
theorem fine_act {n : NT} {o : OpD} (h : n.fine) (ho : okB o.bs) : (n.act o).fine := by
  have hput : ∀ f, (n.okCode o.e o.p o.now f o.bs).fine := fun f => by
    unfold NT.okCode
    split
    · unfold NT.enter
      refine fine_next (fine_upd h fun l hl q hq => ?_)
      unfold LN.put at hq
      split at hq
      · rcases List.mem_append.1 hq with hq | hq
        · unfold LN.count at hq; split at hq <;> exact h l hl q hq
        · simp at hq; subst hq; exact ho
      · unfold LN.count at hq; split at hq <;> exact h l hl q hq
    · exact h
  have herase : ∀ (l : LN) (i : Nat), l ∈ n.lanes → ∀ q ∈ l.ps.eraseIdx i, okB q.bytes := fun l i hl q hq => h l hl q ((List.eraseIdx_sublist _ _).subset hq)
  have hturn : ∀ b, (n.trn o.p b).fine := fun b => by
    unfold NT.trn
    split
    · unfold NT.turn
      split
      · unfold NT.loseAll
        have h1 : (({ n with down := n.down.set o.p.toNat true } : NT).upd (idx 0 o.p) LN.lose).fine := fine_upd h fun l _ q hq => by simp [LN.lose] at hq
        exact fine_upd h1 fun l _ q hq => by simp [LN.lose] at hq
      · exact h
    · exact h
  unfold NT.act
  split
  · exact hput _
  split
  · exact hput _
  split
  · unfold NT.dlv NT.deliver
    split
    · exact fine_upd h fun l hl q hq => herase l _ hl q hq
    · exact h
  split
  · unfold NT.drp NT.drop
    split
    · exact fine_upd h fun l hl q hq => herase l _ hl q hq
    · exact h
  split
  · unfold NT.twc NT.dup
    split
    · refine fine_next (fine_upd h fun l hl q hq => ?_)
      split at hq
      · rename_i q0 hq0
        rcases List.mem_append.1 hq with hq | hq
        · exact h l hl q hq
        · simp at hq; subst hq; exact h l hl q0 (List.mem_of_getElem? hq0)
      · exact h l hl q hq
    · exact h
  split
  · unfold NT.spl
    split
    · refine fine_upd h fun l hl q hq => ?_
      obtain ⟨j, hj⟩ := List.getElem?_of_mem hq
      rw [List.getElem?_modify] at hj
      cases hp : l.ps[j]? with
      | none => rw [hp] at hj; simp at hj
      | some q0 =>
        rw [hp] at hj
        have h0 := h l hl q0 (List.mem_of_getElem? hp)
        simp only [Option.map_eq_map, Option.map_some, Option.some.injEq] at hj
        subst hj
        split
        · intro x hx
          obtain ⟨j2, hj2⟩ := List.getElem?_of_mem hx
          rw [List.getElem?_modify] at hj2
          cases hy : q0.bytes[j2]? with
          | none => rw [hy] at hj2; simp at hj2
          | some y =>
            rw [hy] at hj2
            simp only [Option.map_eq_map, Option.map_some, Option.some.injEq] at hj2
            subst hj2
            split
            · exact xorB_ok _ _
            · exact h0 y (List.mem_of_getElem? hy)
        · exact h0
    · exact h
  split
  · exact hturn _
  split
  · exact hturn _
  · exact h
theorem fine_got {n : NT} (h : n.fine) (e p i : Int) : okB (n.got e p i) := by
  unfold NT.got NT.pkt
  split
  · cases hl : n.lanes[idx e p]? with
    | none => simp [okB]
    | some l =>
      cases hq : l.ps[i.toNat]? with
      | none => simp [okB, hq]
      | some q => simpa [hq] using h l (List.mem_of_getElem? hl) q (List.mem_of_getElem? hq)
  · simp [okB]
def opV (o : OpD) (a : Option Addr) (c : Nat) : List Value := [.int .i64 o.k, .int .i64 o.e, .int .i64 o.p, .int .i64 o.i, .int .i64 o.x, .int .i64 o.now, .int .u8 o.bits, .slice a o.bs.length c]
section
variable {W w : World} {b rb : Nat} {n r : NT} {L M : List HP}
theorem Src.mono {a : Option Addr} {c : Nat} {bs : List Int} (h : Src W L a c bs) (hs : ∀ x ∈ L, x ∈ M) : Src W M a c bs :=
  ⟨h.1, h.2.imp id fun ⟨e, s, n, c, hm⟩ => ⟨e, s, n, c, hs _ hm⟩⟩
def Done (W : World) (L : List HP) (b rb : Nat) (n r : NT) (o : OpD) : Value → World → Prop := fun v w' => ∃ t : Bool, v = .bool t ∧ (n = r → t = true) ∧ Hs W (netP b (n.act o) :: refP rb (r.act o) :: L) w'
theorem Done.mk {o : OpD} {t : Bool} {A : HP} {w' : World} (ht : n = r → t = true) {n' r' : NT} (hn : n' = n.act o) (hr : r' = r.act o) (h : Hs W (refP rb r' :: netP b n' :: A :: L) w') : Done W L b rb n r o (.bool t) w' := by
  subst hn; subst hr
  exact ⟨t, rfl, ht, Hs.erase (L := netP b _ :: refP rb _ :: A :: L) (h.focus (i := 1) rfl) 2⟩
theorem c10 (h : Hs W (netP b n :: refP rb r :: L) w) (o : OpD) {a : Option Addr} {c : Nat} (hs : Src W L a c o.bs) (hn : n.fine) (hr : r.fine) :
    Calls Try.prog 10 #[.pointer (some ⟨b, 0, none⟩), .pointer (some ⟨rb, 0, none⟩), .agg (opV o a c).toArray] w (rt (Done W L b rb n r o)) := by
  refine F10_ok ?_
  unfold F10
  simp only [rdP_mk]
  refine ⟨o.k, o.e, o.p, o.i, o.x, o.now, o.bits, a, o.bs.length, c, rfl, ?_⟩
  refine h.alc fun bo w1 h1 => ?_
  simp only [add_mk]
  have h2 : Hs W (netP b n :: pt bo (.cells (opV o a c).toArray 32) :: refP rb r :: L) w1 := h1.focus (i := 1) rfl
  clear h1 h
  have s1 : Src W (pt bo (.cells (opV o a c).toArray 32) :: refP rb r :: L) a c o.bs := hs.mono fun x hx => by simp [hx]
  have hbo : ∀ {n' : NT} {w' : World}, Hs W (netP b n' :: pt bo (.cells (opV o a c).toArray 32) :: refP rb r :: L) w' → w'.heap[bo]? = some (.cells (opV o a c).toArray 32) := fun h' => h'.at 1 rfl
  refine h2.ldI 1 rfl rfl ?_
  by_cases k1 : o.k = 1
  · have e1 : (o.k == 1) = true := by simp [k1]
    rw [e1, br_true]
    refine h2.ldI 1 rfl rfl (h2.ldI 1 rfl rfl (h2.ldC 1 rfl rfl (h2.ldI 1 rfl rfl (cl (s9 h2 o.e o.p o.now s1) ?_))))
    rintro _ w2 ⟨rfl, h3⟩
    refine ⟨_, _, rfl, h3.ldI 1 rfl rfl (h3.ldI 1 rfl rfl (h3.ldC 1 rfl rfl (h3.ldI 1 rfl rfl ?_)))⟩
    have h4 : Hs W (refP rb r :: netP b (n.okCode o.e o.p o.now false o.bs) :: pt bo (.cells (opV o a c).toArray 32) :: L) w2 := h3.focus (i := 2) rfl
    refine cl (r25 h4 o.e o.p o.now (hs.mono fun x hx => by simp [hx])) ?_
    rintro _ w3 ⟨rfl, h5⟩
    refine ⟨_, _, rfl, ?_⟩
    have en : n.okCode o.e o.p o.now false o.bs = n.act o := by unfold NT.act; rw [if_pos k1]
    have er : r.okCode o.e o.p o.now false o.bs = r.act o := by unfold NT.act; rw [if_pos k1]
    rw [br_iff]
    exact ⟨fun _ => Done.mk (fun e => by subst e; simp) en er h5, fun hx => Done.mk (fun e => by subst e; simp at hx) en er h5⟩
  have e1 : (o.k == 1) = false := by simpa using k1
  rw [e1, br_false]
  by_cases k2 : o.k = 2
  · have e2 : (o.k == 2) = true := by simp [k2]
    rw [e2, br_true]
    refine h2.ldI 1 rfl rfl (h2.ldI 1 rfl rfl (h2.ldC 1 rfl rfl (h2.ldI 1 rfl rfl (cl (s16 h2 o.e o.p o.now s1) ?_))))
    rintro _ w2 ⟨rfl, h3⟩
    refine ⟨_, _, rfl, h3.ldI 1 rfl rfl (h3.ldI 1 rfl rfl (h3.ldC 1 rfl rfl (h3.ldI 1 rfl rfl ?_)))⟩
    have h4 : Hs W (refP rb r :: netP b (n.okCode o.e o.p o.now true o.bs) :: pt bo (.cells (opV o a c).toArray 32) :: L) w2 := h3.focus (i := 2) rfl
    refine cl (r26 h4 o.e o.p o.now (hs.mono fun x hx => by simp [hx])) ?_
    rintro _ w3 ⟨rfl, h5⟩
    refine ⟨_, _, rfl, ?_⟩
    have en : n.okCode o.e o.p o.now true o.bs = n.act o := by unfold NT.act; rw [if_neg k1, if_pos k2]
    have er : r.okCode o.e o.p o.now true o.bs = r.act o := by unfold NT.act; rw [if_neg k1, if_pos k2]
    rw [br_iff]
    exact ⟨fun _ => Done.mk (fun e => by subst e; simp) en er h5, fun hx => Done.mk (fun e => by subst e; simp at hx) en er h5⟩
  have e2 : (o.k == 2) = false := by simpa using k2
  rw [e2, br_false]
  by_cases k3 : o.k = 3
  · have e3 : (o.k == 3) = true := by simp [k3]
    rw [e3, br_true]
    refine h2.ldI 1 rfl rfl (h2.ldI 1 rfl rfl (h2.ldI 1 rfl rfl (cl (s12 h2 o.e o.p o.i) ?_)))
    rintro _ w2 ⟨a3, c3, rfl, h3⟩
    refine ⟨_, _, _, _, rfl, h3.ldI 2 rfl rfl (h3.ldI 2 rfl rfl (h3.ldI 2 rfl rfl ?_))⟩
    have h4 : Hs W (refP rb r :: slP 5 1 a3 (n.got o.e o.p o.i).length c3 (byV (n.got o.e o.p o.i)) :: netP b (n.dlv o.e o.p o.i) :: pt bo (.cells (opV o a c).toArray 32) :: L) w2 := h3.focus (i := 3) rfl
    refine cl (r27 h4 o.e o.p o.i) ?_
    rintro _ w3 ⟨a4, c4, rfl, h5⟩
    refine ⟨_, _, _, _, rfl, ?_⟩
    refine ⟨_, _, run_str (h5.rd 2 rfl) (fine_got hn _ _ _), _, _, run_str (h5.rd 0 rfl) (fine_got hr _ _ _), ?_⟩
    have en : n.dlv o.e o.p o.i = n.act o := by unfold NT.act; rw [if_neg k1, if_neg k2, if_pos k3]
    have er : r.dlv o.e o.p o.i = r.act o := by unfold NT.act; rw [if_neg k1, if_neg k2, if_pos k3]
    have h6 : Hs W (refP rb (r.dlv o.e o.p o.i) :: netP b (n.dlv o.e o.p o.i) :: pt bo (.cells (opV o a c).toArray 32) :: L) w3 := (h5.erase 0).erase 1
    rw [br_iff]
    exact ⟨fun _ => Done.mk (fun e => by subst e; simp) en er h6, fun hx => Done.mk (fun e => by subst e; simp at hx) en er h6⟩
  have e3 : (o.k == 3) = false := by simpa using k3
  rw [e3, br_false]
  have hl : ∀ {n' : NT} {w' : World}, Hs W (netP b n' :: pt bo (.cells (opV o a c).toArray 32) :: refP rb r :: L) w' → Pres (Sh.lone w1 bo (.cells (opV o a c).toArray 32)) w' := fun h' => Pres.lone (hbo h')
  have hlat := lone_at w1 bo (.cells (opV o a c).toArray 32)
  by_cases k4 : o.k = 4
  · have e4 : (o.k == 4) = true := by simp [k4]
    rw [e4, br_true]
    unfold drw
    have h3 := h2.drew
    refine ⟨_, hl h3, h3.ldI 1 rfl rfl (h3.ldI 1 rfl rfl (h3.ldI 1 rfl rfl (ldI_at hlat rfl (ldI_at hlat rfl (ldI_at hlat rfl (cl (s18 h3 o.e o.p o.i) ?_))))))⟩
    rintro _ w2 ⟨rfl, h4⟩
    refine ⟨_, rfl, hl h4, ?_⟩
    have h5 : Hs W (refP rb r :: netP b (n.drp o.e o.p o.i) :: pt bo (.cells (opV o a c).toArray 32) :: L) w2 := h4.focus (i := 2) rfl
    refine cl (r28 h5 o.e o.p o.i) ?_
    rintro _ w3 ⟨rfl, h6⟩
    exact ⟨_, rfl, Done.mk (fun e => by subst e; simp) (by unfold NT.act; rw [if_neg k1, if_neg k2, if_neg k3, if_pos k4]) (by unfold NT.act; rw [if_neg k1, if_neg k2, if_neg k3, if_pos k4]) h6⟩
  have e4 : (o.k == 4) = false := by simpa using k4
  rw [e4, br_false]
  by_cases k5 : o.k = 5
  · have e5 : (o.k == 5) = true := by simp [k5]
    rw [e5, br_true]
    refine h2.ldI 1 rfl rfl (h2.ldI 1 rfl rfl (h2.ldI 1 rfl rfl (cl (s17 h2 o.e o.p o.i) ?_)))
    rintro _ w2 ⟨rfl, h3⟩
    refine ⟨_, _, rfl, h3.ldI 1 rfl rfl (h3.ldI 1 rfl rfl (h3.ldI 1 rfl rfl ?_))⟩
    have h4 : Hs W (refP rb r :: netP b (n.twc o.e o.p o.i) :: pt bo (.cells (opV o a c).toArray 32) :: L) w2 := h3.focus (i := 2) rfl
    refine cl (r29 h4 o.e o.p o.i) ?_
    rintro _ w3 ⟨rfl, h5⟩
    refine ⟨_, _, rfl, ?_⟩
    have en : n.twc o.e o.p o.i = n.act o := by unfold NT.act; rw [if_neg k1, if_neg k2, if_neg k3, if_neg k4, if_pos k5]
    have er : r.twc o.e o.p o.i = r.act o := by unfold NT.act; rw [if_neg k1, if_neg k2, if_neg k3, if_neg k4, if_pos k5]
    rw [br_iff]
    exact ⟨fun _ => Done.mk (fun e => by subst e; simp) en er h5, fun hx => Done.mk (fun e => by subst e; simp at hx) en er h5⟩
  have e5 : (o.k == 5) = false := by simpa using k5
  rw [e5, br_false]
  by_cases k6 : o.k = 6
  · have e6 : (o.k == 6) = true := by simp [k6]
    rw [e6, br_true]
    unfold drw
    have h3 := h2.drew
    refine ⟨_, hl h3, h3.ldI 1 rfl rfl (h3.ldI 1 rfl rfl (h3.ldI 1 rfl rfl (h3.ldI 1 rfl rfl (h3.ldI 1 rfl rfl (ldI_at hlat rfl (ldI_at hlat rfl (ldI_at hlat rfl (ldI_at hlat rfl (ldI_at hlat rfl (cl (s19 h3 o.e o.p o.i o.x o.bits) ?_))))))))))⟩
    rintro _ w2 ⟨rfl, h4⟩
    refine ⟨_, rfl, hl h4, ?_⟩
    have h5 : Hs W (refP rb r :: netP b (n.spl o.e o.p o.i o.x o.bits) :: pt bo (.cells (opV o a c).toArray 32) :: L) w2 := h4.focus (i := 2) rfl
    refine cl (r30 h5 o.e o.p o.i o.x o.bits) ?_
    rintro _ w3 ⟨rfl, h6⟩
    exact ⟨_, rfl, Done.mk (fun e => by subst e; simp) (by unfold NT.act; rw [if_neg k1, if_neg k2, if_neg k3, if_neg k4, if_neg k5, if_pos k6]) (by unfold NT.act; rw [if_neg k1, if_neg k2, if_neg k3, if_neg k4, if_neg k5, if_pos k6]) h6⟩
  have e6 : (o.k == 6) = false := by simpa using k6
  rw [e6, br_false]
  by_cases k7 : o.k = 7
  · have e7 : (o.k == 7) = true := by simp [k7]
    rw [e7, br_true]
    unfold drw
    have h3 := h2.drew
    refine ⟨_, hl h3, h3.ldI 1 rfl rfl (ldI_at hlat rfl (cl (s20 h3 o.p) ?_))⟩
    rintro _ w2 ⟨rfl, h4⟩
    refine ⟨_, rfl, hl h4, ?_⟩
    have h5 : Hs W (refP rb r :: netP b (n.trn o.p true) :: pt bo (.cells (opV o a c).toArray 32) :: L) w2 := h4.focus (i := 2) rfl
    refine cl (r31 h5 o.p) ?_
    rintro _ w3 ⟨rfl, h6⟩
    exact ⟨_, rfl, Done.mk (fun e => by subst e; simp) (by unfold NT.act; rw [if_neg k1, if_neg k2, if_neg k3, if_neg k4, if_neg k5, if_neg k6, if_pos k7]) (by unfold NT.act; rw [if_neg k1, if_neg k2, if_neg k3, if_neg k4, if_neg k5, if_neg k6, if_pos k7]) h6⟩
  have e7 : (o.k == 7) = false := by simpa using k7
  rw [e7, br_false]
  by_cases k8 : o.k = 8
  · have e8 : (o.k == 8) = true := by simp [k8]
    rw [e8, br_true]
    unfold drw
    have h3 := h2.drew
    refine ⟨_, hl h3, h3.ldI 1 rfl rfl (ldI_at hlat rfl (cl (s21 h3 o.p) ?_))⟩
    rintro _ w2 ⟨rfl, h4⟩
    refine ⟨_, rfl, hl h4, ?_⟩
    have h5 : Hs W (refP rb r :: netP b (n.trn o.p false) :: pt bo (.cells (opV o a c).toArray 32) :: L) w2 := h4.focus (i := 2) rfl
    refine cl (r32 h5 o.p) ?_
    rintro _ w3 ⟨rfl, h6⟩
    exact ⟨_, rfl, Done.mk (fun e => by subst e; simp) (by unfold NT.act; rw [if_neg k1, if_neg k2, if_neg k3, if_neg k4, if_neg k5, if_neg k6, if_neg k7, if_pos k8]) (by unfold NT.act; rw [if_neg k1, if_neg k2, if_neg k3, if_neg k4, if_neg k5, if_neg k6, if_neg k7, if_pos k8]) h6⟩
  have e8 : (o.k == 8) = false := by simpa using k8
  rw [e8, br_false]
  have h3 : Hs W (refP rb r :: netP b n :: pt bo (.cells (opV o a c).toArray 32) :: L) w1 := h2.focus (i := 2) rfl
  exact Done.mk (fun _ => rfl) (by unfold NT.act; rw [if_neg k1, if_neg k2, if_neg k3, if_neg k4, if_neg k5, if_neg k6, if_neg k7, if_neg k8]) (by unfold NT.act; rw [if_neg k1, if_neg k2, if_neg k3, if_neg k4, if_neg k5, if_neg k6, if_neg k7, if_neg k8]) h3
end
end Go.Proofs.Ytnmgdeimngcbgaa
