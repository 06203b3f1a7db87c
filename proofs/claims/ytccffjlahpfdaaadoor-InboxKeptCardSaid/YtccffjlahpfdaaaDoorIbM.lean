/- Own text: part of the shallow reading of the code and of the contracts that are proved over it. -/
import Derived.Test.YtccffjlahpfdaaaDoorIbL
namespace Go.Sh
open Go
section
variable {W w : World} {L : List HP}
theorem foldr_flat (Gs : List (List HP)) (L : List HP) : Gs.foldr (· ++ ·) L = Gs.flatten ++ L := by
  induction Gs with
  | nil => rfl
  | cons G Gs ih => rw [List.foldr_cons, ih, List.flatten_cons, List.append_assoc]
theorem Hs.dropL {C : List HP} (h : Hs W (C ++ L) w) : Hs W L w := by
  induction C with
  | nil => exact h
  | cons a C ih => exact ih h.drop
/-- groups of parts in another order, some of them dropped -/
theorem Hs.grp {Gs : List (List HP)} {n : Nat} (h : Hs W (Gs.foldr (· ++ ·) L) w) (hn : Gs.length = n) (js is : List Nat) (hp : (List.range n).Perm (js ++ is)) : Hs W ((is.map (fun i => Gs.getD i [])).foldr (· ++ ·) L) w := by
  have e : (List.range n).map (fun i => Gs.getD i []) = Gs := by
    apply List.ext_getElem
    · simp [hn]
    · intro i h1 h2
      simp [h2]
  have h1 := hp.map (fun i => Gs.getD i [])
  rw [e, List.map_append] at h1
  rw [foldr_flat] at h ⊢
  have h2 := h.perm (List.Perm.append_right L h1.flatten)
  rw [List.flatten_append, List.append_assoc] at h2
  exact h2.dropL
end
end Go.Sh
namespace Go.Proofs.YtccffjlahpfdaaaDoor
open Go Go.Sh Go.Sp
section
variable {W w : World} {L : List HP} {bb rr : Nat} {D : BD} {R : RD} {x : BX}
structure OB where
  kind : Int
  at_ : List Int
  n : Int
def oneOf (x : BX) (o : OB) : Int := ((mv x.cum o.at_)[0]?).getD ((x.cum + 1) % 4294967296)
def BX.drop (x : BX) (t : Int) : BX := { x with S := if t ∈ x.fx then x.S else del (sd x.cum t).toNat x.S }
def BX.act (x : BX) (o : OB) : BX := if o.kind = 1 then x.come (oneOf x o) else if o.kind = 2 then x.drop (oneOf x o) else if o.kind = 3 then x.fix (mv x.cum o.at_) else if o.kind = 4 then (if 0 ≤ o.n ∧ o.n ≤ 1099511627776 then x.heard o.n else x) else if o.kind = 5 then (if 0 ≤ o.n ∧ o.n ≤ 4096 then x.rep else x) else x
theorem drop_ok (ho : OkX x) (hr : RngX x) {t : Int} (t0 : 0 ≤ t) (t1 : t < 4294967296) : OkX (x.drop t) := by
  refine ⟨ho.nodup, fun y hy => ?_, ho.dups, ho.d0, ho.d1⟩
  have hy : y ∈ x.fx := hy
  show y ∈ nums x.cum (if t ∈ x.fx then x.S else del (sd x.cum t).toNat x.S)
  by_cases c : t ∈ x.fx
  · rw [if_pos c]; exact ho.sub y hy
  · rw [if_neg c]
    obtain ⟨d, hd, e⟩ := mem_nums.1 (ho.sub y hy)
    refine mem_nums.2 ⟨d, mem_del.2 ⟨hd, fun he => c ?_⟩, e⟩
    have hdr := hr.rng d hd
    have : t = y := by
      rw [num_sd hr.c0 hr.c1 t0 t1 (by omega), ← he, e]
    rw [this]; exact hy
theorem one_rng {o : OB} : 0 ≤ oneOf x o ∧ oneOf x o < 4294967296 := by
  unfold oneOf
  cases h : (mv x.cum o.at_)[0]? with
  | none => simp; omega
  | some y => exact mv_rng x.cum o.at_ y (List.mem_of_getElem? h)
theorem act_ok (ho : OkX x) (hr : RngX x) (o : OB) : OkX (x.act o) := by
  unfold BX.act
  split
  · exact come_ok ho hr _
  · split
    · exact drop_ok ho hr one_rng.1 one_rng.2
    · split
      · exact fix_ok ho _
      · split
        · split
          · exact heard_ok ho _
          · exact ho
        · split
          · split
            · exact rep_ok ho
            · exact ho
          · exact ho
set_option maxRecDepth 20000 in
theorem c16_1 {Kr : Value → World → Prop} (ht : TB W) {o : OB} {la : Option Addr} {lc ob : Nat} {av : Value} (ho : OkX x) (hll : o.at_.length ≤ 281474976710656)
    (h : Hs W (slP 22 1 la (mv x.cum o.at_).length lc (nV (mv x.cum o.at_)) :: pt ob (.cells #[.int .i64 o.kind, av, .int .i64 o.n] 48 (0, 0)) :: (boxL bb D x ++ (refL rr R x ++ L))) w)
    (hK : ∀ w' D' R', Hs W (boxL bb D' (x.act o) ++ (refL rr R' (x.act o) ++ L)) w' → Kr (.bool true) w') :
    F16_1 Kr (.pointer (some ⟨bb, 0, none⟩)) (.pointer (some ⟨rr, 0, none⟩)) (.pointer (some ⟨ob, 0, none⟩)) (.slice la (mv x.cum o.at_).length lc) (.int .u32 (oneOf x o)) w := by
  obtain ⟨t0, t1⟩ := one_rng (x := x) (o := o)
  have eI : ∀ x : Int, (x == x) = true := fun x => by simp
  have eB : ∀ x : Bool, (x == x) = true := fun x => by simp
  have hml : (mv x.cum o.at_).length = o.at_.length := by simp [mv]
  have hB : Hs W (boxL bb D x ++ ([slP 22 1 la (mv x.cum o.at_).length lc (nV (mv x.cum o.at_)), pt ob (.cells #[.int .i64 o.kind, av, .int .i64 o.n] 48 (0, 0))] ++ (refL rr R x ++ L))) w := Hs.grp (Gs := [[_, _], boxL bb D x, refL rr R x]) (L := L) (n := 3) h rfl [] [1, 0, 2] (by decide)
  have toR : ∀ {w1 D1 x1 x2}, Hs W (boxL bb D1 x1 ++ ([slP 22 1 la (mv x.cum o.at_).length lc (nV (mv x.cum o.at_)), pt ob (.cells #[.int .i64 o.kind, av, .int .i64 o.n] 48 (0, 0))] ++ (refL rr R x2 ++ L))) w1 → Hs W (refL rr R x2 ++ (boxL bb D1 x1 ++ ([slP 22 1 la (mv x.cum o.at_).length lc (nV (mv x.cum o.at_)), pt ob (.cells #[.int .i64 o.kind, av, .int .i64 o.n] 48 (0, 0))] ++ L))) w1 := fun {w1 D1 x1 x2} h => Hs.grp (Gs := [boxL bb D1 x1, [_, _], refL rr R x2]) (L := L) (n := 3) h rfl [] [2, 0, 1] (by decide)
  have out : ∀ {w1 D1 R1 x1 x2}, Hs W (refL rr R1 x2 ++ (boxL bb D1 x1 ++ ([slP 22 1 la (mv x.cum o.at_).length lc (nV (mv x.cum o.at_)), pt ob (.cells #[.int .i64 o.kind, av, .int .i64 o.n] 48 (0, 0))] ++ L))) w1 → Hs W (boxL bb D1 x1 ++ (refL rr R1 x2 ++ L)) w1 := fun {w1 D1 R1 x1 x2} h => Hs.grp (Gs := [refL rr R1 x2, boxL bb D1 x1, [_, _]]) (L := L) (n := 3) h rfl [2] [1, 0] (by decide)
  unfold F16_1
  simp only [rdP_mk, rdI_mk, rdC_mk, rdA_mk, nn_some, add_mk]
  refine h.ldI 1 rfl rfl ?_
  rw [br_iff]
  refine ⟨fun k1 => ?_, fun k1 => ?_⟩
  · have k1 : o.kind = 1 := by simpa using k1
    have ea : x.act o = x.come (oneOf x o) := by unfold BX.act; rw [if_pos k1]
    rw [ea] at hK
    refine cl (c10 ht hB ho _) ?_
    rintro _ w1 ⟨rfl, D1, h1⟩
    refine ⟨_, _, rfl, cl (c11 (toR h1) ho t0 t1) ?_⟩
    rintro _ w2 ⟨rfl, R2, h2⟩
    refine ⟨_, _, rfl, ?_⟩
    rw [eB, br_true, eI]
    exact hK w2 D1 R2 (out h2)
  have k1 : o.kind ≠ 1 := by simpa using k1
  rw [br_iff]
  refine ⟨fun k2 => ?_, fun k2 => ?_⟩
  · have k2 : o.kind = 2 := by simpa using k2
    have ea : x.act o = x.drop (oneOf x o) := by unfold BX.act; rw [if_neg k1, if_pos k2]
    rw [ea] at hK
    refine cl (c31 hB _) ?_
    rintro _ w1 ⟨rfl, h1⟩
    refine ⟨_, rfl, cl (c44 (toR h1) (by have := ho.len (box_RngX hB); omega) t0 t1) ?_⟩
    rintro _ w2 ⟨rfl, h2⟩
    refine ⟨_, rfl, ?_⟩
    rw [eB]
    exact hK w2 D R (out h2)
  have k2 : o.kind ≠ 2 := by simpa using k2
  rw [br_iff]
  refine ⟨fun k3 => ?_, fun k3 => ?_⟩
  · have k3 : o.kind = 3 := by simpa using k3
    have ea : x.act o = x.fix (mv x.cum o.at_) := by unfold BX.act; rw [if_neg k1, if_neg k2, if_pos k3]
    rw [ea] at hK
    refine cl (c12 ht hB ho (by omega) fun fx1 w1 h1 => h1.rd 4 rfl) ?_
    rintro _ w1 ⟨rfl, h1⟩
    refine ⟨_, rfl, cl (c13 (toR h1) ho (mv_rng _ _) (by omega) fun R1 fx1 w1 h1 => h1.rd 8 rfl) ?_⟩
    rintro _ w2 ⟨rfl, R2, h2⟩
    refine ⟨_, rfl, ?_⟩
    rw [eI]
    exact hK w2 D R2 (out h2)
  have k3 : o.kind ≠ 3 := by simpa using k3
  rw [br_iff]
  refine ⟨fun k4 => ?_, fun k4 => ?_⟩
  · have k4 : o.kind = 4 := by simpa using k4
    have ea : x.act o = (if 0 ≤ o.n ∧ o.n ≤ 1099511627776 then x.heard o.n else x) := by unfold BX.act; rw [if_neg k1, if_neg k2, if_neg k3, if_pos k4]
    rw [ea] at hK
    unfold drw
    have hB1 := hB.drew
    generalize w.drew = w1 at hB1 ⊢
    have hob := hB1.at 5 rfl
    refine ⟨Sh.lone w1 ob (.cells #[.int .i64 o.kind, av, .int .i64 o.n] 48 (0, 0)), Pres.lone hob, hB1.ldI 5 rfl rfl (ldI_at (lone_at _ _ _) rfl ?_)⟩
    refine cl (c21 hB1 ⟨ho.d0, ho.d1⟩ _) ?_
    rintro _ w2 ⟨rfl, h2⟩
    refine ⟨_, rfl, Pres.lone (h2.at 5 rfl), cl (c45 (toR h2) ⟨ho.d0, ho.d1⟩ _) ?_⟩
    rintro _ w3 ⟨rfl, h3⟩
    refine ⟨_, rfl, ?_⟩
    rw [eI]
    exact hK w3 D R (out h3)
  have k4 : o.kind ≠ 4 := by simpa using k4
  rw [br_iff]
  refine ⟨fun k5 => ?_, fun k5 => ?_⟩
  · have k5 : o.kind = 5 := by simpa using k5
    have ea : x.act o = (if 0 ≤ o.n ∧ o.n ≤ 4096 then x.rep else x) := by unfold BX.act; rw [if_neg k1, if_neg k2, if_neg k3, if_neg k4, if_pos k5]
    rw [ea] at hK
    refine h.ldI 1 rfl rfl (cl (c17 ht hB ho (IntKind.wrap .u32 (((mv x.cum o.at_).length : Nat) : Int)) o.n) ?_)
    have hrx := box_RngX hB
    -- both reports, and what is told of them
    have fin : ∀ {c1 c2 : CH} {w1 : World} {e : Int} {b1 b2 : Nat} {M : List HP}, Like w1 c1 c2 → Hs W (pt b2 (.cells (chA c2) 54 (0, 0)) :: pt b1 (.cells (chA c1) 54 (0, 0)) :: M) w1 → (∀ w', Same w1 w' → Kr (.bool true) w') →
        lod15 ⟨b1, 0, none⟩ w1 fun c => lod15 ⟨b2, 0, none⟩ w1 fun c' => Calls Tryd.prog 47 #[.agg (chA c), .agg (chA c')] w1 fun e141 w140 => ∃ b139, e141 = .returned (.bool b139) ∧ (br b139 (Kr (.bool (e == e)) w140) (Kr (.bool false) w140)) := by
      intro c1 c2 w1 e b1 b2 M hlk hh hk
      refine lod15_ok (c := c1) hh 1 rfl (lod15_ok (c := c2) hh 0 rfl (cl (c47 hlk) ?_))
      rintro _ w2 ⟨rfl, s2⟩
      refine ⟨_, rfl, ?_⟩
      rw [br_true, eI]
      exact hk w2 s2
    rintro _ w1 (⟨hN, rfl, h1⟩ | ⟨hN, r1, D1, rfl, h1⟩)
    · rw [if_neg hN] at hK
      refine ⟨_, _, _, _, _, _, _, _, _, _, _, _, _, _, _, _, _, _, _, _, _, _, _, _, _, _, rfl, h1.alc fun b1 w2 h2 => ?_⟩
      refine sto15_ok (c0 := zCH) h2 0 rfl zCH fun w3 h3 => ?_
      refine h3.ldI 6 rfl rfl ?_
      have h3R : Hs W (refL rr R x ++ ([pt b1 (.cells (chA zCH) 54 (0, 0))] ++ (boxL bb D x ++ ([slP 22 1 la (mv x.cum o.at_).length lc (nV (mv x.cum o.at_)), pt ob (.cells #[.int .i64 o.kind, av, .int .i64 o.n] 48 (0, 0))] ++ L)))) w3 := Hs.grp (Gs := [[_], boxL bb D x, [_, _], refL rr R x]) (L := L) (n := 4) h3 rfl [] [3, 0, 1, 2] (by decide)
      refine cl (c46 h3R ho _ o.n) ?_
      rintro _ w4 (⟨_, rfl, h4⟩ | ⟨hN', _⟩)
      · refine ⟨_, _, _, _, _, _, _, _, _, _, _, _, _, _, _, _, _, _, _, _, _, _, _, _, _, _, rfl, h4.alc fun b2 w5 h5 => ?_⟩
        refine sto15_ok (c0 := zCH) h5 0 rfl zCH fun w6 h6 => ?_
        have h7 : Hs W (pt b2 (.cells (chA zCH) 54 (0, 0)) :: pt b1 (.cells (chA zCH) 54 (0, 0)) :: (boxL bb D x ++ (refL rr R x ++ L))) w6 := Hs.grp (Gs := [[_], refL rr R x, [_], boxL bb D x, [_, _]]) (L := L) (n := 5) h6 rfl [4] [0, 2, 3, 1] (by decide)
        exact fin like_zero h7 fun w' s' => hK w' D R (h7.drop.drop.same s')
      · exact absurd hN' hN
    · rw [if_pos hN] at hK
      refine ⟨_, _, _, _, _, _, _, _, _, _, _, _, _, _, _, _, _, _, _, _, _, _, _, _, _, _, rfl, h1.alc fun b1 w2 h2 => ?_⟩
      refine sto15_ok (c0 := zCH) h2 0 rfl (repCH x _ o.n r1) fun w3 h3 => ?_
      refine h3.ldI 9 rfl rfl ?_
      have h3R : Hs W (refL rr R x ++ ([pt b1 (.cells (chA (repCH x (IntKind.wrap .u32 (((mv x.cum o.at_).length : Nat) : Int)) o.n r1)) 54 (0, 0))] ++ (repL x o.n r1 ++ (boxL bb D1 x.rep ++ L)))) w3 := Hs.grp (Gs := [[_], repL x o.n r1, boxL bb D1 x.rep, [_, _], refL rr R x]) (L := L) (n := 5) h3 rfl [3] [4, 0, 1, 2] (by decide)
      refine cl (c46 h3R ho _ o.n) ?_
      rintro _ w4 (⟨hN', _⟩ | ⟨_, r2, R2, rfl, h4⟩)
      · exact absurd hN hN'
      · refine ⟨_, _, _, _, _, _, _, _, _, _, _, _, _, _, _, _, _, _, _, _, _, _, _, _, _, _, rfl, h4.alc fun b2 w5 h5 => ?_⟩
        refine sto15_ok (c0 := zCH) h5 0 rfl (repCH x _ o.n r2) fun w6 h6 => ?_
        have h7 : Hs W (pt b2 (.cells (chA (repCH x (IntKind.wrap .u32 (((mv x.cum o.at_).length : Nat) : Int)) o.n r2)) 54 (0, 0)) :: pt b1 (.cells (chA (repCH x (IntKind.wrap .u32 (((mv x.cum o.at_).length : Nat) : Int)) o.n r1)) 54 (0, 0)) :: (boxL bb D1 x.rep ++ (refL rr R2 x.rep ++ L))) w6 := Hs.grp (Gs := [[_], repL x o.n r2, refL rr R2 x.rep, [_], repL x o.n r1, boxL bb D1 x.rep]) (L := L) (n := 6) h6 rfl [1, 4] [0, 3, 5, 2] (by decide)
        have h8 : Hs W (repL x o.n r1 ++ (repL x o.n r2 ++ L)) w6 := Hs.grp (Gs := [[_], repL x o.n r2, refL rr R2 x.rep, [_], repL x o.n r1, boxL bb D1 x.rep]) (L := L) (n := 6) h6 rfl [0, 2, 3, 5] [4, 1] (by decide)
        have h9 : Hs W (repL x o.n r2 ++ L) w6 := h8.dropL
        exact fin (like_rep hrx ho h8 h9) h7 fun w' s' => hK w' D1 R2 (h7.drop.drop.same s')
  have k5 : o.kind ≠ 5 := by simpa using k5
  have ea : x.act o = x := by unfold BX.act; rw [if_neg k1, if_neg k2, if_neg k3, if_neg k4, if_neg k5]
  rw [ea] at hK
  unfold drw
  have hB1 := hB.drew
  generalize w.drew = w1 at hB1 ⊢
  have hR1 := toR hB1
  have hrr := hR1.at 0 rfl
  refine ⟨Sh.lone w1 rr _, Pres.lone hrr, ldP_at (lone_at _ _ _) rfl ?_⟩
  refine cl (c20 hB1 _) ?_
  rintro _ w2 ⟨rfl, s2⟩
  have hR2 := hR1.same s2
  refine ⟨_, rfl, Pres.lone (hR2.at 0 rfl), ?_⟩
  obtain ⟨ra, hra, _⟩ := ref_open hR2
  refine clr (r48 hra t0 t1) ⟨_, rfl, ?_⟩
  rw [eB]
  exact hK w2 D R (out hR2)
theorem c16 (ht : TB W) (h : Hs W (boxL bb D x ++ (refL rr R x ++ L)) w) (ho : OkX x) {o : OB} {a : Option Addr} {c : Nat} (hr : Rd W a (nV o.at_)) (hx : rngL o.at_) (hl : o.at_.length * 4 ≤ 140737488351232) :
    Calls Tryd.prog 16 #[.pointer (some ⟨bb, 0, none⟩), .pointer (some ⟨rr, 0, none⟩), .agg #[.int .i64 o.kind, .slice a o.at_.length c, .int .i64 o.n]] w (rt fun v w' => v = .bool true ∧ ∃ D' R', Hs W (boxL bb D' (x.act o) ++ (refL rr R' (x.act o) ++ L)) w') := by
  have hrx := box_RngX h
  refine F16_ok ?_
  unfold F16
  simp only [rdP_mk]
  refine ⟨_, _, _, _, _, rfl, h.alc fun ob w1 h1 => ?_⟩
  unfold drw
  have h2 := h1.drew
  generalize w1.drew = w2 at h2 ⊢
  have toR : ∀ {w1} {A : HP}, Hs W (A :: (boxL bb D x ++ (refL rr R x ++ L))) w1 → Hs W (refL rr R x ++ ([A] ++ (boxL bb D x ++ L))) w1 := fun {w1 A} h => Hs.grp (Gs := [[A], boxL bb D x, refL rr R x]) (L := L) (n := 3) h rfl [] [2, 0, 1] (by decide)
  have hR := toR h2
  obtain ⟨cs, hcs, hc0⟩ := ref_cum hR
  simp only [nn_some, add_mk]
  refine hR.ldP 0 rfl rfl ?_
  simp only [nn_some, add_mk]
  refine ldI_at hcs hc0 (h2.ldC 0 rfl rfl (cl (c43 hrx.c0 hrx.c1 (h2.rd_old hr) hx hl) ?_))
  rintro _ w3 ⟨la, lc, rfl, o3, s3⟩
  refine ⟨_, _, _, rfl, ?_⟩
  have h3 := h2.own_new s3 o3
  have hml : (mv x.cum o.at_).length = o.at_.length := by simp [mv]
  have hR3 := toR (h2.same s3)
  obtain ⟨cs3, hcs3, hc3⟩ := ref_cum hR3
  refine hR3.ldP 0 rfl rfl ?_
  simp only [nn_some, add_mk]
  refine ldI_at hcs3 hc3 (clr (c9 x.cum 1 w3 hrx.c0 hrx.c1 (by decide) (by decide)) ⟨_, rfl, ?_⟩)
  have fin : ∀ y, y = oneOf x o → F16_1 (fun y6_25 w27 => ∀ _g28 : Tm, rdB y6_25 fun b29 => (.bool b29 : Value) = .bool true ∧ ∃ D' R', Hs W (boxL bb D' (x.act o) ++ (refL rr R' (x.act o) ++ L)) w27) (.pointer (some ⟨bb, 0, none⟩)) (.pointer (some ⟨rr, 0, none⟩)) (.pointer (some ⟨ob, 0, none⟩)) (.slice la o.at_.length lc) (.int .u32 y) w3 := by
    rintro y rfl
    rw [← hml] at h3 ⊢
    refine c16_1 ht ho (by omega) h3 fun w' D' R' h' _g => ?_
    exact ⟨true, rfl, rfl, D', R', h'⟩
  rw [br_dec]
  refine ⟨fun hp => ?_, fun hp => fin _ ?_⟩
  · obtain ⟨y, hy⟩ : ∃ y, (mv x.cum o.at_)[0]? = some y := ⟨(mv x.cum o.at_)[0]'(by omega), by simp⟩
    have hrd := h3.rd 0 rfl
    obtain ⟨ad, hod⟩ := hrd.some (by rw [nV_length]; omega)
    subst hod
    refine ixS_of (by omega) (by omega) ?_
    refine ldI_c (hrd.at (j := 0) (nV_at hy)) (fin _ ?_)
    unfold oneOf; rw [hy]; rfl
  · have : (mv x.cum o.at_)[0]? = none := List.getElem?_eq_none (by omega)
    unfold oneOf; rw [this]; rfl
end
end Go.Proofs.YtccffjlahpfdaaaDoor
