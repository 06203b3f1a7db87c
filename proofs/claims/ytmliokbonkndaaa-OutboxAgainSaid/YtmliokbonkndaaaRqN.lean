/-
  One act, on both boxes.
-/
import Derived.Test.YtmliokbonkndaaaRqM
namespace Go.Proofs.Ytmliokbonkndaaa
open Go Go.Sh
structure Opx where
  kind : Int
  path : Int
  now : Int
  e : En
  da : Option Addr
  dc : Nat
  fwd : Int
  s : R30
  r : Rp
def Opx.R (o : Opx) : R70 := ⟨o.kind, o.path, o.now, o.e.stream, o.e.ssn, o.e.proto, o.e.uno, o.da, o.e.data.length, o.dc, o.e.bg, o.e.en, o.fwd, o.s.f0, o.s.f1, o.s.f2, o.s.f3, o.s.f4, o.s.f5, o.s.f6, o.s.f7, o.s.f8, o.s.f9, o.s.f10a, o.s.f10n, o.s.f10c, o.s.f11a, o.s.f11n, o.s.f11c, o.s.f12a, o.s.f12n, o.s.f12c, o.s.f13a, o.s.f13n, o.s.f13c, o.s.f14a, o.s.f14n, o.s.f14c⟩
structure OpxOk (W : World) (o : Opx) : Prop where
  rd : Rd W o.da (byV o.e.data)
  nil : o.da = none → o.dc = 0
  byt : byOk o.e
  chunk : ChOk W o.s o.r
  fwd : 0 ≤ o.fwd ∧ o.fwd < 4294967296
def Opx.rep (o : Opx) (cum : Int) : Rp := { o.r with tsn := (cum + o.fwd) % 4294967296 }
abbrev St := Int × List En
/-- what an act does: the state, and what it frees -/
def actX (N : Nat) (o : Opx) (x : St) : St × Int :=
  if o.kind = 1 then (if putE (N : Int) o.path o.now o.e x.2.length = 0 then ((x.1, x.2 ++ [o.e.put (nxt x.1 x.2.length) o.path o.now]), 0) else (x, 0))
  else if o.kind = 2 then (if askE (N : Int) o.path o.now = 0 then ((x.1, upd1 mrkB (En.again o.path o.now) x.2), 0) else (x, 0))
  else if o.kind = 3 then (if repE (o.rep x.1) x.1 x.2.length o.now = 0 then (((o.rep x.1).tsn, ((o.rep x.1).l2 x.1 o.now x.2).drop (sd x.1 (o.rep x.1).tsn).toNat), ((o.rep x.1).sums x.1 x.2).1) else (x, 0))
  else if o.kind = 4 then (if 0 ≤ o.path ∧ o.path < (N : Int) then ((x.1, giveUp o.path x.2), 0) else (x, 0))
  else (x, 0)
/-- both boxes, in the same state, behind parts P -/
def BY (W : World) (P L : List HP) (bb rb N : Nat) (x : St) (w : World) : Prop :=
  ∃ a c es a' c' ds, dats es = x.2 ∧ fsts ds = x.2 ∧ Hs W (P ++ (boxL bb N x.1 a c es ++ (refL rb N x.1 a' c' ds ++ L))) w
theorem toR {W w : World} {X B R L : List HP} : Hs W (X ++ (B ++ (R ++ L))) w ↔ Hs W (R ++ ((X ++ B) ++ L)) w := by
  rw [← List.append_assoc]
  exact Hs.flip
section
variable {W w : World} {L M : List HP} {bb rb N : Nat} {x : St} {o : Opx}
theorem op_part {b : Nat} (h : w.heap[b]? = some (.cells o.R.c 71 (0, 0))) : At w ⟨b, 0 + 3, none⟩ (o.e.pt o.da o.dc).l := by
  refine At.off h fun j v hj => ?_
  match j, hj with
  | 0, hj => exact hj
  | 1, hj => exact hj
  | 2, hj => exact hj
  | 3, hj => exact hj
  | 4, hj => exact hj
  | 5, hj => exact hj
  | 6, hj => exact hj
  | j + 7, hj => simp [R40.l] at hj
theorem op_chunk {b : Nat} (h : w.heap[b]? = some (.cells o.R.c 71 (0, 0))) : At w ⟨b, 0 + 11, none⟩ o.s.l := by
  refine At.off h fun j v hj => ?_
  match j, hj with
  | 0, hj => exact hj
  | 1, hj => exact hj
  | 2, hj => exact hj
  | 3, hj => exact hj
  | 4, hj => exact hj
  | 5, hj => exact hj
  | 6, hj => exact hj
  | 7, hj => exact hj
  | 8, hj => exact hj
  | 9, hj => exact hj
  | 10, hj => exact hj
  | 11, hj => exact hj
  | 12, hj => exact hj
  | 13, hj => exact hj
  | 14, hj => exact hj
  | j + 15, hj => simp [R30.l] at hj
theorem BY.dropP {P : List HP} (h : BY W P L bb rb N x w) : BY W [] L bb rb N x w := by
  obtain ⟨a, c, es, a', c', ds, h1, h2, h3⟩ := h
  exact ⟨a, c, es, a', c', ds, h1, h2, Hs.dropL h3⟩
def ActP (W : World) (L : List HP) (bb rb N : Nat) (o : Opx) (x : St) (v : Value) (w' : World) : Prop := ∃ s : R47, v = .tuple #[s.v, .bool true] ∧ s.f1 = (actX N o x).2 ∧ BY W [] L bb rb N (actX N o x).1 w'
abbrev PO (b6 b4 : Nat) (o : Opx) : List HP := [pt b6 (.cells R47.z.c 48 (0, 0)), pt b4 (.cells o.R.c 71 (0, 0))]
theorem act_put {b4 b6 : Nat} (hN8 : 0 < N ∧ N ≤ 8) (ho : OkB N x.1 x.2) (ok : OpxOk W o) (hk : o.kind = 1) (h : BY W (PO b6 b4 o) L bb rb N x w)
    {K : Int → Int → Int → Int → World → Prop} (hK : ∀ c e w', BY W (PO b6 b4 o) L bb rb N (actX N o x).1 w' → K c e c e w') :
    Calls Try.prog 10 #[.pointer (some ⟨bb, 0, none⟩), .int .i64 o.path, (o.e.pt o.da o.dc).v, .int .i64 o.now] w fun e13 w12 => ∃ n14, ∃ n15, e13 = .returned (.tuple #[.int .u32 n14, .int .i64 n15]) ∧ (ldI .i64 ⟨b4, 0 + 1, none⟩ w12 fun n16 => ldR40 ⟨b4, 0 + 3, none⟩ w12 fun s17 => ldI .i64 ⟨b4, 0 + 2, none⟩ w12 fun n18 =>
      Calls Try.prog 41 #[.pointer (some ⟨rb, 0, none⟩), .int .i64 n16, s17.v, .int .i64 n18] w12 fun e20 w19 => ∃ n21, ∃ n22, e20 = .returned (.tuple #[.int .u32 n21, .int .i64 n22]) ∧ K n14 n15 n21 n22 w19) := by
  obtain ⟨a, c, es, a', c', ds, h1, h2, h⟩ := h
  have hes : es.length = x.2.length := by rw [← h1]; simp [dats]
  have hds : ds.length = x.2.length := by rw [← h2]; simp [fsts]
  have hl := ho.len
  have h3 := Hs.flip.1 h
  have hd1 : ∀ e ∈ dats es, e.data.length ≤ 70000 := by rw [h1]; exact ho.size
  have eX : (actX N o x).1 = if putE (N : Int) o.path o.now o.e x.2.length = 0 then (x.1, x.2 ++ [o.e.put (nxt x.1 x.2.length) o.path o.now]) else x := by
    unfold actX
    rw [if_pos hk]
    split <;> rfl
  have second : ∀ {w1 : World} {a1 : Option Addr} {k1 : Nat} {es1 : List (Nat × En)}, Hs W (boxL bb N x.1 a1 k1 es1 ++ (PO b6 b4 o ++ (refL rb N x.1 a' c' ds ++ L))) w1 → ∀ {n14 n15 : Int},
      (∀ (v : Value) (w' : World), (∃ a2 c2 ds2, Hs W (PO b6 b4 o ++ (boxL bb N x.1 a1 k1 es1 ++ (refL rb N x.1 a2 c2 ds2 ++ L))) w' ∧ ((putE (N : Int) o.path o.now o.e x.2.length ≠ 0 ∧ v = .tuple #[.int .u32 0, .int .i64 (putE N o.path o.now o.e x.2.length)] ∧ fsts ds2 = x.2) ∨ (putE (N : Int) o.path o.now o.e x.2.length = 0 ∧ v = .tuple #[.int .u32 (nxt x.1 x.2.length), .int .i64 0] ∧ fsts ds2 = x.2 ++ [o.e.put (nxt x.1 x.2.length) o.path o.now]))) → ∃ n21, ∃ n22, v = .tuple #[.int .u32 n21, .int .i64 n22] ∧ K n14 n15 n21 n22 w') →
      (ldI .i64 ⟨b4, 0 + 1, none⟩ w1 fun n16 => ldR40 ⟨b4, 0 + 3, none⟩ w1 fun s17 => ldI .i64 ⟨b4, 0 + 2, none⟩ w1 fun n18 =>
      Calls Try.prog 41 #[.pointer (some ⟨rb, 0, none⟩), .int .i64 n16, s17.v, .int .i64 n18] w1 fun e20 w19 => ∃ n21, ∃ n22, e20 = .returned (.tuple #[.int .u32 n21, .int .i64 n22]) ∧ K n14 n15 n21 n22 w19) := by
    intro w1 a1 k1 es1 h4 n14 n15 hv
    have g4 : Hs W (PO b6 b4 o ++ (boxL bb N x.1 a1 k1 es1 ++ (refL rb N x.1 a' c' ds ++ L))) w1 := Hs.flip.1 h4
    refine g4.ldI 1 rfl rfl (ldR40_of (s := o.e.pt o.da o.dc) (op_part (g4.at 1 rfl)) (g4.ldI 1 rfl rfl ?_))
    have g5 := toR.1 g4
    refine cl (c41 g5 (by omega) ho.cum (g5.rd_old ok.rd) ok.nil o.path o.now) ?_
    rintro v w2 hq
    have : ∃ n21, ∃ n22, v = .tuple #[.int .u32 n21, .int .i64 n22] ∧ K n14 n15 n21 n22 w2 := by
      refine hv v w2 ?_
      unfold PutQ at hq
      rw [hds] at hq
      rcases hq with ⟨q0, q1, h5⟩ | ⟨q0, q1, a2, c2, y, h5⟩
      · exact ⟨a', c', ds, toR.2 h5, .inl ⟨q0, q1, h2⟩⟩
      · exact ⟨a2, c2, _, toR.2 h5, .inr ⟨q0, q1, by unfold fsts; rw [List.map_append]; unfold fsts at h2; rw [h2]; rfl⟩⟩
    obtain ⟨n21, n22, hv1, hv2⟩ := this
    exact ⟨n21, n22, by rw [hv1], hv2⟩
  refine cl (c10 h3 (by omega) (by omega) hd1 (h3.rd_old ok.rd) o.path o.now) ?_
  rintro _ w1 (⟨h0, rfl, h4⟩ | ⟨h0, rfl, b1, a1, k1, h4⟩)
  · refine ⟨_, _, rfl, second h4 ?_⟩
    rw [hes] at h0 ⊢
    rintro v w2 ⟨a2, c2, ds2, h5, ⟨_, rfl, h6⟩ | ⟨q0, _⟩⟩
    · refine ⟨_, _, rfl, hK _ _ w2 ?_⟩
      rw [eX, if_neg h0]
      exact ⟨_, _, _, _, _, _, h1, h6, h5⟩
    · exact absurd q0 h0
  · refine ⟨_, _, rfl, second h4 ?_⟩
    rw [hes] at h0 ⊢
    rintro v w2 ⟨a2, c2, ds2, h5, ⟨q0, _⟩ | ⟨_, rfl, h6⟩⟩
    · exact absurd h0 q0
    · refine ⟨_, _, rfl, hK _ _ w2 ?_⟩
      rw [eX, if_pos h0]
      exact ⟨_, _, _, _, _, _, by unfold dats; rw [List.map_append]; unfold dats at h1; rw [h1]; rfl, h6, h5⟩
theorem act_timeout {b4 b6 : Nat} (hN8 : 0 < N ∧ N ≤ 8) (ho : OkB N x.1 x.2) (hk : o.kind = 4) (h : BY W (PO b6 b4 o) L bb rb N x w)
    {K : Int → Int → Int → Int → World → Prop} (hK : ∀ c e w', BY W (PO b6 b4 o) L bb rb N (actX N o x).1 w' → K c e c e w') :
    Calls Try.prog 25 #[.pointer (some ⟨bb, 0, none⟩), .int .i64 o.path] w fun e102 w101 => ∃ n103, ∃ n104, e102 = .returned (.tuple #[.int .i64 n103, .int .i64 n104]) ∧ (ldI .i64 ⟨b4, 0 + 1, none⟩ w101 fun n105 =>
      Calls Try.prog 46 #[.pointer (some ⟨rb, 0, none⟩), .int .i64 n105] w101 fun e107 w106 => ∃ n108, ∃ n109, e107 = .returned (.tuple #[.int .i64 n108, .int .i64 n109]) ∧ K n103 n104 n108 n109 w106) := by
  obtain ⟨a, c, es, a', c', ds, h1, h2, h⟩ := h
  have hes : es.length = x.2.length := by rw [← h1]; simp [dats]
  have hds : ds.length = x.2.length := by rw [← h2]; simp [fsts]
  have hl := ho.len
  have h3 := Hs.flip.1 h
  have hd1 : ∀ e ∈ dats es, e.data.length ≤ 70000 := by rw [h1]; exact ho.size
  have hd2 : ∀ e ∈ fsts ds, e.data.length ≤ 70000 := by rw [h2]; exact ho.size
  have eX : (actX N o x).1 = if 0 ≤ o.path ∧ o.path < (N : Int) then (x.1, giveUp o.path x.2) else x := by
    unfold actX
    rw [if_neg (by omega), if_neg (by omega), if_neg (by omega), if_pos hk]
    split <;> rfl
  refine cl (c25 h3 (by omega) (by omega) hd1 o.path) ?_
  rintro _ w1 (⟨h0, rfl, h4⟩ | ⟨h0, es1, he1, rfl, h4⟩)
  · refine ⟨_, _, rfl, ?_⟩
    have g4 : Hs W (PO b6 b4 o ++ (boxL bb N x.1 a c es ++ (refL rb N x.1 a' c' ds ++ L))) w1 := Hs.flip.1 h4
    refine g4.ldI 1 rfl rfl ?_
    refine cl (c46 (toR.1 g4) (by omega) hd2 o.path) ?_
    rintro _ w2 (⟨q0, rfl, h5⟩ | ⟨q0, _⟩)
    · refine ⟨_, _, rfl, hK _ _ w2 ?_⟩
      rw [eX, if_neg h0]
      exact ⟨_, _, _, _, _, _, h1, h2, toR.2 h5⟩
    · exact absurd q0 h0
  · refine ⟨_, _, rfl, ?_⟩
    have g4 : Hs W (PO b6 b4 o ++ (boxL bb N x.1 a c es1 ++ (refL rb N x.1 a' c' ds ++ L))) w1 := Hs.flip.1 h4
    refine g4.ldI 1 rfl rfl ?_
    refine cl (c46 (toR.1 g4) (by omega) hd2 o.path) ?_
    rintro _ w2 (⟨q0, _⟩ | ⟨q0, ds2, hd3, rfl, h5⟩)
    · exact absurd h0 q0
    · refine ⟨_, _, rfl, ?_⟩
      rw [h1, h2]
      refine hK _ _ w2 ?_
      rw [eX, if_pos h0]
      exact ⟨_, _, _, _, _, _, by rw [he1, h1], by rw [hd3, h2], toR.2 h5⟩
theorem z_r : R57.z = En.z.r none 0 := rfl
theorem z_ok : byOk En.z := fun _ h => by cases h
/-- what the document's box answers, and the comparison -/
theorem again_2 {b4 b6 : Nat} {P1 : List HP} {a1 : Option Addr} {k1 : Nat} {e1 : En} {b32 : Bool} {n33 : Int} {a c a' c'} {es1 : List (Nat × En)} {ds : List Dt} (hN8 : 0 < N ∧ N ≤ 8) (ho : OkB N x.1 x.2) (hk : o.kind = 2) (hds2 : fsts ds = x.2)
    (hP1 : ∀ w' Y, Hs W (P1 ++ Y) w' → Rd w' a1 (byV e1.data)) (hb : byOk e1)
    (hcase : (askE (N : Int) o.path o.now ≠ 0 ∧ e1 = En.z ∧ b32 = false ∧ n33 = askE (N : Int) o.path o.now ∧ dats es1 = x.2) ∨ (askE (N : Int) o.path o.now = 0 ∧ x.2.find? mrkB = none ∧ e1 = En.z ∧ b32 = false ∧ n33 = 0 ∧ dats es1 = x.2) ∨ (askE (N : Int) o.path o.now = 0 ∧ ∃ e, x.2.find? mrkB = some e ∧ e1 = e.again o.path o.now ∧ b32 = true ∧ n33 = 0 ∧ dats es1 = upd1 mrkB (En.again o.path o.now) x.2))
    (h : Hs W (P1 ++ (PO b6 b4 o ++ (boxL bb N x.1 a c es1 ++ (refL rb N x.1 a' c' ds ++ L)))) w)
    {K : Bool → Bool → Int → Bool → Int → World → Prop} (hK : ∀ b e w', BY W (PO b6 b4 o) L bb rb N (actX N o x).1 w' → K true b e b e w') :
    alc (.cells ((R57.mk 0 0 0 0 0 false 0 0 0 0 false none 0 0 false false)).c 58) w fun b34 w35 =>
    stcL (Addr.mk b34 0 none) 0 (e1.r a1 k1).l w35 fun w36 =>
    ldI .i64 ⟨b4, 0 + 1, none⟩ w36 fun n37 =>
    ldI .i64 ⟨b4, 0 + 2, none⟩ w36 fun n38 =>
    Calls Try.prog 42 #[.pointer (some ⟨rb, 0, none⟩), .int .i64 n37, .int .i64 n38] w36 fun e40 w39 =>
    exR57 fun s41 => ∃ b42, ∃ n43, e40 = .returned (.tuple #[s41.v, .bool b42, .int .i64 n43]) ∧ (alc (.cells ((R57.mk 0 0 0 0 0 false 0 0 0 0 false none 0 0 false false)).c 58) w39 fun b44 w45 =>
    stcL (Addr.mk b44 0 none) 0 s41.l w45 fun w46 =>
    ldR57 (Addr.mk b34 0 none) w46 fun s47 =>
    ldR57 (Addr.mk b44 0 none) w46 fun s48 =>
    Calls Try.prog 43 #[s47.v, s48.v] w46 fun e50 w49 => ∃ b51, e50 = .returned (.bool b51) ∧ K b51 b32 n33 b42 n43 w49) := by
  have hds : ds.length = x.2.length := by rw [← hds2]; simp [fsts]
  have hl := ho.len
  have eX : (actX N o x).1 = if askE (N : Int) o.path o.now = 0 then (x.1, upd1 mrkB (En.again o.path o.now) x.2) else x := by
    unfold actX
    rw [if_neg (by omega), if_pos hk]
    split <;> rfl
  refine h.alc fun b34 w1 h1 => h1.stcL 0 rfl rfl fun w2 h2 => ?_
  have h2 : Hs W ((pt b34 (.cells (e1.r a1 k1).c 58 (0, 0)) :: P1) ++ (PO b6 b4 o ++ (boxL bb N x.1 a c es1 ++ (refL rb N x.1 a' c' ds ++ L)))) w2 := h2
  have g2 : Hs W (PO b6 b4 o ++ ((pt b34 (.cells (e1.r a1 k1).c 58 (0, 0)) :: P1) ++ (boxL bb N x.1 a c es1 ++ (refL rb N x.1 a' c' ds ++ L)))) w2 := Hs.flip.1 h2
  refine g2.ldI 1 rfl rfl (g2.ldI 1 rfl rfl ?_)
  obtain ⟨Z, hZ⟩ : ∃ Z, Z = PO b6 b4 o ++ ((pt b34 (.cells (e1.r a1 k1).c 58 (0, 0)) :: P1) ++ boxL bb N x.1 a c es1) := ⟨_, rfl⟩
  have g3 : Hs W (Z ++ (refL rb N x.1 a' c' ds ++ L)) w2 := by rw [hZ]; exact g2.cast (by simp)
  have g4 := Hs.flip.1 g3
  refine cl (c42 g4 (by omega) o.path o.now) ?_
  rintro v w3 hq
  -- the second copy
  have fin : ∀ (s41 : R57) (b42 : Bool) (n43 : Int) (a2 : Option Addr) (k2 : Nat) (a'' : Option Addr) (c'' : Nat) (ds2 : List Dt), v = .tuple #[s41.v, .bool b42, .int .i64 n43] → s41 = e1.r a2 k2 → b42 = b32 → n43 = n33 → (∀ w', Hs W (refL rb N x.1 a'' c'' ds2 ++ (Z ++ L)) w' → Rd w' a2 (byV e1.data)) → Hs W (refL rb N x.1 a'' c'' ds2 ++ (Z ++ L)) w3 → dats es1 = (actX N o x).1.2 → fsts ds2 = (actX N o x).1.2 → x.1 = (actX N o x).1.1 → 
      exR57 fun s41 => ∃ b42, ∃ n43, Ending.returned v = .returned (.tuple #[s41.v, .bool b42, .int .i64 n43]) ∧ (alc (.cells ((R57.mk 0 0 0 0 0 false 0 0 0 0 false none 0 0 false false)).c 58) w3 fun b44 w45 =>
    stcL (Addr.mk b44 0 none) 0 s41.l w45 fun w46 =>
    ldR57 (Addr.mk b34 0 none) w46 fun s47 =>
    ldR57 (Addr.mk b44 0 none) w46 fun s48 =>
    Calls Try.prog 43 #[s47.v, s48.v] w46 fun e50 w49 => ∃ b51, e50 = .returned (.bool b51) ∧ K b51 b32 n33 b42 n43 w49) := by
    intro s41 b42 n43 a2 k2 a'' c'' ds2 hv hs hb1 hn hr h5 hd1 hd2 hx1
    subst hv; subst hs; subst hb1; subst hn
    refine exR57_of (e1.r a2 k2) ⟨_, _, rfl, ?_⟩
    refine h5.alc fun b44 w4 h6 => h6.stcL 0 rfl rfl fun w5 h7 => ?_
    have h7 : Hs W ([pt b44 (.cells (e1.r a2 k2).c 58 (0, 0))] ++ (refL rb N x.1 a'' c'' ds2 ++ (Z ++ L))) w5 := h7
    have h7' : Hs W (refL rb N x.1 a'' c'' ds2 ++ (Z ++ L)) w5 := h7.drop
    have h8 := Hs.flip.1 h7'
    have h9 : Hs W (PO b6 b4 o ++ ((pt b34 (.cells (e1.r a1 k1).c 58 (0, 0)) :: P1) ++ (boxL bb N x.1 a c es1 ++ (refL rb N x.1 a'' c'' ds2 ++ L)))) w5 := by rw [hZ] at h8; exact h8.cast (by simp)
    refine ldR57_of (s := e1.r a1 k1) (h9.atL 2 rfl) (ldR57_of (s := e1.r a2 k2) (h7.atL 0 rfl) ?_)
    have r1 := hP1 w5 _ ((Hs.flip.1 h9).drop)
    refine cl (c43 r1 (hr w5 h7.drop) hb) ?_
    rintro _ w6 ⟨rfl, s6⟩
    refine ⟨_, rfl, hK _ _ w6 ?_⟩
    have h10 : Hs W (PO b6 b4 o ++ (boxL bb N x.1 a c es1 ++ (refL rb N x.1 a'' c'' ds2 ++ L))) w6 := Hs.dropL (Hs.flip.1 (h9.same s6))
    rw [hx1] at h10
    exact ⟨a, c, es1, a'', c'', ds2, hd1, hd2, h10⟩
  rcases hcase with ⟨q0, rfl, rfl, rfl, hd⟩ | ⟨q0, qn, rfl, rfl, rfl, hd⟩ | ⟨q0, e, qs, rfl, rfl, rfl, hd⟩
  · rcases hq with ⟨_, hv, h5⟩ | ⟨p0, _⟩ | ⟨p0, _⟩
    · exact fin _ _ _ none 0 _ _ _ hv z_r rfl rfl (fun _ _ => Rd.nil _ _) h5 (by rw [eX, if_neg q0]; exact hd) (by rw [eX, if_neg q0]; exact hds2) (by rw [eX, if_neg q0])
    · exact absurd p0 q0
    · exact absurd p0 q0
  · have u := upd1_none (f := En.again o.path o.now) qn
    rcases hq with ⟨p0, _⟩ | ⟨_, _, hv, h5⟩ | ⟨_, e, _, _, p1, _⟩
    · exact absurd q0 p0
    · exact fin _ _ _ none 0 _ _ _ hv z_r rfl rfl (fun _ _ => Rd.nil _ _) h5 (by rw [eX, if_pos q0]; exact hd.trans u.symm) (by rw [eX, if_pos q0]; exact hds2.trans u.symm) (by rw [eX, if_pos q0])
    · rw [hds2, qn] at p1; cases p1
  · rcases hq with ⟨p0, _⟩ | ⟨_, p1, _⟩ | ⟨_, e', ds2, d', p1, p2, p3, p4, hv, h5⟩
    · exact absurd q0 p0
    · rw [hds2, qs] at p1; cases p1
    · rw [hds2, qs] at p1
      cases p1
      exact fin _ _ _ d'.2.1 d'.2.2 _ _ ds2 hv (by rw [p4]) rfl rfl (fun w' hw => by have := (ref_rq hw).dat d' p3; rw [p4] at this; exact this) h5 (by rw [eX, if_pos q0]; exact hd) (by rw [eX, if_pos q0, p2, hds2]) (by rw [eX, if_pos q0])
/-- sent again: the two copies are alike -/
theorem act_again {b4 b6 : Nat} (hN8 : 0 < N ∧ N ≤ 8) (ho : OkB N x.1 x.2) (hk : o.kind = 2) (h : BY W (PO b6 b4 o) L bb rb N x w)
    {K : Bool → Bool → Int → Bool → Int → World → Prop} (hK : ∀ b e w', BY W (PO b6 b4 o) L bb rb N (actX N o x).1 w' → K true b e b e w') :
    Calls Try.prog 24 #[.pointer (some ⟨bb, 0, none⟩), .int .i64 o.path, .int .i64 o.now] w fun e30 w29 =>
    exR57 fun s31 => ∃ b32, ∃ n33, e30 = .returned (.tuple #[s31.v, .bool b32, .int .i64 n33]) ∧ (alc (.cells ((R57.mk 0 0 0 0 0 false 0 0 0 0 false none 0 0 false false)).c 58) w29 fun b34 w35 =>
    stcL (Addr.mk b34 0 none) 0 s31.l w35 fun w36 =>
    ldI .i64 ⟨b4, 0 + 1, none⟩ w36 fun n37 =>
    ldI .i64 ⟨b4, 0 + 2, none⟩ w36 fun n38 =>
    Calls Try.prog 42 #[.pointer (some ⟨rb, 0, none⟩), .int .i64 n37, .int .i64 n38] w36 fun e40 w39 =>
    exR57 fun s41 => ∃ b42, ∃ n43, e40 = .returned (.tuple #[s41.v, .bool b42, .int .i64 n43]) ∧ (alc (.cells ((R57.mk 0 0 0 0 0 false 0 0 0 0 false none 0 0 false false)).c 58) w39 fun b44 w45 =>
    stcL (Addr.mk b44 0 none) 0 s41.l w45 fun w46 =>
    ldR57 (Addr.mk b34 0 none) w46 fun s47 =>
    ldR57 (Addr.mk b44 0 none) w46 fun s48 =>
    Calls Try.prog 43 #[s47.v, s48.v] w46 fun e50 w49 => ∃ b51, e50 = .returned (.bool b51) ∧ K b51 b32 n33 b42 n43 w49)) := by
  obtain ⟨a, c, es, a', c', ds, h1, h2, h⟩ := h
  have hes : es.length = x.2.length := by rw [← h1]; simp [dats]
  have hds : ds.length = x.2.length := by rw [← h2]; simp [fsts]
  have hl := ho.len
  have h3 := Hs.flip.1 h
  have hd1 : ∀ e ∈ dats es, e.data.length ≤ 70000 := by rw [h1]; exact ho.size
  have eX : (actX N o x).1 = if askE (N : Int) o.path o.now = 0 then (x.1, upd1 mrkB (En.again o.path o.now) x.2) else x := by
    unfold actX
    rw [if_neg (by omega), if_pos hk]
    split <;> rfl
  refine cl (c24 h3 (by omega) (by omega) hd1 o.path o.now) ?_
  rintro _ w1 (⟨h0, rfl, h4⟩ | ⟨h0, hn, rfl, h4⟩ | ⟨h0, e, es1, da, dc, hf, hu, rfl, h4⟩)
  · refine exR57_of (En.z.r none 0) ⟨_, _, rfl, ?_⟩
    exact again_2 (P1 := []) hN8 ho hk h2 (fun _ _ _ => Rd.nil _ _) z_ok (.inl ⟨h0, rfl, rfl, rfl, h1⟩) (show Hs W (PO b6 b4 o ++ (boxL bb N x.1 a c es ++ (refL rb N x.1 a' c' ds ++ L))) w1 from Hs.flip.1 h4) hK
  · refine exR57_of (En.z.r none 0) ⟨_, _, rfl, ?_⟩
    exact again_2 (P1 := []) hN8 ho hk h2 (fun _ _ _ => Rd.nil _ _) z_ok (.inr (.inl ⟨h0, by rw [← h1]; exact hn, rfl, rfl, rfl, h1⟩)) (show Hs W (PO b6 b4 o ++ (boxL bb N x.1 a c es ++ (refL rb N x.1 a' c' ds ++ L))) w1 from Hs.flip.1 h4) hK
  · refine exR57_of ((e.again o.path o.now).r da dc) ⟨_, _, rfl, ?_⟩
    have hm : e ∈ x.2 := by rw [← h1]; exact List.mem_of_find?_eq_some hf
    have h5 : Hs W ([slP 5 1 da e.data.length dc (byV e.data)] ++ (boxL bb N x.1 a c es1 ++ (PO b6 b4 o ++ (refL rb N x.1 a' c' ds ++ L)))) w1 := h4
    have h6 : Hs W ([slP 5 1 da e.data.length dc (byV e.data)] ++ (PO b6 b4 o ++ (boxL bb N x.1 a c es1 ++ (refL rb N x.1 a' c' ds ++ L)))) w1 := h5.perm (List.Perm.append_left _ (List.perm_append_comm_assoc _ _ _))
    have hb : byOk (e.again o.path o.now) := ho.byt e hm
    have hP : ∀ w' Y, Hs W ([slP 5 1 da e.data.length dc (byV e.data)] ++ Y) w' → Rd w' da (byV (e.again o.path o.now).data) := fun w' Y hw => (show Rd w' da (byV e.data) from hw.rd 0 rfl)
    exact again_2 (P1 := [slP 5 1 da e.data.length dc (byV e.data)]) (e1 := e.again o.path o.now) (a1 := da) (k1 := dc) hN8 ho hk h2 hP hb (.inr (.inr ⟨h0, e, by rw [← h1]; exact hf, rfl, rfl, rfl, by rw [hu, h1]⟩)) h6 hK
end
end Go.Proofs.Ytmliokbonkndaaa
