/- Own text: part of the shallow reading of the code and of the contracts that are proved over it. -/
import Derived.Test.YtilenpnpnbdndaaGreatDoorRtJ
namespace Go.Proofs.YtilenpnpnbdndaaGreatDoor
open Go Go.Sh
set_option maxRecDepth 100000
theorem Deq.of {R1 R2 : R26} {d1 d2 : List UInt8} (hd : d1 = d2) (e0 : R1.f0 = R2.f0) (e1 : R1.f1 = R2.f1) (e2 : R1.f2 = R2.f2) (e3 : R1.f3 = R2.f3) (e4 : R1.f4 = R2.f4) (e5 : R1.f5 = R2.f5) (e6 : R1.f6 = R2.f6) (e7 : R1.f7 = R2.f7) (e8 : R1.f8 = R2.f8) (e9 : R1.f9 = R2.f9) (e11 : R1.f11 = R2.f11) : Deq R1 d1 R2 d2 :=
 sameB_iff.1 (by simp [sameB,hd,e0,e1,e2,e3,e4,e5,e6,e7,e8,e9,e11])
theorem kind_of {t : Vb} {s : ByteArray} {R : R26} {d : List UInt8} (h : IsDeedT t s R d) : kindOf (wAt (words s) 0) = t.1 := by
 have e : wAt (words s) 0 = t.2.1 := by rw [wAt_eq h.words]; rfl
 unfold kindOf
 rw [e]
 cases hf : vtab.find? (fun x => decide (x.2.1 = t.2.1)) with
 | none =>
  have := List.find?_eq_none.1 hf t h.mem
  simp at this
 | some t' =>
  have h1 : t'.2.1 = t.2.1 := of_decide_eq_true (List.find?_some (p := fun x : Vb => decide (x.2.1 = t.2.1)) hf)
  have h2 := vtab_names t' (List.mem_of_find?_eq_some hf) t h.mem h1
  rw [h2]
  rfl
theorem aw1 {t : Vb} {s : ByteArray} {R : R26} {d : List UInt8} (h : IsDeedT t s R d) (hk : t.2.2.contains 69 = false) : R.f1 = 0 := by
 have ha : some (Value.int .i64 R.f1) = some (Value.int .i64 0) := h.away 1 (by decide) (by decide) fun hf => by
  have hx : t.2.2.contains 69 = true := (hasFoot_iff h.mem 1 (by decide)).1 hf
  rw [hk] at hx
  cases hx
 injection ha with ha
 injection ha
theorem nu1 {t : Vb} {s : ByteArray} {R : R26} {d : List UInt8} {ws : List ByteArray} {i : Nat} (h : IsDeedT t s R d) (hi : partIt 69 ∈ itemsOf t) (hg : wAt ws i = bs (Lib.decDigits R.f1.toNat)) : R.f1 = nAt ws i := by
 have ho : 0 <= R.f1 /\ R.f1 <= _ := h.ok _ hi
 have e : R.f1 = nAt ws i := by
  unfold nAt
  rw [hg]
  show R.f1 = ((valS (bs (Lib.decDigits R.f1.toNat)) % 4398046511104 : Nat) : Int)
  rw [valS_dec (by omega)]
  omega
 exact e
theorem aw2 {t : Vb} {s : ByteArray} {R : R26} {d : List UInt8} (h : IsDeedT t s R d) (hk : t.2.2.contains 70 = false) : R.f2 = 0 := by
 have ha : some (Value.int .i64 R.f2) = some (Value.int .i64 0) := h.away 2 (by decide) (by decide) fun hf => by
  have hx : t.2.2.contains 70 = true := (hasFoot_iff h.mem 2 (by decide)).1 hf
  rw [hk] at hx
  cases hx
 injection ha with ha
 injection ha
theorem nu2 {t : Vb} {s : ByteArray} {R : R26} {d : List UInt8} {ws : List ByteArray} {i : Nat} (h : IsDeedT t s R d) (hi : partIt 70 ∈ itemsOf t) (hg : wAt ws i = bs (Lib.decDigits R.f2.toNat)) : R.f2 = nAt ws i := by
 have ho : 0 <= R.f2 /\ R.f2 <= _ := h.ok _ hi
 have e : R.f2 = nAt ws i := by
  unfold nAt
  rw [hg]
  show R.f2 = ((valS (bs (Lib.decDigits R.f2.toNat)) % 4398046511104 : Nat) : Int)
  rw [valS_dec (by omega)]
  omega
 exact e
theorem aw3 {t : Vb} {s : ByteArray} {R : R26} {d : List UInt8} (h : IsDeedT t s R d) (hk : t.2.2.contains 71 = false) : R.f3 = 0 := by
 have ha : some (Value.int .i64 R.f3) = some (Value.int .i64 0) := h.away 3 (by decide) (by decide) fun hf => by
  have hx : t.2.2.contains 71 = true := (hasFoot_iff h.mem 3 (by decide)).1 hf
  rw [hk] at hx
  cases hx
 injection ha with ha
 injection ha
theorem nu3 {t : Vb} {s : ByteArray} {R : R26} {d : List UInt8} {ws : List ByteArray} {i : Nat} (h : IsDeedT t s R d) (hi : partIt 71 ∈ itemsOf t) (hg : wAt ws i = bs (Lib.decDigits R.f3.toNat)) : R.f3 = nAt ws i := by
 have ho : 0 <= R.f3 /\ R.f3 <= _ := h.ok _ hi
 have e : R.f3 = nAt ws i := by
  unfold nAt
  rw [hg]
  show R.f3 = ((valS (bs (Lib.decDigits R.f3.toNat)) % 4398046511104 : Nat) : Int)
  rw [valS_dec (by omega)]
  omega
 exact e
theorem aw4 {t : Vb} {s : ByteArray} {R : R26} {d : List UInt8} (h : IsDeedT t s R d) (hk : t.2.2.contains 79 = false) : R.f4 = 0 := by
 have ha : some (Value.int .i64 R.f4) = some (Value.int .i64 0) := h.away 4 (by decide) (by decide) fun hf => by
  have hx : t.2.2.contains 79 = true := (hasFoot_iff h.mem 4 (by decide)).1 hf
  rw [hk] at hx
  cases hx
 injection ha with ha
 injection ha
theorem nu4 {t : Vb} {s : ByteArray} {R : R26} {d : List UInt8} {ws : List ByteArray} {i : Nat} (h : IsDeedT t s R d) (hi : partIt 79 ∈ itemsOf t) (hg : wAt ws i = bs (Lib.decDigits R.f4.toNat)) : R.f4 = nAt ws i := by
 have ho : 0 <= R.f4 /\ R.f4 <= _ := h.ok _ hi
 have e : R.f4 = nAt ws i := by
  unfold nAt
  rw [hg]
  show R.f4 = ((valS (bs (Lib.decDigits R.f4.toNat)) % 4398046511104 : Nat) : Int)
  rw [valS_dec (by omega)]
  omega
 exact e
theorem aw5 {t : Vb} {s : ByteArray} {R : R26} {d : List UInt8} (h : IsDeedT t s R d) (hk : t.2.2.contains 80 = false) : R.f5 = 0 := by
 have ha : some (Value.int .u8 R.f5) = some (Value.int .u8 0) := h.away 5 (by decide) (by decide) fun hf => by
  have hx : t.2.2.contains 80 = true := (hasFoot_iff h.mem 5 (by decide)).1 hf
  rw [hk] at hx
  cases hx
 injection ha with ha
 injection ha
theorem nu5 {t : Vb} {s : ByteArray} {R : R26} {d : List UInt8} {ws : List ByteArray} {i : Nat} (h : IsDeedT t s R d) (hi : partIt 80 ∈ itemsOf t) (hg : wAt ws i = bs (Lib.decDigits R.f5.toNat)) : R.f5 = IntKind.wrap .u8 (nAt ws i) := by
 have ho : 0 <= R.f5 /\ R.f5 <= _ := h.ok _ hi
 have e : R.f5 = nAt ws i := by
  unfold nAt
  rw [hg]
  show R.f5 = ((valS (bs (Lib.decDigits R.f5.toNat)) % 4398046511104 : Nat) : Int)
  rw [valS_dec (by omega)]
  omega
 have ho : 0 <= R.f5 /\ R.f5 <= 255 := ho
 rw [← e,IntKind.wrap_u8]
 omega
theorem aw6 {t : Vb} {s : ByteArray} {R : R26} {d : List UInt8} (h : IsDeedT t s R d) (hk : t.2.2.contains 77 = false) : R.f6 = 0 := by
 have ha : some (Value.int .i64 R.f6) = some (Value.int .i64 0) := h.away 6 (by decide) (by decide) fun hf => by
  have hx : t.2.2.contains 77 = true := (hasFoot_iff h.mem 6 (by decide)).1 hf
  rw [hk] at hx
  cases hx
 injection ha with ha
 injection ha
theorem nu6 {t : Vb} {s : ByteArray} {R : R26} {d : List UInt8} {ws : List ByteArray} {i : Nat} (h : IsDeedT t s R d) (hi : partIt 77 ∈ itemsOf t) (hg : wAt ws i = bs (Lib.decDigits R.f6.toNat)) : R.f6 = nAt ws i := by
 have ho : 0 <= R.f6 /\ R.f6 <= _ := h.ok _ hi
 have e : R.f6 = nAt ws i := by
  unfold nAt
  rw [hg]
  show R.f6 = ((valS (bs (Lib.decDigits R.f6.toNat)) % 4398046511104 : Nat) : Int)
  rw [valS_dec (by omega)]
  omega
 exact e
theorem aw7 {t : Vb} {s : ByteArray} {R : R26} {d : List UInt8} (h : IsDeedT t s R d) (hk : t.2.2.contains 72 = false) : R.f7 = 0 := by
 have ha : some (Value.int .u16 R.f7) = some (Value.int .u16 0) := h.away 7 (by decide) (by decide) fun hf => by
  have hx : t.2.2.contains 72 = true := (hasFoot_iff h.mem 7 (by decide)).1 hf
  rw [hk] at hx
  cases hx
 injection ha with ha
 injection ha
theorem nu7 {t : Vb} {s : ByteArray} {R : R26} {d : List UInt8} {ws : List ByteArray} {i : Nat} (h : IsDeedT t s R d) (hi : partIt 72 ∈ itemsOf t) (hg : wAt ws i = bs (Lib.decDigits R.f7.toNat)) : R.f7 = IntKind.wrap .u16 (nAt ws i) := by
 have ho : 0 <= R.f7 /\ R.f7 <= _ := h.ok _ hi
 have e : R.f7 = nAt ws i := by
  unfold nAt
  rw [hg]
  show R.f7 = ((valS (bs (Lib.decDigits R.f7.toNat)) % 4398046511104 : Nat) : Int)
  rw [valS_dec (by omega)]
  omega
 have ho : 0 <= R.f7 /\ R.f7 <= 65535 := ho
 rw [← e,IntKind.wrap_u16]
 omega
theorem aw8 {t : Vb} {s : ByteArray} {R : R26} {d : List UInt8} (h : IsDeedT t s R d) (hk : t.2.2.contains 73 = false) : R.f8 = 0 := by
 have ha : some (Value.int .u32 R.f8) = some (Value.int .u32 0) := h.away 8 (by decide) (by decide) fun hf => by
  have hx : t.2.2.contains 73 = true := (hasFoot_iff h.mem 8 (by decide)).1 hf
  rw [hk] at hx
  cases hx
 injection ha with ha
 injection ha
theorem nu8 {t : Vb} {s : ByteArray} {R : R26} {d : List UInt8} {ws : List ByteArray} {i : Nat} (h : IsDeedT t s R d) (hi : partIt 73 ∈ itemsOf t) (hg : wAt ws i = bs (Lib.decDigits R.f8.toNat)) : R.f8 = IntKind.wrap .u32 (nAt ws i) := by
 have ho : 0 <= R.f8 /\ R.f8 <= _ := h.ok _ hi
 have e : R.f8 = nAt ws i := by
  unfold nAt
  rw [hg]
  show R.f8 = ((valS (bs (Lib.decDigits R.f8.toNat)) % 4398046511104 : Nat) : Int)
  rw [valS_dec (by omega)]
  omega
 have ho : 0 <= R.f8 /\ R.f8 <= 4294967295 := ho
 rw [← e,IntKind.wrap_u32]
 omega
theorem aw9 {t : Vb} {s : ByteArray} {R : R26} {d : List UInt8} (h : IsDeedT t s R d) (hk : t.2.2.contains 74 = false) : R.f9 = false := by
 have ha : some (Value.bool R.f9) = some (Value.bool false) := h.away 9 (by decide) (by decide) fun hf => by
  have hx : t.2.2.contains 74 = true := (hasFoot_iff h.mem 9 (by decide)).1 hf
  rw [hk] at hx
  cases hx
 injection ha with ha
 injection ha
theorem aw11 {t : Vb} {s : ByteArray} {R : R26} {d : List UInt8} (h : IsDeedT t s R d) (hk : t.2.2.contains 76 = false) : R.f11 = ⟨#[]⟩ := by
 have ha : some (Value.string R.f11) = some (Value.string ⟨#[]⟩) := h.away 11 (by decide) (by decide) fun hf => by
  have hx : t.2.2.contains 76 = true := (hasFoot_iff h.mem 11 (by decide)).1 hf
  rw [hk] at hx
  cases hx
 injection ha with ha
 injection ha
theorem fl9 {R : R26} {ws : List ByteArray} {i : Nat} (hg : wAt ws i = if R.f9 = true then (⟨#[117]⟩ : ByteArray) else ⟨#[111]⟩) : R.f9 = decide (wAt ws i = ⟨#[117]⟩) := by
 rw [hg]
 cases R.f9 <;> decide
theorem wy11 {R : R26} {ws : List ByteArray} {i : Nat} (hg : wAt ws i = bs (hexW (bl R.f11))) : R.f11 = bs (unhex (bl (wAt ws i))) := by
 rw [hg,bl_bs,unhex_hexW,bs_bl]
theorem dt_w {d : List UInt8} {ws : List ByteArray} {i : Nat} (hg : wAt ws i = bs (hexW d)) : d = unhex (bl (wAt ws i)) := by
 rw [hg,bl_bs,unhex_hexW]
theorem dt_0 {t : Vb} {s : ByteArray} {R : R26} {d : List UInt8} (h : IsDeedT t s R d) (hk : t.2.2.contains 75 = false) : d = [] := h.data fun hf => by
 have hx : t.2.2.contains 75 = true := (hasFoot_iff h.mem 1000000 (by decide)).1 hf
 rw [hk] at hx
 cases hx
theorem loose1 {s : ByteArray} {R : R26} {d : List UInt8} {ws : List ByteArray} (hws : ws = words s) (h : IsDeedT ((1,⟨#[111,112,101,110]⟩,[69]) : Vb) s R d) : Deq R d (R26.mk 1 (nAt ws 1) 0 0 0 0 0 0 0 false none 0 0 ⟨#[]⟩) [] :=
 have hw : ws = _ := hws.trans h.words
 Deq.of (dt_0 h rfl) h.kind (nu1 h (by simp [itemsOf]) (wAt_eq hw 1)) (aw2 h rfl) (aw3 h rfl) (aw4 h rfl) (aw5 h rfl) (aw6 h rfl) (aw7 h rfl) (aw8 h rfl) (aw9 h rfl) (aw11 h rfl)
theorem loose2 {s : ByteArray} {R : R26} {d : List UInt8} {ws : List ByteArray} {a : Option Addr} {n c : Nat} (hws : ws = words s) (h : IsDeedT ((2,⟨#[115,101,110,100]⟩,[69,72,73,74,75]) : Vb) s R d) : Deq R d (R26.mk 2 (nAt ws 1) 0 0 0 0 0 (IntKind.wrap .u16 (nAt ws 2)) (IntKind.wrap .u32 (nAt ws 3)) (decide (wAt ws 4 = ⟨#[117]⟩)) a n c ⟨#[]⟩) (unhex (bl (wAt ws 5))) :=
 have hw : ws = _ := hws.trans h.words
 Deq.of (dt_w (wAt_eq hw 5)) h.kind (nu1 h (by simp [itemsOf]) (wAt_eq hw 1)) (aw2 h rfl) (aw3 h rfl) (aw4 h rfl) (aw5 h rfl) (aw6 h rfl) (nu7 h (by simp [itemsOf]) (wAt_eq hw 2)) (nu8 h (by simp [itemsOf]) (wAt_eq hw 3)) (fl9 (wAt_eq hw 4)) (aw11 h rfl)
theorem loose3 {s : ByteArray} {R : R26} {d : List UInt8} {ws : List ByteArray} (hws : ws = words s) (h : IsDeedT ((3,⟨#[114,101,99,101,105,118,101]⟩,[69]) : Vb) s R d) : Deq R d (R26.mk 3 (nAt ws 1) 0 0 0 0 0 0 0 false none 0 0 ⟨#[]⟩) [] :=
 have hw : ws = _ := hws.trans h.words
 Deq.of (dt_0 h rfl) h.kind (nu1 h (by simp [itemsOf]) (wAt_eq hw 1)) (aw2 h rfl) (aw3 h rfl) (aw4 h rfl) (aw5 h rfl) (aw6 h rfl) (aw7 h rfl) (aw8 h rfl) (aw9 h rfl) (aw11 h rfl)
theorem loose4 {s : ByteArray} {R : R26} {d : List UInt8} {ws : List ByteArray} (hws : ws = words s) (h : IsDeedT ((4,⟨#[115,104,117,116,100,111,119,110]⟩,[69]) : Vb) s R d) : Deq R d (R26.mk 4 (nAt ws 1) 0 0 0 0 0 0 0 false none 0 0 ⟨#[]⟩) [] :=
 have hw : ws = _ := hws.trans h.words
 Deq.of (dt_0 h rfl) h.kind (nu1 h (by simp [itemsOf]) (wAt_eq hw 1)) (aw2 h rfl) (aw3 h rfl) (aw4 h rfl) (aw5 h rfl) (aw6 h rfl) (aw7 h rfl) (aw8 h rfl) (aw9 h rfl) (aw11 h rfl)
theorem loose5 {s : ByteArray} {R : R26} {d : List UInt8} {ws : List ByteArray} (hws : ws = words s) (h : IsDeedT ((5,⟨#[97,98,111,114,116]⟩,[69,76]) : Vb) s R d) : Deq R d (R26.mk 5 (nAt ws 1) 0 0 0 0 0 0 0 false none 0 0 (bs (unhex (bl (wAt ws 2))))) [] :=
 have hw : ws = _ := hws.trans h.words
 Deq.of (dt_0 h rfl) h.kind (nu1 h (by simp [itemsOf]) (wAt_eq hw 1)) (aw2 h rfl) (aw3 h rfl) (aw4 h rfl) (aw5 h rfl) (aw6 h rfl) (aw7 h rfl) (aw8 h rfl) (aw9 h rfl) (wy11 (wAt_eq hw 2))
theorem loose6 {s : ByteArray} {R : R26} {d : List UInt8} {ws : List ByteArray} (hws : ws = words s) (h : IsDeedT ((6,⟨#[116,105,99,107]⟩,[69]) : Vb) s R d) : Deq R d (R26.mk 6 (nAt ws 1) 0 0 0 0 0 0 0 false none 0 0 ⟨#[]⟩) [] :=
 have hw : ws = _ := hws.trans h.words
 Deq.of (dt_0 h rfl) h.kind (nu1 h (by simp [itemsOf]) (wAt_eq hw 1)) (aw2 h rfl) (aw3 h rfl) (aw4 h rfl) (aw5 h rfl) (aw6 h rfl) (aw7 h rfl) (aw8 h rfl) (aw9 h rfl) (aw11 h rfl)
theorem loose7 {s : ByteArray} {R : R26} {d : List UInt8} {ws : List ByteArray} (hws : ws = words s) (h : IsDeedT ((7,⟨#[99,108,111,99,107]⟩,[77]) : Vb) s R d) : Deq R d (R26.mk 7 0 0 0 0 0 (nAt ws 1) 0 0 false none 0 0 ⟨#[]⟩) [] :=
 have hw : ws = _ := hws.trans h.words
 Deq.of (dt_0 h rfl) h.kind (aw1 h rfl) (aw2 h rfl) (aw3 h rfl) (aw4 h rfl) (aw5 h rfl) (nu6 h (by simp [itemsOf]) (wAt_eq hw 1)) (aw7 h rfl) (aw8 h rfl) (aw9 h rfl) (aw11 h rfl)
theorem loose8 {s : ByteArray} {R : R26} {d : List UInt8} {ws : List ByteArray} (hws : ws = words s) (h : IsDeedT ((8,⟨#[100,101,108,105,118,101,114]⟩,[69,70,71]) : Vb) s R d) : Deq R d (R26.mk 8 (nAt ws 1) (nAt ws 2) (nAt ws 3) 0 0 0 0 0 false none 0 0 ⟨#[]⟩) [] :=
 have hw : ws = _ := hws.trans h.words
 Deq.of (dt_0 h rfl) h.kind (nu1 h (by simp [itemsOf]) (wAt_eq hw 1)) (nu2 h (by simp [itemsOf]) (wAt_eq hw 2)) (nu3 h (by simp [itemsOf]) (wAt_eq hw 3)) (aw4 h rfl) (aw5 h rfl) (aw6 h rfl) (aw7 h rfl) (aw8 h rfl) (aw9 h rfl) (aw11 h rfl)
theorem loose9 {s : ByteArray} {R : R26} {d : List UInt8} {ws : List ByteArray} (hws : ws = words s) (h : IsDeedT ((9,⟨#[100,114,111,112]⟩,[69,70,71]) : Vb) s R d) : Deq R d (R26.mk 9 (nAt ws 1) (nAt ws 2) (nAt ws 3) 0 0 0 0 0 false none 0 0 ⟨#[]⟩) [] :=
 have hw : ws = _ := hws.trans h.words
 Deq.of (dt_0 h rfl) h.kind (nu1 h (by simp [itemsOf]) (wAt_eq hw 1)) (nu2 h (by simp [itemsOf]) (wAt_eq hw 2)) (nu3 h (by simp [itemsOf]) (wAt_eq hw 3)) (aw4 h rfl) (aw5 h rfl) (aw6 h rfl) (aw7 h rfl) (aw8 h rfl) (aw9 h rfl) (aw11 h rfl)
theorem loose10 {s : ByteArray} {R : R26} {d : List UInt8} {ws : List ByteArray} (hws : ws = words s) (h : IsDeedT ((10,⟨#[116,119,105,99,101]⟩,[69,70,71]) : Vb) s R d) : Deq R d (R26.mk 10 (nAt ws 1) (nAt ws 2) (nAt ws 3) 0 0 0 0 0 false none 0 0 ⟨#[]⟩) [] :=
 have hw : ws = _ := hws.trans h.words
 Deq.of (dt_0 h rfl) h.kind (nu1 h (by simp [itemsOf]) (wAt_eq hw 1)) (nu2 h (by simp [itemsOf]) (wAt_eq hw 2)) (nu3 h (by simp [itemsOf]) (wAt_eq hw 3)) (aw4 h rfl) (aw5 h rfl) (aw6 h rfl) (aw7 h rfl) (aw8 h rfl) (aw9 h rfl) (aw11 h rfl)
theorem loose11 {s : ByteArray} {R : R26} {d : List UInt8} {ws : List ByteArray} (hws : ws = words s) (h : IsDeedT ((11,⟨#[115,112,111,105,108]⟩,[69,70,71,79,80]) : Vb) s R d) : Deq R d (R26.mk 11 (nAt ws 1) (nAt ws 2) (nAt ws 3) (nAt ws 4) (IntKind.wrap .u8 (nAt ws 5)) 0 0 0 false none 0 0 ⟨#[]⟩) [] :=
 have hw : ws = _ := hws.trans h.words
 Deq.of (dt_0 h rfl) h.kind (nu1 h (by simp [itemsOf]) (wAt_eq hw 1)) (nu2 h (by simp [itemsOf]) (wAt_eq hw 2)) (nu3 h (by simp [itemsOf]) (wAt_eq hw 3)) (nu4 h (by simp [itemsOf]) (wAt_eq hw 4)) (nu5 h (by simp [itemsOf]) (wAt_eq hw 5)) (aw6 h rfl) (aw7 h rfl) (aw8 h rfl) (aw9 h rfl) (aw11 h rfl)
theorem loose12 {s : ByteArray} {R : R26} {d : List UInt8} {ws : List ByteArray} {a : Option Addr} {n c : Nat} (hws : ws = words s) (h : IsDeedT ((12,⟨#[102,111,114,103,101]⟩,[69,70,75]) : Vb) s R d) : Deq R d (R26.mk 12 (nAt ws 1) (nAt ws 2) 0 0 0 0 0 0 false a n c ⟨#[]⟩) (unhex (bl (wAt ws 3))) :=
 have hw : ws = _ := hws.trans h.words
 Deq.of (dt_w (wAt_eq hw 3)) h.kind (nu1 h (by simp [itemsOf]) (wAt_eq hw 1)) (nu2 h (by simp [itemsOf]) (wAt_eq hw 2)) (aw3 h rfl) (aw4 h rfl) (aw5 h rfl) (aw6 h rfl) (aw7 h rfl) (aw8 h rfl) (aw9 h rfl) (aw11 h rfl)
theorem loose13 {s : ByteArray} {R : R26} {d : List UInt8} {ws : List ByteArray} (hws : ws = words s) (h : IsDeedT ((13,⟨#[100,111,119,110]⟩,[70]) : Vb) s R d) : Deq R d (R26.mk 13 0 (nAt ws 1) 0 0 0 0 0 0 false none 0 0 ⟨#[]⟩) [] :=
 have hw : ws = _ := hws.trans h.words
 Deq.of (dt_0 h rfl) h.kind (aw1 h rfl) (nu2 h (by simp [itemsOf]) (wAt_eq hw 1)) (aw3 h rfl) (aw4 h rfl) (aw5 h rfl) (aw6 h rfl) (aw7 h rfl) (aw8 h rfl) (aw9 h rfl) (aw11 h rfl)
theorem loose14 {s : ByteArray} {R : R26} {d : List UInt8} {ws : List ByteArray} (hws : ws = words s) (h : IsDeedT ((14,⟨#[117,112]⟩,[70]) : Vb) s R d) : Deq R d (R26.mk 14 0 (nAt ws 1) 0 0 0 0 0 0 false none 0 0 ⟨#[]⟩) [] :=
 have hw : ws = _ := hws.trans h.words
 Deq.of (dt_0 h rfl) h.kind (aw1 h rfl) (nu2 h (by simp [itemsOf]) (wAt_eq hw 1)) (aw3 h rfl) (aw4 h rfl) (aw5 h rfl) (aw6 h rfl) (aw7 h rfl) (aw8 h rfl) (aw9 h rfl) (aw11 h rfl)
end Go.Proofs.YtilenpnpnbdndaaGreatDoor
