/- Own text: part of the shallow reading of the code and of the contracts that are proved over it. -/
import Derived.Test.YtilenpnpnbdndaaGreatDoorRtJ
namespace Go.Proofs.YtilenpnpnbdndaaGreatDoor
open Go Go.Sh
set_option maxRecDepth 100000
theorem Deq.of {R1 R2 : R26} {d1 d2 : List UInt8} (hd : d1 = d2) (e0 : R1.f0 = R2.f0) (e1 : R1.f1 = R2.f1) (e2 : R1.f2 = R2.f2) (e3 : R1.f3 = R2.f3) (e4 : R1.f4 = R2.f4) (e5 : R1.f5 = R2.f5) (e6 : R1.f6 = R2.f6) (e7 : R1.f7 = R2.f7) (e8 : R1.f8 = R2.f8) (e9 : R1.f9 = R2.f9) (e11 : R1.f11 = R2.f11) : Deq R1 d1 R2 d2 :=
  sameB_iff.1 (by simp [sameB,hd,e0,e1,e2,e3,e4,e5,e6,e7,e8,e9,e11])
theorem kind_of {t : Vb} {s : ByteArray} {R : R26} {d : List UInt8} (h : IsDeedT t s R d) : kindOf (wAt (words s) 0) = t.1 := by
  have e : wAt (words s) 0 = t.2.1 := by rw [wAt_eq h.words]; rfl
  unfold kindOf
  rw [e]
  cases hf : vtab.find? (fun x => decide (x.2.1 = t.2.1)) with
  | none =>
    have := List.find?_eq_none.1 hf t h.mem
    simp at this
  | some t' =>
    have h1 : t'.2.1 = t.2.1 := of_decide_eq_true (List.find?_some (p := fun x : Vb => decide (x.2.1 = t.2.1)) hf)
    have h2 := vtab_names t' (List.mem_of_find?_eq_some hf) t h.mem h1
    rw [h2]
    rfl
theorem loose1 {s : ByteArray} {R : R26} {d : List UInt8} {ws : List ByteArray} (hws : ws = words s) (h : IsDeedT ((1,⟨#[111,112,101,110]⟩,[69]) : Vb) s R d) : Deq R d (R26.mk 1 (nAt ws 1) 0 0 0 0 0 0 0 false none 0 0 ⟨#[]⟩) [] := by
  have hw : ws = _ := hws.trans h.words
  have e1 : R.f1 = (nAt ws 1) := by
    have ho := h.ok (partIt 69) (by simp [itemsOf])
    have ho : 0 <= R.f1 /\ R.f1 <= _ := ho
    unfold nAt
    rw [wAt_eq hw]
    show R.f1 = ((valS (bs (Lib.decDigits R.f1.toNat)) % 4398046511104 : Nat) : Int)
    rw [valS_dec (by omega)]
    omega
  have e2 : R.f2 = 0 := by
    have ha : some (Value.int .i64 R.f2) = some (Value.int .i64 0) := h.away 2 (by decide) (by decide) fun hf => by have hx : ((1,⟨#[111,112,101,110]⟩,[69]) : Vb).2.2.contains 70 = true := (hasFoot_iff h.mem 2 (by decide)).1 hf; revert hx; decide
    injection ha with ha
    injection ha
  have e3 : R.f3 = 0 := by
    have ha : some (Value.int .i64 R.f3) = some (Value.int .i64 0) := h.away 3 (by decide) (by decide) fun hf => by have hx : ((1,⟨#[111,112,101,110]⟩,[69]) : Vb).2.2.contains 71 = true := (hasFoot_iff h.mem 3 (by decide)).1 hf; revert hx; decide
    injection ha with ha
    injection ha
  have e4 : R.f4 = 0 := by
    have ha : some (Value.int .i64 R.f4) = some (Value.int .i64 0) := h.away 4 (by decide) (by decide) fun hf => by have hx : ((1,⟨#[111,112,101,110]⟩,[69]) : Vb).2.2.contains 79 = true := (hasFoot_iff h.mem 4 (by decide)).1 hf; revert hx; decide
    injection ha with ha
    injection ha
  have e5 : R.f5 = 0 := by
    have ha : some (Value.int .u8 R.f5) = some (Value.int .u8 0) := h.away 5 (by decide) (by decide) fun hf => by have hx : ((1,⟨#[111,112,101,110]⟩,[69]) : Vb).2.2.contains 80 = true := (hasFoot_iff h.mem 5 (by decide)).1 hf; revert hx; decide
    injection ha with ha
    injection ha
  have e6 : R.f6 = 0 := by
    have ha : some (Value.int .i64 R.f6) = some (Value.int .i64 0) := h.away 6 (by decide) (by decide) fun hf => by have hx : ((1,⟨#[111,112,101,110]⟩,[69]) : Vb).2.2.contains 77 = true := (hasFoot_iff h.mem 6 (by decide)).1 hf; revert hx; decide
    injection ha with ha
    injection ha
  have e7 : R.f7 = 0 := by
    have ha : some (Value.int .u16 R.f7) = some (Value.int .u16 0) := h.away 7 (by decide) (by decide) fun hf => by have hx : ((1,⟨#[111,112,101,110]⟩,[69]) : Vb).2.2.contains 72 = true := (hasFoot_iff h.mem 7 (by decide)).1 hf; revert hx; decide
    injection ha with ha
    injection ha
  have e8 : R.f8 = 0 := by
    have ha : some (Value.int .u32 R.f8) = some (Value.int .u32 0) := h.away 8 (by decide) (by decide) fun hf => by have hx : ((1,⟨#[111,112,101,110]⟩,[69]) : Vb).2.2.contains 73 = true := (hasFoot_iff h.mem 8 (by decide)).1 hf; revert hx; decide
    injection ha with ha
    injection ha
  have e9 : R.f9 = false := by
    have ha : some (Value.bool R.f9) = some (Value.bool false) := h.away 9 (by decide) (by decide) fun hf => by have hx : ((1,⟨#[111,112,101,110]⟩,[69]) : Vb).2.2.contains 74 = true := (hasFoot_iff h.mem 9 (by decide)).1 hf; revert hx; decide
    injection ha with ha
    injection ha
  have e11 : R.f11 = ⟨#[]⟩ := by
    have ha : some (Value.string R.f11) = some (Value.string ⟨#[]⟩) := h.away 11 (by decide) (by decide) fun hf => by have hx : ((1,⟨#[111,112,101,110]⟩,[69]) : Vb).2.2.contains 76 = true := (hasFoot_iff h.mem 11 (by decide)).1 hf; revert hx; decide
    injection ha with ha
    injection ha
  have ed : d = [] := h.data fun hf => by have hx : ((1,⟨#[111,112,101,110]⟩,[69]) : Vb).2.2.contains 75 = true := (hasFoot_iff h.mem 1000000 (by decide)).1 hf; revert hx; decide
  exact Deq.of ed h.kind e1 e2 e3 e4 e5 e6 e7 e8 e9 e11
theorem loose2 {s : ByteArray} {R : R26} {d : List UInt8} {ws : List ByteArray} {a : Option Addr} {n c : Nat} (hws : ws = words s) (h : IsDeedT ((2,⟨#[115,101,110,100]⟩,[69,72,73,74,75]) : Vb) s R d) : Deq R d (R26.mk 2 (nAt ws 1) 0 0 0 0 0 (IntKind.wrap .u16 (nAt ws 2)) (IntKind.wrap .u32 (nAt ws 3)) (decide (wAt ws 4 = ⟨#[117]⟩)) a n c ⟨#[]⟩) (unhex (bl (wAt ws 5))) := by
  have hw : ws = _ := hws.trans h.words
  have e1 : R.f1 = (nAt ws 1) := by
    have ho := h.ok (partIt 69) (by simp [itemsOf])
    have ho : 0 <= R.f1 /\ R.f1 <= _ := ho
    unfold nAt
    rw [wAt_eq hw]
    show R.f1 = ((valS (bs (Lib.decDigits R.f1.toNat)) % 4398046511104 : Nat) : Int)
    rw [valS_dec (by omega)]
    omega
  have e2 : R.f2 = 0 := by
    have ha : some (Value.int .i64 R.f2) = some (Value.int .i64 0) := h.away 2 (by decide) (by decide) fun hf => by have hx : ((2,⟨#[115,101,110,100]⟩,[69,72,73,74,75]) : Vb).2.2.contains 70 = true := (hasFoot_iff h.mem 2 (by decide)).1 hf; revert hx; decide
    injection ha with ha
    injection ha
  have e3 : R.f3 = 0 := by
    have ha : some (Value.int .i64 R.f3) = some (Value.int .i64 0) := h.away 3 (by decide) (by decide) fun hf => by have hx : ((2,⟨#[115,101,110,100]⟩,[69,72,73,74,75]) : Vb).2.2.contains 71 = true := (hasFoot_iff h.mem 3 (by decide)).1 hf; revert hx; decide
    injection ha with ha
    injection ha
  have e4 : R.f4 = 0 := by
    have ha : some (Value.int .i64 R.f4) = some (Value.int .i64 0) := h.away 4 (by decide) (by decide) fun hf => by have hx : ((2,⟨#[115,101,110,100]⟩,[69,72,73,74,75]) : Vb).2.2.contains 79 = true := (hasFoot_iff h.mem 4 (by decide)).1 hf; revert hx; decide
    injection ha with ha
    injection ha
  have e5 : R.f5 = 0 := by
    have ha : some (Value.int .u8 R.f5) = some (Value.int .u8 0) := h.away 5 (by decide) (by decide) fun hf => by have hx : ((2,⟨#[115,101,110,100]⟩,[69,72,73,74,75]) : Vb).2.2.contains 80 = true := (hasFoot_iff h.mem 5 (by decide)).1 hf; revert hx; decide
    injection ha with ha
    injection ha
  have e6 : R.f6 = 0 := by
    have ha : some (Value.int .i64 R.f6) = some (Value.int .i64 0) := h.away 6 (by decide) (by decide) fun hf => by have hx : ((2,⟨#[115,101,110,100]⟩,[69,72,73,74,75]) : Vb).2.2.contains 77 = true := (hasFoot_iff h.mem 6 (by decide)).1 hf; revert hx; decide
    injection ha with ha
    injection ha
  have e7 : R.f7 = (nAt ws 2) := by
    have ho := h.ok (partIt 72) (by simp [itemsOf])
    have ho : 0 <= R.f7 /\ R.f7 <= _ := ho
    unfold nAt
    rw [wAt_eq hw]
    show R.f7 = ((valS (bs (Lib.decDigits R.f7.toNat)) % 4398046511104 : Nat) : Int)
    rw [valS_dec (by omega)]
    omega
  have e7 : R.f7 = IntKind.wrap .u16 (nAt ws 2) := by
    have ho : 0 <= R.f7 /\ R.f7 <= 65535 := h.ok (partIt 72) (by simp [itemsOf])
    rw [← e7,IntKind.wrap_u16]
    omega
  have e8 : R.f8 = (nAt ws 3) := by
    have ho := h.ok (partIt 73) (by simp [itemsOf])
    have ho : 0 <= R.f8 /\ R.f8 <= _ := ho
    unfold nAt
    rw [wAt_eq hw]
    show R.f8 = ((valS (bs (Lib.decDigits R.f8.toNat)) % 4398046511104 : Nat) : Int)
    rw [valS_dec (by omega)]
    omega
  have e8 : R.f8 = IntKind.wrap .u32 (nAt ws 3) := by
    have ho : 0 <= R.f8 /\ R.f8 <= 4294967295 := h.ok (partIt 73) (by simp [itemsOf])
    rw [← e8,IntKind.wrap_u32]
    omega
  have e9 : R.f9 = decide (wAt ws 4 = ⟨#[117]⟩) := by
    rw [wAt_eq hw]
    show R.f9 = decide ((if R.f9 = true then (⟨#[117]⟩ : ByteArray) else ⟨#[111]⟩) = ⟨#[117]⟩)
    cases R.f9 <;> decide
  have e11 : R.f11 = ⟨#[]⟩ := by
    have ha : some (Value.string R.f11) = some (Value.string ⟨#[]⟩) := h.away 11 (by decide) (by decide) fun hf => by have hx : ((2,⟨#[115,101,110,100]⟩,[69,72,73,74,75]) : Vb).2.2.contains 76 = true := (hasFoot_iff h.mem 11 (by decide)).1 hf; revert hx; decide
    injection ha with ha
    injection ha
  have ed : d = unhex (bl (wAt ws 5)) := by
    rw [wAt_eq hw]
    show d = unhex (bl (bs (hexW d)))
    rw [bl_bs,unhex_hexW]
  exact Deq.of ed h.kind e1 e2 e3 e4 e5 e6 e7 e8 e9 e11
theorem loose3 {s : ByteArray} {R : R26} {d : List UInt8} {ws : List ByteArray} (hws : ws = words s) (h : IsDeedT ((3,⟨#[114,101,99,101,105,118,101]⟩,[69]) : Vb) s R d) : Deq R d (R26.mk 3 (nAt ws 1) 0 0 0 0 0 0 0 false none 0 0 ⟨#[]⟩) [] := by
  have hw : ws = _ := hws.trans h.words
  have e1 : R.f1 = (nAt ws 1) := by
    have ho := h.ok (partIt 69) (by simp [itemsOf])
    have ho : 0 <= R.f1 /\ R.f1 <= _ := ho
    unfold nAt
    rw [wAt_eq hw]
    show R.f1 = ((valS (bs (Lib.decDigits R.f1.toNat)) % 4398046511104 : Nat) : Int)
    rw [valS_dec (by omega)]
    omega
  have e2 : R.f2 = 0 := by
    have ha : some (Value.int .i64 R.f2) = some (Value.int .i64 0) := h.away 2 (by decide) (by decide) fun hf => by have hx : ((3,⟨#[114,101,99,101,105,118,101]⟩,[69]) : Vb).2.2.contains 70 = true := (hasFoot_iff h.mem 2 (by decide)).1 hf; revert hx; decide
    injection ha with ha
    injection ha
  have e3 : R.f3 = 0 := by
    have ha : some (Value.int .i64 R.f3) = some (Value.int .i64 0) := h.away 3 (by decide) (by decide) fun hf => by have hx : ((3,⟨#[114,101,99,101,105,118,101]⟩,[69]) : Vb).2.2.contains 71 = true := (hasFoot_iff h.mem 3 (by decide)).1 hf; revert hx; decide
    injection ha with ha
    injection ha
  have e4 : R.f4 = 0 := by
    have ha : some (Value.int .i64 R.f4) = some (Value.int .i64 0) := h.away 4 (by decide) (by decide) fun hf => by have hx : ((3,⟨#[114,101,99,101,105,118,101]⟩,[69]) : Vb).2.2.contains 79 = true := (hasFoot_iff h.mem 4 (by decide)).1 hf; revert hx; decide
    injection ha with ha
    injection ha
  have e5 : R.f5 = 0 := by
    have ha : some (Value.int .u8 R.f5) = some (Value.int .u8 0) := h.away 5 (by decide) (by decide) fun hf => by have hx : ((3,⟨#[114,101,99,101,105,118,101]⟩,[69]) : Vb).2.2.contains 80 = true := (hasFoot_iff h.mem 5 (by decide)).1 hf; revert hx; decide
    injection ha with ha
    injection ha
  have e6 : R.f6 = 0 := by
    have ha : some (Value.int .i64 R.f6) = some (Value.int .i64 0) := h.away 6 (by decide) (by decide) fun hf => by have hx : ((3,⟨#[114,101,99,101,105,118,101]⟩,[69]) : Vb).2.2.contains 77 = true := (hasFoot_iff h.mem 6 (by decide)).1 hf; revert hx; decide
    injection ha with ha
    injection ha
  have e7 : R.f7 = 0 := by
    have ha : some (Value.int .u16 R.f7) = some (Value.int .u16 0) := h.away 7 (by decide) (by decide) fun hf => by have hx : ((3,⟨#[114,101,99,101,105,118,101]⟩,[69]) : Vb).2.2.contains 72 = true := (hasFoot_iff h.mem 7 (by decide)).1 hf; revert hx; decide
    injection ha with ha
    injection ha
  have e8 : R.f8 = 0 := by
    have ha : some (Value.int .u32 R.f8) = some (Value.int .u32 0) := h.away 8 (by decide) (by decide) fun hf => by have hx : ((3,⟨#[114,101,99,101,105,118,101]⟩,[69]) : Vb).2.2.contains 73 = true := (hasFoot_iff h.mem 8 (by decide)).1 hf; revert hx; decide
    injection ha with ha
    injection ha
  have e9 : R.f9 = false := by
    have ha : some (Value.bool R.f9) = some (Value.bool false) := h.away 9 (by decide) (by decide) fun hf => by have hx : ((3,⟨#[114,101,99,101,105,118,101]⟩,[69]) : Vb).2.2.contains 74 = true := (hasFoot_iff h.mem 9 (by decide)).1 hf; revert hx; decide
    injection ha with ha
    injection ha
  have e11 : R.f11 = ⟨#[]⟩ := by
    have ha : some (Value.string R.f11) = some (Value.string ⟨#[]⟩) := h.away 11 (by decide) (by decide) fun hf => by have hx : ((3,⟨#[114,101,99,101,105,118,101]⟩,[69]) : Vb).2.2.contains 76 = true := (hasFoot_iff h.mem 11 (by decide)).1 hf; revert hx; decide
    injection ha with ha
    injection ha
  have ed : d = [] := h.data fun hf => by have hx : ((3,⟨#[114,101,99,101,105,118,101]⟩,[69]) : Vb).2.2.contains 75 = true := (hasFoot_iff h.mem 1000000 (by decide)).1 hf; revert hx; decide
  exact Deq.of ed h.kind e1 e2 e3 e4 e5 e6 e7 e8 e9 e11
theorem loose4 {s : ByteArray} {R : R26} {d : List UInt8} {ws : List ByteArray} (hws : ws = words s) (h : IsDeedT ((4,⟨#[115,104,117,116,100,111,119,110]⟩,[69]) : Vb) s R d) : Deq R d (R26.mk 4 (nAt ws 1) 0 0 0 0 0 0 0 false none 0 0 ⟨#[]⟩) [] := by
  have hw : ws = _ := hws.trans h.words
  have e1 : R.f1 = (nAt ws 1) := by
    have ho := h.ok (partIt 69) (by simp [itemsOf])
    have ho : 0 <= R.f1 /\ R.f1 <= _ := ho
    unfold nAt
    rw [wAt_eq hw]
    show R.f1 = ((valS (bs (Lib.decDigits R.f1.toNat)) % 4398046511104 : Nat) : Int)
    rw [valS_dec (by omega)]
    omega
  have e2 : R.f2 = 0 := by
    have ha : some (Value.int .i64 R.f2) = some (Value.int .i64 0) := h.away 2 (by decide) (by decide) fun hf => by have hx : ((4,⟨#[115,104,117,116,100,111,119,110]⟩,[69]) : Vb).2.2.contains 70 = true := (hasFoot_iff h.mem 2 (by decide)).1 hf; revert hx; decide
    injection ha with ha
    injection ha
  have e3 : R.f3 = 0 := by
    have ha : some (Value.int .i64 R.f3) = some (Value.int .i64 0) := h.away 3 (by decide) (by decide) fun hf => by have hx : ((4,⟨#[115,104,117,116,100,111,119,110]⟩,[69]) : Vb).2.2.contains 71 = true := (hasFoot_iff h.mem 3 (by decide)).1 hf; revert hx; decide
    injection ha with ha
    injection ha
  have e4 : R.f4 = 0 := by
    have ha : some (Value.int .i64 R.f4) = some (Value.int .i64 0) := h.away 4 (by decide) (by decide) fun hf => by have hx : ((4,⟨#[115,104,117,116,100,111,119,110]⟩,[69]) : Vb).2.2.contains 79 = true := (hasFoot_iff h.mem 4 (by decide)).1 hf; revert hx; decide
    injection ha with ha
    injection ha
  have e5 : R.f5 = 0 := by
    have ha : some (Value.int .u8 R.f5) = some (Value.int .u8 0) := h.away 5 (by decide) (by decide) fun hf => by have hx : ((4,⟨#[115,104,117,116,100,111,119,110]⟩,[69]) : Vb).2.2.contains 80 = true := (hasFoot_iff h.mem 5 (by decide)).1 hf; revert hx; decide
    injection ha with ha
    injection ha
  have e6 : R.f6 = 0 := by
    have ha : some (Value.int .i64 R.f6) = some (Value.int .i64 0) := h.away 6 (by decide) (by decide) fun hf => by have hx : ((4,⟨#[115,104,117,116,100,111,119,110]⟩,[69]) : Vb).2.2.contains 77 = true := (hasFoot_iff h.mem 6 (by decide)).1 hf; revert hx; decide
    injection ha with ha
    injection ha
  have e7 : R.f7 = 0 := by
    have ha : some (Value.int .u16 R.f7) = some (Value.int .u16 0) := h.away 7 (by decide) (by decide) fun hf => by have hx : ((4,⟨#[115,104,117,116,100,111,119,110]⟩,[69]) : Vb).2.2.contains 72 = true := (hasFoot_iff h.mem 7 (by decide)).1 hf; revert hx; decide
    injection ha with ha
    injection ha
  have e8 : R.f8 = 0 := by
    have ha : some (Value.int .u32 R.f8) = some (Value.int .u32 0) := h.away 8 (by decide) (by decide) fun hf => by have hx : ((4,⟨#[115,104,117,116,100,111,119,110]⟩,[69]) : Vb).2.2.contains 73 = true := (hasFoot_iff h.mem 8 (by decide)).1 hf; revert hx; decide
    injection ha with ha
    injection ha
  have e9 : R.f9 = false := by
    have ha : some (Value.bool R.f9) = some (Value.bool false) := h.away 9 (by decide) (by decide) fun hf => by have hx : ((4,⟨#[115,104,117,116,100,111,119,110]⟩,[69]) : Vb).2.2.contains 74 = true := (hasFoot_iff h.mem 9 (by decide)).1 hf; revert hx; decide
    injection ha with ha
    injection ha
  have e11 : R.f11 = ⟨#[]⟩ := by
    have ha : some (Value.string R.f11) = some (Value.string ⟨#[]⟩) := h.away 11 (by decide) (by decide) fun hf => by have hx : ((4,⟨#[115,104,117,116,100,111,119,110]⟩,[69]) : Vb).2.2.contains 76 = true := (hasFoot_iff h.mem 11 (by decide)).1 hf; revert hx; decide
    injection ha with ha
    injection ha
  have ed : d = [] := h.data fun hf => by have hx : ((4,⟨#[115,104,117,116,100,111,119,110]⟩,[69]) : Vb).2.2.contains 75 = true := (hasFoot_iff h.mem 1000000 (by decide)).1 hf; revert hx; decide
  exact Deq.of ed h.kind e1 e2 e3 e4 e5 e6 e7 e8 e9 e11
theorem loose5 {s : ByteArray} {R : R26} {d : List UInt8} {ws : List ByteArray} (hws : ws = words s) (h : IsDeedT ((5,⟨#[97,98,111,114,116]⟩,[69,76]) : Vb) s R d) : Deq R d (R26.mk 5 (nAt ws 1) 0 0 0 0 0 0 0 false none 0 0 (bs (unhex (bl (wAt ws 2))))) [] := by
  have hw : ws = _ := hws.trans h.words
  have e1 : R.f1 = (nAt ws 1) := by
    have ho := h.ok (partIt 69) (by simp [itemsOf])
    have ho : 0 <= R.f1 /\ R.f1 <= _ := ho
    unfold nAt
    rw [wAt_eq hw]
    show R.f1 = ((valS (bs (Lib.decDigits R.f1.toNat)) % 4398046511104 : Nat) : Int)
    rw [valS_dec (by omega)]
    omega
  have e2 : R.f2 = 0 := by
    have ha : some (Value.int .i64 R.f2) = some (Value.int .i64 0) := h.away 2 (by decide) (by decide) fun hf => by have hx : ((5,⟨#[97,98,111,114,116]⟩,[69,76]) : Vb).2.2.contains 70 = true := (hasFoot_iff h.mem 2 (by decide)).1 hf; revert hx; decide
    injection ha with ha
    injection ha
  have e3 : R.f3 = 0 := by
    have ha : some (Value.int .i64 R.f3) = some (Value.int .i64 0) := h.away 3 (by decide) (by decide) fun hf => by have hx : ((5,⟨#[97,98,111,114,116]⟩,[69,76]) : Vb).2.2.contains 71 = true := (hasFoot_iff h.mem 3 (by decide)).1 hf; revert hx; decide
    injection ha with ha
    injection ha
  have e4 : R.f4 = 0 := by
    have ha : some (Value.int .i64 R.f4) = some (Value.int .i64 0) := h.away 4 (by decide) (by decide) fun hf => by have hx : ((5,⟨#[97,98,111,114,116]⟩,[69,76]) : Vb).2.2.contains 79 = true := (hasFoot_iff h.mem 4 (by decide)).1 hf; revert hx; decide
    injection ha with ha
    injection ha
  have e5 : R.f5 = 0 := by
    have ha : some (Value.int .u8 R.f5) = some (Value.int .u8 0) := h.away 5 (by decide) (by decide) fun hf => by have hx : ((5,⟨#[97,98,111,114,116]⟩,[69,76]) : Vb).2.2.contains 80 = true := (hasFoot_iff h.mem 5 (by decide)).1 hf; revert hx; decide
    injection ha with ha
    injection ha
  have e6 : R.f6 = 0 := by
    have ha : some (Value.int .i64 R.f6) = some (Value.int .i64 0) := h.away 6 (by decide) (by decide) fun hf => by have hx : ((5,⟨#[97,98,111,114,116]⟩,[69,76]) : Vb).2.2.contains 77 = true := (hasFoot_iff h.mem 6 (by decide)).1 hf; revert hx; decide
    injection ha with ha
    injection ha
  have e7 : R.f7 = 0 := by
    have ha : some (Value.int .u16 R.f7) = some (Value.int .u16 0) := h.away 7 (by decide) (by decide) fun hf => by have hx : ((5,⟨#[97,98,111,114,116]⟩,[69,76]) : Vb).2.2.contains 72 = true := (hasFoot_iff h.mem 7 (by decide)).1 hf; revert hx; decide
    injection ha with ha
    injection ha
  have e8 : R.f8 = 0 := by
    have ha : some (Value.int .u32 R.f8) = some (Value.int .u32 0) := h.away 8 (by decide) (by decide) fun hf => by have hx : ((5,⟨#[97,98,111,114,116]⟩,[69,76]) : Vb).2.2.contains 73 = true := (hasFoot_iff h.mem 8 (by decide)).1 hf; revert hx; decide
    injection ha with ha
    injection ha
  have e9 : R.f9 = false := by
    have ha : some (Value.bool R.f9) = some (Value.bool false) := h.away 9 (by decide) (by decide) fun hf => by have hx : ((5,⟨#[97,98,111,114,116]⟩,[69,76]) : Vb).2.2.contains 74 = true := (hasFoot_iff h.mem 9 (by decide)).1 hf; revert hx; decide
    injection ha with ha
    injection ha
  have e11 : R.f11 = bs (unhex (bl (wAt ws 2))) := by
    rw [wAt_eq hw]
    show R.f11 = bs (unhex (bl (bs (hexW (bl R.f11)))))
    rw [bl_bs,unhex_hexW,bs_bl]
  have ed : d = [] := h.data fun hf => by have hx : ((5,⟨#[97,98,111,114,116]⟩,[69,76]) : Vb).2.2.contains 75 = true := (hasFoot_iff h.mem 1000000 (by decide)).1 hf; revert hx; decide
  exact Deq.of ed h.kind e1 e2 e3 e4 e5 e6 e7 e8 e9 e11
theorem loose6 {s : ByteArray} {R : R26} {d : List UInt8} {ws : List ByteArray} (hws : ws = words s) (h : IsDeedT ((6,⟨#[116,105,99,107]⟩,[69]) : Vb) s R d) : Deq R d (R26.mk 6 (nAt ws 1) 0 0 0 0 0 0 0 false none 0 0 ⟨#[]⟩) [] := by
  have hw : ws = _ := hws.trans h.words
  have e1 : R.f1 = (nAt ws 1) := by
    have ho := h.ok (partIt 69) (by simp [itemsOf])
    have ho : 0 <= R.f1 /\ R.f1 <= _ := ho
    unfold nAt
    rw [wAt_eq hw]
    show R.f1 = ((valS (bs (Lib.decDigits R.f1.toNat)) % 4398046511104 : Nat) : Int)
    rw [valS_dec (by omega)]
    omega
  have e2 : R.f2 = 0 := by
    have ha : some (Value.int .i64 R.f2) = some (Value.int .i64 0) := h.away 2 (by decide) (by decide) fun hf => by have hx : ((6,⟨#[116,105,99,107]⟩,[69]) : Vb).2.2.contains 70 = true := (hasFoot_iff h.mem 2 (by decide)).1 hf; revert hx; decide
    injection ha with ha
    injection ha
  have e3 : R.f3 = 0 := by
    have ha : some (Value.int .i64 R.f3) = some (Value.int .i64 0) := h.away 3 (by decide) (by decide) fun hf => by have hx : ((6,⟨#[116,105,99,107]⟩,[69]) : Vb).2.2.contains 71 = true := (hasFoot_iff h.mem 3 (by decide)).1 hf; revert hx; decide
    injection ha with ha
    injection ha
  have e4 : R.f4 = 0 := by
    have ha : some (Value.int .i64 R.f4) = some (Value.int .i64 0) := h.away 4 (by decide) (by decide) fun hf => by have hx : ((6,⟨#[116,105,99,107]⟩,[69]) : Vb).2.2.contains 79 = true := (hasFoot_iff h.mem 4 (by decide)).1 hf; revert hx; decide
    injection ha with ha
    injection ha
  have e5 : R.f5 = 0 := by
    have ha : some (Value.int .u8 R.f5) = some (Value.int .u8 0) := h.away 5 (by decide) (by decide) fun hf => by have hx : ((6,⟨#[116,105,99,107]⟩,[69]) : Vb).2.2.contains 80 = true := (hasFoot_iff h.mem 5 (by decide)).1 hf; revert hx; decide
    injection ha with ha
    injection ha
  have e6 : R.f6 = 0 := by
    have ha : some (Value.int .i64 R.f6) = some (Value.int .i64 0) := h.away 6 (by decide) (by decide) fun hf => by have hx : ((6,⟨#[116,105,99,107]⟩,[69]) : Vb).2.2.contains 77 = true := (hasFoot_iff h.mem 6 (by decide)).1 hf; revert hx; decide
    injection ha with ha
    injection ha
  have e7 : R.f7 = 0 := by
    have ha : some (Value.int .u16 R.f7) = some (Value.int .u16 0) := h.away 7 (by decide) (by decide) fun hf => by have hx : ((6,⟨#[116,105,99,107]⟩,[69]) : Vb).2.2.contains 72 = true := (hasFoot_iff h.mem 7 (by decide)).1 hf; revert hx; decide
    injection ha with ha
    injection ha
  have e8 : R.f8 = 0 := by
    have ha : some (Value.int .u32 R.f8) = some (Value.int .u32 0) := h.away 8 (by decide) (by decide) fun hf => by have hx : ((6,⟨#[116,105,99,107]⟩,[69]) : Vb).2.2.contains 73 = true := (hasFoot_iff h.mem 8 (by decide)).1 hf; revert hx; decide
    injection ha with ha
    injection ha
  have e9 : R.f9 = false := by
    have ha : some (Value.bool R.f9) = some (Value.bool false) := h.away 9 (by decide) (by decide) fun hf => by have hx : ((6,⟨#[116,105,99,107]⟩,[69]) : Vb).2.2.contains 74 = true := (hasFoot_iff h.mem 9 (by decide)).1 hf; revert hx; decide
    injection ha with ha
    injection ha
  have e11 : R.f11 = ⟨#[]⟩ := by
    have ha : some (Value.string R.f11) = some (Value.string ⟨#[]⟩) := h.away 11 (by decide) (by decide) fun hf => by have hx : ((6,⟨#[116,105,99,107]⟩,[69]) : Vb).2.2.contains 76 = true := (hasFoot_iff h.mem 11 (by decide)).1 hf; revert hx; decide
    injection ha with ha
    injection ha
  have ed : d = [] := h.data fun hf => by have hx : ((6,⟨#[116,105,99,107]⟩,[69]) : Vb).2.2.contains 75 = true := (hasFoot_iff h.mem 1000000 (by decide)).1 hf; revert hx; decide
  exact Deq.of ed h.kind e1 e2 e3 e4 e5 e6 e7 e8 e9 e11
theorem loose7 {s : ByteArray} {R : R26} {d : List UInt8} {ws : List ByteArray} (hws : ws = words s) (h : IsDeedT ((7,⟨#[99,108,111,99,107]⟩,[77]) : Vb) s R d) : Deq R d (R26.mk 7 0 0 0 0 0 (nAt ws 1) 0 0 false none 0 0 ⟨#[]⟩) [] := by
  have hw : ws = _ := hws.trans h.words
  have e1 : R.f1 = 0 := by
    have ha : some (Value.int .i64 R.f1) = some (Value.int .i64 0) := h.away 1 (by decide) (by decide) fun hf => by have hx : ((7,⟨#[99,108,111,99,107]⟩,[77]) : Vb).2.2.contains 69 = true := (hasFoot_iff h.mem 1 (by decide)).1 hf; revert hx; decide
    injection ha with ha
    injection ha
  have e2 : R.f2 = 0 := by
    have ha : some (Value.int .i64 R.f2) = some (Value.int .i64 0) := h.away 2 (by decide) (by decide) fun hf => by have hx : ((7,⟨#[99,108,111,99,107]⟩,[77]) : Vb).2.2.contains 70 = true := (hasFoot_iff h.mem 2 (by decide)).1 hf; revert hx; decide
    injection ha with ha
    injection ha
  have e3 : R.f3 = 0 := by
    have ha : some (Value.int .i64 R.f3) = some (Value.int .i64 0) := h.away 3 (by decide) (by decide) fun hf => by have hx : ((7,⟨#[99,108,111,99,107]⟩,[77]) : Vb).2.2.contains 71 = true := (hasFoot_iff h.mem 3 (by decide)).1 hf; revert hx; decide
    injection ha with ha
    injection ha
  have e4 : R.f4 = 0 := by
    have ha : some (Value.int .i64 R.f4) = some (Value.int .i64 0) := h.away 4 (by decide) (by decide) fun hf => by have hx : ((7,⟨#[99,108,111,99,107]⟩,[77]) : Vb).2.2.contains 79 = true := (hasFoot_iff h.mem 4 (by decide)).1 hf; revert hx; decide
    injection ha with ha
    injection ha
  have e5 : R.f5 = 0 := by
    have ha : some (Value.int .u8 R.f5) = some (Value.int .u8 0) := h.away 5 (by decide) (by decide) fun hf => by have hx : ((7,⟨#[99,108,111,99,107]⟩,[77]) : Vb).2.2.contains 80 = true := (hasFoot_iff h.mem 5 (by decide)).1 hf; revert hx; decide
    injection ha with ha
    injection ha
  have e6 : R.f6 = (nAt ws 1) := by
    have ho := h.ok (partIt 77) (by simp [itemsOf])
    have ho : 0 <= R.f6 /\ R.f6 <= _ := ho
    unfold nAt
    rw [wAt_eq hw]
    show R.f6 = ((valS (bs (Lib.decDigits R.f6.toNat)) % 4398046511104 : Nat) : Int)
    rw [valS_dec (by omega)]
    omega
  have e7 : R.f7 = 0 := by
    have ha : some (Value.int .u16 R.f7) = some (Value.int .u16 0) := h.away 7 (by decide) (by decide) fun hf => by have hx : ((7,⟨#[99,108,111,99,107]⟩,[77]) : Vb).2.2.contains 72 = true := (hasFoot_iff h.mem 7 (by decide)).1 hf; revert hx; decide
    injection ha with ha
    injection ha
  have e8 : R.f8 = 0 := by
    have ha : some (Value.int .u32 R.f8) = some (Value.int .u32 0) := h.away 8 (by decide) (by decide) fun hf => by have hx : ((7,⟨#[99,108,111,99,107]⟩,[77]) : Vb).2.2.contains 73 = true := (hasFoot_iff h.mem 8 (by decide)).1 hf; revert hx; decide
    injection ha with ha
    injection ha
  have e9 : R.f9 = false := by
    have ha : some (Value.bool R.f9) = some (Value.bool false) := h.away 9 (by decide) (by decide) fun hf => by have hx : ((7,⟨#[99,108,111,99,107]⟩,[77]) : Vb).2.2.contains 74 = true := (hasFoot_iff h.mem 9 (by decide)).1 hf; revert hx; decide
    injection ha with ha
    injection ha
  have e11 : R.f11 = ⟨#[]⟩ := by
    have ha : some (Value.string R.f11) = some (Value.string ⟨#[]⟩) := h.away 11 (by decide) (by decide) fun hf => by have hx : ((7,⟨#[99,108,111,99,107]⟩,[77]) : Vb).2.2.contains 76 = true := (hasFoot_iff h.mem 11 (by decide)).1 hf; revert hx; decide
    injection ha with ha
    injection ha
  have ed : d = [] := h.data fun hf => by have hx : ((7,⟨#[99,108,111,99,107]⟩,[77]) : Vb).2.2.contains 75 = true := (hasFoot_iff h.mem 1000000 (by decide)).1 hf; revert hx; decide
  exact Deq.of ed h.kind e1 e2 e3 e4 e5 e6 e7 e8 e9 e11
theorem loose8 {s : ByteArray} {R : R26} {d : List UInt8} {ws : List ByteArray} (hws : ws = words s) (h : IsDeedT ((8,⟨#[100,101,108,105,118,101,114]⟩,[69,70,71]) : Vb) s R d) : Deq R d (R26.mk 8 (nAt ws 1) (nAt ws 2) (nAt ws 3) 0 0 0 0 0 false none 0 0 ⟨#[]⟩) [] := by
  have hw : ws = _ := hws.trans h.words
  have e1 : R.f1 = (nAt ws 1) := by
    have ho := h.ok (partIt 69) (by simp [itemsOf])
    have ho : 0 <= R.f1 /\ R.f1 <= _ := ho
    unfold nAt
    rw [wAt_eq hw]
    show R.f1 = ((valS (bs (Lib.decDigits R.f1.toNat)) % 4398046511104 : Nat) : Int)
    rw [valS_dec (by omega)]
    omega
  have e2 : R.f2 = (nAt ws 2) := by
    have ho := h.ok (partIt 70) (by simp [itemsOf])
    have ho : 0 <= R.f2 /\ R.f2 <= _ := ho
    unfold nAt
    rw [wAt_eq hw]
    show R.f2 = ((valS (bs (Lib.decDigits R.f2.toNat)) % 4398046511104 : Nat) : Int)
    rw [valS_dec (by omega)]
    omega
  have e3 : R.f3 = (nAt ws 3) := by
    have ho := h.ok (partIt 71) (by simp [itemsOf])
    have ho : 0 <= R.f3 /\ R.f3 <= _ := ho
    unfold nAt
    rw [wAt_eq hw]
    show R.f3 = ((valS (bs (Lib.decDigits R.f3.toNat)) % 4398046511104 : Nat) : Int)
    rw [valS_dec (by omega)]
    omega
  have e4 : R.f4 = 0 := by
    have ha : some (Value.int .i64 R.f4) = some (Value.int .i64 0) := h.away 4 (by decide) (by decide) fun hf => by have hx : ((8,⟨#[100,101,108,105,118,101,114]⟩,[69,70,71]) : Vb).2.2.contains 79 = true := (hasFoot_iff h.mem 4 (by decide)).1 hf; revert hx; decide
    injection ha with ha
    injection ha
  have e5 : R.f5 = 0 := by
    have ha : some (Value.int .u8 R.f5) = some (Value.int .u8 0) := h.away 5 (by decide) (by decide) fun hf => by have hx : ((8,⟨#[100,101,108,105,118,101,114]⟩,[69,70,71]) : Vb).2.2.contains 80 = true := (hasFoot_iff h.mem 5 (by decide)).1 hf; revert hx; decide
    injection ha with ha
    injection ha
  have e6 : R.f6 = 0 := by
    have ha : some (Value.int .i64 R.f6) = some (Value.int .i64 0) := h.away 6 (by decide) (by decide) fun hf => by have hx : ((8,⟨#[100,101,108,105,118,101,114]⟩,[69,70,71]) : Vb).2.2.contains 77 = true := (hasFoot_iff h.mem 6 (by decide)).1 hf; revert hx; decide
    injection ha with ha
    injection ha
  have e7 : R.f7 = 0 := by
    have ha : some (Value.int .u16 R.f7) = some (Value.int .u16 0) := h.away 7 (by decide) (by decide) fun hf => by have hx : ((8,⟨#[100,101,108,105,118,101,114]⟩,[69,70,71]) : Vb).2.2.contains 72 = true := (hasFoot_iff h.mem 7 (by decide)).1 hf; revert hx; decide
    injection ha with ha
    injection ha
  have e8 : R.f8 = 0 := by
    have ha : some (Value.int .u32 R.f8) = some (Value.int .u32 0) := h.away 8 (by decide) (by decide) fun hf => by have hx : ((8,⟨#[100,101,108,105,118,101,114]⟩,[69,70,71]) : Vb).2.2.contains 73 = true := (hasFoot_iff h.mem 8 (by decide)).1 hf; revert hx; decide
    injection ha with ha
    injection ha
  have e9 : R.f9 = false := by
    have ha : some (Value.bool R.f9) = some (Value.bool false) := h.away 9 (by decide) (by decide) fun hf => by have hx : ((8,⟨#[100,101,108,105,118,101,114]⟩,[69,70,71]) : Vb).2.2.contains 74 = true := (hasFoot_iff h.mem 9 (by decide)).1 hf; revert hx; decide
    injection ha with ha
    injection ha
  have e11 : R.f11 = ⟨#[]⟩ := by
    have ha : some (Value.string R.f11) = some (Value.string ⟨#[]⟩) := h.away 11 (by decide) (by decide) fun hf => by have hx : ((8,⟨#[100,101,108,105,118,101,114]⟩,[69,70,71]) : Vb).2.2.contains 76 = true := (hasFoot_iff h.mem 11 (by decide)).1 hf; revert hx; decide
    injection ha with ha
    injection ha
  have ed : d = [] := h.data fun hf => by have hx : ((8,⟨#[100,101,108,105,118,101,114]⟩,[69,70,71]) : Vb).2.2.contains 75 = true := (hasFoot_iff h.mem 1000000 (by decide)).1 hf; revert hx; decide
  exact Deq.of ed h.kind e1 e2 e3 e4 e5 e6 e7 e8 e9 e11
theorem loose9 {s : ByteArray} {R : R26} {d : List UInt8} {ws : List ByteArray} (hws : ws = words s) (h : IsDeedT ((9,⟨#[100,114,111,112]⟩,[69,70,71]) : Vb) s R d) : Deq R d (R26.mk 9 (nAt ws 1) (nAt ws 2) (nAt ws 3) 0 0 0 0 0 false none 0 0 ⟨#[]⟩) [] := by
  have hw : ws = _ := hws.trans h.words
  have e1 : R.f1 = (nAt ws 1) := by
    have ho := h.ok (partIt 69) (by simp [itemsOf])
    have ho : 0 <= R.f1 /\ R.f1 <= _ := ho
    unfold nAt
    rw [wAt_eq hw]
    show R.f1 = ((valS (bs (Lib.decDigits R.f1.toNat)) % 4398046511104 : Nat) : Int)
    rw [valS_dec (by omega)]
    omega
  have e2 : R.f2 = (nAt ws 2) := by
    have ho := h.ok (partIt 70) (by simp [itemsOf])
    have ho : 0 <= R.f2 /\ R.f2 <= _ := ho
    unfold nAt
    rw [wAt_eq hw]
    show R.f2 = ((valS (bs (Lib.decDigits R.f2.toNat)) % 4398046511104 : Nat) : Int)
    rw [valS_dec (by omega)]
    omega
  have e3 : R.f3 = (nAt ws 3) := by
    have ho := h.ok (partIt 71) (by simp [itemsOf])
    have ho : 0 <= R.f3 /\ R.f3 <= _ := ho
    unfold nAt
    rw [wAt_eq hw]
    show R.f3 = ((valS (bs (Lib.decDigits R.f3.toNat)) % 4398046511104 : Nat) : Int)
    rw [valS_dec (by omega)]
    omega
  have e4 : R.f4 = 0 := by
    have ha : some (Value.int .i64 R.f4) = some (Value.int .i64 0) := h.away 4 (by decide) (by decide) fun hf => by have hx : ((9,⟨#[100,114,111,112]⟩,[69,70,71]) : Vb).2.2.contains 79 = true := (hasFoot_iff h.mem 4 (by decide)).1 hf; revert hx; decide
    injection ha with ha
    injection ha
  have e5 : R.f5 = 0 := by
    have ha : some (Value.int .u8 R.f5) = some (Value.int .u8 0) := h.away 5 (by decide) (by decide) fun hf => by have hx : ((9,⟨#[100,114,111,112]⟩,[69,70,71]) : Vb).2.2.contains 80 = true := (hasFoot_iff h.mem 5 (by decide)).1 hf; revert hx; decide
    injection ha with ha
    injection ha
  have e6 : R.f6 = 0 := by
    have ha : some (Value.int .i64 R.f6) = some (Value.int .i64 0) := h.away 6 (by decide) (by decide) fun hf => by have hx : ((9,⟨#[100,114,111,112]⟩,[69,70,71]) : Vb).2.2.contains 77 = true := (hasFoot_iff h.mem 6 (by decide)).1 hf; revert hx; decide
    injection ha with ha
    injection ha
  have e7 : R.f7 = 0 := by
    have ha : some (Value.int .u16 R.f7) = some (Value.int .u16 0) := h.away 7 (by decide) (by decide) fun hf => by have hx : ((9,⟨#[100,114,111,112]⟩,[69,70,71]) : Vb).2.2.contains 72 = true := (hasFoot_iff h.mem 7 (by decide)).1 hf; revert hx; decide
    injection ha with ha
    injection ha
  have e8 : R.f8 = 0 := by
    have ha : some (Value.int .u32 R.f8) = some (Value.int .u32 0) := h.away 8 (by decide) (by decide) fun hf => by have hx : ((9,⟨#[100,114,111,112]⟩,[69,70,71]) : Vb).2.2.contains 73 = true := (hasFoot_iff h.mem 8 (by decide)).1 hf; revert hx; decide
    injection ha with ha
    injection ha
  have e9 : R.f9 = false := by
    have ha : some (Value.bool R.f9) = some (Value.bool false) := h.away 9 (by decide) (by decide) fun hf => by have hx : ((9,⟨#[100,114,111,112]⟩,[69,70,71]) : Vb).2.2.contains 74 = true := (hasFoot_iff h.mem 9 (by decide)).1 hf; revert hx; decide
    injection ha with ha
    injection ha
  have e11 : R.f11 = ⟨#[]⟩ := by
    have ha : some (Value.string R.f11) = some (Value.string ⟨#[]⟩) := h.away 11 (by decide) (by decide) fun hf => by have hx : ((9,⟨#[100,114,111,112]⟩,[69,70,71]) : Vb).2.2.contains 76 = true := (hasFoot_iff h.mem 11 (by decide)).1 hf; revert hx; decide
    injection ha with ha
    injection ha
  have ed : d = [] := h.data fun hf => by have hx : ((9,⟨#[100,114,111,112]⟩,[69,70,71]) : Vb).2.2.contains 75 = true := (hasFoot_iff h.mem 1000000 (by decide)).1 hf; revert hx; decide
  exact Deq.of ed h.kind e1 e2 e3 e4 e5 e6 e7 e8 e9 e11
theorem loose10 {s : ByteArray} {R : R26} {d : List UInt8} {ws : List ByteArray} (hws : ws = words s) (h : IsDeedT ((10,⟨#[116,119,105,99,101]⟩,[69,70,71]) : Vb) s R d) : Deq R d (R26.mk 10 (nAt ws 1) (nAt ws 2) (nAt ws 3) 0 0 0 0 0 false none 0 0 ⟨#[]⟩) [] := by
  have hw : ws = _ := hws.trans h.words
  have e1 : R.f1 = (nAt ws 1) := by
    have ho := h.ok (partIt 69) (by simp [itemsOf])
    have ho : 0 <= R.f1 /\ R.f1 <= _ := ho
    unfold nAt
    rw [wAt_eq hw]
    show R.f1 = ((valS (bs (Lib.decDigits R.f1.toNat)) % 4398046511104 : Nat) : Int)
    rw [valS_dec (by omega)]
    omega
  have e2 : R.f2 = (nAt ws 2) := by
    have ho := h.ok (partIt 70) (by simp [itemsOf])
    have ho : 0 <= R.f2 /\ R.f2 <= _ := ho
    unfold nAt
    rw [wAt_eq hw]
    show R.f2 = ((valS (bs (Lib.decDigits R.f2.toNat)) % 4398046511104 : Nat) : Int)
    rw [valS_dec (by omega)]
    omega
  have e3 : R.f3 = (nAt ws 3) := by
    have ho := h.ok (partIt 71) (by simp [itemsOf])
    have ho : 0 <= R.f3 /\ R.f3 <= _ := ho
    unfold nAt
    rw [wAt_eq hw]
    show R.f3 = ((valS (bs (Lib.decDigits R.f3.toNat)) % 4398046511104 : Nat) : Int)
    rw [valS_dec (by omega)]
    omega
  have e4 : R.f4 = 0 := by
    have ha : some (Value.int .i64 R.f4) = some (Value.int .i64 0) := h.away 4 (by decide) (by decide) fun hf => by have hx : ((10,⟨#[116,119,105,99,101]⟩,[69,70,71]) : Vb).2.2.contains 79 = true := (hasFoot_iff h.mem 4 (by decide)).1 hf; revert hx; decide
    injection ha with ha
    injection ha
  have e5 : R.f5 = 0 := by
    have ha : some (Value.int .u8 R.f5) = some (Value.int .u8 0) := h.away 5 (by decide) (by decide) fun hf => by have hx : ((10,⟨#[116,119,105,99,101]⟩,[69,70,71]) : Vb).2.2.contains 80 = true := (hasFoot_iff h.mem 5 (by decide)).1 hf; revert hx; decide
    injection ha with ha
    injection ha
  have e6 : R.f6 = 0 := by
    have ha : some (Value.int .i64 R.f6) = some (Value.int .i64 0) := h.away 6 (by decide) (by decide) fun hf => by have hx : ((10,⟨#[116,119,105,99,101]⟩,[69,70,71]) : Vb).2.2.contains 77 = true := (hasFoot_iff h.mem 6 (by decide)).1 hf; revert hx; decide
    injection ha with ha
    injection ha
  have e7 : R.f7 = 0 := by
    have ha : some (Value.int .u16 R.f7) = some (Value.int .u16 0) := h.away 7 (by decide) (by decide) fun hf => by have hx : ((10,⟨#[116,119,105,99,101]⟩,[69,70,71]) : Vb).2.2.contains 72 = true := (hasFoot_iff h.mem 7 (by decide)).1 hf; revert hx; decide
    injection ha with ha
    injection ha
  have e8 : R.f8 = 0 := by
    have ha : some (Value.int .u32 R.f8) = some (Value.int .u32 0) := h.away 8 (by decide) (by decide) fun hf => by have hx : ((10,⟨#[116,119,105,99,101]⟩,[69,70,71]) : Vb).2.2.contains 73 = true := (hasFoot_iff h.mem 8 (by decide)).1 hf; revert hx; decide
    injection ha with ha
    injection ha
  have e9 : R.f9 = false := by
    have ha : some (Value.bool R.f9) = some (Value.bool false) := h.away 9 (by decide) (by decide) fun hf => by have hx : ((10,⟨#[116,119,105,99,101]⟩,[69,70,71]) : Vb).2.2.contains 74 = true := (hasFoot_iff h.mem 9 (by decide)).1 hf; revert hx; decide
    injection ha with ha
    injection ha
  have e11 : R.f11 = ⟨#[]⟩ := by
    have ha : some (Value.string R.f11) = some (Value.string ⟨#[]⟩) := h.away 11 (by decide) (by decide) fun hf => by have hx : ((10,⟨#[116,119,105,99,101]⟩,[69,70,71]) : Vb).2.2.contains 76 = true := (hasFoot_iff h.mem 11 (by decide)).1 hf; revert hx; decide
    injection ha with ha
    injection ha
  have ed : d = [] := h.data fun hf => by have hx : ((10,⟨#[116,119,105,99,101]⟩,[69,70,71]) : Vb).2.2.contains 75 = true := (hasFoot_iff h.mem 1000000 (by decide)).1 hf; revert hx; decide
  exact Deq.of ed h.kind e1 e2 e3 e4 e5 e6 e7 e8 e9 e11
theorem loose11 {s : ByteArray} {R : R26} {d : List UInt8} {ws : List ByteArray} (hws : ws = words s) (h : IsDeedT ((11,⟨#[115,112,111,105,108]⟩,[69,70,71,79,80]) : Vb) s R d) : Deq R d (R26.mk 11 (nAt ws 1) (nAt ws 2) (nAt ws 3) (nAt ws 4) (IntKind.wrap .u8 (nAt ws 5)) 0 0 0 false none 0 0 ⟨#[]⟩) [] := by
  have hw : ws = _ := hws.trans h.words
  have e1 : R.f1 = (nAt ws 1) := by
    have ho := h.ok (partIt 69) (by simp [itemsOf])
    have ho : 0 <= R.f1 /\ R.f1 <= _ := ho
    unfold nAt
    rw [wAt_eq hw]
    show R.f1 = ((valS (bs (Lib.decDigits R.f1.toNat)) % 4398046511104 : Nat) : Int)
    rw [valS_dec (by omega)]
    omega
  have e2 : R.f2 = (nAt ws 2) := by
    have ho := h.ok (partIt 70) (by simp [itemsOf])
    have ho : 0 <= R.f2 /\ R.f2 <= _ := ho
    unfold nAt
    rw [wAt_eq hw]
    show R.f2 = ((valS (bs (Lib.decDigits R.f2.toNat)) % 4398046511104 : Nat) : Int)
    rw [valS_dec (by omega)]
    omega
  have e3 : R.f3 = (nAt ws 3) := by
    have ho := h.ok (partIt 71) (by simp [itemsOf])
    have ho : 0 <= R.f3 /\ R.f3 <= _ := ho
    unfold nAt
    rw [wAt_eq hw]
    show R.f3 = ((valS (bs (Lib.decDigits R.f3.toNat)) % 4398046511104 : Nat) : Int)
    rw [valS_dec (by omega)]
    omega
  have e4 : R.f4 = (nAt ws 4) := by
    have ho := h.ok (partIt 79) (by simp [itemsOf])
    have ho : 0 <= R.f4 /\ R.f4 <= _ := ho
    unfold nAt
    rw [wAt_eq hw]
    show R.f4 = ((valS (bs (Lib.decDigits R.f4.toNat)) % 4398046511104 : Nat) : Int)
    rw [valS_dec (by omega)]
    omega
  have e5 : R.f5 = (nAt ws 5) := by
    have ho := h.ok (partIt 80) (by simp [itemsOf])
    have ho : 0 <= R.f5 /\ R.f5 <= _ := ho
    unfold nAt
    rw [wAt_eq hw]
    show R.f5 = ((valS (bs (Lib.decDigits R.f5.toNat)) % 4398046511104 : Nat) : Int)
    rw [valS_dec (by omega)]
    omega
  have e5 : R.f5 = IntKind.wrap .u8 (nAt ws 5) := by
    have ho : 0 <= R.f5 /\ R.f5 <= 255 := h.ok (partIt 80) (by simp [itemsOf])
    rw [← e5,IntKind.wrap_u8]
    omega
  have e6 : R.f6 = 0 := by
    have ha : some (Value.int .i64 R.f6) = some (Value.int .i64 0) := h.away 6 (by decide) (by decide) fun hf => by have hx : ((11,⟨#[115,112,111,105,108]⟩,[69,70,71,79,80]) : Vb).2.2.contains 77 = true := (hasFoot_iff h.mem 6 (by decide)).1 hf; revert hx; decide
    injection ha with ha
    injection ha
  have e7 : R.f7 = 0 := by
    have ha : some (Value.int .u16 R.f7) = some (Value.int .u16 0) := h.away 7 (by decide) (by decide) fun hf => by have hx : ((11,⟨#[115,112,111,105,108]⟩,[69,70,71,79,80]) : Vb).2.2.contains 72 = true := (hasFoot_iff h.mem 7 (by decide)).1 hf; revert hx; decide
    injection ha with ha
    injection ha
  have e8 : R.f8 = 0 := by
    have ha : some (Value.int .u32 R.f8) = some (Value.int .u32 0) := h.away 8 (by decide) (by decide) fun hf => by have hx : ((11,⟨#[115,112,111,105,108]⟩,[69,70,71,79,80]) : Vb).2.2.contains 73 = true := (hasFoot_iff h.mem 8 (by decide)).1 hf; revert hx; decide
    injection ha with ha
    injection ha
  have e9 : R.f9 = false := by
    have ha : some (Value.bool R.f9) = some (Value.bool false) := h.away 9 (by decide) (by decide) fun hf => by have hx : ((11,⟨#[115,112,111,105,108]⟩,[69,70,71,79,80]) : Vb).2.2.contains 74 = true := (hasFoot_iff h.mem 9 (by decide)).1 hf; revert hx; decide
    injection ha with ha
    injection ha
  have e11 : R.f11 = ⟨#[]⟩ := by
    have ha : some (Value.string R.f11) = some (Value.string ⟨#[]⟩) := h.away 11 (by decide) (by decide) fun hf => by have hx : ((11,⟨#[115,112,111,105,108]⟩,[69,70,71,79,80]) : Vb).2.2.contains 76 = true := (hasFoot_iff h.mem 11 (by decide)).1 hf; revert hx; decide
    injection ha with ha
    injection ha
  have ed : d = [] := h.data fun hf => by have hx : ((11,⟨#[115,112,111,105,108]⟩,[69,70,71,79,80]) : Vb).2.2.contains 75 = true := (hasFoot_iff h.mem 1000000 (by decide)).1 hf; revert hx; decide
  exact Deq.of ed h.kind e1 e2 e3 e4 e5 e6 e7 e8 e9 e11
theorem loose12 {s : ByteArray} {R : R26} {d : List UInt8} {ws : List ByteArray} {a : Option Addr} {n c : Nat} (hws : ws = words s) (h : IsDeedT ((12,⟨#[102,111,114,103,101]⟩,[69,70,75]) : Vb) s R d) : Deq R d (R26.mk 12 (nAt ws 1) (nAt ws 2) 0 0 0 0 0 0 false a n c ⟨#[]⟩) (unhex (bl (wAt ws 3))) := by
  have hw : ws = _ := hws.trans h.words
  have e1 : R.f1 = (nAt ws 1) := by
    have ho := h.ok (partIt 69) (by simp [itemsOf])
    have ho : 0 <= R.f1 /\ R.f1 <= _ := ho
    unfold nAt
    rw [wAt_eq hw]
    show R.f1 = ((valS (bs (Lib.decDigits R.f1.toNat)) % 4398046511104 : Nat) : Int)
    rw [valS_dec (by omega)]
    omega
  have e2 : R.f2 = (nAt ws 2) := by
    have ho := h.ok (partIt 70) (by simp [itemsOf])
    have ho : 0 <= R.f2 /\ R.f2 <= _ := ho
    unfold nAt
    rw [wAt_eq hw]
    show R.f2 = ((valS (bs (Lib.decDigits R.f2.toNat)) % 4398046511104 : Nat) : Int)
    rw [valS_dec (by omega)]
    omega
  have e3 : R.f3 = 0 := by
    have ha : some (Value.int .i64 R.f3) = some (Value.int .i64 0) := h.away 3 (by decide) (by decide) fun hf => by have hx : ((12,⟨#[102,111,114,103,101]⟩,[69,70,75]) : Vb).2.2.contains 71 = true := (hasFoot_iff h.mem 3 (by decide)).1 hf; revert hx; decide
    injection ha with ha
    injection ha
  have e4 : R.f4 = 0 := by
    have ha : some (Value.int .i64 R.f4) = some (Value.int .i64 0) := h.away 4 (by decide) (by decide) fun hf => by have hx : ((12,⟨#[102,111,114,103,101]⟩,[69,70,75]) : Vb).2.2.contains 79 = true := (hasFoot_iff h.mem 4 (by decide)).1 hf; revert hx; decide
    injection ha with ha
    injection ha
  have e5 : R.f5 = 0 := by
    have ha : some (Value.int .u8 R.f5) = some (Value.int .u8 0) := h.away 5 (by decide) (by decide) fun hf => by have hx : ((12,⟨#[102,111,114,103,101]⟩,[69,70,75]) : Vb).2.2.contains 80 = true := (hasFoot_iff h.mem 5 (by decide)).1 hf; revert hx; decide
    injection ha with ha
    injection ha
  have e6 : R.f6 = 0 := by
    have ha : some (Value.int .i64 R.f6) = some (Value.int .i64 0) := h.away 6 (by decide) (by decide) fun hf => by have hx : ((12,⟨#[102,111,114,103,101]⟩,[69,70,75]) : Vb).2.2.contains 77 = true := (hasFoot_iff h.mem 6 (by decide)).1 hf; revert hx; decide
    injection ha with ha
    injection ha
  have e7 : R.f7 = 0 := by
    have ha : some (Value.int .u16 R.f7) = some (Value.int .u16 0) := h.away 7 (by decide) (by decide) fun hf => by have hx : ((12,⟨#[102,111,114,103,101]⟩,[69,70,75]) : Vb).2.2.contains 72 = true := (hasFoot_iff h.mem 7 (by decide)).1 hf; revert hx; decide
    injection ha with ha
    injection ha
  have e8 : R.f8 = 0 := by
    have ha : some (Value.int .u32 R.f8) = some (Value.int .u32 0) := h.away 8 (by decide) (by decide) fun hf => by have hx : ((12,⟨#[102,111,114,103,101]⟩,[69,70,75]) : Vb).2.2.contains 73 = true := (hasFoot_iff h.mem 8 (by decide)).1 hf; revert hx; decide
    injection ha with ha
    injection ha
  have e9 : R.f9 = false := by
    have ha : some (Value.bool R.f9) = some (Value.bool false) := h.away 9 (by decide) (by decide) fun hf => by have hx : ((12,⟨#[102,111,114,103,101]⟩,[69,70,75]) : Vb).2.2.contains 74 = true := (hasFoot_iff h.mem 9 (by decide)).1 hf; revert hx; decide
    injection ha with ha
    injection ha
  have e11 : R.f11 = ⟨#[]⟩ := by
    have ha : some (Value.string R.f11) = some (Value.string ⟨#[]⟩) := h.away 11 (by decide) (by decide) fun hf => by have hx : ((12,⟨#[102,111,114,103,101]⟩,[69,70,75]) : Vb).2.2.contains 76 = true := (hasFoot_iff h.mem 11 (by decide)).1 hf; revert hx; decide
    injection ha with ha
    injection ha
  have ed : d = unhex (bl (wAt ws 3)) := by
    rw [wAt_eq hw]
    show d = unhex (bl (bs (hexW d)))
    rw [bl_bs,unhex_hexW]
  exact Deq.of ed h.kind e1 e2 e3 e4 e5 e6 e7 e8 e9 e11
theorem loose13 {s : ByteArray} {R : R26} {d : List UInt8} {ws : List ByteArray} (hws : ws = words s) (h : IsDeedT ((13,⟨#[100,111,119,110]⟩,[70]) : Vb) s R d) : Deq R d (R26.mk 13 0 (nAt ws 1) 0 0 0 0 0 0 false none 0 0 ⟨#[]⟩) [] := by
  have hw : ws = _ := hws.trans h.words
  have e1 : R.f1 = 0 := by
    have ha : some (Value.int .i64 R.f1) = some (Value.int .i64 0) := h.away 1 (by decide) (by decide) fun hf => by have hx : ((13,⟨#[100,111,119,110]⟩,[70]) : Vb).2.2.contains 69 = true := (hasFoot_iff h.mem 1 (by decide)).1 hf; revert hx; decide
    injection ha with ha
    injection ha
  have e2 : R.f2 = (nAt ws 1) := by
    have ho := h.ok (partIt 70) (by simp [itemsOf])
    have ho : 0 <= R.f2 /\ R.f2 <= _ := ho
    unfold nAt
    rw [wAt_eq hw]
    show R.f2 = ((valS (bs (Lib.decDigits R.f2.toNat)) % 4398046511104 : Nat) : Int)
    rw [valS_dec (by omega)]
    omega
  have e3 : R.f3 = 0 := by
    have ha : some (Value.int .i64 R.f3) = some (Value.int .i64 0) := h.away 3 (by decide) (by decide) fun hf => by have hx : ((13,⟨#[100,111,119,110]⟩,[70]) : Vb).2.2.contains 71 = true := (hasFoot_iff h.mem 3 (by decide)).1 hf; revert hx; decide
    injection ha with ha
    injection ha
  have e4 : R.f4 = 0 := by
    have ha : some (Value.int .i64 R.f4) = some (Value.int .i64 0) := h.away 4 (by decide) (by decide) fun hf => by have hx : ((13,⟨#[100,111,119,110]⟩,[70]) : Vb).2.2.contains 79 = true := (hasFoot_iff h.mem 4 (by decide)).1 hf; revert hx; decide
    injection ha with ha
    injection ha
  have e5 : R.f5 = 0 := by
    have ha : some (Value.int .u8 R.f5) = some (Value.int .u8 0) := h.away 5 (by decide) (by decide) fun hf => by have hx : ((13,⟨#[100,111,119,110]⟩,[70]) : Vb).2.2.contains 80 = true := (hasFoot_iff h.mem 5 (by decide)).1 hf; revert hx; decide
    injection ha with ha
    injection ha
  have e6 : R.f6 = 0 := by
    have ha : some (Value.int .i64 R.f6) = some (Value.int .i64 0) := h.away 6 (by decide) (by decide) fun hf => by have hx : ((13,⟨#[100,111,119,110]⟩,[70]) : Vb).2.2.contains 77 = true := (hasFoot_iff h.mem 6 (by decide)).1 hf; revert hx; decide
    injection ha with ha
    injection ha
  have e7 : R.f7 = 0 := by
    have ha : some (Value.int .u16 R.f7) = some (Value.int .u16 0) := h.away 7 (by decide) (by decide) fun hf => by have hx : ((13,⟨#[100,111,119,110]⟩,[70]) : Vb).2.2.contains 72 = true := (hasFoot_iff h.mem 7 (by decide)).1 hf; revert hx; decide
    injection ha with ha
    injection ha
  have e8 : R.f8 = 0 := by
    have ha : some (Value.int .u32 R.f8) = some (Value.int .u32 0) := h.away 8 (by decide) (by decide) fun hf => by have hx : ((13,⟨#[100,111,119,110]⟩,[70]) : Vb).2.2.contains 73 = true := (hasFoot_iff h.mem 8 (by decide)).1 hf; revert hx; decide
    injection ha with ha
    injection ha
  have e9 : R.f9 = false := by
    have ha : some (Value.bool R.f9) = some (Value.bool false) := h.away 9 (by decide) (by decide) fun hf => by have hx : ((13,⟨#[100,111,119,110]⟩,[70]) : Vb).2.2.contains 74 = true := (hasFoot_iff h.mem 9 (by decide)).1 hf; revert hx; decide
    injection ha with ha
    injection ha
  have e11 : R.f11 = ⟨#[]⟩ := by
    have ha : some (Value.string R.f11) = some (Value.string ⟨#[]⟩) := h.away 11 (by decide) (by decide) fun hf => by have hx : ((13,⟨#[100,111,119,110]⟩,[70]) : Vb).2.2.contains 76 = true := (hasFoot_iff h.mem 11 (by decide)).1 hf; revert hx; decide
    injection ha with ha
    injection ha
  have ed : d = [] := h.data fun hf => by have hx : ((13,⟨#[100,111,119,110]⟩,[70]) : Vb).2.2.contains 75 = true := (hasFoot_iff h.mem 1000000 (by decide)).1 hf; revert hx; decide
  exact Deq.of ed h.kind e1 e2 e3 e4 e5 e6 e7 e8 e9 e11
theorem loose14 {s : ByteArray} {R : R26} {d : List UInt8} {ws : List ByteArray} (hws : ws = words s) (h : IsDeedT ((14,⟨#[117,112]⟩,[70]) : Vb) s R d) : Deq R d (R26.mk 14 0 (nAt ws 1) 0 0 0 0 0 0 false none 0 0 ⟨#[]⟩) [] := by
  have hw : ws = _ := hws.trans h.words
  have e1 : R.f1 = 0 := by
    have ha : some (Value.int .i64 R.f1) = some (Value.int .i64 0) := h.away 1 (by decide) (by decide) fun hf => by have hx : ((14,⟨#[117,112]⟩,[70]) : Vb).2.2.contains 69 = true := (hasFoot_iff h.mem 1 (by decide)).1 hf; revert hx; decide
    injection ha with ha
    injection ha
  have e2 : R.f2 = (nAt ws 1) := by
    have ho := h.ok (partIt 70) (by simp [itemsOf])
    have ho : 0 <= R.f2 /\ R.f2 <= _ := ho
    unfold nAt
    rw [wAt_eq hw]
    show R.f2 = ((valS (bs (Lib.decDigits R.f2.toNat)) % 4398046511104 : Nat) : Int)
    rw [valS_dec (by omega)]
    omega
  have e3 : R.f3 = 0 := by
    have ha : some (Value.int .i64 R.f3) = some (Value.int .i64 0) := h.away 3 (by decide) (by decide) fun hf => by have hx : ((14,⟨#[117,112]⟩,[70]) : Vb).2.2.contains 71 = true := (hasFoot_iff h.mem 3 (by decide)).1 hf; revert hx; decide
    injection ha with ha
    injection ha
  have e4 : R.f4 = 0 := by
    have ha : some (Value.int .i64 R.f4) = some (Value.int .i64 0) := h.away 4 (by decide) (by decide) fun hf => by have hx : ((14,⟨#[117,112]⟩,[70]) : Vb).2.2.contains 79 = true := (hasFoot_iff h.mem 4 (by decide)).1 hf; revert hx; decide
    injection ha with ha
    injection ha
  have e5 : R.f5 = 0 := by
    have ha : some (Value.int .u8 R.f5) = some (Value.int .u8 0) := h.away 5 (by decide) (by decide) fun hf => by have hx : ((14,⟨#[117,112]⟩,[70]) : Vb).2.2.contains 80 = true := (hasFoot_iff h.mem 5 (by decide)).1 hf; revert hx; decide
    injection ha with ha
    injection ha
  have e6 : R.f6 = 0 := by
    have ha : some (Value.int .i64 R.f6) = some (Value.int .i64 0) := h.away 6 (by decide) (by decide) fun hf => by have hx : ((14,⟨#[117,112]⟩,[70]) : Vb).2.2.contains 77 = true := (hasFoot_iff h.mem 6 (by decide)).1 hf; revert hx; decide
    injection ha with ha
    injection ha
  have e7 : R.f7 = 0 := by
    have ha : some (Value.int .u16 R.f7) = some (Value.int .u16 0) := h.away 7 (by decide) (by decide) fun hf => by have hx : ((14,⟨#[117,112]⟩,[70]) : Vb).2.2.contains 72 = true := (hasFoot_iff h.mem 7 (by decide)).1 hf; revert hx; decide
    injection ha with ha
    injection ha
  have e8 : R.f8 = 0 := by
    have ha : some (Value.int .u32 R.f8) = some (Value.int .u32 0) := h.away 8 (by decide) (by decide) fun hf => by have hx : ((14,⟨#[117,112]⟩,[70]) : Vb).2.2.contains 73 = true := (hasFoot_iff h.mem 8 (by decide)).1 hf; revert hx; decide
    injection ha with ha
    injection ha
  have e9 : R.f9 = false := by
    have ha : some (Value.bool R.f9) = some (Value.bool false) := h.away 9 (by decide) (by decide) fun hf => by have hx : ((14,⟨#[117,112]⟩,[70]) : Vb).2.2.contains 74 = true := (hasFoot_iff h.mem 9 (by decide)).1 hf; revert hx; decide
    injection ha with ha
    injection ha
  have e11 : R.f11 = ⟨#[]⟩ := by
    have ha : some (Value.string R.f11) = some (Value.string ⟨#[]⟩) := h.away 11 (by decide) (by decide) fun hf => by have hx : ((14,⟨#[117,112]⟩,[70]) : Vb).2.2.contains 76 = true := (hasFoot_iff h.mem 11 (by decide)).1 hf; revert hx; decide
    injection ha with ha
    injection ha
  have ed : d = [] := h.data fun hf => by have hx : ((14,⟨#[117,112]⟩,[70]) : Vb).2.2.contains 75 = true := (hasFoot_iff h.mem 1000000 (by decide)).1 hf; revert hx; decide
  exact Deq.of ed h.kind e1 e2 e3 e4 e5 e6 e7 e8 e9 e11
end Go.Proofs.YtilenpnpnbdndaaGreatDoor
