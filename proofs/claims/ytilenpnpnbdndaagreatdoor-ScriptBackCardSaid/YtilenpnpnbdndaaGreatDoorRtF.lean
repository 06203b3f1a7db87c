/- Own text: part of the shallow reading of the code and of the contracts that are proved over it. -/
import Derived.Test.YtilenpnpnbdndaaGreatDoorRtE
namespace Go.Proofs.YtilenpnpnbdndaaGreatDoor
open Go Go.Sh
set_option maxRecDepth 100000
attribute [local instance] Esc.none
def F17_K (K : Value -> World -> Prop) (y0_31 y2_31 y5_31 y8_31 : Value) (w33 : World) : Prop :=
 ∀ _g34 : Tm,rdS y0_31 fun s35 => rdA y2_31 fun a36 => rdA y5_31 fun a37 => rdC y8_31 fun l38a l38n _ => drw w33 fun w39 => ∃ w40 : World,Pres w40 w39 /\ (ixS 1 l38a l38n 0 fun a41 => ldI .i64 a41 w39 fun n42 => ixS 1 l38a l38n 1 fun a43 => ldI .i64 a43 w40 fun n44 => ixS 1 l38a l38n 2 fun a45 => ldI .i64 a45 w40 fun n46 => ixS 1 l38a l38n 3 fun a47 => ldI .i64 a47 w40 fun n48 => stc ((a37.add 0).add 17) (.int .i64 n42) w39 fun w49 => Pres w40 w49 /\ (stc ((a37.add 0).add 18) (.int .u32 (IntKind.wrap .u32 (n44))) w49 fun w50 => Pres w40 w50 /\ (stc ((a37.add 0).add 19) (.int .u16 (IntKind.wrap .u16 (n46))) w50 fun w51 => Pres w40 w51 /\ (stc ((a37.add 0).add 20) (.int .u16 (IntKind.wrap .u16 (n48))) w51 fun w52 => drw w52 fun w53 => ∃ w54 : World,Pres w54 w53 /\ (ixS 1 l38a l38n 4 fun a55 => ldI .i64 a55 w53 fun n56 => ixS 1 l38a l38n 5 fun a57 => ldI .i64 a57 w54 fun n58 => ixS 1 l38a l38n 6 fun a59 => ldI .i64 a59 w54 fun n60 => ixS 1 l38a l38n 7 fun a61 => ldI .i64 a61 w54 fun n62 => stc ((a37.add 0).add 21) (.int .i64 n56) w53 fun w63 => Pres w54 w63 /\ (stc ((a37.add 0).add 22) (.int .i64 n58) w63 fun w64 => Pres w54 w64 /\ (stc ((a37.add 0).add 23) (.int .u16 (IntKind.wrap .u16 (n60))) w64 fun w65 => Pres w54 w65 /\ (stc ((a37.add 0).add 24) (.int .u16 (IntKind.wrap .u16 (n62))) w65 fun w66 => drw w66 fun w67 => ∃ w68 : World,Pres w68 w67 /\ (ixS 1 l38a l38n 8 fun a69 => ldI .i64 a69 w67 fun n70 => ixS 1 l38a l38n 9 fun a71 => ldI .i64 a71 w68 fun n72 => ixS 1 l38a l38n 10 fun a73 => ldI .i64 a73 w68 fun n74 => stc (a37.add 25) (.int .i64 n70) w67 fun w75 => Pres w68 w75 /\ (stc (a37.add 26) (.int .i64 n72) w75 fun w76 => Pres w68 w76 /\ (stc (a37.add 27) (.int .i64 n74) w76 fun w77 => drw w77 fun w78 => ixS 1 l38a l38n 11 fun a79 => ldI .i64 a79 w78 fun n80 => ixS 1 l38a l38n 12 fun a81 => ldI .i64 a81 w78 fun n82 => ixS 1 l38a l38n 13 fun a83 => ldI .i64 a83 w78 fun n84 => stcL (a37.add 28) 0 (R45.mk n80 n82 n84).l w78 fun w85 => drw w85 fun w86 => ixS 1 l38a l38n 14 fun a87 => ldI .i64 a87 w86 fun n88 => ixS 1 l38a l38n 15 fun a89 => ldI .i64 a89 w86 fun n90 => ixS 1 l38a l38n 16 fun a91 => ldI .i64 a91 w86 fun n92 => stcL (a37.add 31) 0 (R45.mk n88 n90 n92).l w86 fun w93 => drw w93 fun w94 => ∃ w95 : World,Pres w95 w94 /\ (ixS 1 l38a l38n 17 fun a96 => ldI .i64 a96 w94 fun n97 => ixS 1 l38a l38n 18 fun a98 => ldI .i64 a98 w95 fun n99 => ixS 1 l38a l38n 19 fun a100 => ldI .i64 a100 w95 fun n101 => ixS 1 l38a l38n 20 fun a102 => ldI .i64 a102 w95 fun n103 => stc (a37.add 34) (.int .i64 n97) w94 fun w104 => Pres w95 w104 /\ (stc (a37.add 35) (.int .i64 n99) w104 fun w105 => Pres w95 w105 /\ (stc (a37.add 36) (.int .i64 n101) w105 fun w106 => Pres w95 w106 /\ (stc (a37.add 37) (.int .i64 n103) w106 fun w107 => drw w107 fun w108 => ∃ w109 : World,Pres w109 w108 /\ (ixS 1 l38a l38n 21 fun a110 => ldI .i64 a110 w108 fun n111 => ixS 1 l38a l38n 22 fun a112 => ldI .i64 a112 w109 fun n113 => ixS 1 l38a l38n 23 fun a114 => ldI .i64 a114 w109 fun n115 => stc (a37.add 38) (.bool (n111 == 1)) w108 fun w116 => Pres w109 w116 /\ (stc (a37.add 39) (.bool (n113 == 1)) w116 fun w117 => Pres w109 w117 /\ (stc (a37.add 40) (.bool (n115 == 1)) w117 fun w118 => ldR49 a37 w118 fun s119 => Calls Tryz.prog 15 #[s119.v] w118 (en fun e121 w120 => ∃ s122,∃ n123,e121 = .returned (.tuple #[(.string s122),(.int .i64 n123)]) /\ (br (n123 != 0) (stcL a36 0 (R49.mk 0 0 0 0 0 0 0 0 0 0 0 0 0 0 0 0 0 0 0 0 0 0 0 0 0 0 0 0 0 0 0 0 0 0 0 0 0 0 false false false).l w120 fun w124 => ldR49 a36 w124 fun s125 => K (.tuple #[s125.v,(.int .i64 250)]) w124) (br (!(ByteArray.toList s122 == ByteArray.toList s35)) (stcL a36 0 (R49.mk 0 0 0 0 0 0 0 0 0 0 0 0 0 0 0 0 0 0 0 0 0 0 0 0 0 0 0 0 0 0 0 0 0 0 0 0 0 0 false false false).l w120 fun w126 => ldR49 a36 w126 fun s127 => K (.tuple #[s127.v,(.int .i64 250)]) w126) (ldR49 a37 w120 fun s128 => stcL a36 0 s128.l w120 fun w129 => ldR49 a36 w129 fun s130 => K (.tuple #[s130.v,(.int .i64 0)]) w129))))))))))))))))))))))
theorem stcL_nil {a : Addr} {n : Nat} {w : World} {K : World -> Prop} (h : K w) : Go.Sh.stcL a n [] w K := by unfold Go.Sh.stcL; exact h
theorem made24 : (madeCells (Value.int .i64 0).cells (24 * 1)).toList = List.replicate 24 (.int .i64 0) := by kernel_rfl
theorem bit_one (b : Bool) : (bitN b == 1) = b := by cases b <;> rfl
theorem KeyOk.at {cs : Array Value} (h : KeyOk cs) {j : Nat} (hj : j < 16) : cs[j]? = some (.int .u8 (((keyAt cs).getD j 0).toNat : Int)) := by
 have h5 : (cs.toList.take 16)[j]? = (u8v (keyAt cs))[j]? := by rw [h]
 rw [List.getElem?_take_of_lt hj,Array.getElem?_toList] at h5
 have hjl : j < (keyAt cs).length := by rw [keyAt_len]; exact hj
 rw [h5,List.getD_eq_getElem?_getD]
 simp [u8v,hjl]
theorem GoodC.of {R : R49} (hk : KeyOk R.c) (ho : okAll confItems ⟨R.c,[]⟩) : GoodC R.c :=
 ⟨ho (.num 16 .u64 18446744073709551615) (by simp [confItems]),ho (.num 18 .u32 4294967295) (by simp [confItems]),ho (.num 19 .u16 65535) (by simp [confItems]),ho (.num 20 .u16 65535) (by simp [confItems]),ho (.num 23 .u16 65535) (by simp [confItems]),ho (.num 24 .u16 65535) (by simp [confItems]),hk⟩
theorem wAt_eq {ws l : List ByteArray} (h : ws = l) (i : Nat) : wAt ws i = l.getD i ⟨#[]⟩ := by rw [h]; rfl
set_option maxHeartbeats 2000000 in
theorem conf_loose {s : ByteArray} {R : R49} (h : IsConf s R) : (words s).length = 53 /\ Rl (words s) = R /\ lineOf confItems ⟨R.c,[]⟩ = s := by
 obtain ⟨hk,ho,hw⟩ := h
 have hG := GoodC.of hk ho
 have hn := (conf_ok hG).1 ho
 refine ⟨by rw [hw]; rfl,?_,by unfold lineOf; rw [← hw,joined_words]⟩
 obtain ⟨⟨a16,b16⟩,g18,g19,g20,g23,g24,_⟩ := hG
 have a16 : 0 <= R.f16 := a16
 have b16 : R.f16 <= 18446744073709551615 := b16
 have g18 : 0 <= R.f18 /\ R.f18 <= 4294967295 := g18
 have g19 : 0 <= R.f19 /\ R.f19 <= 65535 := g19
 have g20 : 0 <= R.f20 /\ R.f20 <= 65535 := g20
 have g23 : 0 <= R.f23 /\ R.f23 <= 65535 := g23
 have g24 : 0 <= R.f24 /\ R.f24 <= 65535 := g24
 rw [conf_words] at hw
 have w4 : unhex (bl (wAt (words s) 4)) = keyAt R.c := by
  rw [wAt_eq hw]
  show unhex (bl (bs (hexW (keyAt R.c)))) = _
  rw [bl_bs,unhex_hexW]
 have hkb : ∀ j,j < 16 -> ∀ x : Int,R.c[j]? = some (.int .u8 x) -> kbI (words s) j = x := fun j hj x hx => by
  rw [hk.at hj] at hx
  injection hx with hx
  injection hx with _ hx
  unfold kbI kbyte
  rw [w4,hx]
 have v16w : (valS (wAt (words s) 2) : Int) = R.f16 := by
  rw [wAt_eq hw]
  show (valS (bs (Lib.decDigits R.f16.toNat)) : Int) = _
  rw [valS_dec (by omega)]
  omega
 have hv : ∀ (i : Nat) (x : Int),(headOf R ++ pairs confNames (intsOf R)).getD (6 + 2 * i) ⟨#[]⟩ = dec x -> x = x -> numOk x -> vAt (words s) i = x := fun i x hx _ hok => by
  unfold vAt
  rw [wAt_eq hw,hx]
  obtain ⟨h0,h1⟩ := hok
  show ((valS (bs (Lib.decDigits x.toNat)) % 4398046511104 : Nat) : Int) = x
  rw [valS_dec (by omega)]
  omega
 have k0 : kbI (words s) 0 = R.f0 := hkb 0 (by omega) _ rfl
 have k1 : kbI (words s) 1 = R.f1 := hkb 1 (by omega) _ rfl
 have k2 : kbI (words s) 2 = R.f2 := hkb 2 (by omega) _ rfl
 have k3 : kbI (words s) 3 = R.f3 := hkb 3 (by omega) _ rfl
 have k4 : kbI (words s) 4 = R.f4 := hkb 4 (by omega) _ rfl
 have k5 : kbI (words s) 5 = R.f5 := hkb 5 (by omega) _ rfl
 have k6 : kbI (words s) 6 = R.f6 := hkb 6 (by omega) _ rfl
 have k7 : kbI (words s) 7 = R.f7 := hkb 7 (by omega) _ rfl
 have k8 : kbI (words s) 8 = R.f8 := hkb 8 (by omega) _ rfl
 have k9 : kbI (words s) 9 = R.f9 := hkb 9 (by omega) _ rfl
 have k10 : kbI (words s) 10 = R.f10 := hkb 10 (by omega) _ rfl
 have k11 : kbI (words s) 11 = R.f11 := hkb 11 (by omega) _ rfl
 have k12 : kbI (words s) 12 = R.f12 := hkb 12 (by omega) _ rfl
 have k13 : kbI (words s) 13 = R.f13 := hkb 13 (by omega) _ rfl
 have k14 : kbI (words s) 14 = R.f14 := hkb 14 (by omega) _ rfl
 have k15 : kbI (words s) 15 = R.f15 := hkb 15 (by omega) _ rfl
 have v0 : vAt (words s) 0 = R.f17 := hv 0 R.f17 rfl rfl (hn R.f17 (by simp [intsOf]))
 have v1 : vAt (words s) 1 = R.f18 := hv 1 R.f18 rfl rfl (hn R.f18 (by simp [intsOf]))
 have v2 : vAt (words s) 2 = R.f19 := hv 2 R.f19 rfl rfl (hn R.f19 (by simp [intsOf]))
 have v3 : vAt (words s) 3 = R.f20 := hv 3 R.f20 rfl rfl (hn R.f20 (by simp [intsOf]))
 have v4 : vAt (words s) 4 = R.f21 := hv 4 R.f21 rfl rfl (hn R.f21 (by simp [intsOf]))
 have v5 : vAt (words s) 5 = R.f22 := hv 5 R.f22 rfl rfl (hn R.f22 (by simp [intsOf]))
 have v6 : vAt (words s) 6 = R.f23 := hv 6 R.f23 rfl rfl (hn R.f23 (by simp [intsOf]))
 have v7 : vAt (words s) 7 = R.f24 := hv 7 R.f24 rfl rfl (hn R.f24 (by simp [intsOf]))
 have v8 : vAt (words s) 8 = R.f25 := hv 8 R.f25 rfl rfl (hn R.f25 (by simp [intsOf]))
 have v9 : vAt (words s) 9 = R.f26 := hv 9 R.f26 rfl rfl (hn R.f26 (by simp [intsOf]))
 have v10 : vAt (words s) 10 = R.f27 := hv 10 R.f27 rfl rfl (hn R.f27 (by simp [intsOf]))
 have v11 : vAt (words s) 11 = R.f28 := hv 11 R.f28 rfl rfl (hn R.f28 (by simp [intsOf]))
 have v12 : vAt (words s) 12 = R.f29 := hv 12 R.f29 rfl rfl (hn R.f29 (by simp [intsOf]))
 have v13 : vAt (words s) 13 = R.f30 := hv 13 R.f30 rfl rfl (hn R.f30 (by simp [intsOf]))
 have v14 : vAt (words s) 14 = R.f31 := hv 14 R.f31 rfl rfl (hn R.f31 (by simp [intsOf]))
 have v15 : vAt (words s) 15 = R.f32 := hv 15 R.f32 rfl rfl (hn R.f32 (by simp [intsOf]))
 have v16 : vAt (words s) 16 = R.f33 := hv 16 R.f33 rfl rfl (hn R.f33 (by simp [intsOf]))
 have v17 : vAt (words s) 17 = R.f34 := hv 17 R.f34 rfl rfl (hn R.f34 (by simp [intsOf]))
 have v18 : vAt (words s) 18 = R.f35 := hv 18 R.f35 rfl rfl (hn R.f35 (by simp [intsOf]))
 have v19 : vAt (words s) 19 = R.f36 := hv 19 R.f36 rfl rfl (hn R.f36 (by simp [intsOf]))
 have v20 : vAt (words s) 20 = R.f37 := hv 20 R.f37 rfl rfl (hn R.f37 (by simp [intsOf]))
 have v21 : vAt (words s) 21 = bitN R.f38 := hv 21 (bitN R.f38) rfl rfl (hn (bitN R.f38) (by simp [intsOf]))
 have v22 : vAt (words s) 22 = bitN R.f39 := hv 22 (bitN R.f39) rfl rfl (hn (bitN R.f39) (by simp [intsOf]))
 have v23 : vAt (words s) 23 = bitN R.f40 := hv 23 (bitN R.f40) rfl rfl (hn (bitN R.f40) (by simp [intsOf]))
 have wr18 : IntKind.wrap .u32 R.f18 = R.f18 := by rw [IntKind.wrap_u32]; omega
 have wr19 : IntKind.wrap .u16 R.f19 = R.f19 := by rw [IntKind.wrap_u16]; omega
 have wr20 : IntKind.wrap .u16 R.f20 = R.f20 := by rw [IntKind.wrap_u16]; omega
 have wr23 : IntKind.wrap .u16 R.f23 = R.f23 := by rw [IntKind.wrap_u16]; omega
 have wr24 : IntKind.wrap .u16 R.f24 = R.f24 := by rw [IntKind.wrap_u16]; omega
 unfold Rl
 rw [k0,k1,k2,k3,k4,k5,k6,k7,k8,k9,k10,k11,k12,k13,k14,k15,v16w,v0,v1,v2,v3,v4,v5,v6,v7,v8,v9,v10,v11,v12,v13,v14,v15,v16,v17,v18,v19,v20,v21,v22,v23,wr18,wr19,wr20,wr23,wr24,bit_one,bit_one,bit_one]
theorem Rl_key (ws : List ByteArray) : KeyOk (Rl ws).c := by
 have e : (Rl ws).c.toList.take 16 = (List.range 16).map fun j => Value.int .u8 (kbI ws j) := rfl
 have e2 : keyAt (Rl ws).c = (List.range 16).map fun j => (kbI ws j).toNat.toUInt8 := rfl
 unfold KeyOk
 rw [e,e2]
 unfold u8v
 rw [List.map_map]
 refine List.map_congr_left fun j _ => ?_
 show Value.int .u8 (kbI ws j) = Value.int .u8 ((((kbI ws j).toNat.toUInt8).toNat : Nat) : Int)
 unfold kbI kbyte
 congr 1
 have := ((unhex (bl (wAt ws 4))).getD j 0).toNat_lt
 simp
theorem Rl_good (ws : List ByteArray) : GoodC (Rl ws).c := by
 refine ⟨⟨?_,?_⟩,⟨?_,?_⟩,⟨?_,?_⟩,⟨?_,?_⟩,⟨?_,?_⟩,⟨?_,?_⟩,Rl_key ws⟩
 ·show (0 : Int) <= (valS (wAt ws 2) : Int); omega
 ·show (valS (wAt ws 2) : Int) <= 18446744073709551615
  have := val_lt ((bl (wAt ws 2)).take 20) 0 (by omega)
  unfold valS
  omega
 ·show 0 <= IntKind.wrap .u32 _; rw [IntKind.wrap_u32]; omega
 ·show IntKind.wrap .u32 _ <= 4294967295; rw [IntKind.wrap_u32]; omega
 ·show 0 <= IntKind.wrap .u16 _; rw [IntKind.wrap_u16]; omega
 ·show IntKind.wrap .u16 _ <= 65535; rw [IntKind.wrap_u16]; omega
 ·show 0 <= IntKind.wrap .u16 _; rw [IntKind.wrap_u16]; omega
 ·show IntKind.wrap .u16 _ <= 65535; rw [IntKind.wrap_u16]; omega
 ·show 0 <= IntKind.wrap .u16 _; rw [IntKind.wrap_u16]; omega
 ·show IntKind.wrap .u16 _ <= 65535; rw [IntKind.wrap_u16]; omega
 ·show 0 <= IntKind.wrap .u16 _; rw [IntKind.wrap_u16]; omega
 ·show IntKind.wrap .u16 _ <= 65535; rw [IntKind.wrap_u16]; omega
theorem loose_conf {s : ByteArray} (ho : okAll confItems ⟨(Rl (words s)).c,[]⟩) (hl : lineOf confItems ⟨(Rl (words s)).c,[]⟩ = s) : IsConf s (Rl (words s)) := by
 refine ⟨Rl_key _,ho,?_⟩
 have h1 := words_line (its := confItems) (s := ⟨(Rl (words s)).c,[]⟩) (by simp [confItems]) conf_clear
 rw [hl] at h1
 exact h1
section
variable {W w : World} {M : List HP}
set_option maxHeartbeats 4000000 in
theorem F17_main {ws : List ByteArray} {s : ByteArray} {ib cb rb : Nat} {K : Value -> World -> Prop} (hT : TB W) (_ : ws = words s) (h : Hs W (pt ib (.cells (iV (vsOf ws)).toArray 3 (0,0)) :: pt cb (.cells (Rk ws).c 50 (0,0)) :: pt rb (.cells R49.zz.c 50 (0,0)) :: M) w)
  (hK : ∀ w',(okAll confItems ⟨(Rl ws).c,[]⟩ /\ lineOf confItems ⟨(Rl ws).c,[]⟩ = s) -> Hs W M w' -> K (.tuple #[(Rl ws).v,.int .i64 0]) w') (hR : ∀ w',¬ (okAll confItems ⟨(Rl ws).c,[]⟩ /\ lineOf confItems ⟨(Rl ws).c,[]⟩ = s) -> Hs W M w' -> K (.tuple #[R49.zz.v,.int .i64 250]) w') :
  F17_K K (.string s) (.pointer (some ⟨rb,0,none⟩)) (.pointer (some ⟨cb,0,none⟩)) (.slice (some ⟨ib,0,none⟩) 24 24) w := by
 unfold F17_K
 simp only [rdS_mk,rdA_mk,rdC_mk,add_mk,Nat.add_zero,Nat.zero_add]
 intro _
 refine h.drw fun w1 h => ⟨Go.Sh.lone w1 ib _,Go.Sh.Pres.lone (h.at 0 rfl),?_⟩
 refine ixS_to (p := 0) rfl (by decide) ?_
 refine h.ldI 0 rfl (n := vAt ws 0) rfl ?_
 refine ixS_to (p := 1) rfl (by decide) ?_
 refine ldI_at (n := vAt ws 1) (lone_at _ _ _) rfl ?_
 refine ixS_to (p := 2) rfl (by decide) ?_
 refine ldI_at (n := vAt ws 2) (lone_at _ _ _) rfl ?_
 refine ixS_to (p := 3) rfl (by decide) ?_
 refine ldI_at (n := vAt ws 3) (lone_at _ _ _) rfl ?_
 refine h.stc 1 rfl (sz49 _ 17 (by decide)) fun w2 h => ⟨Go.Sh.Pres.lone (h.at 0 rfl),?_⟩
 have h : Hs W (pt ib (.cells (iV (vsOf ws)).toArray 3 (0,0)) :: pt cb (.cells ({ Rk ws with f17 := vAt ws 0 } : R49).c 50 (0,0)) :: pt rb (.cells R49.zz.c 50 (0,0)) :: M) w2 := h
 refine h.stc 1 rfl (sz49 _ 18 (by decide)) fun w2 h => ⟨Go.Sh.Pres.lone (h.at 0 rfl),?_⟩
 have h : Hs W (pt ib (.cells (iV (vsOf ws)).toArray 3 (0,0)) :: pt cb (.cells ({ Rk ws with f17 := vAt ws 0,f18 := IntKind.wrap .u32 (vAt ws 1) } : R49).c 50 (0,0)) :: pt rb (.cells R49.zz.c 50 (0,0)) :: M) w2 := h
 refine h.stc 1 rfl (sz49 _ 19 (by decide)) fun w2 h => ⟨Go.Sh.Pres.lone (h.at 0 rfl),?_⟩
 have h : Hs W (pt ib (.cells (iV (vsOf ws)).toArray 3 (0,0)) :: pt cb (.cells ({ Rk ws with f17 := vAt ws 0,f18 := IntKind.wrap .u32 (vAt ws 1),f19 := IntKind.wrap .u16 (vAt ws 2) } : R49).c 50 (0,0)) :: pt rb (.cells R49.zz.c 50 (0,0)) :: M) w2 := h
 refine h.stc 1 rfl (sz49 _ 20 (by decide)) fun w2 h => ?_
 have h : Hs W (pt ib (.cells (iV (vsOf ws)).toArray 3 (0,0)) :: pt cb (.cells ({ Rk ws with f17 := vAt ws 0,f18 := IntKind.wrap .u32 (vAt ws 1),f19 := IntKind.wrap .u16 (vAt ws 2),f20 := IntKind.wrap .u16 (vAt ws 3) } : R49).c 50 (0,0)) :: pt rb (.cells R49.zz.c 50 (0,0)) :: M) w2 := h
 refine h.drw fun w1 h => ⟨Go.Sh.lone w1 ib _,Go.Sh.Pres.lone (h.at 0 rfl),?_⟩
 refine ixS_to (p := 4) rfl (by decide) ?_
 refine h.ldI 0 rfl (n := vAt ws 4) rfl ?_
 refine ixS_to (p := 5) rfl (by decide) ?_
 refine ldI_at (n := vAt ws 5) (lone_at _ _ _) rfl ?_
 refine ixS_to (p := 6) rfl (by decide) ?_
 refine ldI_at (n := vAt ws 6) (lone_at _ _ _) rfl ?_
 refine ixS_to (p := 7) rfl (by decide) ?_
 refine ldI_at (n := vAt ws 7) (lone_at _ _ _) rfl ?_
 refine h.stc 1 rfl (sz49 _ 21 (by decide)) fun w2 h => ⟨Go.Sh.Pres.lone (h.at 0 rfl),?_⟩
 have h : Hs W (pt ib (.cells (iV (vsOf ws)).toArray 3 (0,0)) :: pt cb (.cells ({ Rk ws with f17 := vAt ws 0,f18 := IntKind.wrap .u32 (vAt ws 1),f19 := IntKind.wrap .u16 (vAt ws 2),f20 := IntKind.wrap .u16 (vAt ws 3),f21 := vAt ws 4 } : R49).c 50 (0,0)) :: pt rb (.cells R49.zz.c 50 (0,0)) :: M) w2 := h
 refine h.stc 1 rfl (sz49 _ 22 (by decide)) fun w2 h => ⟨Go.Sh.Pres.lone (h.at 0 rfl),?_⟩
 have h : Hs W (pt ib (.cells (iV (vsOf ws)).toArray 3 (0,0)) :: pt cb (.cells ({ Rk ws with f17 := vAt ws 0,f18 := IntKind.wrap .u32 (vAt ws 1),f19 := IntKind.wrap .u16 (vAt ws 2),f20 := IntKind.wrap .u16 (vAt ws 3),f21 := vAt ws 4,f22 := vAt ws 5 } : R49).c 50 (0,0)) :: pt rb (.cells R49.zz.c 50 (0,0)) :: M) w2 := h
 refine h.stc 1 rfl (sz49 _ 23 (by decide)) fun w2 h => ⟨Go.Sh.Pres.lone (h.at 0 rfl),?_⟩
 have h : Hs W (pt ib (.cells (iV (vsOf ws)).toArray 3 (0,0)) :: pt cb (.cells ({ Rk ws with f17 := vAt ws 0,f18 := IntKind.wrap .u32 (vAt ws 1),f19 := IntKind.wrap .u16 (vAt ws 2),f20 := IntKind.wrap .u16 (vAt ws 3),f21 := vAt ws 4,f22 := vAt ws 5,f23 := IntKind.wrap .u16 (vAt ws 6) } : R49).c 50 (0,0)) :: pt rb (.cells R49.zz.c 50 (0,0)) :: M) w2 := h
 refine h.stc 1 rfl (sz49 _ 24 (by decide)) fun w2 h => ?_
 have h : Hs W (pt ib (.cells (iV (vsOf ws)).toArray 3 (0,0)) :: pt cb (.cells ({ Rk ws with f17 := vAt ws 0,f18 := IntKind.wrap .u32 (vAt ws 1),f19 := IntKind.wrap .u16 (vAt ws 2),f20 := IntKind.wrap .u16 (vAt ws 3),f21 := vAt ws 4,f22 := vAt ws 5,f23 := IntKind.wrap .u16 (vAt ws 6),f24 := IntKind.wrap .u16 (vAt ws 7) } : R49).c 50 (0,0)) :: pt rb (.cells R49.zz.c 50 (0,0)) :: M) w2 := h
 refine h.drw fun w1 h => ⟨Go.Sh.lone w1 ib _,Go.Sh.Pres.lone (h.at 0 rfl),?_⟩
 refine ixS_to (p := 8) rfl (by decide) ?_
 refine h.ldI 0 rfl (n := vAt ws 8) rfl ?_
 refine ixS_to (p := 9) rfl (by decide) ?_
 refine ldI_at (n := vAt ws 9) (lone_at _ _ _) rfl ?_
 refine ixS_to (p := 10) rfl (by decide) ?_
 refine ldI_at (n := vAt ws 10) (lone_at _ _ _) rfl ?_
 refine h.stc 1 rfl (sz49 _ 25 (by decide)) fun w2 h => ⟨Go.Sh.Pres.lone (h.at 0 rfl),?_⟩
 have h : Hs W (pt ib (.cells (iV (vsOf ws)).toArray 3 (0,0)) :: pt cb (.cells ({ Rk ws with f17 := vAt ws 0,f18 := IntKind.wrap .u32 (vAt ws 1),f19 := IntKind.wrap .u16 (vAt ws 2),f20 := IntKind.wrap .u16 (vAt ws 3),f21 := vAt ws 4,f22 := vAt ws 5,f23 := IntKind.wrap .u16 (vAt ws 6),f24 := IntKind.wrap .u16 (vAt ws 7),f25 := vAt ws 8 } : R49).c 50 (0,0)) :: pt rb (.cells R49.zz.c 50 (0,0)) :: M) w2 := h
 refine h.stc 1 rfl (sz49 _ 26 (by decide)) fun w2 h => ⟨Go.Sh.Pres.lone (h.at 0 rfl),?_⟩
 have h : Hs W (pt ib (.cells (iV (vsOf ws)).toArray 3 (0,0)) :: pt cb (.cells ({ Rk ws with f17 := vAt ws 0,f18 := IntKind.wrap .u32 (vAt ws 1),f19 := IntKind.wrap .u16 (vAt ws 2),f20 := IntKind.wrap .u16 (vAt ws 3),f21 := vAt ws 4,f22 := vAt ws 5,f23 := IntKind.wrap .u16 (vAt ws 6),f24 := IntKind.wrap .u16 (vAt ws 7),f25 := vAt ws 8,f26 := vAt ws 9 } : R49).c 50 (0,0)) :: pt rb (.cells R49.zz.c 50 (0,0)) :: M) w2 := h
 refine h.stc 1 rfl (sz49 _ 27 (by decide)) fun w2 h => ?_
 have h : Hs W (pt ib (.cells (iV (vsOf ws)).toArray 3 (0,0)) :: pt cb (.cells ({ Rk ws with f17 := vAt ws 0,f18 := IntKind.wrap .u32 (vAt ws 1),f19 := IntKind.wrap .u16 (vAt ws 2),f20 := IntKind.wrap .u16 (vAt ws 3),f21 := vAt ws 4,f22 := vAt ws 5,f23 := IntKind.wrap .u16 (vAt ws 6),f24 := IntKind.wrap .u16 (vAt ws 7),f25 := vAt ws 8,f26 := vAt ws 9,f27 := vAt ws 10 } : R49).c 50 (0,0)) :: pt rb (.cells R49.zz.c 50 (0,0)) :: M) w2 := h
 refine h.drw fun w1 h => ?_
 refine ixS_to (p := 11) rfl (by decide) ?_
 refine h.ldI 0 rfl (n := vAt ws 11) rfl ?_
 refine ixS_to (p := 12) rfl (by decide) ?_
 refine h.ldI 0 rfl (n := vAt ws 12) rfl ?_
 refine ixS_to (p := 13) rfl (by decide) ?_
 refine h.ldI 0 rfl (n := vAt ws 13) rfl ?_
 show Go.Sh.stc ⟨cb,28,none⟩ _ _ (fun w2 => Go.Sh.stc ⟨cb,29,none⟩ _ w2 (fun w3 => Go.Sh.stc ⟨cb,30,none⟩ _ w3 _))
 refine h.stc 1 rfl (sz49 _ 28 (by decide)) fun w2 h => ?_
 have h : Hs W (pt ib (.cells (iV (vsOf ws)).toArray 3 (0,0)) :: pt cb (.cells ({ Rk ws with f17 := vAt ws 0,f18 := IntKind.wrap .u32 (vAt ws 1),f19 := IntKind.wrap .u16 (vAt ws 2),f20 := IntKind.wrap .u16 (vAt ws 3),f21 := vAt ws 4,f22 := vAt ws 5,f23 := IntKind.wrap .u16 (vAt ws 6),f24 := IntKind.wrap .u16 (vAt ws 7),f25 := vAt ws 8,f26 := vAt ws 9,f27 := vAt ws 10,f28 := vAt ws 11 } : R49).c 50 (0,0)) :: pt rb (.cells R49.zz.c 50 (0,0)) :: M) w2 := h
 refine h.stc 1 rfl (sz49 _ 29 (by decide)) fun w2 h => ?_
 have h : Hs W (pt ib (.cells (iV (vsOf ws)).toArray 3 (0,0)) :: pt cb (.cells ({ Rk ws with f17 := vAt ws 0,f18 := IntKind.wrap .u32 (vAt ws 1),f19 := IntKind.wrap .u16 (vAt ws 2),f20 := IntKind.wrap .u16 (vAt ws 3),f21 := vAt ws 4,f22 := vAt ws 5,f23 := IntKind.wrap .u16 (vAt ws 6),f24 := IntKind.wrap .u16 (vAt ws 7),f25 := vAt ws 8,f26 := vAt ws 9,f27 := vAt ws 10,f28 := vAt ws 11,f29 := vAt ws 12 } : R49).c 50 (0,0)) :: pt rb (.cells R49.zz.c 50 (0,0)) :: M) w2 := h
 refine h.stc 1 rfl (sz49 _ 30 (by decide)) fun w2 h => ?_
 have h : Hs W (pt ib (.cells (iV (vsOf ws)).toArray 3 (0,0)) :: pt cb (.cells ({ Rk ws with f17 := vAt ws 0,f18 := IntKind.wrap .u32 (vAt ws 1),f19 := IntKind.wrap .u16 (vAt ws 2),f20 := IntKind.wrap .u16 (vAt ws 3),f21 := vAt ws 4,f22 := vAt ws 5,f23 := IntKind.wrap .u16 (vAt ws 6),f24 := IntKind.wrap .u16 (vAt ws 7),f25 := vAt ws 8,f26 := vAt ws 9,f27 := vAt ws 10,f28 := vAt ws 11,f29 := vAt ws 12,f30 := vAt ws 13 } : R49).c 50 (0,0)) :: pt rb (.cells R49.zz.c 50 (0,0)) :: M) w2 := h
 refine stcL_nil ?_
 refine h.drw fun w1 h => ?_
 refine ixS_to (p := 14) rfl (by decide) ?_
 refine h.ldI 0 rfl (n := vAt ws 14) rfl ?_
 refine ixS_to (p := 15) rfl (by decide) ?_
 refine h.ldI 0 rfl (n := vAt ws 15) rfl ?_
 refine ixS_to (p := 16) rfl (by decide) ?_
 refine h.ldI 0 rfl (n := vAt ws 16) rfl ?_
 show Go.Sh.stc ⟨cb,31,none⟩ _ _ (fun w2 => Go.Sh.stc ⟨cb,32,none⟩ _ w2 (fun w3 => Go.Sh.stc ⟨cb,33,none⟩ _ w3 _))
 refine h.stc 1 rfl (sz49 _ 31 (by decide)) fun w2 h => ?_
 have h : Hs W (pt ib (.cells (iV (vsOf ws)).toArray 3 (0,0)) :: pt cb (.cells ({ Rk ws with f17 := vAt ws 0,f18 := IntKind.wrap .u32 (vAt ws 1),f19 := IntKind.wrap .u16 (vAt ws 2),f20 := IntKind.wrap .u16 (vAt ws 3),f21 := vAt ws 4,f22 := vAt ws 5,f23 := IntKind.wrap .u16 (vAt ws 6),f24 := IntKind.wrap .u16 (vAt ws 7),f25 := vAt ws 8,f26 := vAt ws 9,f27 := vAt ws 10,f28 := vAt ws 11,f29 := vAt ws 12,f30 := vAt ws 13,f31 := vAt ws 14 } : R49).c 50 (0,0)) :: pt rb (.cells R49.zz.c 50 (0,0)) :: M) w2 := h
 refine h.stc 1 rfl (sz49 _ 32 (by decide)) fun w2 h => ?_
 have h : Hs W (pt ib (.cells (iV (vsOf ws)).toArray 3 (0,0)) :: pt cb (.cells ({ Rk ws with f17 := vAt ws 0,f18 := IntKind.wrap .u32 (vAt ws 1),f19 := IntKind.wrap .u16 (vAt ws 2),f20 := IntKind.wrap .u16 (vAt ws 3),f21 := vAt ws 4,f22 := vAt ws 5,f23 := IntKind.wrap .u16 (vAt ws 6),f24 := IntKind.wrap .u16 (vAt ws 7),f25 := vAt ws 8,f26 := vAt ws 9,f27 := vAt ws 10,f28 := vAt ws 11,f29 := vAt ws 12,f30 := vAt ws 13,f31 := vAt ws 14,f32 := vAt ws 15 } : R49).c 50 (0,0)) :: pt rb (.cells R49.zz.c 50 (0,0)) :: M) w2 := h
 refine h.stc 1 rfl (sz49 _ 33 (by decide)) fun w2 h => ?_
 have h : Hs W (pt ib (.cells (iV (vsOf ws)).toArray 3 (0,0)) :: pt cb (.cells ({ Rk ws with f17 := vAt ws 0,f18 := IntKind.wrap .u32 (vAt ws 1),f19 := IntKind.wrap .u16 (vAt ws 2),f20 := IntKind.wrap .u16 (vAt ws 3),f21 := vAt ws 4,f22 := vAt ws 5,f23 := IntKind.wrap .u16 (vAt ws 6),f24 := IntKind.wrap .u16 (vAt ws 7),f25 := vAt ws 8,f26 := vAt ws 9,f27 := vAt ws 10,f28 := vAt ws 11,f29 := vAt ws 12,f30 := vAt ws 13,f31 := vAt ws 14,f32 := vAt ws 15,f33 := vAt ws 16 } : R49).c 50 (0,0)) :: pt rb (.cells R49.zz.c 50 (0,0)) :: M) w2 := h
 refine stcL_nil ?_
 refine h.drw fun w1 h => ⟨Go.Sh.lone w1 ib _,Go.Sh.Pres.lone (h.at 0 rfl),?_⟩
 refine ixS_to (p := 17) rfl (by decide) ?_
 refine h.ldI 0 rfl (n := vAt ws 17) rfl ?_
 refine ixS_to (p := 18) rfl (by decide) ?_
 refine ldI_at (n := vAt ws 18) (lone_at _ _ _) rfl ?_
 refine ixS_to (p := 19) rfl (by decide) ?_
 refine ldI_at (n := vAt ws 19) (lone_at _ _ _) rfl ?_
 refine ixS_to (p := 20) rfl (by decide) ?_
 refine ldI_at (n := vAt ws 20) (lone_at _ _ _) rfl ?_
 refine h.stc 1 rfl (sz49 _ 34 (by decide)) fun w2 h => ⟨Go.Sh.Pres.lone (h.at 0 rfl),?_⟩
 have h : Hs W (pt ib (.cells (iV (vsOf ws)).toArray 3 (0,0)) :: pt cb (.cells ({ Rk ws with f17 := vAt ws 0,f18 := IntKind.wrap .u32 (vAt ws 1),f19 := IntKind.wrap .u16 (vAt ws 2),f20 := IntKind.wrap .u16 (vAt ws 3),f21 := vAt ws 4,f22 := vAt ws 5,f23 := IntKind.wrap .u16 (vAt ws 6),f24 := IntKind.wrap .u16 (vAt ws 7),f25 := vAt ws 8,f26 := vAt ws 9,f27 := vAt ws 10,f28 := vAt ws 11,f29 := vAt ws 12,f30 := vAt ws 13,f31 := vAt ws 14,f32 := vAt ws 15,f33 := vAt ws 16,f34 := vAt ws 17 } : R49).c 50 (0,0)) :: pt rb (.cells R49.zz.c 50 (0,0)) :: M) w2 := h
 refine h.stc 1 rfl (sz49 _ 35 (by decide)) fun w2 h => ⟨Go.Sh.Pres.lone (h.at 0 rfl),?_⟩
 have h : Hs W (pt ib (.cells (iV (vsOf ws)).toArray 3 (0,0)) :: pt cb (.cells ({ Rk ws with f17 := vAt ws 0,f18 := IntKind.wrap .u32 (vAt ws 1),f19 := IntKind.wrap .u16 (vAt ws 2),f20 := IntKind.wrap .u16 (vAt ws 3),f21 := vAt ws 4,f22 := vAt ws 5,f23 := IntKind.wrap .u16 (vAt ws 6),f24 := IntKind.wrap .u16 (vAt ws 7),f25 := vAt ws 8,f26 := vAt ws 9,f27 := vAt ws 10,f28 := vAt ws 11,f29 := vAt ws 12,f30 := vAt ws 13,f31 := vAt ws 14,f32 := vAt ws 15,f33 := vAt ws 16,f34 := vAt ws 17,f35 := vAt ws 18 } : R49).c 50 (0,0)) :: pt rb (.cells R49.zz.c 50 (0,0)) :: M) w2 := h
 refine h.stc 1 rfl (sz49 _ 36 (by decide)) fun w2 h => ⟨Go.Sh.Pres.lone (h.at 0 rfl),?_⟩
 have h : Hs W (pt ib (.cells (iV (vsOf ws)).toArray 3 (0,0)) :: pt cb (.cells ({ Rk ws with f17 := vAt ws 0,f18 := IntKind.wrap .u32 (vAt ws 1),f19 := IntKind.wrap .u16 (vAt ws 2),f20 := IntKind.wrap .u16 (vAt ws 3),f21 := vAt ws 4,f22 := vAt ws 5,f23 := IntKind.wrap .u16 (vAt ws 6),f24 := IntKind.wrap .u16 (vAt ws 7),f25 := vAt ws 8,f26 := vAt ws 9,f27 := vAt ws 10,f28 := vAt ws 11,f29 := vAt ws 12,f30 := vAt ws 13,f31 := vAt ws 14,f32 := vAt ws 15,f33 := vAt ws 16,f34 := vAt ws 17,f35 := vAt ws 18,f36 := vAt ws 19 } : R49).c 50 (0,0)) :: pt rb (.cells R49.zz.c 50 (0,0)) :: M) w2 := h
 refine h.stc 1 rfl (sz49 _ 37 (by decide)) fun w2 h => ?_
 have h : Hs W (pt ib (.cells (iV (vsOf ws)).toArray 3 (0,0)) :: pt cb (.cells ({ Rk ws with f17 := vAt ws 0,f18 := IntKind.wrap .u32 (vAt ws 1),f19 := IntKind.wrap .u16 (vAt ws 2),f20 := IntKind.wrap .u16 (vAt ws 3),f21 := vAt ws 4,f22 := vAt ws 5,f23 := IntKind.wrap .u16 (vAt ws 6),f24 := IntKind.wrap .u16 (vAt ws 7),f25 := vAt ws 8,f26 := vAt ws 9,f27 := vAt ws 10,f28 := vAt ws 11,f29 := vAt ws 12,f30 := vAt ws 13,f31 := vAt ws 14,f32 := vAt ws 15,f33 := vAt ws 16,f34 := vAt ws 17,f35 := vAt ws 18,f36 := vAt ws 19,f37 := vAt ws 20 } : R49).c 50 (0,0)) :: pt rb (.cells R49.zz.c 50 (0,0)) :: M) w2 := h
 refine h.drw fun w1 h => ⟨Go.Sh.lone w1 ib _,Go.Sh.Pres.lone (h.at 0 rfl),?_⟩
 refine ixS_to (p := 21) rfl (by decide) ?_
 refine h.ldI 0 rfl (n := vAt ws 21) rfl ?_
 refine ixS_to (p := 22) rfl (by decide) ?_
 refine ldI_at (n := vAt ws 22) (lone_at _ _ _) rfl ?_
 refine ixS_to (p := 23) rfl (by decide) ?_
 refine ldI_at (n := vAt ws 23) (lone_at _ _ _) rfl ?_
 refine h.stc 1 rfl (sz49 _ 38 (by decide)) fun w2 h => ⟨Go.Sh.Pres.lone (h.at 0 rfl),?_⟩
 have h : Hs W (pt ib (.cells (iV (vsOf ws)).toArray 3 (0,0)) :: pt cb (.cells ({ Rk ws with f17 := vAt ws 0,f18 := IntKind.wrap .u32 (vAt ws 1),f19 := IntKind.wrap .u16 (vAt ws 2),f20 := IntKind.wrap .u16 (vAt ws 3),f21 := vAt ws 4,f22 := vAt ws 5,f23 := IntKind.wrap .u16 (vAt ws 6),f24 := IntKind.wrap .u16 (vAt ws 7),f25 := vAt ws 8,f26 := vAt ws 9,f27 := vAt ws 10,f28 := vAt ws 11,f29 := vAt ws 12,f30 := vAt ws 13,f31 := vAt ws 14,f32 := vAt ws 15,f33 := vAt ws 16,f34 := vAt ws 17,f35 := vAt ws 18,f36 := vAt ws 19,f37 := vAt ws 20,f38 := (vAt ws 21 == 1) } : R49).c 50 (0,0)) :: pt rb (.cells R49.zz.c 50 (0,0)) :: M) w2 := h
 refine h.stc 1 rfl (sz49 _ 39 (by decide)) fun w2 h => ⟨Go.Sh.Pres.lone (h.at 0 rfl),?_⟩
 have h : Hs W (pt ib (.cells (iV (vsOf ws)).toArray 3 (0,0)) :: pt cb (.cells ({ Rk ws with f17 := vAt ws 0,f18 := IntKind.wrap .u32 (vAt ws 1),f19 := IntKind.wrap .u16 (vAt ws 2),f20 := IntKind.wrap .u16 (vAt ws 3),f21 := vAt ws 4,f22 := vAt ws 5,f23 := IntKind.wrap .u16 (vAt ws 6),f24 := IntKind.wrap .u16 (vAt ws 7),f25 := vAt ws 8,f26 := vAt ws 9,f27 := vAt ws 10,f28 := vAt ws 11,f29 := vAt ws 12,f30 := vAt ws 13,f31 := vAt ws 14,f32 := vAt ws 15,f33 := vAt ws 16,f34 := vAt ws 17,f35 := vAt ws 18,f36 := vAt ws 19,f37 := vAt ws 20,f38 := (vAt ws 21 == 1),f39 := (vAt ws 22 == 1) } : R49).c 50 (0,0)) :: pt rb (.cells R49.zz.c 50 (0,0)) :: M) w2 := h
 refine h.stc 1 rfl (sz49 _ 40 (by decide)) fun w2 h => ?_
 have h : Hs W (pt ib (.cells (iV (vsOf ws)).toArray 3 (0,0)) :: pt cb (.cells ({ Rk ws with f17 := vAt ws 0,f18 := IntKind.wrap .u32 (vAt ws 1),f19 := IntKind.wrap .u16 (vAt ws 2),f20 := IntKind.wrap .u16 (vAt ws 3),f21 := vAt ws 4,f22 := vAt ws 5,f23 := IntKind.wrap .u16 (vAt ws 6),f24 := IntKind.wrap .u16 (vAt ws 7),f25 := vAt ws 8,f26 := vAt ws 9,f27 := vAt ws 10,f28 := vAt ws 11,f29 := vAt ws 12,f30 := vAt ws 13,f31 := vAt ws 14,f32 := vAt ws 15,f33 := vAt ws 16,f34 := vAt ws 17,f35 := vAt ws 18,f36 := vAt ws 19,f37 := vAt ws 20,f38 := (vAt ws 21 == 1),f39 := (vAt ws 22 == 1),f40 := (vAt ws 23 == 1) } : R49).c 50 (0,0)) :: pt rb (.cells R49.zz.c 50 (0,0)) :: M) w2 := h
 have h : Hs W (pt ib (.cells (iV (vsOf ws)).toArray 3 (0,0)) :: pt cb (.cells (Rl ws).c 50 (0,0)) :: pt rb (.cells R49.zz.c 50 (0,0)) :: M) w2 := h
 refine ldR49_of (s := Rl ws) (h.atL 1 rfl) ?_
 refine cl (c15 hT h (Rl_good ws)) ?_
 rintro v w3 ⟨h3,hv⟩
 rcases hv with ⟨ho,rfl⟩ | ⟨ho,rfl⟩
 ·refine ⟨_,_,rfl,?_⟩
  have e0 : ((0 : Int) != 0) = false := rfl
  rw [e0,br_false,str_beq]
  by_cases e : lineOf confItems ⟨(Rl ws).c,[]⟩ = s
  ·rw [decide_eq_true e,Bool.not_true,br_false]
   refine ldR49_of (s := Rl ws) (h3.atL 1 rfl) (h3.stcL 2 rfl (by rfl) fun w4 h4 => ?_)
   have h4 : Hs W (pt ib (.cells (iV (vsOf ws)).toArray 3 (0,0)) :: pt cb (.cells (Rl ws).c 50 (0,0)) :: pt rb (.cells (Rl ws).c 50 (0,0)) :: M) w4 := h4
   exact ldR49_of (s := Rl ws) (h4.atL 2 rfl) (hK w4 ⟨ho,e⟩ h4.drop.drop.drop)
  ·rw [decide_eq_false e,Bool.not_false,br_true]
   refine h3.stcL 2 rfl (by rfl) fun w4 h4 => ?_
   have h4 : Hs W (pt ib (.cells (iV (vsOf ws)).toArray 3 (0,0)) :: pt cb (.cells (Rl ws).c 50 (0,0)) :: pt rb (.cells R49.zz.c 50 (0,0)) :: M) w4 := h4
   exact ldR49_of (s := R49.zz) (h4.atL 2 rfl) (hR w4 (fun x => e x.2) h4.drop.drop.drop)
 ·refine ⟨_,_,rfl,?_⟩
  have e0 : ((1 : Int) != 0) = true := rfl
  rw [e0,br_true]
  refine h3.stcL 2 rfl (by rfl) fun w4 h4 => ?_
  have h4 : Hs W (pt ib (.cells (iV (vsOf ws)).toArray 3 (0,0)) :: pt cb (.cells (Rl ws).c 50 (0,0)) :: pt rb (.cells R49.zz.c 50 (0,0)) :: M) w4 := h4
  exact ldR49_of (s := R49.zz) (h4.atL 2 rfl) (hR w4 (fun x => ho x.1) h4.drop.drop.drop)
theorem c17 {s : ByteArray} (hT : TB W) (h : Hs W M w) (hs : s.size <= 8000000) : Calls Tryz.prog 17 #[.string s] w (rt fun v w' => Hs W M w' /\
  ((∃ R,IsConf s R /\ v = .tuple #[R.v,.int .i64 0]) \/ ((¬ ∃ R,IsConf s R) /\ v = .tuple #[R49.zz.v,.int .i64 250]))) := by
 refine F17_ok ?_
 unfold F17
 simp only [rdS_mk]
 refine h.alc fun rb w2 h2 => ?_
 have h2 : Hs W (pt rb (.cells R49.zz.c 50 (0,0)) :: M) w2 := h2
 refine cl (c35 hs h2) ?_
 rintro _ w3 ⟨wa,wc,rfl,h3⟩
 refine ⟨_,_,_,rfl,?_⟩
 by_cases hl : (words s).length = 53
 ·have e0 : (((words s).length : Int) != 53) = false := by rw [hl]; rfl
  rw [e0,br_false]
  obtain ⟨ws,hws⟩ : ∃ ws,ws = words s := ⟨_,rfl⟩
  have hsm : ∀ x ∈ ws,x.size <= 140737488355328 := fun x hx => by
   rw [hws] at hx
   obtain ⟨l,hl,rfl⟩ := List.mem_map.1 hx
   have := wrds_le _ l hl
   rw [← bl_len,bl_bs]
   rw [bl_len] at this
   omega
  rw [← hws] at h3 hl ⊢
  have hget : ∀ i,i < 53 -> ws[i]? = some (wAt ws i) := fun i hi => by
   unfold wAt
   rw [List.getD_eq_getElem?_getD,List.getElem?_eq_getElem (by omega)]
   rfl
  refine h3.alc fun cb w4 h4 => h4.stcL 0 rfl (by rfl) fun w5 h5 => ?_
  have h5 : Hs W (pt cb (.cells R49.zz.c 50 (0,0)) :: slP 9 1 wa ws.length wc (wsV ws) :: pt rb (.cells R49.zz.c 50 (0,0)) :: M) w5 := h5
  have hr5 := h5.rd 1 rfl
  obtain ⟨wad,rfl⟩ := hr5.some (by simp [wsV]; omega)
  refine ixS_to (p := 2) rfl (by omega) ?_
  refine ldS_c (n := wAt ws 2) (hr5.at (by simp [wsV,hget 2 (by omega)])) ?_
  refine clr (c37 (hsm _ (List.mem_of_getElem? (hget 2 (by omega))))) ⟨_,rfl,?_⟩
  simp only [add_mk,Nat.add_zero,Nat.zero_add]
  refine h5.stc 0 rfl (sz49 _ 16 (by decide)) fun w6 h6 => ?_
  have h6 : Hs W (pt cb (.cells (R49.z16 (valS (wAt ws 2) : Int)).c 50 (0,0)) :: slP 9 1 (some wad) ws.length wc (wsV ws) :: pt rb (.cells R49.zz.c 50 (0,0)) :: M) w6 := h6
  have hr6 := h6.rd 1 rfl
  refine ixS_to (p := 4) rfl (by omega) ?_
  refine ldS_c (n := wAt ws 4) (hr6.at (by simp [wsV,hget 4 (by omega)])) ?_
  refine cl (c38 (hsm _ (List.mem_of_getElem? (hget 4 (by omega)))) h6) ?_
  rintro _ w7 ⟨ka,kc,rfl,h7⟩
  refine ⟨_,_,_,rfl,17,?_⟩
  refine F17_3_loop (n16 := (valS (wAt ws 2) : Int)) 16 0 17 _ w7 rfl (by omega) (by omega) ⟨rfl,fun o ho => by omega,fun o _ => rfl⟩ h7 fun w8 h8 => ?_
  intro _
  simp only [rdS_mk,rdA_mk,rdC_mk]
  rw [← Rk_eq ws] at h8
  refine h8.make E96 (n := 24) (by omega) (by omega) (by omega) fun va w9 h9 _ => ?_
  rw [made24] at h9
  have h9 : Hs W (slP 3 1 va 24 24 (List.replicate 24 (.int .i64 0)) :: slP 5 1 ka (unhex (bl (wAt ws 4))).length kc (u8v (unhex (bl (wAt ws 4)))) :: pt cb (.cells (Rk ws).c 50 (0,0)) :: slP 9 1 (some wad) ws.length wc (wsV ws) :: pt rb (.cells R49.zz.c 50 (0,0)) :: M) w9 := h9
  obtain ⟨vad,rfl⟩ := (h9.rd 0 rfl).some (by simp)
  rw [hl] at h9
  rw [hl]
  refine ⟨25,?_⟩
  refine F17_1_loop (wa := some wad) hl hsm (fun xs w' h' => by rw [← hl] at h'; exact h'.rd 3 rfl) 24 0 25 w9 rfl (by omega) (by omega) h9 fun w10 h10 => ?_
  obtain ⟨ib,eib,h11⟩ := pt_of_sl (by omega) h10
  rw [eib]
  have h12 : Hs W (pt ib (.cells (iV (vsOf ws)).toArray 3 (0,0)) :: pt cb (.cells (Rk ws).c 50 (0,0)) :: pt rb (.cells R49.zz.c 50 (0,0)) :: M) w10 := (h11.erase 1).erase 2
  have := F17_main (W := W) (M := M) (s := s) hT hws h12 (K := fun v w' => Hs W M w' /\ ((∃ R,IsConf s R /\ v = .tuple #[R.v,.int .i64 0]) \/ ((¬ ∃ R,IsConf s R) /\ v = .tuple #[R49.zz.v,.int .i64 250]))) (fun w' hk h' => ⟨h',.inl ⟨Rl ws,by rw [hws] at hk ⊢; exact loose_conf hk.1 hk.2,rfl⟩⟩) (fun w' hk h' => ⟨h',.inr ⟨?_,rfl⟩⟩)
  ·exact this
  ·rintro ⟨R,hR⟩
   obtain ⟨_,e1,e2⟩ := conf_loose hR
   rw [hws,e1] at hk
   exact hk ⟨hR.2.1,e2⟩
 ·have e0 : (((words s).length : Int) != 53) = true := by rw [bne_iff_ne]; omega
  rw [e0,br_true]
  refine h3.stcL 1 rfl (by rfl) fun w4 h4 => ?_
  have h4 : Hs W (slP 9 1 wa (words s).length wc (wsV (words s)) :: pt rb (.cells R49.zz.c 50 (0,0)) :: M) w4 := h4
  refine ldR49_of (s := R49.zz) (h4.atL 1 rfl) ⟨h4.drop.drop,.inr ⟨?_,by first | rfl | trivial⟩⟩
  rintro ⟨R,hR⟩
  exact hl (conf_loose hR).1
end
end Go.Proofs.YtilenpnpnbdndaaGreatDoor
