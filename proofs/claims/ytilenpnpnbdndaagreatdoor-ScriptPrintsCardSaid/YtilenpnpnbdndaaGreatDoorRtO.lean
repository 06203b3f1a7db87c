/- Own text: part of the shallow reading of the code and of the contracts that are proved over it. -/
import Derived.Test.YtilenpnpnbdndaaGreatDoorShVd
import Derived.Lib.SlBytesConst
import Derived.Test.YtilenpnpnbdndaaGreatDoorShDf
import Derived.KernelRfl
/-
  alive (fn 13), and settings compared.
-/
namespace Go.Proofs.YtilenpnpnbdndaaGreatDoor
open Go Go.Sh
set_option maxRecDepth 100000
attribute [local instance] Esc.none
def ks49 : List Kd := List.replicate 16 (.int .u8) ++ [.int .u64, .int .i64, .int .u32, .int .u16, .int .u16, .int .i64, .int .i64, .int .u16, .int .u16] ++ List.replicate 13 (.int .i64) ++ [.bool, .bool, .bool]
theorem t50 : deepT Tryz.prog 5 50 = true := by kernel_rfl
theorem k50 : kdsOf Tryz.prog 5 50 = some ks49 := by kernel_rfl
theorem m49 (R : R49) : mL ks49 R.l := ⟨⟨_, rfl⟩, ⟨_, rfl⟩, ⟨_, rfl⟩, ⟨_, rfl⟩, ⟨_, rfl⟩, ⟨_, rfl⟩, ⟨_, rfl⟩, ⟨_, rfl⟩, ⟨_, rfl⟩, ⟨_, rfl⟩, ⟨_, rfl⟩, ⟨_, rfl⟩, ⟨_, rfl⟩, ⟨_, rfl⟩, ⟨_, rfl⟩, ⟨_, rfl⟩, ⟨_, rfl⟩, ⟨_, rfl⟩, ⟨_, rfl⟩, ⟨_, rfl⟩, ⟨_, rfl⟩, ⟨_, rfl⟩, ⟨_, rfl⟩, ⟨_, rfl⟩, ⟨_, rfl⟩, ⟨_, rfl⟩, ⟨_, rfl⟩, ⟨_, rfl⟩, ⟨_, rfl⟩, ⟨_, rfl⟩, ⟨_, rfl⟩, ⟨_, rfl⟩, ⟨_, rfl⟩, ⟨_, rfl⟩, ⟨_, rfl⟩, ⟨_, rfl⟩, ⟨_, rfl⟩, ⟨_, rfl⟩, ⟨_, rfl⟩, ⟨_, rfl⟩, ⟨_, rfl⟩, trivial⟩
section
variable {W w : World} {M : List HP}
theorem neq49 {x y : Operand} (R : R49) : Sem.run Tryz.prog (binF Tryz.prog .neq 50 x y R.v R.v) w = .ok (.bool false) w := by
  have := neq_deep (P := Tryz.prog) (w := w) (x := x) (y := y) t50 k50 (m49 R) (m49 R)
  rw [eqvs_self (m49 R)] at this
  exact this
theorem eql49 {x y : Operand} (R : R49) : Sem.run Tryz.prog (binF Tryz.prog .eql 50 x y R.v R.v) w = .ok (.bool true) w := by
  have := eql_deep (P := Tryz.prog) (w := w) (x := x) (y := y) t50 k50 (m49 R) (m49 R)
  rw [eqvs_self (m49 R)] at this
  exact this
theorem c8S {R : R26} {dat : List UInt8} (hT : TB w) (hG : GoodD ⟨R.c, dat⟩) (hd : Holds26 w R dat) (hdl : dat.length < 4611686018427387904) : Calls Tryz.prog 8 #[R.v] w (rt fun v w' => Same w w' ∧
    ((∃ t, LineOk t R dat ∧ v = .tuple #[.string (lineOf (itemsOf t) ⟨R.c, dat⟩), .int .i64 0]) ∨ ((∀ t, ¬ LineOk t R dat) ∧ v = .tuple #[.string ⟨#[]⟩, .int .i64 1]))) :=
  rt_mono (c8 (W := w) (M := []) hT (Hs.start w) hG hd hdl) fun _ _ ⟨h, hv⟩ => ⟨h.old, hv⟩
theorem c12S {R1 R2 : R26} {d1 d2 : List UInt8} (h1 : Holds26 w R1 d1) (h2 : Holds26 w R2 d2) : Calls Tryz.prog 12 #[R1.v, R2.v] w (rt fun v w' => v = .bool (sameB R1 d1 R2 d2) ∧ Same w w') :=
  rt_mono (c12 (W := w) (M := []) (Hs.start w) h1 h2) fun _ _ ⟨hv, h⟩ => ⟨hv, h.old⟩
def sendT : Vb := (2, ⟨#[115, 101, 110, 100]⟩, [69, 72, 73, 74, 75])
def aliveR (a : Option Addr) (c : Nat) : R26 := R26.mk 2 1 0 0 0 0 0 2 7 true a 2 c ⟨#[]⟩
theorem dec_one' (n : Nat) (h : n < 10) : dec (n : Int) = bs [UInt8.ofNat (48 + n)] := by
  show bs (Lib.decDigits n) = _
  rw [Lib.decDigits, dif_pos h]
theorem alive_line (a : Option Addr) (c : Nat) : lineOf (itemsOf sendT) ⟨(aliveR a c).c, [104, 105]⟩ = ⟨#[115, 101, 110, 100, 32, 49, 32, 50, 32, 55, 32, 117, 32, 54, 56, 54, 57]⟩ := by
  show joined [⟨#[115, 101, 110, 100]⟩, dec ((1 : Nat) : Int), dec ((2 : Nat) : Int), dec ((7 : Nat) : Int), ⟨#[117]⟩, bs (hexW [104, 105])] = _
  rw [dec_one' 1 (by omega), dec_one' 2 (by omega), dec_one' 7 (by omega)]
  decide +kernel
theorem alive_fine (a : Option Addr) (c : Nat) : Fine (aliveR a c) [104, 105] := by
  refine ⟨?_, ?_, ?_, ?_, ?_, ⟨?_, ?_, ?_⟩, ?_, ?_⟩
  · show (0 : Int) ≤ 1 ∧ (1 : Int) ≤ _; omega
  · show (0 : Int) ≤ 0 ∧ (0 : Int) ≤ _; omega
  · show (0 : Int) ≤ 0 ∧ (0 : Int) ≤ _; omega
  · show (0 : Int) ≤ 0 ∧ (0 : Int) ≤ _; omega
  · show (0 : Int) ≤ 0 ∧ (0 : Int) ≤ _; omega
  · show (0 : Int) ≤ 0 ∧ (0 : Int) ≤ _; omega
  · show (0 : Int) ≤ 2 ∧ (2 : Int) ≤ _; omega
  · show (0 : Int) ≤ 7 ∧ (7 : Int) ≤ _; omega
  · show 2 ≤ 65536; omega
  · show 0 ≤ 65536; omega
theorem sendT_mem : sendT ∈ vtab := by simp [vtab, sendT]
theorem alive_ok (a : Option Addr) (c : Nat) : LineOk sendT (aliveR a c) [104, 105] :=
  (mask_line sendT_mem rfl (fine_ok sendT_mem (alive_fine a c))).1 (sameB_iff.1 rfl)
theorem alc_in {o : Obj} {K : Nat → World → Prop} (h : K w.heap.size (w.alloc o)) : Go.Sh.alc o w K := h
theorem c13 (hT : TB w) : Calls Tryz.prog 13 #[] w (rt fun v w' => v = .bool true ∧ Same w w') := by
  refine F13_ok ?_
  unfold F13
  refine alc_in ?_
  refine ⟨_, _, _, _, Go.Lib.run_convert_bytes_const w 25 5 #[.int .u8 104, .int .u8 105] 2 2 Tryz.underlying25 Tryz.underlying5, ?_⟩
  generalize hw4 : w.alloc (.cells #[.int .u8 104, .int .u8 105] 5 ((#[Value.int .u8 104, Value.int .u8 105] : Array Value).size, (#[Value.int .u8 104, Value.int .u8 105] : Array Value).size + 1)) = w4
  have hs4 : Same w w4 := by rw [← hw4]; exact (Fr.refl w).alloc _
  have hb4 : w4.heap[w.heap.size]? = some (.cells (u8v [104, 105]).toArray 5 (2, 3)) := by rw [← hw4]; exact alloc_new w _
  have hr4 : Rd w4 (some ⟨w.heap.size, 0, none⟩) (u8v [104, 105]) := rd_blk hb4
  have hA : Holds26 w4 (aliveR (some ⟨w.heap.size, 0, none⟩) 2) [104, 105] := ⟨rfl, hr4⟩
  refine (Hs.start w4).alc fun b5 w6 h6 => h6.stcL 0 rfl (by rfl) fun w7 h7 => ?_
  have h7 : Hs w4 [pt b5 (.cells (aliveR (some ⟨w.heap.size, 0, none⟩) 2).c 27 (0, 0))] w7 := h7
  refine ldR26_of (s := aliveR (some ⟨w.heap.size, 0, none⟩) 2) (h7.atL 0 rfl) ?_
  have hT4 : TB w4 := hT.same hs4
  have hA7 := hA.same h7.old
  refine cl (c8S (Hs.tb h7 hT4) (alive_fine _ _).good hA7 (by show 2 < _; omega)) ?_
  rintro _ w9 ⟨hs9, hv⟩
  have h9 := h7.same hs9
  obtain ⟨t, ht, rfl⟩ := hv.resolve_right fun hn => hn.1 sendT (alive_ok _ _)
  have et := (alive_ok (some ⟨w.heap.size, 0, none⟩) 2).one ht
  subst et
  refine ⟨_, _, rfl, ?_⟩
  have hdd : IsDeed (lineOf (itemsOf sendT) ⟨(aliveR (some ⟨w.heap.size, 0, none⟩) 2).c, [104, 105]⟩) (aliveR (some ⟨w.heap.size, 0, none⟩) 2) [104, 105] := ⟨sendT, ht.deed⟩
  rw [alive_line] at hdd ⊢
  refine cl (c10 hT4 h9 (by decide)) ?_
  rintro _ w13 hv
  obtain ⟨R, dat, hd, rfl, h13⟩ := hv.resolve_right fun hn => hn.1 ⟨_, _, hdd⟩
  refine exR26_of R ⟨_, rfl, ?_⟩
  refine h13.alc fun b17 w18 h18 => h18.stcL 0 rfl (by rfl) fun w19 h19 => ?_
  have h19 : Hs w4 [pt b17 (.cells R.c 27 (0, 0)), dtP w4 R.c dat, pt b5 (.cells (aliveR (some ⟨w.heap.size, 0, none⟩) 2).c 27 (0, 0))] w19 := h19
  have e0 : ((0 : Int) == 0) = true := rfl
  rw [e0, br_true, br_true, str_beq, decide_eq_true rfl, br_true]
  refine ldR26_of (s := aliveR (some ⟨w.heap.size, 0, none⟩) 2) (h19.atL 2 rfl) (ldR26_of (s := R) (h19.atL 0 rfl) ?_)
  refine cl (c12S (hA.same h19.old) (dt_holds (h19.focus (i := 1) rfl))) ?_
  rintro _ w20 ⟨rfl, hs20⟩
  refine ⟨_, rfl, ?_⟩
  rw [sameB_iff.2 (hdd.det hd)]
  exact ⟨rfl, hs4.trans (h19.old.trans hs20 fun _ _ x => x) fun _ _ x => x⟩
end
end Go.Proofs.YtilenpnpnbdndaaGreatDoor
namespace Go.Proofs.YtilenpnpnbdndaaGreatDoor
open Go Go.Sh
set_option maxRecDepth 100000
set_option maxHeartbeats 4000000
attribute [local instance] Esc.none
/-! ropewalk/ropewalklaw25.ScriptSettings -/
noncomputable def F4_code : Code := Tryz.f4.body.getD .skip
theorem F4_code_ok : okC Tryz.prog Tryz.f4.ntmps F4_code = true := by kernel_rfl
def F4_1C (Kr : Value → World → Prop) : Post := fun o t w => match o with | .normal => False | .exit _ => (False) | .ret => Kr (t 4) w
def F4_1 (Kr : Value → World → Prop) (x2 : Value) (x5 : Value) (x8 : Value) (w : World) : Prop :=
  rdA x2 fun a1 => rdS x5 fun s2 => rdI .i64 x8 fun n3 => br (n3 != 0) (Calls Tryz.prog 13 #[] w (en fun e5 w4 => ∃ b6, e5 = .returned (.bool b6) ∧ (Kr (.bool b6) w4))) (Calls Tryz.prog 16 #[(.string s2)] w (en fun e8 w7 => exR49 fun s9 => ∃ n10, e8 = .returned (.tuple #[s9.v, (.int .i64 n10)]) ∧ (alc (.cells ((R49.mk 0 0 0 0 0 0 0 0 0 0 0 0 0 0 0 0 0 0 0 0 0 0 0 0 0 0 0 0 0 0 0 0 0 0 0 0 0 0 false false false)).c 50) w7 fun b11 w12 => stcL (Addr.mk b11 0 none) 0 s9.l w12 fun w13 => br (n10 == 0) (ldR49 (Addr.mk b11 0 none) w13 fun s14 => ldR49 a1 w13 fun s15 => ∃ b16, ∃ w17, Sem.run Tryz.prog (binF Tryz.prog .eql 50 (.tmp 64) (.tmp 65) s14.v s15.v) w13 = .ok (.bool b16) w17 ∧ (br b16 (Calls Tryz.prog 13 #[] w17 (en fun e19 w18 => ∃ b20, e19 = .returned (.bool b20) ∧ (Kr (.bool b20) w18))) (Kr (.bool false) w17))) (Kr (.bool false) w13))))
def F4_1O (Q : Post) (t : Tm) (w : World) : Prop := F4_1 (fun y4 w => ∀ g, rsh [(4, (.one .bool))] (upds g [(4, y4)]) fun t => Q .ret t w) (t 2) (t 5) (t 8) w
theorem F4_1_step (Kr : Value → World → Prop) (t : Tm) (w : World) : (F4_1 Kr (t 2) (t 5) (t 8) w) = rsh [(2, (.one .adr)), (5, (.one .str)), (8, (.one (.int .i64)))] t (fun t => vc Tryz.prog (orcOf []) [1, 1, 1, 1, 1, 1] (getAt F4_code [1, 1, 1, 1, 1, 1]) (F4_1C Kr) t w) := by kernel_rfl
theorem F4_1_ok : ∀ Q t w, F4_1O Q t w → W Tryz.prog Tryz.f4.ntmps (getAt F4_code [1, 1, 1, 1, 1, 1]) Q t w := by
  intro Q t w h
  unfold F4_1O at h
  rw [F4_1_step] at h
  refine (vc_sound mixed (orcNil F4_code) _ _ rfl (okC_at F4_code_ok [1, 1, 1, 1, 1, 1]) _ _ _ (rsh_out h)).mono ?_
  intro o t w q
  cases o with
  | normal => exact q.elim
  | exit i => exact q.elim
  | ret => exact out_ok [4] q
def F4 (x0 : Value) (x1 : Value) (w : World) (K : Value → World → Prop) : Prop :=
  exR49 fun s1 => x0 = s1.v ∧ (rdS x1 fun s2 => alc (.cells s1.c 50) w fun b3 w4 => ldR49 (Addr.mk b3 0 none) w4 fun s5 => Calls Tryz.prog 14 #[s5.v] w4 (en fun e7 w6 => ∃ s8, ∃ n9, e7 = .returned (.tuple #[(.string s8), (.int .i64 n9)]) ∧ (ldR49 (Addr.mk b3 0 none) w6 fun s10 => Calls Tryz.prog 15 #[s10.v] w6 (en fun e12 w11 => ∃ s13, ∃ n14, e12 = .returned (.tuple #[(.string s13), (.int .i64 n14)]) ∧ (Calls Tryz.prog 16 #[(.string s2)] w11 (en fun e16 w15 => exR49 fun s17 => ∃ n18, e16 = .returned (.tuple #[s17.v, (.int .i64 n18)]) ∧ (alc (.cells ((R49.mk 0 0 0 0 0 0 0 0 0 0 0 0 0 0 0 0 0 0 0 0 0 0 0 0 0 0 0 0 0 0 0 0 0 0 0 0 0 0 false false false)).c 50) w15 fun b19 w20 => stcL (Addr.mk b19 0 none) 0 s17.l w20 fun w21 => Calls Tryz.prog 17 #[(.string s2)] w21 (en fun e23 w22 => exR49 fun s24 => ∃ n25, e23 = .returned (.tuple #[s24.v, (.int .i64 n25)]) ∧ (alc (.cells ((R49.mk 0 0 0 0 0 0 0 0 0 0 0 0 0 0 0 0 0 0 0 0 0 0 0 0 0 0 0 0 0 0 0 0 0 0 0 0 0 0 false false false)).c 50) w22 fun b26 w27 => stcL (Addr.mk b26 0 none) 0 s24.l w27 fun w28 => br (!(ByteArray.toList s8 == ByteArray.toList s13)) (K (.bool false) w28) (br (n9 != n14) (K (.bool false) w28) (ldR49 (Addr.mk b19 0 none) w28 fun s29 => ldR49 (Addr.mk b26 0 none) w28 fun s30 => ∃ b31, ∃ w32, Sem.run Tryz.prog (binF Tryz.prog .neq 50 (.tmp 44) (.tmp 45) s29.v s30.v) w28 = .ok (.bool b31) w32 ∧ (br b31 (K (.bool false) w32) (br (n18 != n25) (K (.bool false) w32) (F4_1 (fun y4_32 w34 => ∀ _g35 : Tm, rdB y4_32 fun b36 => K (.bool b36) w34) (.pointer (some (Addr.mk b3 0 none))) (.string s8) (.int .i64 n14) w32))))))))))))))
theorem F4_step (x0 : Value) (x1 : Value) (w : World) (K : Value → World → Prop) : (F4 x0 x1 w K) = rsh [(0, (.agg [(.int .u8), (.int .u8), (.int .u8), (.int .u8), (.int .u8), (.int .u8), (.int .u8), (.int .u8), (.int .u8), (.int .u8), (.int .u8), (.int .u8), (.int .u8), (.int .u8), (.int .u8), (.int .u8), (.int .u64), (.int .i64), (.int .u32), (.int .u16), (.int .u16), (.int .i64), (.int .i64), (.int .u16), (.int .u16), (.int .i64), (.int .i64), (.int .i64), (.int .i64), (.int .i64), (.int .i64), (.int .i64), (.int .i64), (.int .i64), (.int .i64), (.int .i64), (.int .i64), (.int .i64), .bool, .bool, .bool])), (1, (.one .str))] (args0 #[x0, x1]) (fun t => vc Tryz.prog (orcOf [([1, 1, 1, 1, 1, 1], F4_1O)]) [] F4_code (retQ Tryz.prog Tryz.f4 K) t w) := by kernel_rfl
theorem F4_ok {x0 x1 : Value} {w : World} {K : Value → World → Prop} (h : F4 x0 x1 w K) : Calls Tryz.prog 4 #[x0, x1] w (rt K) := by
  rw [F4_step] at h
  exact Calls.mono (calls_of (c := F4_code) mixed Tryz.func4 rfl (nlt rfl) (vc_sound mixed (orcCons (π := [1, 1, 1, 1, 1, 1]) F4_1_ok (orcNil F4_code)) F4_code [] rfl F4_code_ok _ _ _ (rsh_out h))) fun _ _ => rv_none
end Go.Proofs.YtilenpnpnbdndaaGreatDoor
/-
  ScriptLines and ScriptSettings: fns 3, 4.
-/
namespace Go.Proofs.YtilenpnpnbdndaaGreatDoor
open Go Go.Sh
set_option maxRecDepth 100000
attribute [local instance] Esc.none
/-! what is answered, as one word for the program and the document -/
def LineA (R : R26) (dat : List UInt8) (S : ByteArray) (N : Int) : Prop := (∃ t, LineOk t R dat ∧ S = lineOf (itemsOf t) ⟨R.c, dat⟩ ∧ N = 0) ∨ ((∀ t, ¬ LineOk t R dat) ∧ S = ⟨#[]⟩ ∧ N = 1)
theorem LineA.one {R : R26} {dat : List UInt8} {S S' : ByteArray} {N N' : Int} (h : LineA R dat S N) (h' : LineA R dat S' N') : S = S' ∧ N = N' := by
  rcases h with ⟨t, ht, rfl, rfl⟩ | ⟨hn, rfl, rfl⟩
  · rcases h' with ⟨t', ht', rfl, rfl⟩ | ⟨hn', _⟩
    · have e := ht.one ht'
      subst e
      exact ⟨rfl, rfl⟩
    · exact absurd ht (hn' t)
  · rcases h' with ⟨t', ht', _⟩ | ⟨_, rfl, rfl⟩
    · exact absurd ht' (hn t')
    · exact ⟨rfl, rfl⟩
def DeedA (s : ByteArray) (R : R26) (dat : List UInt8) (N : Int) : Prop := (IsDeed s R dat ∧ N = 0) ∨ ((¬ ∃ R dat, IsDeed s R dat) ∧ R = R26.zz ∧ dat = [] ∧ N = 250)
theorem DeedA.one {s : ByteArray} {R R' : R26} {d d' : List UInt8} {N N' : Int} (h : DeedA s R d N) (h' : DeedA s R' d' N') : sameB R d R' d' = true ∧ N = N' := by
  rcases h with ⟨h, rfl⟩ | ⟨hn, rfl, rfl, rfl⟩
  · rcases h' with ⟨h', rfl⟩ | ⟨hn', _⟩
    · exact ⟨sameB_iff.2 (h.det h'), rfl⟩
    · exact absurd ⟨_, _, h⟩ hn'
  · rcases h' with ⟨h', _⟩ | ⟨_, rfl, rfl, rfl⟩
    · exact absurd ⟨_, _, h'⟩ hn
    · exact ⟨rfl, rfl⟩
def SetA (R : R49) (S : ByteArray) (N : Int) : Prop := (okAll confItems ⟨R.c, []⟩ ∧ S = lineOf confItems ⟨R.c, []⟩ ∧ N = 0) ∨ (¬ okAll confItems ⟨R.c, []⟩ ∧ S = ⟨#[]⟩ ∧ N = 1)
theorem SetA.one {R : R49} {S S' : ByteArray} {N N' : Int} (h : SetA R S N) (h' : SetA R S' N') : S = S' ∧ N = N' := by
  rcases h with ⟨h, rfl, rfl⟩ | ⟨hn, rfl, rfl⟩
  · rcases h' with ⟨_, rfl, rfl⟩ | ⟨hn', _⟩
    · exact ⟨rfl, rfl⟩
    · exact absurd h hn'
  · rcases h' with ⟨h', _⟩ | ⟨_, rfl, rfl⟩
    · exact absurd h' hn
    · exact ⟨rfl, rfl⟩
def ConfA (s : ByteArray) (R : R49) (N : Int) : Prop := (IsConf s R ∧ N = 0) ∨ ((¬ ∃ R, IsConf s R) ∧ R = R49.zz ∧ N = 250)
theorem IsConf.one {s : ByteArray} {R R' : R49} (h : IsConf s R) (h' : IsConf s R') : R = R' := (conf_loose h).2.1.symm.trans (conf_loose h').2.1
theorem ConfA.one {s : ByteArray} {R R' : R49} {N N' : Int} (h : ConfA s R N) (h' : ConfA s R' N') : R = R' ∧ N = N' := by
  rcases h with ⟨h, rfl⟩ | ⟨hn, rfl, rfl⟩
  · rcases h' with ⟨h', rfl⟩ | ⟨hn', _⟩
    · exact ⟨h.one h', rfl⟩
    · exact absurd ⟨_, h⟩ hn'
  · rcases h' with ⟨h', _⟩ | ⟨_, rfl, rfl⟩
    · exact absurd ⟨_, h'⟩ hn
    · exact ⟨rfl, rfl⟩
theorem conf_back {R : R49} (hG : GoodC R.c) (ho : okAll confItems ⟨R.c, []⟩) : IsConf (lineOf confItems ⟨R.c, []⟩) R := ⟨hG.2.2.2.2.2.2, ho, words_line (by simp [confItems]) conf_clear⟩
section
variable {W w : World} {M : List HP}
theorem c8q {R : R26} {dat : List UInt8} (hT : TB W) (h : Hs W M w) (hG : GoodD ⟨R.c, dat⟩) (hd : Holds26 W R dat) (hdl : dat.length < 4611686018427387904) : Calls Tryz.prog 8 #[R.v] w (rt fun v w' => ∃ S N, v = .tuple #[.string S, .int .i64 N] ∧ LineA R dat S N ∧ Hs W M w') :=
  rt_mono (c8 hT h hG hd hdl) fun _ _ ⟨h, hv⟩ => by
    rcases hv with ⟨t, ht, hv⟩ | ⟨ht, hv⟩
    · exact ⟨_, _, hv, .inl ⟨t, ht, rfl, rfl⟩, h⟩
    · exact ⟨_, _, hv, .inr ⟨ht, rfl, rfl⟩, h⟩
theorem c9q {R : R26} {dat : List UInt8} (hT : TB W) (h : Hs W M w) (hG : GoodD ⟨R.c, dat⟩) (hd : Holds26 W R dat) : Calls Tryz.prog 9 #[R.v] w (rt fun v w' => ∃ S N, v = .tuple #[.string S, .int .i64 N] ∧ LineA R dat S N ∧ Hs W M w') :=
  rt_mono (c9 hT h hG hd) fun _ _ ⟨h, hv⟩ => by
    rcases hv with ⟨t, ht, hv⟩ | ⟨ht, hv⟩
    · exact ⟨_, _, hv, .inl ⟨t, ht, rfl, rfl⟩, h⟩
    · exact ⟨_, _, hv, .inr ⟨ht, rfl, rfl⟩, h⟩
theorem dt_zz (h : Hs W M w) : Hs W (dtP W R26.zz.c [] :: M) w := dt_old (a := none) (c := 0) rfl (Rd.nil W none) h
theorem c10q {s : ByteArray} (hT : TB W) (h : Hs W M w) (hs : s.size ≤ 8000000) : Calls Tryz.prog 10 #[.string s] w (rt fun v w' => ∃ R dat N, v = .tuple #[R26.v R, .int .i64 N] ∧ DeedA s R dat N ∧ Hs W (dtP W R.c dat :: M) w') :=
  rt_mono (c10 hT h hs) fun _ _ hv => by
    rcases hv with ⟨R, dat, hd, hv, h⟩ | ⟨hn, hv, h⟩
    · exact ⟨R, dat, 0, hv, .inl ⟨hd, rfl⟩, h⟩
    · exact ⟨R26.zz, [], 250, hv, .inr ⟨hn, rfl, rfl, rfl⟩, dt_zz h⟩
theorem c11q {s : ByteArray} (hT : TB W) (h : Hs W M w) (hs : s.size ≤ 8000000) : Calls Tryz.prog 11 #[.string s] w (rt fun v w' => ∃ R dat N, v = .tuple #[R26.v R, .int .i64 N] ∧ DeedA s R dat N ∧ Hs W (dtP W R.c dat :: M) w') :=
  rt_mono (c11 hT h hs) fun _ _ hv => by
    rcases hv with ⟨R, dat, hd, hv, h⟩ | ⟨hn, hv, h⟩
    · exact ⟨R, dat, 0, hv, .inl ⟨hd, rfl⟩, h⟩
    · exact ⟨R26.zz, [], 250, hv, .inr ⟨hn, rfl, rfl, rfl⟩, dt_zz h⟩
theorem c14q {R : R49} (hT : TB W) (h : Hs W M w) (hG : GoodC R.c) : Calls Tryz.prog 14 #[R.v] w (rt fun v w' => ∃ S N, v = .tuple #[.string S, .int .i64 N] ∧ SetA R S N ∧ Hs W M w') :=
  rt_mono (c14 hT h hG) fun _ _ ⟨h, hv⟩ => by
    rcases hv with ⟨ho, hv⟩ | ⟨ho, hv⟩
    · exact ⟨_, _, hv, .inl ⟨ho, rfl, rfl⟩, h⟩
    · exact ⟨_, _, hv, .inr ⟨ho, rfl, rfl⟩, h⟩
theorem c15q {R : R49} (hT : TB W) (h : Hs W M w) (hG : GoodC R.c) : Calls Tryz.prog 15 #[R.v] w (rt fun v w' => ∃ S N, v = .tuple #[.string S, .int .i64 N] ∧ SetA R S N ∧ Hs W M w') :=
  rt_mono (c15 hT h hG) fun _ _ ⟨h, hv⟩ => by
    rcases hv with ⟨ho, hv⟩ | ⟨ho, hv⟩
    · exact ⟨_, _, hv, .inl ⟨ho, rfl, rfl⟩, h⟩
    · exact ⟨_, _, hv, .inr ⟨ho, rfl, rfl⟩, h⟩
theorem c16q {s : ByteArray} (hT : TB W) (h : Hs W M w) (hs : s.size ≤ 8000000) : Calls Tryz.prog 16 #[.string s] w (rt fun v w' => ∃ R N, v = .tuple #[R49.v R, .int .i64 N] ∧ ConfA s R N ∧ Hs W M w') :=
  rt_mono (c16 hT h hs) fun _ _ ⟨h, hv⟩ => by
    rcases hv with ⟨R, hR, hv⟩ | ⟨hn, hv⟩
    · exact ⟨R, 0, hv, .inl ⟨hR, rfl⟩, h⟩
    · exact ⟨R49.zz, 250, hv, .inr ⟨hn, rfl, rfl⟩, h⟩
theorem c17q {s : ByteArray} (hT : TB W) (h : Hs W M w) (hs : s.size ≤ 8000000) : Calls Tryz.prog 17 #[.string s] w (rt fun v w' => ∃ R N, v = .tuple #[R49.v R, .int .i64 N] ∧ ConfA s R N ∧ Hs W M w') :=
  rt_mono (c17 hT h hs) fun _ _ ⟨h, hv⟩ => by
    rcases hv with ⟨R, hR, hv⟩ | ⟨hn, hv⟩
    · exact ⟨R, 0, hv, .inl ⟨hR, rfl⟩, h⟩
    · exact ⟨R49.zz, 250, hv, .inr ⟨hn, rfl, rfl⟩, h⟩
theorem line_short {t : Vb} {R : R26} {dat : List UInt8} (h : LineOk t R dat) : (lineOf (itemsOf t) ⟨R.c, dat⟩).size ≤ 786606 := by
  have hsz := items_size (List.all_eq_true.1 (vtab_items t h.mem).2.2.1) h.ok
  have hlen : (itemsOf t).length ≤ 6 := by have := (vtab_ok t h.mem).2; simp [itemsOf]; omega
  exact Nat.le_trans hsz (by omega)
theorem conf_short {R : R49} (h : okAll confItems ⟨R.c, []⟩) : (lineOf confItems ⟨R.c, []⟩).size ≤ 6948353 := by
  have hsz := items_size conf_small h
  have hcl : confItems.length = 53 := rfl
  rw [hcl] at hsz
  exact Nat.le_trans hsz (by omega)
theorem F3_1_go {R : R26} {dat : List UInt8} {S : ByteArray} {N : Int} {b : Nat} {Kr : Value → World → Prop} (hT : TB W) (hd : Holds26 W R dat) (hA : LineA R dat S N) (h : Hs W (pt b (.cells R.c 27 (0, 0)) :: M) w)
    (hK : ∀ w', Same W w' → Kr (.bool true) w') : F3_1 Kr (.pointer (some ⟨b, 0, none⟩)) (.string S) (.int .i64 N) w := by
  unfold F3_1
  simp only [rdA_mk, rdS_mk, rdI_mk]
  rcases hA with ⟨t, ht, rfl, rfl⟩ | ⟨hn, rfl, rfl⟩
  · have e0 : ((0 : Int) != 0) = false := rfl
    rw [e0, br_false]
    have hsz := line_short ht
    refine cl (c10q hT h (by omega)) ?_
    rintro _ w2 ⟨R2, d2, N2, rfl, hD, h2⟩
    have hD2 : DeedA (lineOf (itemsOf t) ⟨R.c, dat⟩) R dat 0 := .inl ⟨⟨t, ht.deed⟩, rfl⟩
    obtain ⟨hsame, rfl⟩ := hD.one hD2
    refine exR26_of R2 ⟨_, rfl, h2.alc fun b3 w3 h3 => h3.stcL 0 rfl (by rfl) fun w4 h4 => ?_⟩
    have h4 : Hs W (pt b3 (.cells R2.c 27 (0, 0)) :: dtP W R2.c d2 :: pt b (.cells R.c 27 (0, 0)) :: M) w4 := h4
    have e1 : ((0 : Int) == 0) = true := rfl
    rw [e1, br_true]
    refine ldR26_of (s := R2) (h4.atL 0 rfl) (ldR26_of (s := R) (h4.atL 2 rfl) ?_)
    refine cl (c12S (dt_holds (h4.focus (i := 1) rfl)) (hd.same h4.old)) ?_
    rintro _ w5 ⟨rfl, hs5⟩
    refine ⟨_, rfl, ?_⟩
    rw [hsame, br_true]
    have h5 := h4.same hs5
    refine cl (c13 (Hs.tb h5 hT)) ?_
    rintro _ w6 ⟨rfl, hs6⟩
    exact ⟨_, rfl, hK w6 (h5.same hs6).old⟩
  · have e0 : ((1 : Int) != 0) = true := rfl
    rw [e0, br_true]
    refine cl (c13 (Hs.tb h hT)) ?_
    rintro _ w6 ⟨rfl, hs6⟩
    exact ⟨_, rfl, hK w6 (h.same hs6).old⟩
theorem c3 {R : R26} {dat : List UInt8} {s : ByteArray} (hT : TB w) (hG : GoodD ⟨R.c, dat⟩) (hd : Holds26 w R dat) (hdl : dat.length < 4611686018427387904) (hs : s.size ≤ 8000000) : Calls Tryz.prog 3 #[R.v, .string s] w (rt fun v w' => v = .bool true ∧ Same w w') := by
  refine F3_ok ?_
  unfold F3
  refine exR26_of R ⟨rfl, ?_⟩
  simp only [rdS_mk]
  refine (Hs.start w).alc fun b3 w3 h3 => ldR26_of (s := R) (h3.atL 0 rfl) ?_
  refine cl (c8q hT h3 hG hd hdl) ?_
  rintro _ w4 ⟨S1, N1, rfl, hA1, h4⟩
  refine ⟨_, _, rfl, ldR26_of (s := R) (h4.atL 0 rfl) ?_⟩
  refine cl (c9q hT h4 hG hd) ?_
  rintro _ w5 ⟨S2, N2, rfl, hA2, h5⟩
  refine ⟨_, _, rfl, ?_⟩
  refine cl (c10q hT h5 hs) ?_
  rintro _ w6 ⟨R1, d1, N3, rfl, hD1, h6⟩
  refine exR26_of R1 ⟨_, rfl, h6.alc fun b19 w7 h7 => h7.stcL 0 rfl (by rfl) fun w8 h8 => ?_⟩
  have h8 : Hs w [pt b19 (.cells R1.c 27 (0, 0)), dtP w R1.c d1, pt b3 (.cells R.c 27 (0, 0))] w8 := h8
  refine cl (c11q hT h8 hs) ?_
  rintro _ w9 ⟨R2, d2, N4, rfl, hD2, h9⟩
  refine exR26_of R2 ⟨_, rfl, h9.alc fun b26 w10 h10 => h10.stcL 0 rfl (by rfl) fun w11 h11 => ?_⟩
  have h11 : Hs w [pt b26 (.cells R2.c 27 (0, 0)), dtP w R2.c d2, pt b19 (.cells R1.c 27 (0, 0)), dtP w R1.c d1, pt b3 (.cells R.c 27 (0, 0))] w11 := h11
  obtain ⟨rfl, rfl⟩ := hA1.one hA2
  obtain ⟨hsame, rfl⟩ := hD1.one hD2
  have en : ∀ n : Int, (n != n) = false := fun n => by simp
  rw [str_beq, decide_eq_true rfl, Bool.not_true, br_false, en, br_false]
  refine ldR26_of (s := R1) (h11.atL 2 rfl) (ldR26_of (s := R2) (h11.atL 0 rfl) ?_)
  refine cl (c12S (dt_holds (h11.focus (i := 3) rfl)) (dt_holds (h11.focus (i := 1) rfl))) ?_
  rintro _ w12 ⟨rfl, hs12⟩
  refine ⟨_, rfl, ?_⟩
  rw [hsame, Bool.not_true, br_false, en, br_false]
  refine F3_1_go hT hd hA1 ((h11.same hs12).focus (i := 4) rfl) fun w' hs' => ?_
  intro _
  simp only [rdB_mk]
  exact ⟨by first | rfl | trivial, hs'⟩
theorem F4_1_go {R : R49} {S : ByteArray} {N : Int} {b : Nat} {Kr : Value → World → Prop} (hT : TB W) (hG : GoodC R.c) (hA : SetA R S N) (h : Hs W (pt b (.cells R.c 50 (0, 0)) :: M) w)
    (hK : ∀ w', Same W w' → Kr (.bool true) w') : F4_1 Kr (.pointer (some ⟨b, 0, none⟩)) (.string S) (.int .i64 N) w := by
  unfold F4_1
  simp only [rdA_mk, rdS_mk, rdI_mk]
  rcases hA with ⟨ho, rfl, rfl⟩ | ⟨hn, rfl, rfl⟩
  · have e0 : ((0 : Int) != 0) = false := rfl
    rw [e0, br_false]
    have hsz := conf_short ho
    refine cl (c16q hT h (by omega)) ?_
    rintro _ w2 ⟨R2, N2, rfl, hD, h2⟩
    have hD2 : ConfA (lineOf confItems ⟨R.c, []⟩) R 0 := .inl ⟨conf_back hG ho, rfl⟩
    obtain ⟨rfl, rfl⟩ := hD.one hD2
    refine exR49_of R2 ⟨_, rfl, h2.alc fun b3 w3 h3 => h3.stcL 0 rfl (by rfl) fun w4 h4 => ?_⟩
    have h4 : Hs W (pt b3 (.cells R2.c 50 (0, 0)) :: pt b (.cells R2.c 50 (0, 0)) :: M) w4 := h4
    have e1 : ((0 : Int) == 0) = true := rfl
    rw [e1, br_true]
    refine ldR49_of (s := R2) (h4.atL 0 rfl) (ldR49_of (s := R2) (h4.atL 1 rfl) ?_)
    refine ⟨_, _, eql49 R2, ?_⟩
    rw [br_true]
    refine cl (c13 (Hs.tb h4 hT)) ?_
    rintro _ w6 ⟨rfl, hs6⟩
    exact ⟨_, rfl, hK w6 (h4.same hs6).old⟩
  · have e0 : ((1 : Int) != 0) = true := rfl
    rw [e0, br_true]
    refine cl (c13 (Hs.tb h hT)) ?_
    rintro _ w6 ⟨rfl, hs6⟩
    exact ⟨_, rfl, hK w6 (h.same hs6).old⟩
theorem c4 {R : R49} {s : ByteArray} (hT : TB w) (hG : GoodC R.c) (hs : s.size ≤ 8000000) : Calls Tryz.prog 4 #[R.v, .string s] w (rt fun v w' => v = .bool true ∧ Same w w') := by
  refine F4_ok ?_
  unfold F4
  refine exR49_of R ⟨rfl, ?_⟩
  simp only [rdS_mk]
  refine (Hs.start w).alc fun b3 w3 h3 => ldR49_of (s := R) (h3.atL 0 rfl) ?_
  refine cl (c14q hT h3 hG) ?_
  rintro _ w4 ⟨S1, N1, rfl, hA1, h4⟩
  refine ⟨_, _, rfl, ldR49_of (s := R) (h4.atL 0 rfl) ?_⟩
  refine cl (c15q hT h4 hG) ?_
  rintro _ w5 ⟨S2, N2, rfl, hA2, h5⟩
  refine ⟨_, _, rfl, ?_⟩
  refine cl (c16q hT h5 hs) ?_
  rintro _ w6 ⟨R1, N3, rfl, hD1, h6⟩
  refine exR49_of R1 ⟨_, rfl, h6.alc fun b19 w7 h7 => h7.stcL 0 rfl (by rfl) fun w8 h8 => ?_⟩
  have h8 : Hs w [pt b19 (.cells R1.c 50 (0, 0)), pt b3 (.cells R.c 50 (0, 0))] w8 := h8
  refine cl (c17q hT h8 hs) ?_
  rintro _ w9 ⟨R2, N4, rfl, hD2, h9⟩
  refine exR49_of R2 ⟨_, rfl, h9.alc fun b26 w10 h10 => h10.stcL 0 rfl (by rfl) fun w11 h11 => ?_⟩
  have h11 : Hs w [pt b26 (.cells R2.c 50 (0, 0)), pt b19 (.cells R1.c 50 (0, 0)), pt b3 (.cells R.c 50 (0, 0))] w11 := h11
  obtain ⟨rfl, rfl⟩ := hA1.one hA2
  obtain ⟨rfl, rfl⟩ := hD1.one hD2
  have en : ∀ n : Int, (n != n) = false := fun n => by simp
  rw [str_beq, decide_eq_true rfl, Bool.not_true, br_false, en, br_false]
  refine ldR49_of (s := R1) (h11.atL 1 rfl) (ldR49_of (s := R1) (h11.atL 0 rfl) ?_)
  refine ⟨_, _, neq49 R1, ?_⟩
  rw [br_false, en, br_false]
  refine F4_1_go hT hG hA1 (h11.focus (i := 2) rfl) fun w' hs' => ?_
  intro _
  simp only [rdB_mk]
  exact ⟨by first | rfl | trivial, hs'⟩
end
end Go.Proofs.YtilenpnpnbdndaaGreatDoor
