/- Own text: part of the shallow reading of the code and of the contracts that are proved over it. -/
import Derived.Test.YtilenpnpnbdndaaGreatDoorSqD
import Derived.Shelf.Strconv.Itoa3
import Derived.Shelf.Pu.ParseUintPublic10
import Derived.Shelf.Strings.OnBuilder
import Derived.Test.YtilenpnpnbdndaaGreatDoorSrR
import Derived.KernelRfl
/-
  What the shelf has proved of strings.Join, strconv.Itoa and strconv.ParseUint, laid over this program.
-/
namespace Go.Proofs.YtilenpnpnbdndaaGreatDoor
open Go Go.Sh Go.Shelf Go.RowKit
set_option maxRecDepth 1000000
set_option maxHeartbeats 4000000
def zJoin_ren : Go.Shelf.Ren := ⟨fun | 156 => 51 | 165 => 83 | 166 => 84 | 169 => 85 | 240 => 99 | 241 => 100 | 276 => 113 | 277 => 114 | n => n, fun | 31 => 77 | 9 => 9 | 3 => 3 | 4 => 4 | 0 => 0 | 20 => 20 | 72 => 142 | 76 => 146 | 70 => 140 | 37 => 25 | 75 => 145 | 127 => 163 | 164 => 172 | 5 => 5 | 80 => 88 | n => n, fun | n => n⟩
theorem zJoin : Go.Proofs.Lays.n156 Tryz.prog zJoin_ren :=
  {
    mixed := by kernel_rfl,
    f156 := Tryz.func51.trans (congrArg some (by kernel_rfl)),
    f165 := Tryz.func83.trans (congrArg some (by kernel_rfl)),
    f166 := Tryz.func84.trans (congrArg some (by kernel_rfl)),
    f169 := Tryz.func85.trans (congrArg some (by kernel_rfl)),
    f240 := Tryz.func99.trans (congrArg some (by kernel_rfl)),
    f241 := Tryz.func100.trans (congrArg some (by kernel_rfl)),
    f276 := Tryz.func113.trans (congrArg some (by kernel_rfl)),
    f277 := Tryz.func114.trans (congrArg some (by kernel_rfl)),
    t0 := Tryz.underlying0,
    a0 := Tryz.isAgg0,
    z0 := Tryz.sizeOf0,
    v0 := Tryz.zeroValue0,
    t3 := Tryz.underlying3,
    a3 := Tryz.isAgg3,
    z3 := Tryz.sizeOf3,
    v3 := Tryz.zeroValue3,
    t4 := Tryz.underlying4,
    a4 := Tryz.isAgg4,
    z4 := Tryz.sizeOf4,
    v4 := Tryz.zeroValue4,
    t9 := Tryz.underlying9,
    a9 := Tryz.isAgg9,
    z9 := Tryz.sizeOf9,
    v9 := Tryz.zeroValue9,
    t20 := Tryz.underlying20,
    a20 := Tryz.isAgg20,
    z20 := Tryz.sizeOf20,
    v20 := Tryz.zeroValue20,
    t31 := Tryz.underlying77,
    a31 := Tryz.isAgg77,
    z31 := Tryz.sizeOf77,
    v31 := Tryz.zeroValue77,
    t37 := Tryz.underlying25,
    a37 := Tryz.isAgg25,
    z37 := Tryz.sizeOf25,
    v37 := Tryz.zeroValue25,
    t70 := Tryz.underlying140,
    a70 := Tryz.isAgg140,
    z70 := Tryz.sizeOf140,
    v70 := Tryz.zeroValue140,
    t72 := Tryz.underlying142,
    a72 := Tryz.isAgg142,
    z72 := Tryz.sizeOf142,
    v72 := Tryz.zeroValue142,
    t75 := Tryz.underlying145,
    a75 := Tryz.isAgg145,
    z75 := Tryz.sizeOf145,
    v75 := Tryz.zeroValue145,
    t76 := Tryz.underlying146,
    a76 := Tryz.isAgg146,
    z76 := Tryz.sizeOf146,
    v76 := Tryz.zeroValue146,
    t127 := Tryz.underlying163,
    a127 := Tryz.isAgg163,
    z127 := Tryz.sizeOf163,
    v127 := Tryz.zeroValue163,
    t164 := Tryz.underlying172,
    a164 := Tryz.isAgg172,
    z164 := Tryz.sizeOf172,
    v164 := Tryz.zeroValue172
  }
def zItoa_ren : Go.Shelf.Ren := ⟨fun | 171 => 44 | 243 => 65 | 246 => 95 | 283 => 91 | 284 => 92 | 285 => 93 | 286 => 94 | 129 => 108 | 317 => 107 | 318 => 109 | 319 => 110 | 320 => 111 | 337 => 125 | 338 => 126 | n => n, fun | 3 => 3 | 9 => 9 | 2 => 2 | 4 => 4 | 171 => 155 | 0 => 0 | 53 => 42 | 37 => 25 | 5 => 5 | 173 => 158 | 212 => 169 | 51 => 24 | 20 => 20 | 213 => 170 | 46 => 152 | 232 => 191 | 233 => 192 | n => n, fun | 17 => 0 | 18 => 6 | 19 => 7 | n => n⟩
theorem zItoa : Go.Proofs.LaysM.n171 Tryz.prog zItoa_ren :=
  {
    mixed := by kernel_rfl,
    f129 := Tryz.func108.trans (congrArg some (by kernel_rfl)),
    f171 := Tryz.func44.trans (congrArg some (by kernel_rfl)),
    f243 := Tryz.func65.trans (congrArg some (by kernel_rfl)),
    f246 := Tryz.func95.trans (congrArg some (by kernel_rfl)),
    f283 := Tryz.func91.trans (congrArg some (by kernel_rfl)),
    f284 := Tryz.func92.trans (congrArg some (by kernel_rfl)),
    f285 := Tryz.func93.trans (congrArg some (by kernel_rfl)),
    f286 := Tryz.func94.trans (congrArg some (by kernel_rfl)),
    f317 := Tryz.func107.trans (congrArg some (by kernel_rfl)),
    f318 := Tryz.func109.trans (congrArg some (by kernel_rfl)),
    f319 := Tryz.func110.trans (congrArg some (by kernel_rfl)),
    f320 := Tryz.func111.trans (congrArg some (by kernel_rfl)),
    f337 := Tryz.func125.trans (congrArg some (by kernel_rfl)),
    f338 := Tryz.func126.trans (congrArg some (by kernel_rfl)),
    t0 := Tryz.underlying0,
    a0 := Tryz.isAgg0,
    z0 := Tryz.sizeOf0,
    v0 := Tryz.zeroValue0,
    t2 := Tryz.underlying2,
    a2 := Tryz.isAgg2,
    z2 := Tryz.sizeOf2,
    v2 := Tryz.zeroValue2,
    t3 := Tryz.underlying3,
    a3 := Tryz.isAgg3,
    z3 := Tryz.sizeOf3,
    v3 := Tryz.zeroValue3,
    t4 := Tryz.underlying4,
    a4 := Tryz.isAgg4,
    z4 := Tryz.sizeOf4,
    v4 := Tryz.zeroValue4,
    t5 := Tryz.underlying5,
    a5 := Tryz.isAgg5,
    z5 := Tryz.sizeOf5,
    v5 := Tryz.zeroValue5,
    t9 := Tryz.underlying9,
    a9 := Tryz.isAgg9,
    z9 := Tryz.sizeOf9,
    v9 := Tryz.zeroValue9,
    t20 := Tryz.underlying20,
    a20 := Tryz.isAgg20,
    z20 := Tryz.sizeOf20,
    v20 := Tryz.zeroValue20,
    t37 := Tryz.underlying25,
    a37 := Tryz.isAgg25,
    z37 := Tryz.sizeOf25,
    v37 := Tryz.zeroValue25,
    t46 := Tryz.underlying152,
    a46 := Tryz.isAgg152,
    z46 := Tryz.sizeOf152,
    v46 := Tryz.zeroValue152,
    t51 := Tryz.underlying24,
    a51 := Tryz.isAgg24,
    z51 := Tryz.sizeOf24,
    v51 := Tryz.zeroValue24,
    t53 := Tryz.underlying42,
    a53 := Tryz.isAgg42,
    z53 := Tryz.sizeOf42,
    v53 := Tryz.zeroValue42,
    t171 := Tryz.underlying155,
    a171 := Tryz.isAgg155,
    z171 := Tryz.sizeOf155,
    v171 := Tryz.zeroValue155,
    t173 := Tryz.underlying158,
    a173 := Tryz.isAgg158,
    z173 := Tryz.sizeOf158,
    v173 := Tryz.zeroValue158,
    t212 := Tryz.underlying169,
    a212 := Tryz.isAgg169,
    z212 := Tryz.sizeOf169,
    v212 := Tryz.zeroValue169,
    t213 := Tryz.underlying170,
    a213 := Tryz.isAgg170,
    z213 := Tryz.sizeOf170,
    t232 := Tryz.underlying191,
    a232 := Tryz.isAgg191,
    z232 := Tryz.sizeOf191,
    v232 := Tryz.zeroValue191,
    t233 := Tryz.underlying192,
    a233 := Tryz.isAgg192,
    z233 := Tryz.sizeOf192,
    v233 := Tryz.zeroValue192,
    g17 := by kernel_rfl,
    g18 := by kernel_rfl,
    g19 := by kernel_rfl,
    i0 := by kernel_rfl,
    i2 := by kernel_rfl,
    i3 := by kernel_rfl,
    i4 := by kernel_rfl,
    i5 := by kernel_rfl,
    i9 := by kernel_rfl,
    i20 := by kernel_rfl,
    i37 := by kernel_rfl,
    i46 := by kernel_rfl,
    i51 := by kernel_rfl,
    i53 := by kernel_rfl,
    i171 := by kernel_rfl,
    i173 := by kernel_rfl,
    i212 := by kernel_rfl,
    i232 := by kernel_rfl,
    i233 := by kernel_rfl,
    m17 := by kernel_rfl,
    m18 := by kernel_rfl,
    m19 := by kernel_rfl
  }
def zParse_ren : Go.Shelf.Ren := ⟨fun | 14 => 89 | 16 => 105 | 17 => 106 | 19 => 119 | 20 => 120 | 21 => 121 | 22 => 122 | 23 => 123 | 24 => 124 | 25 => 128 | 27 => 44 | 26 => 129 | 28 => 65 | 29 => 95 | 30 => 91 | 31 => 92 | 32 => 93 | 33 => 94 | 35 => 108 | 34 => 107 | 36 => 109 | 37 => 110 | 38 => 111 | 39 => 125 | 40 => 126 | n => n, fun | 9 => 9 | 3 => 3 | 22 => 42 | 24 => 145 | 25 => 150 | 4 => 4 | 34 => 175 | 5 => 5 | 36 => 152 | 37 => 25 | 0 => 0 | 39 => 177 | 21 => 21 | 44 => 189 | 47 => 163 | 50 => 195 | 48 => 193 | 2 => 2 | 52 => 155 | 55 => 158 | 59 => 169 | 60 => 24 | 20 => 20 | 61 => 170 | 65 => 191 | 66 => 192 | 67 => 88 | n => n, fun | 0 => 4 | 1 => 5 | 2 => 0 | 3 => 6 | 4 => 7 | n => n⟩
theorem zParse : Go.Proofs.LaysPu.n14 Tryz.prog zParse_ren :=
  {
    mixed := by kernel_rfl,
    f14 := Tryz.func89.trans (congrArg some (by kernel_rfl)),
    f16 := Tryz.func105.trans (congrArg some (by kernel_rfl)),
    f17 := Tryz.func106.trans (congrArg some (by kernel_rfl)),
    f19 := Tryz.func119.trans (congrArg some (by kernel_rfl)),
    f20 := Tryz.func120.trans (congrArg some (by kernel_rfl)),
    f21 := Tryz.func121.trans (congrArg some (by kernel_rfl)),
    f22 := Tryz.func122.trans (congrArg some (by kernel_rfl)),
    f23 := Tryz.func123.trans (congrArg some (by kernel_rfl)),
    f24 := Tryz.func124.trans (congrArg some (by kernel_rfl)),
    f25 := Tryz.func128.trans (congrArg some (by kernel_rfl)),
    f26 := Tryz.func129.trans (congrArg some (by kernel_rfl)),
    f27 := Tryz.func44.trans (congrArg some (by kernel_rfl)),
    f28 := Tryz.func65.trans (congrArg some (by kernel_rfl)),
    f29 := Tryz.func95.trans (congrArg some (by kernel_rfl)),
    f30 := Tryz.func91.trans (congrArg some (by kernel_rfl)),
    f31 := Tryz.func92.trans (congrArg some (by kernel_rfl)),
    f32 := Tryz.func93.trans (congrArg some (by kernel_rfl)),
    f33 := Tryz.func94.trans (congrArg some (by kernel_rfl)),
    f34 := Tryz.func107.trans (congrArg some (by kernel_rfl)),
    f35 := Tryz.func108.trans (congrArg some (by kernel_rfl)),
    f36 := Tryz.func109.trans (congrArg some (by kernel_rfl)),
    f37 := Tryz.func110.trans (congrArg some (by kernel_rfl)),
    f38 := Tryz.func111.trans (congrArg some (by kernel_rfl)),
    f39 := Tryz.func125.trans (congrArg some (by kernel_rfl)),
    f40 := Tryz.func126.trans (congrArg some (by kernel_rfl)),
    t0 := Tryz.underlying0,
    a0 := Tryz.isAgg0,
    z0 := Tryz.sizeOf0,
    v0 := Tryz.zeroValue0,
    i0 := by kernel_rfl,
    t2 := Tryz.underlying2,
    a2 := Tryz.isAgg2,
    z2 := Tryz.sizeOf2,
    v2 := Tryz.zeroValue2,
    i2 := by kernel_rfl,
    t3 := Tryz.underlying3,
    a3 := Tryz.isAgg3,
    z3 := Tryz.sizeOf3,
    v3 := Tryz.zeroValue3,
    i3 := by kernel_rfl,
    t4 := Tryz.underlying4,
    a4 := Tryz.isAgg4,
    z4 := Tryz.sizeOf4,
    v4 := Tryz.zeroValue4,
    i4 := by kernel_rfl,
    t5 := Tryz.underlying5,
    a5 := Tryz.isAgg5,
    z5 := Tryz.sizeOf5,
    v5 := Tryz.zeroValue5,
    i5 := by kernel_rfl,
    t9 := Tryz.underlying9,
    a9 := Tryz.isAgg9,
    z9 := Tryz.sizeOf9,
    v9 := Tryz.zeroValue9,
    i9 := by kernel_rfl,
    t20 := Tryz.underlying20,
    a20 := Tryz.isAgg20,
    z20 := Tryz.sizeOf20,
    v20 := Tryz.zeroValue20,
    i20 := by kernel_rfl,
    t21 := Tryz.underlying21,
    a21 := Tryz.isAgg21,
    z21 := Tryz.sizeOf21,
    v21 := Tryz.zeroValue21,
    i21 := by kernel_rfl,
    t22 := Tryz.underlying42,
    a22 := Tryz.isAgg42,
    z22 := Tryz.sizeOf42,
    v22 := Tryz.zeroValue42,
    i22 := by kernel_rfl,
    t24 := Tryz.underlying145,
    a24 := Tryz.isAgg145,
    z24 := Tryz.sizeOf145,
    v24 := Tryz.zeroValue145,
    i24 := by kernel_rfl,
    t25 := Tryz.underlying150,
    a25 := Tryz.isAgg150,
    z25 := Tryz.sizeOf150,
    v25 := Tryz.zeroValue150,
    i25 := by kernel_rfl,
    t34 := Tryz.underlying175,
    a34 := Tryz.isAgg175,
    z34 := Tryz.sizeOf175,
    v34 := Tryz.zeroValue175,
    i34 := by kernel_rfl,
    c34 := by kernel_rfl,
    t36 := Tryz.underlying152,
    a36 := Tryz.isAgg152,
    z36 := Tryz.sizeOf152,
    v36 := Tryz.zeroValue152,
    i36 := by kernel_rfl,
    t37 := Tryz.underlying25,
    a37 := Tryz.isAgg25,
    z37 := Tryz.sizeOf25,
    v37 := Tryz.zeroValue25,
    i37 := by kernel_rfl,
    t39 := Tryz.underlying177,
    a39 := Tryz.isAgg177,
    z39 := Tryz.sizeOf177,
    v39 := Tryz.zeroValue177,
    i39 := by kernel_rfl,
    t44 := Tryz.underlying189,
    a44 := Tryz.isAgg189,
    z44 := Tryz.sizeOf189,
    v44 := Tryz.zeroValue189,
    i44 := by kernel_rfl,
    t47 := Tryz.underlying163,
    a47 := Tryz.isAgg163,
    z47 := Tryz.sizeOf163,
    v47 := Tryz.zeroValue163,
    i47 := by kernel_rfl,
    t48 := Tryz.underlying193,
    a48 := Tryz.isAgg193,
    z48 := Tryz.sizeOf193,
    v48 := Tryz.zeroValue193,
    i48 := by kernel_rfl,
    t50 := Tryz.underlying195,
    a50 := Tryz.isAgg195,
    z50 := Tryz.sizeOf195,
    v50 := Tryz.zeroValue195,
    i50 := by kernel_rfl,
    t52 := Tryz.underlying155,
    a52 := Tryz.isAgg155,
    z52 := Tryz.sizeOf155,
    v52 := Tryz.zeroValue155,
    i52 := by kernel_rfl,
    t55 := Tryz.underlying158,
    a55 := Tryz.isAgg158,
    z55 := Tryz.sizeOf158,
    v55 := Tryz.zeroValue158,
    i55 := by kernel_rfl,
    t59 := Tryz.underlying169,
    a59 := Tryz.isAgg169,
    z59 := Tryz.sizeOf169,
    v59 := Tryz.zeroValue169,
    i59 := by kernel_rfl,
    t60 := Tryz.underlying24,
    a60 := Tryz.isAgg24,
    z60 := Tryz.sizeOf24,
    v60 := Tryz.zeroValue24,
    i60 := by kernel_rfl,
    t61 := Tryz.underlying170,
    a61 := Tryz.isAgg170,
    z61 := Tryz.sizeOf170,
    t65 := Tryz.underlying191,
    a65 := Tryz.isAgg191,
    z65 := Tryz.sizeOf191,
    v65 := Tryz.zeroValue191,
    i65 := by kernel_rfl,
    t66 := Tryz.underlying192,
    a66 := Tryz.isAgg192,
    z66 := Tryz.sizeOf192,
    v66 := Tryz.zeroValue192,
    i66 := by kernel_rfl,
    t67 := Tryz.underlying88,
    a67 := Tryz.isAgg88,
    z67 := Tryz.sizeOf88,
    v67 := Tryz.zeroValue88,
    i67 := by kernel_rfl,
    g0 := by kernel_rfl,
    m0 := by kernel_rfl,
    g1 := by kernel_rfl,
    m1 := by kernel_rfl,
    g2 := by kernel_rfl,
    m2 := by kernel_rfl,
    g3 := by kernel_rfl,
    m3 := by kernel_rfl,
    g4 := by kernel_rfl,
    m4 := by kernel_rfl
  }
theorem zExtra : Builder.Extra Tryz.prog zJoin_ren :=
  { sizeBuilder := by kernel_rfl, liesBuilder := by kernel_rfl, t5 := Tryz.underlying5, a5 := Tryz.isAgg5, z5 := Tryz.sizeOf5, v5 := Tryz.zeroValue5, infoByte := by kernel_rfl, cellsByte := by kernel_rfl, sizeByte := by kernel_rfl, neB5 := by decide }
end Go.Proofs.YtilenpnpnbdndaaGreatDoor
namespace Go.Proofs.YtilenpnpnbdndaaGreatDoor
open Go Go.Sh
set_option maxRecDepth 100000
set_option maxHeartbeats 4000000
attribute [local instance] Esc.none
/-! strconv.FormatUint -/
noncomputable def F40_code : Code := Tryz.f40.body.getD .skip
theorem F40_code_ok : okC Tryz.prog Tryz.f40.ntmps F40_code = true := by kernel_rfl
def F40 (x0 : Value) (x1 : Value) (w : World) (K : Value → World → Prop) : Prop :=
  rdI .u64 x0 fun n1 => rdI .i64 x1 fun n2 => Calls Tryz.prog 63 #[(.int .u64 n1), (.int .i64 n2)] w (en fun e4 w3 => ∃ s5, e4 = .returned (.string s5) ∧ (K (.string s5) w3))
theorem F40_step (x0 : Value) (x1 : Value) (w : World) (K : Value → World → Prop) : (F40 x0 x1 w K) = rsh [(0, (.one (.int .u64))), (1, (.one (.int .i64)))] (args0 #[x0, x1]) (fun t => vc Tryz.prog (orcOf []) [] F40_code (retQ Tryz.prog Tryz.f40 K) t w) := by kernel_rfl
theorem F40_ok {x0 x1 : Value} {w : World} {K : Value → World → Prop} (h : F40 x0 x1 w K) : Calls Tryz.prog 40 #[x0, x1] w (rt K) := by
  rw [F40_step] at h
  exact Calls.mono (calls_of (c := F40_code) mixed Tryz.func40 rfl (nlt rfl) (vc_sound mixed (orcNil F40_code) F40_code [] rfl F40_code_ok _ _ _ (rsh_out h))) fun _ _ => rv_none

/-! internal/strconv.FormatUint -/
noncomputable def F63_code : Code := Tryz.f63.body.getD .skip
theorem F63_code_ok : okC Tryz.prog Tryz.f63.ntmps F63_code = true := by kernel_rfl
def F63 (x0 : Value) (x1 : Value) (w : World) (K : Value → World → Prop) : Prop :=
  rdI .u64 x0 fun n1 => rdI .i64 x1 fun n2 => br (n2 == 10) (br (decide ((n1 : Int) < 100)) (Calls Tryz.prog 91 #[(.int .i64 (IntKind.wrap .i64 (n1)))] w (en fun e4 w3 => ∃ s5, e4 = .returned (.string s5) ∧ (K (.string s5) w3))) (alc (.cells ((R155.mk 0 0 0 0 0 0 0 0 0 0 0 0 0 0 0 0 0 0 0 0 0 0 0 0)).c 155) w fun b6 w7 => Calls Tryz.prog 92 #[(.int .u64 n1)] w7 (en fun e9 w8 => ∃ n10, e9 = .returned (.int .i64 n10) ∧ (∃ l11a l11n l11c, ∃ w12, Sem.run Tryz.prog (Instr.sliceAt 155 (.pointer (some (Addr.mk b6 0 none))) none (some (.int .i64 n10)) none) w8 = .ok (.slice l11a l11n l11c) w12 ∧ (Calls Tryz.prog 93 #[(.slice l11a l11n l11c), (.int .u64 n1)] w12 (en fun e14 w13 => e14 = .returned (.tuple #[]) ∧ (∃ l15a l15n l15c, ∃ w16, Sem.run Tryz.prog (Instr.sliceAt 155 (.pointer (some (Addr.mk b6 0 none))) none (some (.int .i64 n10)) none) w13 = .ok (.slice l15a l15n l15c) w16 ∧ (∃ s17, ∃ w18, Sem.run Tryz.prog (convert 25 9 (.slice l15a l15n l15c)) w16 = .ok (.string s17) w18 ∧ (K (.string s17) w18))))))))) (Calls Tryz.prog 94 #[(.slice none 0 0), (.int .u64 n1), (.int .i64 n2), (.bool false), (.bool false)] w (en fun e20 w19 => ∃ l21a l21n l21c, ∃ s22, e20 = .returned (.tuple #[(.slice l21a l21n l21c), (.string s22)]) ∧ (K (.string s22) w19)))
theorem F63_step (x0 : Value) (x1 : Value) (w : World) (K : Value → World → Prop) : (F63 x0 x1 w K) = rsh [(0, (.one (.int .u64))), (1, (.one (.int .i64)))] (args0 #[x0, x1]) (fun t => vc Tryz.prog (orcOf []) [] F63_code (retQ Tryz.prog Tryz.f63 K) t w) := by kernel_rfl
theorem F63_ok {x0 x1 : Value} {w : World} {K : Value → World → Prop} (h : F63 x0 x1 w K) : Calls Tryz.prog 63 #[x0, x1] w (rt K) := by
  rw [F63_step] at h
  exact Calls.mono (calls_of (c := F63_code) mixed Tryz.func63 rfl (nlt rfl) (vc_sound mixed (orcNil F63_code) F63_code [] rfl F63_code_ok _ _ _ (rsh_out h))) fun _ _ => rv_none

end Go.Proofs.YtilenpnpnbdndaaGreatDoor
namespace Go.Proofs.YtilenpnpnbdndaaGreatDoor
open Go Go.Sh
set_option maxRecDepth 100000
set_option maxHeartbeats 4000000
attribute [local instance] Esc.none
/-! ropewalk/script.Line$1 -/
noncomputable def F26_code : Code := Tryz.f26.body.getD .skip
theorem F26_code_ok : okC Tryz.prog Tryz.f26.ntmps F26_code = true := by kernel_rfl
def F26 (x0 : Value) (x1 : Value) (w : World) (K : Value → World → Prop) : Prop :=
  exR85 fun s1 => x0 = s1.v ∧ (rdA x1 fun a2 => alc (.cells s1.c 86) w fun b3 w4 => ldI .i64 ((Addr.mk b3 0 none).add 0) w4 fun n5 => ldI .i64 (a2.add 0) w4 fun n6 => K (.bool (n5 == n6)) w4)
theorem F26_step (x0 : Value) (x1 : Value) (w : World) (K : Value → World → Prop) : (F26 x0 x1 w K) = rsh [(0, (.agg [(.int .i64), .str, .slc])), (1, (.one .adr))] (args0 #[x0, x1]) (fun t => vc Tryz.prog (orcOf []) [] F26_code (retQ Tryz.prog Tryz.f26 K) t w) := by kernel_rfl
theorem F26_ok {x0 x1 : Value} {w : World} {K : Value → World → Prop} (h : F26 x0 x1 w K) : Calls Tryz.prog 26 #[x0, x1] w (rt K) := by
  rw [F26_step] at h
  exact Calls.mono (calls_of (c := F26_code) mixed Tryz.func26 rfl (nlt rfl) (vc_sound mixed (orcNil F26_code) F26_code [] rfl F26_code_ok _ _ _ (rsh_out h))) fun _ _ => rv_none

/-! (*ropewalk/script.line).text -/
noncomputable def F27_code : Code := Tryz.f27.body.getD .skip
theorem F27_code_ok : okC Tryz.prog Tryz.f27.ntmps F27_code = true := by kernel_rfl
def F27 (x0 : Value) (w : World) (K : Value → World → Prop) : Prop :=
  rdP x0 fun p1 => nn p1 fun a2 => ldC (a2.add 0) w fun l3a l3n l3c => Calls Tryz.prog 51 #[(.slice l3a l3n l3c), (.string ⟨#[32]⟩)] w (en fun e5 w4 => ∃ s6, e5 = .returned (.string s6) ∧ (K (.string s6) w4))
theorem F27_step (x0 : Value) (w : World) (K : Value → World → Prop) : (F27 x0 w K) = rsh [(0, (.one .ptr))] (args0 #[x0]) (fun t => vc Tryz.prog (orcOf []) [] F27_code (retQ Tryz.prog Tryz.f27 K) t w) := by kernel_rfl
theorem F27_ok {x0 : Value} {w : World} {K : Value → World → Prop} (h : F27 x0 w K) : Calls Tryz.prog 27 #[x0] w (rt K) := by
  rw [F27_step] at h
  exact Calls.mono (calls_of (c := F27_code) mixed Tryz.func27 rfl (nlt rfl) (vc_sound mixed (orcNil F27_code) F27_code [] rfl F27_code_ok _ _ _ (rsh_out h))) fun _ _ => rv_none

/-! ropewalk/script.same -/
noncomputable def F29_code : Code := Tryz.f29.body.getD .skip
theorem F29_code_ok : okC Tryz.prog Tryz.f29.ntmps F29_code = true := by kernel_rfl
def F29 (x0 : Value) (x1 : Value) (w : World) (K : Value → World → Prop) : Prop :=
  exR26 fun s1 => x0 = s1.v ∧ (exR26 fun s2 => x1 = s2.v ∧ (alc (.cells s1.c 27) w fun b3 w4 => alc (.cells s2.c 27) w4 fun b5 w6 => ldC ((Addr.mk b3 0 none).add 10) w6 fun l7a l7n l7c => ldC ((Addr.mk b5 0 none).add 10) w6 fun l8a l8n l8c => Calls Tryz.prog 52 #[(.slice l7a l7n l7c), (.slice l8a l8n l8c)] w6 (en fun e10 w9 => ∃ b11, e10 = .returned (.bool b11) ∧ (br b11 (ldI .i64 ((Addr.mk b3 0 none).add 0) w9 fun n12 => ldI .i64 ((Addr.mk b5 0 none).add 0) w9 fun n13 => br (n12 == n13) (ldI .i64 ((Addr.mk b3 0 none).add 1) w9 fun n14 => ldI .i64 ((Addr.mk b5 0 none).add 1) w9 fun n15 => br (n14 == n15) (ldI .i64 ((Addr.mk b3 0 none).add 2) w9 fun n16 => ldI .i64 ((Addr.mk b5 0 none).add 2) w9 fun n17 => br (n16 == n17) (ldI .i64 ((Addr.mk b3 0 none).add 3) w9 fun n18 => ldI .i64 ((Addr.mk b5 0 none).add 3) w9 fun n19 => br (n18 == n19) (ldI .i64 ((Addr.mk b3 0 none).add 4) w9 fun n20 => ldI .i64 ((Addr.mk b5 0 none).add 4) w9 fun n21 => br (n20 == n21) (ldI .u8 ((Addr.mk b3 0 none).add 5) w9 fun n22 => ldI .u8 ((Addr.mk b5 0 none).add 5) w9 fun n23 => br (n22 == n23) (ldI .i64 ((Addr.mk b3 0 none).add 6) w9 fun n24 => ldI .i64 ((Addr.mk b5 0 none).add 6) w9 fun n25 => br (n24 == n25) (ldI .u16 ((Addr.mk b3 0 none).add 7) w9 fun n26 => ldI .u16 ((Addr.mk b5 0 none).add 7) w9 fun n27 => br (n26 == n27) (ldI .u32 ((Addr.mk b3 0 none).add 8) w9 fun n28 => ldI .u32 ((Addr.mk b5 0 none).add 8) w9 fun n29 => br (n28 == n29) (ldB ((Addr.mk b3 0 none).add 9) w9 fun b30 => ldB ((Addr.mk b5 0 none).add 9) w9 fun b31 => br (b30 == b31) (ldS ((Addr.mk b3 0 none).add 11) w9 fun s32 => ldS ((Addr.mk b5 0 none).add 11) w9 fun s33 => K (.bool (ByteArray.toList s32 == ByteArray.toList s33)) w9) (K (.bool false) w9)) (K (.bool false) w9)) (K (.bool false) w9)) (K (.bool false) w9)) (K (.bool false) w9)) (K (.bool false) w9)) (K (.bool false) w9)) (K (.bool false) w9)) (K (.bool false) w9)) (K (.bool false) w9)) (K (.bool false) w9)))))
theorem F29_step (x0 : Value) (x1 : Value) (w : World) (K : Value → World → Prop) : (F29 x0 x1 w K) = rsh [(0, (.agg [(.int .i64), (.int .i64), (.int .i64), (.int .i64), (.int .i64), (.int .u8), (.int .i64), (.int .u16), (.int .u32), .bool, .slc, .str])), (1, (.agg [(.int .i64), (.int .i64), (.int .i64), (.int .i64), (.int .i64), (.int .u8), (.int .i64), (.int .u16), (.int .u32), .bool, .slc, .str]))] (args0 #[x0, x1]) (fun t => vc Tryz.prog (orcOf []) [] F29_code (retQ Tryz.prog Tryz.f29 K) t w) := by kernel_rfl
theorem F29_ok {x0 x1 : Value} {w : World} {K : Value → World → Prop} (h : F29 x0 x1 w K) : Calls Tryz.prog 29 #[x0, x1] w (rt K) := by
  rw [F29_step] at h
  exact Calls.mono (calls_of (c := F29_code) mixed Tryz.func29 rfl (nlt rfl) (vc_sound mixed (orcNil F29_code) F29_code [] rfl F29_code_ok _ _ _ (rsh_out h))) fun _ _ => rv_none

/-! ropewalk/script.ReadLine$1 -/
noncomputable def F33_code : Code := Tryz.f33.body.getD .skip
theorem F33_code_ok : okC Tryz.prog Tryz.f33.ntmps F33_code = true := by kernel_rfl
def F33 (x0 : Value) (x1 : Value) (w : World) (K : Value → World → Prop) : Prop :=
  exR85 fun s1 => x0 = s1.v ∧ (rdA x1 fun a2 => alc (.cells s1.c 86) w fun b3 w4 => ldS ((Addr.mk b3 0 none).add 1) w4 fun s5 => ldS a2 w4 fun s6 => K (.bool (ByteArray.toList s5 == ByteArray.toList s6)) w4)
theorem F33_step (x0 : Value) (x1 : Value) (w : World) (K : Value → World → Prop) : (F33 x0 x1 w K) = rsh [(0, (.agg [(.int .i64), .str, .slc])), (1, (.one .adr))] (args0 #[x0, x1]) (fun t => vc Tryz.prog (orcOf []) [] F33_code (retQ Tryz.prog Tryz.f33 K) t w) := by kernel_rfl
theorem F33_ok {x0 x1 : Value} {w : World} {K : Value → World → Prop} (h : F33 x0 x1 w K) : Calls Tryz.prog 33 #[x0, x1] w (rt K) := by
  rw [F33_step] at h
  exact Calls.mono (calls_of (c := F33_code) mixed Tryz.func33 rfl (nlt rfl) (vc_sound mixed (orcNil F33_code) F33_code [] rfl F33_code_ok _ _ _ (rsh_out h))) fun _ _ => rv_none

/-! slices.IndexFunc[[]ropewalk/script.verb,ropewalk/script.verb] -/
noncomputable def F49_code : Code := Tryz.f49.body.getD .skip
theorem F49_code_ok : okC Tryz.prog Tryz.f49.ntmps F49_code = true := by kernel_rfl
def F49_1C (K0 : World → Prop) (Kr : Value → World → Prop) : Post := fun o t w => match o with | .normal => False | .exit i => (match Nat.beq i 0 with | true => K0  w | false => False) | .ret => Kr (t 4) w
def F49_1B (R : Value → Value → Value → Value → World → Prop) (K0 : World → Prop) (Kr : Value → World → Prop) (x0 : Value) (x1 : Value) (x7 : Value) (x8 : Value) (w : World) : Prop :=
  rdC x0 fun l1a l1n l1c => rdI .i64 x7 fun n2 => rdI .i64 x8 fun n3 => br (decide ((n3 : Int) < n2)) (ixS 3 l1a l1n n3 fun a4 => ldR85 a4 w fun s5 => callV Tryz.prog x1 #[s5.v] w (.one (.one .bool)) fun r7 w6 => ∃ b8, r7 = (.bool b8) ∧ (br b8 (Kr (.int .i64 n3) w6) (R (.slice l1a l1n l1c) x1 (.int .i64 n2) (.int .i64 (IntKind.wrap .i64 (n3 + 1))) w6))) (K0 w)
def F49_1 (K0 : World → Prop) (Kr : Value → World → Prop) : Nat → Value → Value → Value → Value → World → Prop
  | 0 => fun _ _ _ _ _ => False
  | n + 1 => F49_1B (F49_1 K0 Kr n) K0 Kr
def F49_1O (Q : Post) (t : Tm) (w : World) : Prop := ∃ n, F49_1 (fun w => ∀ g, rsh [] (upds g []) fun t => Q (.exit 0) t w) (fun y4 w => ∀ g, rsh [(4, (.one (.int .i64)))] (upds g [(4, y4)]) fun t => Q .ret t w) n (t 0) (t 1) (t 7) (t 8) w
theorem F49_1_step (K0 : World → Prop) (Kr : Value → World → Prop) (n : Nat) (t : Tm) (w : World) : (F49_1 K0 Kr (n + 1) (t 0) (t 1) (t 7) (t 8) w) = rsh [(0, (.one .slc)), (7, (.one (.int .i64))), (8, (.one (.int .i64)))] t (fun t => vc Tryz.prog (orcOf []) [0, 0, 1, 0, 1] (getAt F49_code [0, 0, 1, 0, 1]) (fun o t w => match o with | .normal => F49_1 K0 Kr n (t 0) (t 1) (t 7) (t 8) w | .exit i => F49_1C K0 Kr (.exit i) t w | .ret => F49_1C K0 Kr .ret t w) t w) := by kernel_rfl
theorem F49_1_ok : ∀ Q t w, F49_1O Q t w → W Tryz.prog Tryz.f49.ntmps (getAt F49_code [0, 1, 0, 1]) Q t w := by
  intro Q t w ⟨n, h⟩
  refine (W_loop (P := Tryz.prog) (b := getAt F49_code [0, 0, 1, 0, 1]) (Q := F49_1C (fun w => ∀ g, rsh [] (upds g []) fun t => Q (.exit 0) t w) (fun y4 w => ∀ g, rsh [(4, (.one (.int .i64)))] (upds g [(4, y4)]) fun t => Q .ret t w)) (G := fun n t w => F49_1 (fun w => ∀ g, rsh [] (upds g []) fun t => Q (.exit 0) t w) (fun y4 w => ∀ g, rsh [(4, (.one (.int .i64)))] (upds g [(4, y4)]) fun t => Q .ret t w) n (t 0) (t 1) (t 7) (t 8) w) (fun _ _ h => h) (fun n t w h => ?_) n t w h).mono ?_
  · rw [F49_1_step] at h
    exact vc_sound mixed (orcNil F49_code) _ _ rfl (okC_at F49_code_ok [0, 0, 1, 0, 1]) _ _ _ (rsh_out h)
  · intro o t w q
    cases o with
    | normal => exact q.elim
    | exit i =>
      unfold F49_1C at q
      simp only at q
      split at q
      · rename_i hi
        rw [nbeq] at hi
        subst hi
        exact out_ok [] q
      · exact q.elim
    | ret => exact out_ok [4] q
def F49 (x0 : Value) (x1 : Value) (w : World) (K : Value → World → Prop) : Prop :=
  rdC x0 fun l1a l1n l1c => ∃ k9 : Nat, F49_1 (fun w3 => ∀ _g4 : Tm, K (.int .i64 (-1)) w3) (fun y4_4 w6 => ∀ _g7 : Tm, rdI .i64 y4_4 fun n8 => K (.int .i64 n8) w6) k9 (.slice l1a l1n l1c) x1 (.int .i64 (l1n : Int)) (.int .i64 0) w
theorem F49_step (x0 : Value) (x1 : Value) (w : World) (K : Value → World → Prop) : (F49 x0 x1 w K) = rsh [(0, (.one .slc))] (args0 #[x0, x1]) (fun t => vc Tryz.prog (orcOf [([0, 1, 0, 1], F49_1O)]) [] F49_code (retQ Tryz.prog Tryz.f49 K) t w) := by kernel_rfl
theorem F49_ok {x0 x1 : Value} {w : World} {K : Value → World → Prop} (h : F49 x0 x1 w K) : Calls Tryz.prog 49 #[x0, x1] w (rt K) := by
  rw [F49_step] at h
  exact Calls.mono (calls_of (c := F49_code) mixed Tryz.func49 rfl (nlt rfl) (vc_sound mixed (orcCons (π := [0, 1, 0, 1]) F49_1_ok (orcNil F49_code)) F49_code [] rfl F49_code_ok _ _ _ (rsh_out h))) fun _ _ => rv_none
end Go.Proofs.YtilenpnpnbdndaaGreatDoor
