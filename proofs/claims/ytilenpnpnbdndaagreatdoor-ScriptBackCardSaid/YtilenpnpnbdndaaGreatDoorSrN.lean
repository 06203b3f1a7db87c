/- Own text: part of the shallow reading of the code and of the contracts that are proved over it. -/
import Derived.Test.YtilenpnpnbdndaaGreatDoorSqA
import Derived.Test.YtilenpnpnbdndaaGreatDoorSqC
import Derived.Shelf.Strconv.Itoa3
import Derived.Shelf.Pu.ParseUintPublic10
import Derived.Shelf.Strings.OnBuilder
import Derived.Test.YtilenpnpnbdndaaGreatDoorShDf
import Derived.KernelRfl
namespace Go.Proofs.YtilenpnpnbdndaaGreatDoor
open Go Go.Sh
set_option maxRecDepth 100000
attribute [local instance] Esc.none
def bs (l : List UInt8) : ByteArray := ⟨l.toArray⟩
def bl (s : ByteArray) : List UInt8 := s.data.toList
theorem bl_bs (l : List UInt8) : bl (bs l) = l := rfl
theorem bs_bl (s : ByteArray) : bs (bl s) = s := by unfold bs bl; cases s; simp
theorem bl_len (s : ByteArray) : (bl s).length = s.size := by unfold bl; simp
def words (s : ByteArray) : List ByteArray := (wrds (bl s)).map bs
theorem slT_hi {s : ByteArray} {k : IntKind} {m : Nat} {K : ByteArray -> Prop} (hm : m <= s.size) (hk : K (bs ((bl s).take m))) : slT s none (some (.int k (m : Int))) K := by
 refine ⟨⟨by omega,by omega⟩,?_⟩
 show K (s.extract 0 ((m : Int).toNat))
 have : s.extract 0 ((m : Int).toNat) = bs ((bl s).take m) := str_ext (by simp [bs,bl,ByteArray.data_extract])
 rw [this]; exact hk
theorem slT_lo {s : ByteArray} {k : IntKind} {m : Nat} {K : ByteArray -> Prop} (hm : m <= s.size) (hk : K (bs ((bl s).drop m))) : slT s (some (.int k (m : Int))) none K := by
 refine ⟨⟨by omega,by omega⟩,?_⟩
 show K (s.extract ((m : Int).toNat) s.size)
 have : s.extract ((m : Int).toNat) s.size = bs ((bl s).drop m) := str_ext (by
  have e : s.size = s.data.size := rfl
  rw [ByteArray.data_extract,e]
  simp [bs,bl]
  exact List.take_of_length_le (by simp))
 rw [this]; exact hk
section
variable {W w : World} {N : List HP}
theorem F55_loop {a : Addr} {n c : Nat} {K0 : Value -> Value -> Value -> World -> Prop} :
  ∀ (m j k : Nat) (s : ByteArray) (pre : List ByteArray) (post : List Value) (w : World),m + 1 = (wrds (bl s)).length -> j + m + 1 = n -> pre.length = j -> post.length = m + 1 -> n <= 16777216 -> s.size <= 1000000000 -> m < k ->
   (∀ s' w',words s = (words s).take m ++ [s'] -> Hs W (slP 9 1 (some a) n c (wsV (pre ++ (words s).take m) ++ post.drop m) :: N) w' -> K0 (.string s') (.slice (some a) n c) (.int .i64 ((j + m : Nat) : Int)) w') ->
   Hs W (slP 9 1 (some a) n c (wsV pre ++ post) :: N) w ->
   F55_1 K0 k (.string s) (.string ⟨#[32]⟩) (.int .i64 0) (.int .i64 ((n - 1 : Nat) : Int)) (.slice (some a) n c) (.int .i64 (j : Int)) w := by
 intro m
 induction m with
 | zero =>
  intro j k s pre post w hm hj hp hq hn hs hk hK h
  obtain ⟨k,rfl⟩ : ∃ i,k = i + 1 := ⟨k - 1,by omega⟩
  show F55_1B _ _ _ _ _ _ _ _ _
  unfold F55_1B
  simp only [rdS_mk,rdI_mk,rdC_mk]
  rw [br_dec]
  refine ⟨fun hlt => by exfalso; omega,fun _ => ?_⟩
  have hw : (words s) = [s] := by
   have : 32 ∉ bl s := by
    have := wrds_length (bl s)
    rw [← hm] at this
    exact fun hmem => by have := List.count_pos_iff.2 hmem; omega
   unfold words
   rw [wrds_none this]
   simp [bs_bl]
  exact hK s w (by rw [hw]; rfl) (by simpa using h)
 | succ m ih =>
  intro j k s pre post w hm hj hp hq hn hs hk hK h
  obtain ⟨k,rfl⟩ : ∃ i,k = i + 1 := ⟨k - 1,by omega⟩
  show F55_1B _ _ _ _ _ _ _ _ _
  unfold F55_1B
  simp only [rdS_mk,rdI_mk,rdC_mk]
  rw [br_dec]
  refine ⟨fun _ => ?_,fun hge => by exfalso; omega⟩
  refine clr c88 ⟨_,rfl,?_⟩
  rw [br_dec]
  refine ⟨fun hneg => ?_,fun hpos => ?_⟩
  ·exfalso
   have := wrds_none (ix_none hneg)
   unfold bl at hm
   rw [this] at hm
   simp at hm
  ·obtain ⟨i,h1,h2,h3,h4⟩ := ix_some (c := 32) (l := bl s) (by unfold bl; omega)
   have h1' : Lib.indexByte s.data.toList 32 = (i : Int) := h1
   have hlen := bl_len s
   rw [h1']
   have ew : words s = bs ((bl s).take i) :: words (bs ((bl s).drop (i + 1))) := by
    unfold words
    conv => lhs; rw [h4]
    rw [wrds_split _ _ h3,List.map_cons,bl_bs]
   have ew2 : (wrds ((bl s).drop (i + 1))).length = m + 1 := by
    have : (words s).length = (wrds (bl s)).length := by simp [words]
    rw [ew,List.length_cons] at this
    simp [words,bl_bs] at this
    omega
   have e0 : IntKind.wrap .i64 ((i : Int) + 0) = ((i : Nat) : Int) := by rw [wrap_i64 (by omega) (by omega)]; omega
   rw [e0]
   refine slT_hi (by omega) ?_
   refine ixS_to (p := j) rfl (by omega) ?_
   rw [Nat.mul_one]
   obtain ⟨p0,post,rfl⟩ : ∃ x r,post = x :: r := by
    cases post with
    | nil => simp at hq
    | cons x r => exact ⟨x,r,rfl⟩
   refine h.put 0 rfl (j := j) (by simp [wsV]; omega) fun w2 h2 => ?_
   have e1 : (wsV pre ++ p0 :: post).set j (.string (bs ((bl s).take i))) = wsV (pre ++ [bs ((bl s).take i)]) ++ post := by
    rw [List.set_append_right _ _ (by simp [wsV]; omega)]
    have : j - (wsV pre).length = 0 := by simp [wsV]; omega
    rw [this]
    simp [wsV]
   have h2 : Hs W (slP 9 1 (some a) n c ((wsV pre ++ p0 :: post).set j (.string (bs ((bl s).take i)))) :: N) w2 := h2
   rw [e1] at h2
   have e2 : IntKind.wrap .i64 ((i : Int) + ((ByteArray.mk #[32]).size : Int)) = ((i + 1 : Nat) : Int) := by
    show IntKind.wrap .i64 ((i : Int) + 1) = _
    rw [wrap_i64 (by omega) (by omega)]; omega
   rw [e2]
   refine slT_lo (by omega) ?_
   have e3 : IntKind.wrap .i64 ((j : Int) + 1) = ((j + 1 : Nat) : Int) := by rw [wrap_i64 (by omega) (by omega)]; omega
   rw [e3]
   refine ih (j + 1) k _ _ post w2 (by rw [bl_bs]; omega) (by omega) (by simp; omega) (by simpa using hq) hn ?_ (by omega) (fun s' w' hs' h' => ?_) h2
   ·rw [← bl_len,bl_bs]; simp; omega
   ·have := hK s' w' (by rw [ew,List.take_succ_cons,List.cons_append,← hs']) (by
     rw [ew,List.take_succ_cons,List.drop_succ_cons]
     simpa using h')
    have e4 : j + 1 + m = j + (m + 1) := by omega
    rw [e4]
    exact this
theorem c55 {s : ByteArray} (hs : s.size <= 8000000) (h : Hs W N w) : Calls Tryz.prog 55 #[.string s,.string ⟨#[32]⟩,.int .i64 0,.int .i64 (-1)] w (rt fun v w' => ∃ a,v = .slice a (words s).length (words s).length /\ Hs W (slP 9 1 a (words s).length (words s).length (wsV (words s)) :: N) w') := by
 refine F55_ok ?_
 unfold F55
 simp only [rdS_mk,rdI_mk]
 have e0 : ((-1 : Int) == 0) = false := rfl
 have e1 : ((ByteArray.mk #[32]).toList == (ByteArray.mk #[]).toList) = false := by rw [str_beq]; rfl
 have e2 : decide ((-1 : Int) < 0) = true := rfl
 rw [e0,br_false,e1,br_false,e2,br_true]
 refine clr c87 ⟨_,rfl,?_⟩
 have hlen := wrds_length (bl s)
 have hc : (bl s).count 32 <= s.size := by rw [← bl_len]; exact List.count_le_length
 have hwl : (words s).length = (bl s).count 32 + 1 := by simp [words,hlen]
 obtain ⟨n,hn⟩ : ∃ n,n = (words s).length := ⟨_,rfl⟩
 have e3 : IntKind.wrap .i64 ((s.data.toList.count 32 : Int) + 1) = ((n : Nat) : Int) := by
  have : s.data.toList.count 32 = (bl s).count 32 := rfl
  rw [this,wrap_i64 (by omega) (by omega)]; omega
 rw [e3]
 unfold F55_2
 simp only [rdS_mk,rdI_mk]
 have e4 : IntKind.wrap .i64 ((s.size : Int) + 1) = ((s.size + 1 : Nat) : Int) := by rw [wrap_i64 (by omega) (by omega)]; omega
 have e5 : (if IntKind.wrap .i64 ((s.size : Int) + 1) < ((n : Nat) : Int) then IntKind.wrap .i64 ((s.size : Int) + 1) else ((n : Nat) : Int)) = ((n : Nat) : Int) := by
  rw [e4,if_neg (by omega)]
 rw [e5]
 refine h.make E77 (by omega) (by omega) (by omega) fun a w2 h2 _ => ?_
 have e6 : IntKind.wrap .i64 (((n : Nat) : Int) - 1) = ((n - 1 : Nat) : Int) := by rw [wrap_i64 (by omega) (by omega)]; omega
 rw [e6]
 obtain ⟨xs,hxs⟩ : ∃ xs,xs = (madeCells (Value.string ⟨#[]⟩).cells (n * 1)).toList := ⟨_,rfl⟩
 rw [← hxs] at h2
 have hxl : xs.length = n := by have := (h2.own 0 rfl).1; omega
 obtain ⟨ad,rfl⟩ := (h2.rd 0 rfl).some (by omega)
 refine ⟨n + 1,F55_loop (n := n) (c := n) (N := N) (W := W) (n - 1) 0 (n + 1) s [] xs w2 (by omega) (by omega) rfl (by omega) (by omega) (by omega) (by omega) (fun s' w3 hs' h3 => ?_) h2⟩
 intro _
 simp only [rdS_mk,rdC_mk,rdI_mk]
 have el : (words s).length - 1 = n - 1 := by omega
 obtain ⟨x0,hx0⟩ : ∃ x0,xs.drop (n - 1) = [x0] := by
  have : (xs.drop (n - 1)).length = 1 := by rw [List.length_drop]; omega
  exact List.length_eq_one_iff.1 this
 rw [hx0,List.nil_append] at h3
 have htl : ((words s).take (n - 1)).length = n - 1 := by rw [List.length_take]; omega
 refine ixS_to (p := n - 1) (by omega) (by omega) ?_
 rw [Nat.mul_one]
 refine h3.put 0 rfl (j := n - 1) (by simp [wsV]; omega) fun w4 h4 => ?_
 have e7 : (wsV ((words s).take (n - 1)) ++ [x0]).set (n - 1) (.string s') = wsV (words s) := by
  rw [List.set_append_right _ _ (by rw [wsV_length,htl]; exact Nat.le_refl _),wsV_length,htl,Nat.sub_self]
  conv => rhs; rw [hs']
  rw [wsV_append]
  rfl
 have h4 : Hs W (slP 9 1 (some ad) n n ((wsV ((words s).take (n - 1)) ++ [x0]).set (n - 1) (.string s')) :: N) w4 := h4
 rw [e7] at h4
 have e8 : IntKind.wrap .i64 (((0 + (n - 1) : Nat) : Int) + 1) = ((n : Nat) : Int) := by rw [wrap_i64 (by omega) (by omega)]; omega
 rw [e8]
 refine slS_hi (Nat.le_refl _) ?_
 intro _
 exact ⟨some ad,by rw [← hn],by rw [← hn]; exact h4⟩
theorem c32 {s : ByteArray} (hs : s.size <= 8000000) (h : Hs W N w) : Calls Tryz.prog 32 #[.string s,.string ⟨#[32]⟩] w (rt fun v w' => ∃ a,v = .slice a (words s).length (words s).length /\ Hs W (slP 9 1 a (words s).length (words s).length (wsV (words s)) :: N) w') := by
 refine F32_ok ?_
 unfold F32
 simp only [rdS_mk]
 refine cl (c55 hs h) ?_
 rintro _ w2 ⟨a,rfl,h2⟩
 exact ⟨_,_,_,rfl,a,rfl,h2⟩
end
end Go.Proofs.YtilenpnpnbdndaaGreatDoor
namespace Go.Proofs.YtilenpnpnbdndaaGreatDoor
open Go Go.Sh Go.Shelf Go.RowKit
set_option maxRecDepth 1000000
set_option maxHeartbeats 4000000
def zJoin_ren : Go.Shelf.Ren := ⟨fun | 156 => 51 | 165 => 83 | 166 => 84 | 169 => 85 | 240 => 99 | 241 => 100 | 276 => 113 | 277 => 114 | n => n,fun | 31 => 77 | 9 => 9 | 3 => 3 | 4 => 4 | 0 => 0 | 20 => 20 | 72 => 142 | 76 => 146 | 70 => 140 | 37 => 25 | 75 => 145 | 127 => 163 | 164 => 172 | 5 => 5 | 80 => 88 | n => n,fun | n => n⟩
theorem zJoin : Go.Proofs.Lays.n156 Tryz.prog zJoin_ren :=
 {
  mixed := by kernel_rfl,
  f156 := Tryz.func51.trans (congrArg some (by kernel_rfl)),
  f165 := Tryz.func83.trans (congrArg some (by kernel_rfl)),
  f166 := Tryz.func84.trans (congrArg some (by kernel_rfl)),
  f169 := Tryz.func85.trans (congrArg some (by kernel_rfl)),
  f240 := Tryz.func99.trans (congrArg some (by kernel_rfl)),
  f241 := Tryz.func100.trans (congrArg some (by kernel_rfl)),
  f276 := Tryz.func113.trans (congrArg some (by kernel_rfl)),
  f277 := Tryz.func114.trans (congrArg some (by kernel_rfl)),
  t0 := Tryz.underlying0,
  a0 := Tryz.isAgg0,
  z0 := Tryz.sizeOf0,
  v0 := Tryz.zeroValue0,
  t3 := Tryz.underlying3,
  a3 := Tryz.isAgg3,
  z3 := Tryz.sizeOf3,
  v3 := Tryz.zeroValue3,
  t4 := Tryz.underlying4,
  a4 := Tryz.isAgg4,
  z4 := Tryz.sizeOf4,
  v4 := Tryz.zeroValue4,
  t9 := Tryz.underlying9,
  a9 := Tryz.isAgg9,
  z9 := Tryz.sizeOf9,
  v9 := Tryz.zeroValue9,
  t20 := Tryz.underlying20,
  a20 := Tryz.isAgg20,
  z20 := Tryz.sizeOf20,
  v20 := Tryz.zeroValue20,
  t31 := Tryz.underlying77,
  a31 := Tryz.isAgg77,
  z31 := Tryz.sizeOf77,
  v31 := Tryz.zeroValue77,
  t37 := Tryz.underlying25,
  a37 := Tryz.isAgg25,
  z37 := Tryz.sizeOf25,
  v37 := Tryz.zeroValue25,
  t70 := Tryz.underlying140,
  a70 := Tryz.isAgg140,
  z70 := Tryz.sizeOf140,
  v70 := Tryz.zeroValue140,
  t72 := Tryz.underlying142,
  a72 := Tryz.isAgg142,
  z72 := Tryz.sizeOf142,
  v72 := Tryz.zeroValue142,
  t75 := Tryz.underlying145,
  a75 := Tryz.isAgg145,
  z75 := Tryz.sizeOf145,
  v75 := Tryz.zeroValue145,
  t76 := Tryz.underlying146,
  a76 := Tryz.isAgg146,
  z76 := Tryz.sizeOf146,
  v76 := Tryz.zeroValue146,
  t127 := Tryz.underlying163,
  a127 := Tryz.isAgg163,
  z127 := Tryz.sizeOf163,
  v127 := Tryz.zeroValue163,
  t164 := Tryz.underlying172,
  a164 := Tryz.isAgg172,
  z164 := Tryz.sizeOf172,
  v164 := Tryz.zeroValue172
 }
def zItoa_ren : Go.Shelf.Ren := ⟨fun | 171 => 44 | 243 => 65 | 246 => 95 | 283 => 91 | 284 => 92 | 285 => 93 | 286 => 94 | 129 => 108 | 317 => 107 | 318 => 109 | 319 => 110 | 320 => 111 | 337 => 125 | 338 => 126 | n => n,fun | 3 => 3 | 9 => 9 | 2 => 2 | 4 => 4 | 171 => 155 | 0 => 0 | 53 => 42 | 37 => 25 | 5 => 5 | 173 => 158 | 212 => 169 | 51 => 24 | 20 => 20 | 213 => 170 | 46 => 152 | 232 => 191 | 233 => 192 | n => n,fun | 17 => 0 | 18 => 6 | 19 => 7 | n => n⟩
theorem zItoa : Go.Proofs.LaysM.n171 Tryz.prog zItoa_ren :=
 {
  mixed := by kernel_rfl,
  f129 := Tryz.func108.trans (congrArg some (by kernel_rfl)),
  f171 := Tryz.func44.trans (congrArg some (by kernel_rfl)),
  f243 := Tryz.func65.trans (congrArg some (by kernel_rfl)),
  f246 := Tryz.func95.trans (congrArg some (by kernel_rfl)),
  f283 := Tryz.func91.trans (congrArg some (by kernel_rfl)),
  f284 := Tryz.func92.trans (congrArg some (by kernel_rfl)),
  f285 := Tryz.func93.trans (congrArg some (by kernel_rfl)),
  f286 := Tryz.func94.trans (congrArg some (by kernel_rfl)),
  f317 := Tryz.func107.trans (congrArg some (by kernel_rfl)),
  f318 := Tryz.func109.trans (congrArg some (by kernel_rfl)),
  f319 := Tryz.func110.trans (congrArg some (by kernel_rfl)),
  f320 := Tryz.func111.trans (congrArg some (by kernel_rfl)),
  f337 := Tryz.func125.trans (congrArg some (by kernel_rfl)),
  f338 := Tryz.func126.trans (congrArg some (by kernel_rfl)),
  t0 := Tryz.underlying0,
  a0 := Tryz.isAgg0,
  z0 := Tryz.sizeOf0,
  v0 := Tryz.zeroValue0,
  t2 := Tryz.underlying2,
  a2 := Tryz.isAgg2,
  z2 := Tryz.sizeOf2,
  v2 := Tryz.zeroValue2,
  t3 := Tryz.underlying3,
  a3 := Tryz.isAgg3,
  z3 := Tryz.sizeOf3,
  v3 := Tryz.zeroValue3,
  t4 := Tryz.underlying4,
  a4 := Tryz.isAgg4,
  z4 := Tryz.sizeOf4,
  v4 := Tryz.zeroValue4,
  t5 := Tryz.underlying5,
  a5 := Tryz.isAgg5,
  z5 := Tryz.sizeOf5,
  v5 := Tryz.zeroValue5,
  t9 := Tryz.underlying9,
  a9 := Tryz.isAgg9,
  z9 := Tryz.sizeOf9,
  v9 := Tryz.zeroValue9,
  t20 := Tryz.underlying20,
  a20 := Tryz.isAgg20,
  z20 := Tryz.sizeOf20,
  v20 := Tryz.zeroValue20,
  t37 := Tryz.underlying25,
  a37 := Tryz.isAgg25,
  z37 := Tryz.sizeOf25,
  v37 := Tryz.zeroValue25,
  t46 := Tryz.underlying152,
  a46 := Tryz.isAgg152,
  z46 := Tryz.sizeOf152,
  v46 := Tryz.zeroValue152,
  t51 := Tryz.underlying24,
  a51 := Tryz.isAgg24,
  z51 := Tryz.sizeOf24,
  v51 := Tryz.zeroValue24,
  t53 := Tryz.underlying42,
  a53 := Tryz.isAgg42,
  z53 := Tryz.sizeOf42,
  v53 := Tryz.zeroValue42,
  t171 := Tryz.underlying155,
  a171 := Tryz.isAgg155,
  z171 := Tryz.sizeOf155,
  v171 := Tryz.zeroValue155,
  t173 := Tryz.underlying158,
  a173 := Tryz.isAgg158,
  z173 := Tryz.sizeOf158,
  v173 := Tryz.zeroValue158,
  t212 := Tryz.underlying169,
  a212 := Tryz.isAgg169,
  z212 := Tryz.sizeOf169,
  v212 := Tryz.zeroValue169,
  t213 := Tryz.underlying170,
  a213 := Tryz.isAgg170,
  z213 := Tryz.sizeOf170,
  t232 := Tryz.underlying191,
  a232 := Tryz.isAgg191,
  z232 := Tryz.sizeOf191,
  v232 := Tryz.zeroValue191,
  t233 := Tryz.underlying192,
  a233 := Tryz.isAgg192,
  z233 := Tryz.sizeOf192,
  v233 := Tryz.zeroValue192,
  g17 := by kernel_rfl,
  g18 := by kernel_rfl,
  g19 := by kernel_rfl,
  i0 := by kernel_rfl,
  i2 := by kernel_rfl,
  i3 := by kernel_rfl,
  i4 := by kernel_rfl,
  i5 := by kernel_rfl,
  i9 := by kernel_rfl,
  i20 := by kernel_rfl,
  i37 := by kernel_rfl,
  i46 := by kernel_rfl,
  i51 := by kernel_rfl,
  i53 := by kernel_rfl,
  i171 := by kernel_rfl,
  i173 := by kernel_rfl,
  i212 := by kernel_rfl,
  i232 := by kernel_rfl,
  i233 := by kernel_rfl,
  m17 := by kernel_rfl,
  m18 := by kernel_rfl,
  m19 := by kernel_rfl
 }
def zParse_ren : Go.Shelf.Ren := ⟨fun | 14 => 89 | 16 => 105 | 17 => 106 | 19 => 119 | 20 => 120 | 21 => 121 | 22 => 122 | 23 => 123 | 24 => 124 | 25 => 128 | 27 => 44 | 26 => 129 | 28 => 65 | 29 => 95 | 30 => 91 | 31 => 92 | 32 => 93 | 33 => 94 | 35 => 108 | 34 => 107 | 36 => 109 | 37 => 110 | 38 => 111 | 39 => 125 | 40 => 126 | n => n,fun | 9 => 9 | 3 => 3 | 22 => 42 | 24 => 145 | 25 => 150 | 4 => 4 | 34 => 175 | 5 => 5 | 36 => 152 | 37 => 25 | 0 => 0 | 39 => 177 | 21 => 21 | 44 => 189 | 47 => 163 | 50 => 195 | 48 => 193 | 2 => 2 | 52 => 155 | 55 => 158 | 59 => 169 | 60 => 24 | 20 => 20 | 61 => 170 | 65 => 191 | 66 => 192 | 67 => 88 | n => n,fun | 0 => 4 | 1 => 5 | 2 => 0 | 3 => 6 | 4 => 7 | n => n⟩
theorem zParse : Go.Proofs.LaysPu.n14 Tryz.prog zParse_ren :=
 {
  mixed := by kernel_rfl,
  f14 := Tryz.func89.trans (congrArg some (by kernel_rfl)),
  f16 := Tryz.func105.trans (congrArg some (by kernel_rfl)),
  f17 := Tryz.func106.trans (congrArg some (by kernel_rfl)),
  f19 := Tryz.func119.trans (congrArg some (by kernel_rfl)),
  f20 := Tryz.func120.trans (congrArg some (by kernel_rfl)),
  f21 := Tryz.func121.trans (congrArg some (by kernel_rfl)),
  f22 := Tryz.func122.trans (congrArg some (by kernel_rfl)),
  f23 := Tryz.func123.trans (congrArg some (by kernel_rfl)),
  f24 := Tryz.func124.trans (congrArg some (by kernel_rfl)),
  f25 := Tryz.func128.trans (congrArg some (by kernel_rfl)),
  f26 := Tryz.func129.trans (congrArg some (by kernel_rfl)),
  f27 := Tryz.func44.trans (congrArg some (by kernel_rfl)),
  f28 := Tryz.func65.trans (congrArg some (by kernel_rfl)),
  f29 := Tryz.func95.trans (congrArg some (by kernel_rfl)),
  f30 := Tryz.func91.trans (congrArg some (by kernel_rfl)),
  f31 := Tryz.func92.trans (congrArg some (by kernel_rfl)),
  f32 := Tryz.func93.trans (congrArg some (by kernel_rfl)),
  f33 := Tryz.func94.trans (congrArg some (by kernel_rfl)),
  f34 := Tryz.func107.trans (congrArg some (by kernel_rfl)),
  f35 := Tryz.func108.trans (congrArg some (by kernel_rfl)),
  f36 := Tryz.func109.trans (congrArg some (by kernel_rfl)),
  f37 := Tryz.func110.trans (congrArg some (by kernel_rfl)),
  f38 := Tryz.func111.trans (congrArg some (by kernel_rfl)),
  f39 := Tryz.func125.trans (congrArg some (by kernel_rfl)),
  f40 := Tryz.func126.trans (congrArg some (by kernel_rfl)),
  t0 := Tryz.underlying0,
  a0 := Tryz.isAgg0,
  z0 := Tryz.sizeOf0,
  v0 := Tryz.zeroValue0,
  i0 := by kernel_rfl,
  t2 := Tryz.underlying2,
  a2 := Tryz.isAgg2,
  z2 := Tryz.sizeOf2,
  v2 := Tryz.zeroValue2,
  i2 := by kernel_rfl,
  t3 := Tryz.underlying3,
  a3 := Tryz.isAgg3,
  z3 := Tryz.sizeOf3,
  v3 := Tryz.zeroValue3,
  i3 := by kernel_rfl,
  t4 := Tryz.underlying4,
  a4 := Tryz.isAgg4,
  z4 := Tryz.sizeOf4,
  v4 := Tryz.zeroValue4,
  i4 := by kernel_rfl,
  t5 := Tryz.underlying5,
  a5 := Tryz.isAgg5,
  z5 := Tryz.sizeOf5,
  v5 := Tryz.zeroValue5,
  i5 := by kernel_rfl,
  t9 := Tryz.underlying9,
  a9 := Tryz.isAgg9,
  z9 := Tryz.sizeOf9,
  v9 := Tryz.zeroValue9,
  i9 := by kernel_rfl,
  t20 := Tryz.underlying20,
  a20 := Tryz.isAgg20,
  z20 := Tryz.sizeOf20,
  v20 := Tryz.zeroValue20,
  i20 := by kernel_rfl,
  t21 := Tryz.underlying21,
  a21 := Tryz.isAgg21,
  z21 := Tryz.sizeOf21,
  v21 := Tryz.zeroValue21,
  i21 := by kernel_rfl,
  t22 := Tryz.underlying42,
  a22 := Tryz.isAgg42,
  z22 := Tryz.sizeOf42,
  v22 := Tryz.zeroValue42,
  i22 := by kernel_rfl,
  t24 := Tryz.underlying145,
  a24 := Tryz.isAgg145,
  z24 := Tryz.sizeOf145,
  v24 := Tryz.zeroValue145,
  i24 := by kernel_rfl,
  t25 := Tryz.underlying150,
  a25 := Tryz.isAgg150,
  z25 := Tryz.sizeOf150,
  v25 := Tryz.zeroValue150,
  i25 := by kernel_rfl,
  t34 := Tryz.underlying175,
  a34 := Tryz.isAgg175,
  z34 := Tryz.sizeOf175,
  v34 := Tryz.zeroValue175,
  i34 := by kernel_rfl,
  c34 := by kernel_rfl,
  t36 := Tryz.underlying152,
  a36 := Tryz.isAgg152,
  z36 := Tryz.sizeOf152,
  v36 := Tryz.zeroValue152,
  i36 := by kernel_rfl,
  t37 := Tryz.underlying25,
  a37 := Tryz.isAgg25,
  z37 := Tryz.sizeOf25,
  v37 := Tryz.zeroValue25,
  i37 := by kernel_rfl,
  t39 := Tryz.underlying177,
  a39 := Tryz.isAgg177,
  z39 := Tryz.sizeOf177,
  v39 := Tryz.zeroValue177,
  i39 := by kernel_rfl,
  t44 := Tryz.underlying189,
  a44 := Tryz.isAgg189,
  z44 := Tryz.sizeOf189,
  v44 := Tryz.zeroValue189,
  i44 := by kernel_rfl,
  t47 := Tryz.underlying163,
  a47 := Tryz.isAgg163,
  z47 := Tryz.sizeOf163,
  v47 := Tryz.zeroValue163,
  i47 := by kernel_rfl,
  t48 := Tryz.underlying193,
  a48 := Tryz.isAgg193,
  z48 := Tryz.sizeOf193,
  v48 := Tryz.zeroValue193,
  i48 := by kernel_rfl,
  t50 := Tryz.underlying195,
  a50 := Tryz.isAgg195,
  z50 := Tryz.sizeOf195,
  v50 := Tryz.zeroValue195,
  i50 := by kernel_rfl,
  t52 := Tryz.underlying155,
  a52 := Tryz.isAgg155,
  z52 := Tryz.sizeOf155,
  v52 := Tryz.zeroValue155,
  i52 := by kernel_rfl,
  t55 := Tryz.underlying158,
  a55 := Tryz.isAgg158,
  z55 := Tryz.sizeOf158,
  v55 := Tryz.zeroValue158,
  i55 := by kernel_rfl,
  t59 := Tryz.underlying169,
  a59 := Tryz.isAgg169,
  z59 := Tryz.sizeOf169,
  v59 := Tryz.zeroValue169,
  i59 := by kernel_rfl,
  t60 := Tryz.underlying24,
  a60 := Tryz.isAgg24,
  z60 := Tryz.sizeOf24,
  v60 := Tryz.zeroValue24,
  i60 := by kernel_rfl,
  t61 := Tryz.underlying170,
  a61 := Tryz.isAgg170,
  z61 := Tryz.sizeOf170,
  t65 := Tryz.underlying191,
  a65 := Tryz.isAgg191,
  z65 := Tryz.sizeOf191,
  v65 := Tryz.zeroValue191,
  i65 := by kernel_rfl,
  t66 := Tryz.underlying192,
  a66 := Tryz.isAgg192,
  z66 := Tryz.sizeOf192,
  v66 := Tryz.zeroValue192,
  i66 := by kernel_rfl,
  t67 := Tryz.underlying88,
  a67 := Tryz.isAgg88,
  z67 := Tryz.sizeOf88,
  v67 := Tryz.zeroValue88,
  i67 := by kernel_rfl,
  g0 := by kernel_rfl,
  m0 := by kernel_rfl,
  g1 := by kernel_rfl,
  m1 := by kernel_rfl,
  g2 := by kernel_rfl,
  m2 := by kernel_rfl,
  g3 := by kernel_rfl,
  m3 := by kernel_rfl,
  g4 := by kernel_rfl,
  m4 := by kernel_rfl
 }
theorem zExtra : Builder.Extra Tryz.prog zJoin_ren :=
 { sizeBuilder := by kernel_rfl,liesBuilder := by kernel_rfl,t5 := Tryz.underlying5,a5 := Tryz.isAgg5,z5 := Tryz.sizeOf5,v5 := Tryz.zeroValue5,infoByte := by kernel_rfl,cellsByte := by kernel_rfl,sizeByte := by kernel_rfl,neB5 := by decide }
end Go.Proofs.YtilenpnpnbdndaaGreatDoor
namespace Go.Proofs.YtilenpnpnbdndaaGreatDoor
open Go Go.Sh
set_option maxRecDepth 100000
set_option maxHeartbeats 4000000
attribute [local instance] Esc.none
noncomputable def F40_code : Code := Tryz.f40.body.getD .skip
theorem F40_code_ok : okC Tryz.prog Tryz.f40.ntmps F40_code = true := by kernel_rfl
def F40 (x0 : Value) (x1 : Value) (w : World) (K : Value -> World -> Prop) : Prop :=
 rdI .u64 x0 fun n1 => rdI .i64 x1 fun n2 => Calls Tryz.prog 63 #[(.int .u64 n1),(.int .i64 n2)] w (en fun e4 w3 => ∃ s5,e4 = .returned (.string s5) /\ (K (.string s5) w3))
theorem F40_step (x0 : Value) (x1 : Value) (w : World) (K : Value -> World -> Prop) : (F40 x0 x1 w K) = rsh [(0,(.one (.int .u64))),(1,(.one (.int .i64)))] (args0 #[x0,x1]) (fun t => vc Tryz.prog (orcOf []) [] F40_code (retQ Tryz.prog Tryz.f40 K) t w) := by kernel_rfl
theorem F40_ok {x0 x1 : Value} {w : World} {K : Value -> World -> Prop} (h : F40 x0 x1 w K) : Calls Tryz.prog 40 #[x0,x1] w (rt K) := by
 rw [F40_step] at h
 exact Calls.mono (calls_of (c := F40_code) mixed Tryz.func40 rfl (nlt rfl) (vc_sound mixed (orcNil F40_code) F40_code [] rfl F40_code_ok _ _ _ (rsh_out h))) fun _ _ => rv_none
noncomputable def F63_code : Code := Tryz.f63.body.getD .skip
theorem F63_code_ok : okC Tryz.prog Tryz.f63.ntmps F63_code = true := by kernel_rfl
def F63 (x0 : Value) (x1 : Value) (w : World) (K : Value -> World -> Prop) : Prop :=
 rdI .u64 x0 fun n1 => rdI .i64 x1 fun n2 => br (n2 == 10) (br (decide ((n1 : Int) < 100)) (Calls Tryz.prog 91 #[(.int .i64 (IntKind.wrap .i64 (n1)))] w (en fun e4 w3 => ∃ s5,e4 = .returned (.string s5) /\ (K (.string s5) w3))) (alc (.cells ((R155.mk 0 0 0 0 0 0 0 0 0 0 0 0 0 0 0 0 0 0 0 0 0 0 0 0)).c 155) w fun b6 w7 => Calls Tryz.prog 92 #[(.int .u64 n1)] w7 (en fun e9 w8 => ∃ n10,e9 = .returned (.int .i64 n10) /\ (∃ l11a l11n l11c,∃ w12,Sem.run Tryz.prog (Instr.sliceAt 155 (.pointer (some (Addr.mk b6 0 none))) none (some (.int .i64 n10)) none) w8 = .ok (.slice l11a l11n l11c) w12 /\ (Calls Tryz.prog 93 #[(.slice l11a l11n l11c),(.int .u64 n1)] w12 (en fun e14 w13 => e14 = .returned (.tuple #[]) /\ (∃ l15a l15n l15c,∃ w16,Sem.run Tryz.prog (Instr.sliceAt 155 (.pointer (some (Addr.mk b6 0 none))) none (some (.int .i64 n10)) none) w13 = .ok (.slice l15a l15n l15c) w16 /\ (∃ s17,∃ w18,Sem.run Tryz.prog (convert 25 9 (.slice l15a l15n l15c)) w16 = .ok (.string s17) w18 /\ (K (.string s17) w18))))))))) (Calls Tryz.prog 94 #[(.slice none 0 0),(.int .u64 n1),(.int .i64 n2),(.bool false),(.bool false)] w (en fun e20 w19 => ∃ l21a l21n l21c,∃ s22,e20 = .returned (.tuple #[(.slice l21a l21n l21c),(.string s22)]) /\ (K (.string s22) w19)))
theorem F63_step (x0 : Value) (x1 : Value) (w : World) (K : Value -> World -> Prop) : (F63 x0 x1 w K) = rsh [(0,(.one (.int .u64))),(1,(.one (.int .i64)))] (args0 #[x0,x1]) (fun t => vc Tryz.prog (orcOf []) [] F63_code (retQ Tryz.prog Tryz.f63 K) t w) := by kernel_rfl
theorem F63_ok {x0 x1 : Value} {w : World} {K : Value -> World -> Prop} (h : F63 x0 x1 w K) : Calls Tryz.prog 63 #[x0,x1] w (rt K) := by
 rw [F63_step] at h
 exact Calls.mono (calls_of (c := F63_code) mixed Tryz.func63 rfl (nlt rfl) (vc_sound mixed (orcNil F63_code) F63_code [] rfl F63_code_ok _ _ _ (rsh_out h))) fun _ _ => rv_none
end Go.Proofs.YtilenpnpnbdndaaGreatDoor
