/- Own text: part of the shallow reading of the code and of the contracts that are proved over it. -/
import Derived.Test.YtilenpnpnbdndaaGreatDoorSrS
import Derived.Lib.AtoiErrMem
import Derived.Lib.AppendIntMem
import Derived.Lib.ItoaLen
/-
  Contracts off the shelf in this proof's words: Join, Itoa, ParseUint; and FormatUint.
-/
namespace Go.Proofs.YtilenpnpnbdndaaGreatDoor
open Go Go.Sh Go.RowKit Go.Sort
set_option maxRecDepth 100000
attribute [local instance] Esc.none
theorem same_of_below {w w' : World} (h : Below w.heap.size w w') : Same w w' := ⟨h.os, h.tape, h.output, h.size, fun k hk _ => h.block k hk⟩
theorem same_of_grow {w : World} {k : Nat} {os : Array Obj} : Same w (grow (w.drewN k) os) := by
  refine ⟨?_, ?_, ?_, ?_, ?_⟩
  · rfl
  · rfl
  · rfl
  · show w.heap.size ≤ (w.heap ++ os).size
    simp
  · intro i hi _
    show (w.heap ++ os)[i]? = w.heap[i]?
    rw [Array.getElem?_append, if_pos hi]
/-- what the program's variables hold that are laid ahead of the call -/
structure TB (W : World) : Prop where
  tab : Lib.TabIs Tryz.prog W "internal/strconv.uint64pow10" .u64 Lib.pow10Tab
  e4 : ∃ ev, W.cell? ⟨4, 0, none⟩ = some ev ∧ (ev = .nilIface ∨ ∃ te pe, ev = .iface te pe)
  e5 : ∃ ev, W.cell? ⟨5, 0, none⟩ = some ev ∧ (ev = .nilIface ∨ ∃ te pe, ev = .iface te pe)
theorem glob0 : Tryz.prog.globalNamed "internal/strconv.uint64pow10" = some 0 := by kernel_rfl
theorem TB.same {W w : World} (h : TB W) (hs : Same W w) : TB w := by
  have hc : ∀ g (ev : Value), W.cell? ⟨g, 0, none⟩ = some ev → w.cell? ⟨g, 0, none⟩ = some ev := fun g ev hg => by
    unfold World.cell? at hg ⊢
    simp only at hg ⊢
    have hlt : g < W.heap.size := by
      rcases Nat.lt_or_ge g W.heap.size with h1 | h1
      · exact h1
      · rw [Array.getElem?_eq_none h1] at hg; simp at hg
    rw [hs.block g hlt id]
    exact hg
  obtain ⟨t, ⟨v4, h4, i4⟩, ⟨v5, h5, i5⟩⟩ := h
  refine ⟨?_, ⟨v4, hc _ _ h4, i4⟩, ⟨v5, hc _ _ h5, i5⟩⟩
  unfold Lib.TabIs World.var? at t ⊢
  rw [glob0] at t ⊢
  simp only [Option.bind_some] at t ⊢
  have hlt : 0 < W.heap.size := by
    rcases Nat.lt_or_ge 0 W.heap.size with h1 | h1
    · exact h1
    · rw [Array.getElem?_eq_none h1] at t; simp at t
  rw [hs.block 0 hlt id]
  exact t
section
variable {W w : World} {M : List HP}
theorem Hs.tb (h : Hs W M w) (hT : TB W) : TB w := hT.same h.old
def joined (ws : List ByteArray) : ByteArray := bs (Lib.join (ws.map bl) [32])
theorem c51 {a : Option Addr} {c : Nat} {ws : List ByteArray} (h : Hs W (slO 9 1 a ws.length c (wsV ws) :: M) w) (hn : ws.length ≤ 140737488355328) (hl : (joined ws).size ≤ 140737488355328) :
    Calls Tryz.prog 51 #[.slice a ws.length c, .string ⟨#[32]⟩] w (rt fun v w' => v = .string (joined ws) ∧ Same w w') := by
  have hr := h.rdO 0 rfl
  obtain ⟨x, ⟨hx, hy⟩, g, lo⟩ := h.look (i := 0) rfl
  have hlen := h.lenO 0 rfl
  rcases hy with ⟨rfl, h0, rfl, rfl⟩ | ⟨b, k, cur, rfl, rfl, h1, h2, h3, h4⟩
  · have : ws = [] := List.length_eq_zero_iff.1 h0
    subst this
    exact (Any.strings_Join_none zJoin zExtra none 0 ⟨#[32]⟩ w).mono fun e w' ⟨he, hw⟩ => ⟨_, he, rfl, by rw [hw]; exact Fr.refl _⟩
  · have hb : b < w.heap.size := by
      have := g b (.cells cur 9 (0, 0)) (by simp)
      exact lt_of_blk this
    refine (Any.strings_Join zJoin zExtra b k c ws ⟨#[32]⟩ w (fun j x hj => ?_) hb hn (by omega) ?_).mono fun e w' ⟨he, hw⟩ => ⟨_, he, rfl, same_of_below hw⟩
    · have := Rd.at hr (j := j) (u := .string x) (by simp [wsV, hj])
      rwa [add_mk] at this
    · have : (joined ws).size = (Lib.join (ws.map bl) [32]).length := by rw [← bl_len]; rfl
      rw [this] at hl
      exact hl
theorem c27 {lb : Nat} {r : Bool} {ws : List ByteArray} (h : Hs W (lnP lb r ws :: M) w) (hn : ws.length ≤ 140737488355328) (hl : (joined ws).size ≤ 140737488355328) :
    Calls Tryz.prog 27 #[.pointer (some ⟨lb, 0, none⟩)] w (rt fun v w' => v = .string (joined ws) ∧ Hs W (lnP lb r ws :: M) w') := by
  refine F27_ok ?_
  obtain ⟨a, c, h1⟩ := ln_open h
  unfold F27
  simp only [rdP_mk, nn]
  refine h1.ldC 0 rfl rfl ?_
  refine cl (c51 (h1.focus (i := 1) rfl) hn hl) ?_
  rintro _ w2 ⟨rfl, hs⟩
  exact ⟨_, rfl, by first | rfl | trivial, h.same hs⟩
theorem c44 {n : Int} (hT : TB w) (h0 : -9223372036854775808 ≤ n) (h1 : n ≤ 9223372036854775807) : Calls Tryz.prog 44 #[.int .i64 n] w (rt fun v w' => v = .string (bs (Lib.itoa n)) ∧ Same w w') :=
  (Any.strconv_Itoa zItoa n h0 h1 w hT.tab).mono fun _ _ ⟨he, _, _, hw⟩ => ⟨_, he, rfl, by rw [hw]; exact same_of_grow⟩
theorem sl24 {w : World} {b : Nat} {n : Nat} (hn : n ≤ 24) : Sem.run Tryz.prog (Instr.sliceAt 155 (.pointer (some (Addr.mk b 0 none))) none (some (.int .i64 (n : Int))) none) w = .ok (.slice (some ⟨b, 0, none⟩) n 24) w := by
  have hal : Tryz.prog.arrayLen 155 = 24 := by simp [Program.arrayLen, Tryz.underlying155]
  have := run_sliceAt_array_h (P := Tryz.prog) w 155 ⟨b, 0, none⟩ (by simp [Program.arrayLen, Program.elem, Tryz.underlying155]) .i64 (n : Int) (by omega) (by rw [hal]; omega)
  refine this.trans ?_
  simp [hal, Program.elem, Tryz.underlying155, slicedAt, Tryz.sizeOf5]
theorem c63 {u : Nat} (hT : TB w) (hu : u < 18446744073709551616) : Calls Tryz.prog 63 #[.int .u64 u, .int .i64 10] w (rt fun v w' => v = .string (bs (Lib.decDigits u)) ∧ Same w w') := by
  refine F63_ok ?_
  unfold F63
  simp only [rdI_mk]
  have e0 : ((10 : Int) == 10) = true := rfl
  rw [e0, br_true, br_dec]
  refine ⟨fun hlt => ?_, fun hge => ?_⟩
  · have e1 : IntKind.wrap .i64 (u : Int) = (u : Int) := wrap_i64 (by omega) (by omega)
    rw [e1]
    refine (Any.internal_strconv_small { zItoa with } u (by omega) w).mono ?_
    rintro e w' ⟨rfl, rfl⟩
    exact ⟨_, rfl, by first | rfl | trivial, Fr.refl _⟩
  · have h20 := Lib.nDigits_le20 u hu
    have hH0 := Lib.holds_zero0 w 155 (Lib.nDigits u) (by omega)
    have hfmt := Any.internal_strconv_formatBase10 (P := Tryz.prog) (ρ := zItoa_ren) { zItoa with } w.heap.size 0 24 u (Array.replicate (Lib.nDigits u) 0) (w.alloc (.cells Lib.zeros24 155)) hH0 (by rw [Array.size_replicate]; exact Lib.lt_pow_nDigits u) hu (by rw [Array.size_replicate]; omega)
    rw [Array.size_replicate] at hfmt
    show alc (.cells Lib.zeros24 155 (0, 0)) w _
    refine (Any.internal_strconv_numDigits (P := Tryz.prog) (ρ := zItoa_ren) { zItoa with } u (by omega) hu _ (Lib.tabIs_alloc hT.tab _)).mono ?_
    rintro e w1 ⟨rfl, rfl⟩
    refine ⟨_, rfl, _, _, _, _, sl24 (by omega), ?_⟩
    refine hfmt.mono ?_
    rintro e w2 ⟨rfl, k, v', dk, rfl, hF⟩
    refine ⟨rfl, _, _, _, _, sl24 (by omega), ?_⟩
    have hcv := run_convert_bytes_back (P := Tryz.prog) ((putRow (fun (b : UInt8) => Value.int .u8 (b.toNat : Int)) (w.alloc (.cells Lib.zeros24 155)) w.heap.size 0 dk).drewN k) 25 9 5 ⟨w.heap.size, 0, none⟩ 24 (Lib.decDigits u) Tryz.underlying25 Tryz.underlying5 Tryz.underlying9 (fun j hj => by
      rw [Lib.row_is_numeral hF j hj, add_mk, World.cell?_drewN]
      exact cell?_putRow (fun (b : UInt8) => Value.int .u8 (b.toNat : Int)) _ w.heap.size 0 _ dk hH0 (by rw [hF.size, Array.size_replicate]) j (by rw [hF.size]; rw [Lib.decDigits_length] at hj; exact hj))
    rw [Lib.decDigits_length] at hcv
    refine ⟨_, _, hcv, ?_⟩
    show _ ∧ _
    refine ⟨by first | rfl | trivial, ?_⟩
    obtain ⟨os', _, e⟩ := putRow_grow_new (fun (b : UInt8) => Value.int .u8 (b.toNat : Int)) w #[.cells Lib.zeros24 155] w.heap.size 0 dk (Nat.le_refl _)
    rw [alloc_eq_grow, e]
    exact same_of_grow (k := k)
theorem c40 {u : Nat} (hT : TB w) (hu : u < 18446744073709551616) : Calls Tryz.prog 40 #[.int .u64 u, .int .i64 10] w (rt fun v w' => v = .string (bs (Lib.decDigits u)) ∧ Same w w') := by
  refine F40_ok ?_
  unfold F40
  simp only [rdI_mk]
  refine cl (c63 hT hu) ?_
  rintro _ w2 ⟨rfl, hs⟩
  exact ⟨_, rfl, by first | rfl | trivial, hs⟩
/-- strconv.ParseUint at base 10 and 64 bits: the number, or some error -/
theorem c89 {s : ByteArray} (hT : TB w) (hs : s.size ≤ 281474976710656) : Calls Tryz.prog 89 #[.string s, .int .i64 10, .int .i64 64] w (rt fun v w' => Same w w' ∧
    ((∃ u : Nat, Lib.parseUintB 64 (bl s) = .ok u ∧ v = .tuple #[.int .u64 u, .nilIface]) ∨ ((∀ u, Lib.parseUintB 64 (bl s) ≠ .ok u) ∧ ∃ (n : Int) (T : TypeId) (q : Value), v = .tuple #[.int .u64 n, .iface T q]))) := by
  obtain ⟨t, ⟨v4, h4, i4⟩, ⟨v5, h5, i5⟩⟩ := hT
  cases he : Lib.parseUintB 64 (bl s) with
  | ok u =>
    refine (Any.strconv_ParseUint_10_at64_ok zParse s (by omega) u he w).mono fun e w' ⟨he, hw⟩ => ⟨_, he, ?_, .inl ⟨u, rfl, rfl⟩⟩
    rcases hw with rfl | rfl
    · exact Fr.refl _
    · exact same_of_below (Lib.bytesWorld_below _ _ _)
  | range =>
    refine (Any.strconv_ParseUint_10_at64_range zParse s hs he v5 w h5 i5).mono fun e w' ⟨N, he, _, _, hw⟩ => ⟨_, he, same_of_below hw, .inr ⟨fun u hu => (nomatch hu), _, _, _, rfl⟩⟩
  | _ =>
    refine (Any.strconv_ParseUint_10_at64_syntax zParse s hs he v4 w h4 i4).mono fun e w' ⟨N, he, _, _, hw⟩ => ⟨_, he, same_of_below hw, .inr ⟨fun u hu => (nomatch hu), _, _, _, rfl⟩⟩
end
end Go.Proofs.YtilenpnpnbdndaaGreatDoor
/-
  A line of words as a row of items over a record's cells: how each is written, and what it is read as (plain).
-/
namespace Go.Proofs.YtilenpnpnbdndaaGreatDoor
open Go Go.Sh
set_option maxRecDepth 100000
/-! decimal numerals -/
theorem parseM_append (M : Nat) : ∀ (l1 l2 : List UInt8) (acc : Nat), Lib.parseUintM M acc (l1 ++ l2) = (match Lib.parseUintM M acc l1 with | .ok a => Lib.parseUintM M a l2 | r => r)
  | [], l2, acc => rfl
  | c :: l1, l2, acc => by
    obtain ⟨z, hz, e⟩ : ∃ z, (∀ a, z ≠ .ok a) ∧ ∀ l, Lib.parseUintM M acc (c :: l) = if 48 ≤ c.toNat ∧ c.toNat ≤ 57 then (if 1844674407370955162 ≤ acc then .range else if M < acc * 10 + (c.toNat - 48) then .range else Lib.parseUintM M (acc * 10 + (c.toNat - 48)) l) else z := ⟨_, fun _ h => by (first | cases h | (injection h)), fun _ => rfl⟩
    rw [List.cons_append, e, e]
    split
    · split
      · rfl
      · split
        · rfl
        · exact parseM_append M l1 l2 _
    · cases z with
      | ok a => exact absurd rfl (hz a)
      | _ => rfl
theorem dec_one {d : Nat} (h : d < 10) : (UInt8.ofNat (48 + d)).toNat = 48 + d := by
  rw [UInt8.toNat_ofNat']; omega
theorem parseM_dec (u : Nat) (hu : u < 18446744073709551616) : Lib.parseUintM 18446744073709551615 0 (Lib.decDigits u) = .ok u := by
  induction u using Nat.strongRecOn with
  | _ u ih =>
    by_cases h : u < 10
    · rw [Lib.decDigits, dif_pos h]
      unfold Lib.parseUintM
      rw [dec_one h, if_pos (by omega), if_neg (by omega), if_neg (by omega)]
      unfold Lib.parseUintM
      congr 1
      omega
    · rw [Lib.decDigits, dif_neg h, parseM_append, ih (u / 10) (by omega) (by omega)]
      show Lib.parseUintM _ _ _ = _
      unfold Lib.parseUintM
      rw [dec_one (Nat.mod_lt _ (by omega)), if_pos (by omega), if_neg (by omega), if_neg (by omega)]
      unfold Lib.parseUintM
      congr 1
      omega
theorem dec_ne (u : Nat) : Lib.decDigits u ≠ [] := by
  rw [Lib.decDigits]
  split <;> simp
theorem parse_dec {u : Nat} (hu : u < 18446744073709551616) : Lib.parseUintB 64 (Lib.decDigits u) = .ok u := by
  unfold Lib.parseUintB
  rw [if_neg (dec_ne u)]
  exact parseM_dec u hu
theorem decDigits_inj {a b : Nat} (ha : a < 18446744073709551616) (hb : b < 18446744073709551616) (h : Lib.decDigits a = Lib.decDigits b) : a = b := by
  have h1 := parse_dec ha
  rw [h, parse_dec hb] at h1
  injection h1 with h2
  exact h2.symm
theorem bs_inj {a b : List UInt8} (h : bs a = bs b) : a = b := by
  have := congrArg bl h
  simpa [bl_bs] using this
/-! hexadecimal -/
def hxd (n : Nat) : UInt8 := UInt8.ofNat (if n < 10 then 48 + n else 87 + n)
def hexs (l : List UInt8) : List UInt8 := l.flatMap fun b => [hxd (b.toNat / 16), hxd (b.toNat % 16)]
def hexW (l : List UInt8) : List UInt8 := if l = [] then [45] else hexs l
/-! items -/
structure Sc where
  cs : Array Value
  dat : List UInt8
inductive It where
  | lit (s : ByteArray)
  | num (o : Nat) (k : IntKind) (most : Nat)
  | flag (o : Nat) (a b : ByteArray)
  | key
  | dat (o : Nat)
  | why (o : Nat)
def iAt (cs : Array Value) (o : Nat) : Int := match cs[o]? with | some (.int _ n) => n | _ => 0
def bAt (cs : Array Value) (o : Nat) : Bool := match cs[o]? with | some (.bool b) => b | _ => false
def sAt (cs : Array Value) (o : Nat) : ByteArray := match cs[o]? with | some (.string s) => s | _ => ⟨#[]⟩
def keyAt (cs : Array Value) : List UInt8 := (List.range 16).map fun j => (iAt cs j).toNat.toUInt8
def u8v (l : List UInt8) : List Value := l.map fun b => Value.int .u8 (b.toNat : Int)
def setK (cs : Array Value) (l : List UInt8) : Array Value := (u8v l ++ cs.toList.drop 16).toArray
def dec (n : Int) : ByteArray := bs (Lib.decDigits n.toNat)
def wd (s : Sc) : It → ByteArray
  | .lit x => x
  | .num o _ _ => dec (iAt s.cs o)
  | .flag o a b => if bAt s.cs o then b else a
  | .key => bs (hexW (keyAt s.cs))
  | .dat _ => bs (hexW s.dat)
  | .why o => bs (hexW (bl (sAt s.cs o)))
def okI (s : Sc) : It → Prop
  | .num o _ most => 0 ≤ iAt s.cs o ∧ iAt s.cs o ≤ (most : Int)
  | .dat _ => s.dat.length ≤ 65536
  | .why o => (sAt s.cs o).size ≤ 65536
  | _ => True
def tyI (s : Sc) : It → Prop
  | .num o k _ => s.cs[o]? = some (.int k (iAt s.cs o))
  | .flag o _ _ => s.cs[o]? = some (.bool (bAt s.cs o))
  | .why o => s.cs[o]? = some (.string (sAt s.cs o))
  | .key => ∀ j, j < 16 → ∃ b : UInt8, s.cs[j]? = some (.int .u8 (b.toNat : Int))
  | .dat o => o < s.cs.size
  | .lit _ => True
def Chg (s s' : Sc) : It → Prop
  | .lit _ => s' = s
  | .num o k _ => ∃ n : Int, s' = ⟨s.cs.setIfInBounds o (.int k n), s.dat⟩
  | .flag o _ _ => ∃ b, s' = ⟨s.cs.setIfInBounds o (.bool b), s.dat⟩
  | .key => ∃ l : List UInt8, l.length = 16 ∧ s' = ⟨setK s.cs l, s.dat⟩
  | .dat o => ∃ v l, s' = ⟨s.cs.setIfInBounds o v, l⟩
  | .why o => ∃ t, s' = ⟨s.cs.setIfInBounds o (.string t), s.dat⟩
/-- one item: written, or read -/
def Stp (r : Bool) (it : It) (s : Sc) (ws : List ByteArray) (s' : Sc) (ws' : List ByteArray) : Prop :=
  Chg s s' it ∧ okI s' it ∧ tyI s' it ∧ (r = true → ws = wd s' it :: ws') ∧ (r = false → s' = s ∧ ws' = ws ++ [wd s it])
/-- .. or not -/
def Nop (r : Bool) (it : It) (s : Sc) (ws : List ByteArray) (c : Int) : Prop :=
  (r = true → c = 250 ∧ ∀ s' ws', okI s' it → ws ≠ wd s' it :: ws') ∧ (r = false → c = 1 ∧ ¬ okI s it)
def Sts (r : Bool) : List It → Sc → List ByteArray → Sc → List ByteArray → Prop
  | [], s, ws, s', ws' => s' = s ∧ ws' = ws
  | it :: l, s, ws, s', ws' => ∃ s1 ws1, Stp r it s ws s1 ws1 ∧ Sts r l s1 ws1 s' ws'
def Bad (r : Bool) (its : List It) (s : Sc) (ws : List ByteArray) (c : Int) : Prop :=
  (r = true → c = 250 ∧ ∀ s' ws', (∀ it ∈ its, okI s' it) → ws ≠ its.map (wd s') ++ ws') ∧ (r = false → c = 1 ∧ ∃ it ∈ its, ¬ okI s it)
theorem Sts.snoc {r : Bool} {it : It} : ∀ {l : List It} {s : Sc} {ws : List ByteArray} {s1 : Sc} {ws1 : List ByteArray} {s2 : Sc} {ws2 : List ByteArray}, Sts r l s ws s1 ws1 → Stp r it s1 ws1 s2 ws2 → Sts r (l ++ [it]) s ws s2 ws2
  | [], _, _, _, _, _, _, ⟨h1, h2⟩, h => by subst h1; subst h2; exact ⟨_, _, h, rfl, rfl⟩
  | x :: l, _, _, _, _, _, _, ⟨a, b, h1, h2⟩, h => ⟨a, b, h1, Sts.snoc h2 h⟩
theorem Sts.app {r : Bool} {l2 : List It} : ∀ {l : List It} {s : Sc} {ws : List ByteArray} {s1 : Sc} {ws1 : List ByteArray} {s2 : Sc} {ws2 : List ByteArray}, Sts r l s ws s1 ws1 → Sts r l2 s1 ws1 s2 ws2 → Sts r (l ++ l2) s ws s2 ws2
  | [], _, _, _, _, _, _, ⟨h1, h2⟩, h => by subst h1; subst h2; exact h
  | x :: l, _, _, _, _, _, _, ⟨a, b, h1, h2⟩, h => ⟨a, b, h1, Sts.app h2 h⟩
theorem Sts.len {l : List It} : ∀ {s : Sc} {ws : List ByteArray} {s' : Sc} {ws' : List ByteArray}, Sts true l s ws s' ws' → ∃ p, ws = p ++ ws' ∧ p.length = l.length := by
  induction l with
  | nil => rintro s ws s' ws' ⟨_, rfl⟩; exact ⟨[], rfl, rfl⟩
  | cons it l ih =>
    rintro s ws s' ws' ⟨s1, ws1, ⟨_, _, _, h, _⟩, h2⟩
    obtain ⟨p, rfl, hp⟩ := ih h2
    exact ⟨_ :: p, h rfl, by simp [hp]⟩
theorem Sts.w {l : List It} : ∀ {s : Sc} {ws : List ByteArray} {s' : Sc} {ws' : List ByteArray}, Sts false l s ws s' ws' → s' = s ∧ ws' = ws ++ l.map (wd s) ∧ ∀ it ∈ l, okI s it := by
  induction l with
  | nil => rintro s ws s' ws' ⟨rfl, rfl⟩; exact ⟨rfl, by simp, by simp⟩
  | cons it l ih =>
    rintro s ws s' ws' ⟨s1, ws1, ⟨_, h0, _, _, h⟩, h2⟩
    obtain ⟨rfl, rfl⟩ := h rfl
    obtain ⟨rfl, rfl, h3⟩ := ih h2
    refine ⟨rfl, by simp, fun it hi => ?_⟩
    rcases List.mem_cons.1 hi with rfl | hi
    · exact h0
    · exact h3 _ hi
theorem Sts.no {r : Bool} {it : It} {l its : List It} (rest : List It) {s : Sc} {ws : List ByteArray} {s1 : Sc} {ws1 : List ByteArray} {c : Int} (h : Sts r l s ws s1 ws1) (hn : Nop r it s1 ws1 c) (e : its = l ++ it :: rest) : Bad r its s ws c := by
  subst e
  refine ⟨fun hr => ?_, fun hr => ?_⟩
  · subst hr
    obtain ⟨p, rfl, hp⟩ := h.len
    refine ⟨(hn.1 rfl).1, fun s' ws' hok he => ?_⟩
    refine (hn.1 rfl).2 s' (rest.map (wd s') ++ ws') (hok it (by simp)) ?_
    have := congrArg (List.drop l.length) he
    rw [List.drop_append_of_le_length (by omega), List.drop_of_length_le (by omega)] at this
    rw [List.map_append, List.append_assoc, List.drop_append_of_le_length (by simp), List.drop_of_length_le (by simp)] at this
    simpa using this
  · subst hr
    obtain ⟨rfl, _, _⟩ := h.w
    exact ⟨(hn.2 rfl).1, it, by simp, (hn.2 rfl).2⟩
theorem Bad.wide {r : Bool} {l its : List It} (a b : List It) {s s1 : Sc} {ws ws1 : List ByteArray} {c : Int} (h : Sts r a s ws s1 ws1) (hb : Bad r l s1 ws1 c) (e : its = a ++ (l ++ b)) : Bad r its s ws c := by
  subst e
  refine ⟨fun hr => ?_, fun hr => ?_⟩
  · subst hr
    obtain ⟨p, rfl, hp⟩ := h.len
    refine ⟨(hb.1 rfl).1, fun s' ws' hok he => ?_⟩
    refine (hb.1 rfl).2 s' (b.map (wd s') ++ ws') (fun it hi => hok it (by simp [hi])) ?_
    have := congrArg (List.drop a.length) he
    rw [List.drop_append_of_le_length (by omega), List.drop_of_length_le (by omega)] at this
    rw [List.map_append, List.append_assoc, List.drop_append_of_le_length (by simp), List.drop_of_length_le (by simp)] at this
    simpa using this
  · subst hr
    obtain ⟨rfl, _, _⟩ := h.w
    obtain ⟨e1, it, hi, hn⟩ := hb.2 rfl
    exact ⟨e1, it, by simp [hi], hn⟩
/-! what one item leaves of the others -/
def foot : It → List Nat
  | .lit _ => []
  | .num o _ _ => [o]
  | .flag o _ _ => [o]
  | .key => List.range 16
  | .dat o => [o, 1000000]
  | .why o => [o]
theorem iAt_set {cs : Array Value} {o o' : Nat} {v : Value} (h : o ≠ o') : iAt (cs.setIfInBounds o v) o' = iAt cs o' := by
  unfold iAt; rw [Array.getElem?_setIfInBounds_ne h]
theorem bAt_set {cs : Array Value} {o o' : Nat} {v : Value} (h : o ≠ o') : bAt (cs.setIfInBounds o v) o' = bAt cs o' := by
  unfold bAt; rw [Array.getElem?_setIfInBounds_ne h]
theorem sAt_set {cs : Array Value} {o o' : Nat} {v : Value} (h : o ≠ o') : sAt (cs.setIfInBounds o v) o' = sAt cs o' := by
  unfold sAt; rw [Array.getElem?_setIfInBounds_ne h]
theorem keyAt_set {cs : Array Value} {o : Nat} {v : Value} (h : 16 ≤ o) : keyAt (cs.setIfInBounds o v) = keyAt cs := by
  unfold keyAt
  refine List.map_congr_left fun j hj => ?_
  rw [iAt_set]
  have := List.mem_range.1 hj
  omega
theorem setK_at {cs : Array Value} {l : List UInt8} {o : Nat} (hl : l.length = 16) (h : 16 ≤ o) : (setK cs l)[o]? = cs[o]? := by
  unfold setK
  rw [List.getElem?_toArray, List.getElem?_append_right (by simp [u8v, hl, h]), List.getElem?_drop]
  simp [u8v, hl]
  congr 1
  omega
theorem setK_in {cs : Array Value} {l : List UInt8} {o : Nat} (hl : l.length = 16) (h : o < 16) : (setK cs l)[o]? = some (.int .u8 ((l[o]'(by omega)).toNat : Int)) := by
  unfold setK
  rw [List.getElem?_toArray, List.getElem?_append_left (by simp [u8v, hl, h])]
  simp [u8v, hl, h]
theorem keyAt_setK {cs : Array Value} {l : List UInt8} (hl : l.length = 16) : keyAt (setK cs l) = l := by
  unfold keyAt
  refine List.ext_getElem (by simp [hl]) fun j h1 h2 => ?_
  simp only [List.getElem_map, List.getElem_range]
  unfold iAt
  rw [setK_in hl (by omega)]
  simp
/-- an item that is read after leaves the items ahead of it -/
theorem Chg.wd_eq {s s' : Sc} {it it' : It} (h : Chg s s' it) (hd : ∀ o, o ∈ foot it → o ∉ foot it') : wd s' it' = wd s it' ∧ (okI s' it' ↔ okI s it') := by
  have key : (∀ o, o ∈ foot it → o ∉ foot it') → ∀ o, o ∈ foot it' → o ∉ foot it := fun h o ho hi => h o hi ho
  have hd' := key hd
  cases it with
  | lit x => cases h; exact ⟨rfl, Iff.rfl⟩
  | num o k m =>
    obtain ⟨n, rfl⟩ := h
    have ho : o ∉ foot it' := hd o (by simp [foot])
    cases it' with
    | lit _ => exact ⟨rfl, Iff.rfl⟩
    | num o' k' m' => have : o ≠ o' := by simpa [foot] using ho
                      simp [wd, okI, iAt_set this]
    | flag o' a b => have : o ≠ o' := by simpa [foot] using ho
                     simp [wd, okI, bAt_set this]
    | key => have : 16 ≤ o := by simpa [foot] using ho
             simp [wd, okI, keyAt_set this]
    | dat o' => exact ⟨rfl, Iff.rfl⟩
    | why o' => have : o ≠ o' := by simpa [foot] using ho
                simp [wd, okI, sAt_set this]
  | flag o a b =>
    obtain ⟨n, rfl⟩ := h
    have ho : o ∉ foot it' := hd o (by simp [foot])
    cases it' with
    | lit _ => exact ⟨rfl, Iff.rfl⟩
    | num o' k' m' => have : o ≠ o' := by simpa [foot] using ho
                      simp [wd, okI, iAt_set this]
    | flag o' a b => have : o ≠ o' := by simpa [foot] using ho
                     simp [wd, okI, bAt_set this]
    | key => have : 16 ≤ o := by simpa [foot] using ho
             simp [wd, okI, keyAt_set this]
    | dat o' => exact ⟨rfl, Iff.rfl⟩
    | why o' => have : o ≠ o' := by simpa [foot] using ho
                simp [wd, okI, sAt_set this]
  | why o =>
    obtain ⟨n, rfl⟩ := h
    have ho : o ∉ foot it' := hd o (by simp [foot])
    cases it' with
    | lit _ => exact ⟨rfl, Iff.rfl⟩
    | num o' k' m' => have : o ≠ o' := by simpa [foot] using ho
                      simp [wd, okI, iAt_set this]
    | flag o' a b => have : o ≠ o' := by simpa [foot] using ho
                     simp [wd, okI, bAt_set this]
    | key => have : 16 ≤ o := by simpa [foot] using ho
             simp [wd, okI, keyAt_set this]
    | dat o' => exact ⟨rfl, Iff.rfl⟩
    | why o' => have : o ≠ o' := by simpa [foot] using ho
                simp [wd, okI, sAt_set this]
  | dat o =>
    obtain ⟨v, l, rfl⟩ := h
    have ho : o ∉ foot it' := hd o (by simp [foot])
    cases it' with
    | lit _ => exact ⟨rfl, Iff.rfl⟩
    | num o' k' m' => have : o ≠ o' := by simpa [foot] using ho
                      simp [wd, okI, iAt_set this]
    | flag o' a b => have : o ≠ o' := by simpa [foot] using ho
                     simp [wd, okI, bAt_set this]
    | key => have : 16 ≤ o := by simpa [foot] using ho
             simp [wd, okI, keyAt_set this]
    | dat o' => exact absurd (by simp [foot]) (hd 1000000 (by simp [foot]))
    | why o' => have : o ≠ o' := by simpa [foot] using ho
                simp [wd, okI, sAt_set this]
  | key =>
    obtain ⟨l, hl, rfl⟩ := h
    have ha : ∀ o, o ∈ foot it' → 16 ≤ o := fun o ho => by
      have := hd' o ho
      simp [foot] at this
      exact this
    cases it' with
    | lit _ => exact ⟨rfl, Iff.rfl⟩
    | num o' k' m' => have := ha o' (by simp [foot])
                      simp [wd, okI, iAt, setK_at hl this]
    | flag o' a b => have := ha o' (by simp [foot])
                     have hb : bAt (setK s.cs l) o' = bAt s.cs o' := by unfold bAt; rw [setK_at hl this]
                     exact ⟨by show (if bAt (setK s.cs l) o' then b else a) = _; rw [hb]; rfl, Iff.rfl⟩
    | key => exact absurd (ha 0 (by simp [foot])) (by omega)
    | dat o' => exact ⟨rfl, Iff.rfl⟩
    | why o' => have := ha o' (by simp [foot])
                simp [wd, okI, sAt, setK_at hl this]
def Apart (l : List It) : Prop := l.Pairwise fun a b => ∀ o, o ∈ foot b → o ∉ foot a
theorem Sts.kept {r : Bool} {it' : It} : ∀ {l : List It} {s : Sc} {ws : List ByteArray} {s' : Sc} {ws' : List ByteArray}, Sts r l s ws s' ws' → (∀ it ∈ l, ∀ o, o ∈ foot it → o ∉ foot it') → wd s' it' = wd s it' ∧ (okI s' it' ↔ okI s it') := by
  intro l
  induction l with
  | nil => rintro s ws s' ws' ⟨rfl, _⟩ _; exact ⟨rfl, Iff.rfl⟩
  | cons it l ih =>
    rintro s ws s' ws' ⟨s1, ws1, ⟨h1, _⟩, h2⟩ hd
    obtain ⟨a, b⟩ := ih h2 fun it hi => hd it (by simp [hi])
    obtain ⟨c, d⟩ := h1.wd_eq (hd it (by simp))
    exact ⟨a.trans c, b.trans d⟩
theorem Sts.r {l : List It} : ∀ {s : Sc} {ws : List ByteArray} {s' : Sc} {ws' : List ByteArray}, Sts true l s ws s' ws' → Apart l → ws = l.map (wd s') ++ ws' ∧ ∀ it ∈ l, okI s' it := by
  induction l with
  | nil => rintro s ws s' ws' ⟨rfl, rfl⟩ _; exact ⟨rfl, by simp⟩
  | cons it l ih =>
    rintro s ws s' ws' ⟨s1, ws1, ⟨_, h0, _, h1, _⟩, h2⟩ hp
    obtain ⟨hp1, hp2⟩ := List.pairwise_cons.1 hp
    obtain ⟨e, h3⟩ := ih h2 hp2
    have hk := h2.kept (it' := it) hp1
    refine ⟨?_, fun x hx => ?_⟩
    · rw [h1 rfl, e]
      simp [hk.1]
    · rcases List.mem_cons.1 hx with rfl | hx
      · exact hk.2.2 h0
      · exact h3 _ hx
end Go.Proofs.YtilenpnpnbdndaaGreatDoor
