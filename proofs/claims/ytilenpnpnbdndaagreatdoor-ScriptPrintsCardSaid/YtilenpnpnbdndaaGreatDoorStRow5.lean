/- Own text: part of the shallow reading of the code and of the contracts that are proved over it. -/
import Derived.Test.YtilenpnpnbdndaaGreatDoorShAs
import Derived.KernelRfl
import Derived.Test.YtilenpnpnbdndaaGreatDoorSuB
import Derived.Test.YtilenpnpnbdndaaGreatDoorSuRow
namespace Go.Proofs.YtilenpnpnbdndaaGreatDoor
open Go Go.Sh
set_option maxRecDepth 100000
set_option maxHeartbeats 4000000
attribute [local instance] Esc.none
/-! ropewalk/ropewalkref25.Print -/
noncomputable def F19_code : Code := Tryz.f19.body.getD .skip
theorem F19_code_ok : okC Tryz.prog Tryz.f19.ntmps F19_code = true := by kernel_rfl
def F19_1C (K2 : Value → World → Prop) (Kr : Value → Value → Value → World → Prop) : Post := fun o t w => match o with | .normal => False | .exit i => (match Nat.beq i 2 with | true => K2 (t 5) w | false => False) | .ret => Kr (t 2) (t 3) (t 4) w
def F19_1B (R : Value → Value → Value → World → Prop) (K2 : Value → World → Prop) (Kr : Value → Value → Value → World → Prop) (x1 : Value) (x5 : Value) (x9 : Value) (w : World) : Prop :=
  rdA x1 fun a1 => rdC x5 fun l2a l2n l2c => rdI .i64 x9 fun n3 => ldC (a1.add 82) w fun _ l4n _ => br (decide ((n3 : Int) < (l4n : Int))) (ldC (a1.add 82) w fun l5a l5n _ => ixS 12 l5a l5n n3 fun a6 => ldR26 a6 w fun s7 => Calls Tryz.prog 9 #[s7.v] w (en fun e9 w8 => ∃ s10, ∃ n11, e9 = .returned (.tuple #[(.string s10), (.int .i64 n11)]) ∧ (br (n11 != 0) (Kr (.string ⟨#[]⟩) (.int .i64 n3) (.int .i64 1) w8) (br (decide (((l2n : Int) : Int) ≤ 4194304)) (cat s10 ⟨#[10]⟩ fun s12 => ∃ l13a l13n l13c w14, Sem.run Tryz.prog (Builtin.append_ #[25, 9] 25 #[(.slice l2a l2n l2c), (.string s12)]) w8 = .ok (.slice l13a l13n l13c) w14 ∧ (R (.pointer (some a1)) (.slice l13a l13n l13c) (.int .i64 (IntKind.wrap .i64 (n3 + 1))) w14)) (R (.pointer (some a1)) (.slice l2a l2n l2c) (.int .i64 (IntKind.wrap .i64 (n3 + 1))) w8))))) (K2 (.slice l2a l2n l2c) w)
def F19_1 (K2 : Value → World → Prop) (Kr : Value → Value → Value → World → Prop) : Nat → Value → Value → Value → World → Prop
  | 0 => fun _ _ _ _ => False
  | n + 1 => F19_1B (F19_1 K2 Kr n) K2 Kr
def F19_1O (Q : Post) (t : Tm) (w : World) : Prop := ∃ n, F19_1 (fun y5 w => ∀ g, rsh [(5, (.one .slc))] (upds g [(5, y5)]) fun t => Q (.exit 2) t w) (fun y2 y3 y4 w => ∀ g, rsh [(2, (.one .str)), (3, (.one (.int .i64))), (4, (.one (.int .i64)))] (upds g [(2, y2), (3, y3), (4, y4)]) fun t => Q .ret t w) n (t 1) (t 5) (t 9) w
theorem F19_1_step (K2 : Value → World → Prop) (Kr : Value → Value → Value → World → Prop) (n : Nat) (t : Tm) (w : World) : (F19_1 K2 Kr (n + 1) (t 1) (t 5) (t 9) w) = rsh [(1, (.one .adr)), (5, (.one .slc)), (9, (.one (.int .i64)))] t (fun t => vc Tryz.prog (orcOf []) [0, 0, 1, 0, 1, 1, 1, 1] (getAt F19_code [0, 0, 1, 0, 1, 1, 1, 1]) (fun o t w => match o with | .normal => F19_1 K2 Kr n (t 1) (t 5) (t 9) w | .exit i => F19_1C K2 Kr (.exit i) t w | .ret => F19_1C K2 Kr .ret t w) t w) := by kernel_rfl
theorem F19_1_ok : ∀ Q t w, F19_1O Q t w → W Tryz.prog Tryz.f19.ntmps (getAt F19_code [0, 1, 0, 1, 1, 1, 1]) Q t w := by
  intro Q t w ⟨n, h⟩
  refine (W_loop (P := Tryz.prog) (b := getAt F19_code [0, 0, 1, 0, 1, 1, 1, 1]) (Q := F19_1C (fun y5 w => ∀ g, rsh [(5, (.one .slc))] (upds g [(5, y5)]) fun t => Q (.exit 2) t w) (fun y2 y3 y4 w => ∀ g, rsh [(2, (.one .str)), (3, (.one (.int .i64))), (4, (.one (.int .i64)))] (upds g [(2, y2), (3, y3), (4, y4)]) fun t => Q .ret t w)) (G := fun n t w => F19_1 (fun y5 w => ∀ g, rsh [(5, (.one .slc))] (upds g [(5, y5)]) fun t => Q (.exit 2) t w) (fun y2 y3 y4 w => ∀ g, rsh [(2, (.one .str)), (3, (.one (.int .i64))), (4, (.one (.int .i64)))] (upds g [(2, y2), (3, y3), (4, y4)]) fun t => Q .ret t w) n (t 1) (t 5) (t 9) w) (fun _ _ h => h) (fun n t w h => ?_) n t w h).mono ?_
  · rw [F19_1_step] at h
    exact vc_sound mixed (orcNil F19_code) _ _ rfl (okC_at F19_code_ok [0, 0, 1, 0, 1, 1, 1, 1]) _ _ _ (rsh_out h)
  · intro o t w q
    cases o with
    | normal => exact q.elim
    | exit i =>
      unfold F19_1C at q
      simp only at q
      split at q
      · rename_i hi
        rw [nbeq] at hi
        subst hi
        exact out_ok [5] q
      · exact q.elim
    | ret => exact out_ok [2, 3, 4] q
def F19_2C (K0 : Value → Value → World → Prop) (Kr : Value → Value → Value → World → Prop) : Post := fun o t w => match o with | .normal => False | .exit i => (match Nat.beq i 0 with | true => K0 (t 1) (t 5) w | false => False) | .ret => Kr (t 2) (t 3) (t 4) w
def F19_2B (R : Value → Value → Value → World → Prop) (K0 : Value → Value → World → Prop) (Kr : Value → Value → Value → World → Prop) (x1 : Value) (x5 : Value) (x6 : Value) (w : World) : Prop :=
  rdA x1 fun a1 => rdC x5 fun l2a l2n l2c => rdI .i64 x6 fun n3 => br (decide ((n3 : Int) < 2)) (ixA 41 2 (a1.add 0) n3 fun a4 => ldR49 a4 w fun s5 => Calls Tryz.prog 15 #[s5.v] w (en fun e7 w6 => ∃ s8, ∃ n9, e7 = .returned (.tuple #[(.string s8), (.int .i64 n9)]) ∧ (br (n9 != 0) (Kr (.string ⟨#[]⟩) (.int .i64 (-1)) (.int .i64 1) w6) (cat s8 ⟨#[10]⟩ fun s10 => ∃ l11a l11n l11c w12, Sem.run Tryz.prog (Builtin.append_ #[25, 9] 25 #[(.slice l2a l2n l2c), (.string s10)]) w6 = .ok (.slice l11a l11n l11c) w12 ∧ (R (.pointer (some a1)) (.slice l11a l11n l11c) (.int .i64 (IntKind.wrap .i64 (n3 + 1))) w12))))) (K0 (.pointer (some a1)) (.slice l2a l2n l2c) w)
def F19_2 (K0 : Value → Value → World → Prop) (Kr : Value → Value → Value → World → Prop) : Nat → Value → Value → Value → World → Prop
  | 0 => fun _ _ _ _ => False
  | n + 1 => F19_2B (F19_2 K0 Kr n) K0 Kr
def F19_2O (Q : Post) (t : Tm) (w : World) : Prop := ∃ n, F19_2 (fun y1 y5 w => ∀ g, rsh [(1, (.one .adr)), (5, (.one .slc))] (upds g [(1, y1), (5, y5)]) fun t => Q (.exit 0) t w) (fun y2 y3 y4 w => ∀ g, rsh [(2, (.one .str)), (3, (.one (.int .i64))), (4, (.one (.int .i64)))] (upds g [(2, y2), (3, y3), (4, y4)]) fun t => Q .ret t w) n (t 1) (t 5) (t 6) w
theorem F19_2_step (K0 : Value → Value → World → Prop) (Kr : Value → Value → Value → World → Prop) (n : Nat) (t : Tm) (w : World) : (F19_2 K0 Kr (n + 1) (t 1) (t 5) (t 6) w) = rsh [(1, (.one .adr)), (5, (.one .slc)), (6, (.one (.int .i64)))] t (fun t => vc Tryz.prog (orcOf []) [0, 0, 1, 0, 1, 1] (getAt F19_code [0, 0, 1, 0, 1, 1]) (fun o t w => match o with | .normal => F19_2 K0 Kr n (t 1) (t 5) (t 6) w | .exit i => F19_2C K0 Kr (.exit i) t w | .ret => F19_2C K0 Kr .ret t w) t w) := by kernel_rfl
theorem F19_2_ok : ∀ Q t w, F19_2O Q t w → W Tryz.prog Tryz.f19.ntmps (getAt F19_code [0, 1, 0, 1, 1]) Q t w := by
  intro Q t w ⟨n, h⟩
  refine (W_loop (P := Tryz.prog) (b := getAt F19_code [0, 0, 1, 0, 1, 1]) (Q := F19_2C (fun y1 y5 w => ∀ g, rsh [(1, (.one .adr)), (5, (.one .slc))] (upds g [(1, y1), (5, y5)]) fun t => Q (.exit 0) t w) (fun y2 y3 y4 w => ∀ g, rsh [(2, (.one .str)), (3, (.one (.int .i64))), (4, (.one (.int .i64)))] (upds g [(2, y2), (3, y3), (4, y4)]) fun t => Q .ret t w)) (G := fun n t w => F19_2 (fun y1 y5 w => ∀ g, rsh [(1, (.one .adr)), (5, (.one .slc))] (upds g [(1, y1), (5, y5)]) fun t => Q (.exit 0) t w) (fun y2 y3 y4 w => ∀ g, rsh [(2, (.one .str)), (3, (.one (.int .i64))), (4, (.one (.int .i64)))] (upds g [(2, y2), (3, y3), (4, y4)]) fun t => Q .ret t w) n (t 1) (t 5) (t 6) w) (fun _ _ h => h) (fun n t w h => ?_) n t w h).mono ?_
  · rw [F19_2_step] at h
    exact vc_sound mixed (orcNil F19_code) _ _ rfl (okC_at F19_code_ok [0, 0, 1, 0, 1, 1]) _ _ _ (rsh_out h)
  · intro o t w q
    cases o with
    | normal => exact q.elim
    | exit i =>
      unfold F19_2C at q
      simp only at q
      split at q
      · rename_i hi
        rw [nbeq] at hi
        subst hi
        exact out_ok [1, 5] q
      · exact q.elim
    | ret => exact out_ok [2, 3, 4] q
def F19 (x0 : Value) (w : World) (K : Value → World → Prop) : Prop :=
  exR60 fun s1 => x0 = s1.v ∧ (alc (.cells s1.c 61) w fun b2 w3 => ∃ k29 : Nat, F19_2 (fun y1_3 y5_3 w5 => ∀ _g6 : Tm, rdA y1_3 fun a7 => rdC y5_3 fun l8a l8n l8c => ldC (a7.add 82) w5 fun _ l9n _ => br (decide (((l9n : Int) : Int) > 65536)) (K (.tuple #[(.string ⟨#[]⟩), (.int .i64 (-1)), (.int .i64 3)]) w5) (∃ k22 : Nat, F19_1 (fun y5_9 w11 => ∀ _g12 : Tm, rdC y5_9 fun l13a l13n l13c => br (decide (((l13n : Int) : Int) > 4194304)) (K (.tuple #[(.string ⟨#[]⟩), (.int .i64 (-1)), (.int .i64 2)]) w11) (∃ s14, ∃ w15, Sem.run Tryz.prog (convert 25 9 (.slice l13a l13n l13c)) w11 = .ok (.string s14) w15 ∧ (K (.tuple #[(.string s14), (.int .i64 0), (.int .i64 0)]) w15))) (fun y2_15 y3_15 y4_15 w17 => ∀ _g18 : Tm, rdS y2_15 fun s19 => rdI .i64 y3_15 fun n20 => rdI .i64 y4_15 fun n21 => K (.tuple #[(.string s19), (.int .i64 n20), (.int .i64 n21)]) w17) k22 (.pointer (some a7)) (.slice l8a l8n l8c) (.int .i64 0) w5)) (fun y2_22 y3_22 y4_22 w24 => ∀ _g25 : Tm, rdS y2_22 fun s26 => rdI .i64 y3_22 fun n27 => rdI .i64 y4_22 fun n28 => K (.tuple #[(.string s26), (.int .i64 n27), (.int .i64 n28)]) w24) k29 (.pointer (some (Addr.mk b2 0 none))) (.slice none 0 0) (.int .i64 0) w3)
theorem F19_step (x0 : Value) (w : World) (K : Value → World → Prop) : (F19 x0 w K) = rsh [(0, (.agg [(.int .u8), (.int .u8), (.int .u8), (.int .u8), (.int .u8), (.int .u8), (.int .u8), (.int .u8), (.int .u8), (.int .u8), (.int .u8), (.int .u8), (.int .u8), (.int .u8), (.int .u8), (.int .u8), (.int .u64), (.int .i64), (.int .u32), (.int .u16), (.int .u16), (.int .i64), (.int .i64), (.int .u16), (.int .u16), (.int .i64), (.int .i64), (.int .i64), (.int .i64), (.int .i64), (.int .i64), (.int .i64), (.int .i64), (.int .i64), (.int .i64), (.int .i64), (.int .i64), (.int .i64), .bool, .bool, .bool, (.int .u8), (.int .u8), (.int .u8), (.int .u8), (.int .u8), (.int .u8), (.int .u8), (.int .u8), (.int .u8), (.int .u8), (.int .u8), (.int .u8), (.int .u8), (.int .u8), (.int .u8), (.int .u8), (.int .u64), (.int .i64), (.int .u32), (.int .u16), (.int .u16), (.int .i64), (.int .i64), (.int .u16), (.int .u16), (.int .i64), (.int .i64), (.int .i64), (.int .i64), (.int .i64), (.int .i64), (.int .i64), (.int .i64), (.int .i64), (.int .i64), (.int .i64), (.int .i64), (.int .i64), .bool, .bool, .bool, .slc]))] (args0 #[x0]) (fun t => vc Tryz.prog (orcOf [([0, 1, 0, 1, 1, 1, 1], F19_1O), ([0, 1, 0, 1, 1], F19_2O)]) [] F19_code (retQ Tryz.prog Tryz.f19 K) t w) := by kernel_rfl
theorem F19_ok {x0 : Value} {w : World} {K : Value → World → Prop} (h : F19 x0 w K) : Calls Tryz.prog 19 #[x0] w (rt K) := by
  rw [F19_step] at h
  exact Calls.mono (calls_of (c := F19_code) mixed Tryz.func19 rfl (nlt rfl) (vc_sound mixed (orcCons (π := [0, 1, 0, 1, 1, 1, 1]) F19_1_ok (orcCons (π := [0, 1, 0, 1, 1]) F19_2_ok (orcNil F19_code))) F19_code [] rfl F19_code_ok _ _ _ (rsh_out h))) fun _ _ => rv_none

end Go.Proofs.YtilenpnpnbdndaaGreatDoor
namespace Go.Proofs.YtilenpnpnbdndaaGreatDoor
open Go Go.Sh
set_option maxRecDepth 100000
set_option maxHeartbeats 4000000
attribute [local instance] Esc.none
/-! ropewalk/ropewalklaw25.ScriptPrints -/
noncomputable def F5_code : Code := Tryz.f5.body.getD .skip
theorem F5_code_ok : okC Tryz.prog Tryz.f5.ntmps F5_code = true := by kernel_rfl
def F5 (x0 : Value) (w : World) (K : Value → World → Prop) : Prop :=
  exR60 fun s1 => x0 = s1.v ∧ (alc (.cells s1.c 61) w fun b2 w3 => ldR60 (Addr.mk b2 0 none) w3 fun s4 => Calls Tryz.prog 18 #[s4.v] w3 (en fun e6 w5 => ∃ s7, ∃ n8, ∃ n9, e6 = .returned (.tuple #[(.string s7), (.int .i64 n8), (.int .i64 n9)]) ∧ (ldR60 (Addr.mk b2 0 none) w5 fun s10 => Calls Tryz.prog 19 #[s10.v] w5 (en fun e12 w11 => ∃ s13, ∃ n14, ∃ n15, e12 = .returned (.tuple #[(.string s13), (.int .i64 n14), (.int .i64 n15)]) ∧ (br (ByteArray.toList s7 == ByteArray.toList s13) (br (n8 == n14) (br (n9 == n15) (Calls Tryz.prog 13 #[] w11 (en fun e17 w16 => ∃ b18, e17 = .returned (.bool b18) ∧ (K (.bool b18) w16))) (K (.bool false) w11)) (K (.bool false) w11)) (K (.bool false) w11))))))
theorem F5_step (x0 : Value) (w : World) (K : Value → World → Prop) : (F5 x0 w K) = rsh [(0, (.agg [(.int .u8), (.int .u8), (.int .u8), (.int .u8), (.int .u8), (.int .u8), (.int .u8), (.int .u8), (.int .u8), (.int .u8), (.int .u8), (.int .u8), (.int .u8), (.int .u8), (.int .u8), (.int .u8), (.int .u64), (.int .i64), (.int .u32), (.int .u16), (.int .u16), (.int .i64), (.int .i64), (.int .u16), (.int .u16), (.int .i64), (.int .i64), (.int .i64), (.int .i64), (.int .i64), (.int .i64), (.int .i64), (.int .i64), (.int .i64), (.int .i64), (.int .i64), (.int .i64), (.int .i64), .bool, .bool, .bool, (.int .u8), (.int .u8), (.int .u8), (.int .u8), (.int .u8), (.int .u8), (.int .u8), (.int .u8), (.int .u8), (.int .u8), (.int .u8), (.int .u8), (.int .u8), (.int .u8), (.int .u8), (.int .u8), (.int .u64), (.int .i64), (.int .u32), (.int .u16), (.int .u16), (.int .i64), (.int .i64), (.int .u16), (.int .u16), (.int .i64), (.int .i64), (.int .i64), (.int .i64), (.int .i64), (.int .i64), (.int .i64), (.int .i64), (.int .i64), (.int .i64), (.int .i64), (.int .i64), (.int .i64), .bool, .bool, .bool, .slc]))] (args0 #[x0]) (fun t => vc Tryz.prog (orcOf []) [] F5_code (retQ Tryz.prog Tryz.f5 K) t w) := by kernel_rfl
theorem F5_ok {x0 : Value} {w : World} {K : Value → World → Prop} (h : F5 x0 w K) : Calls Tryz.prog 5 #[x0] w (rt K) := by
  rw [F5_step] at h
  exact Calls.mono (calls_of (c := F5_code) mixed Tryz.func5 rfl (nlt rfl) (vc_sound mixed (orcNil F5_code) F5_code [] rfl F5_code_ok _ _ _ (rsh_out h))) fun _ _ => rv_none
end Go.Proofs.YtilenpnpnbdndaaGreatDoor
/-
  The document's Print (fn 19) and ScriptPrints (fn 5).
-/
namespace Go.Proofs.YtilenpnpnbdndaaGreatDoor
open Go Go.Sh
set_option maxRecDepth 100000
attribute [local instance] Esc.none
section
variable {W w : World} {M : List HP} {p q : R49} {a : Option Addr} {c : Nat} {ds : List Dd}
theorem put_cat {a2 : Option Addr} {b : List UInt8} {bc : Nat} {s : ByteArray} {K : Option Addr → Nat → Nat → World → Prop} (h : Hs W (slP 5 1 a2 b.length bc (u8v b) :: M) w) (hb : b.length + s.size + 1 ≤ 140737488355328) (hs : s.size ≤ 100000000)
    (hK : ∀ a' c' w', Hs W (slP 5 1 a' (b ++ (bl s ++ [10])).length c' (u8v (b ++ (bl s ++ [10]))) :: M) w' → K a' (b ++ (bl s ++ [10])).length c' w') :
    cat s ⟨#[10]⟩ fun s10 => ∃ l11a l11n l11c w12, Sem.run Tryz.prog (Builtin.append_ #[25, 9] 25 #[(.slice a2 b.length bc), (.string s10)]) w = .ok (.slice l11a l11n l11c) w12 ∧ K l11a l11n l11c w12 := by
  have e1 : (bs (bl s ++ [10])).size = s.size + 1 := by
    show (bl s ++ [10]).length = _
    simp [bl_len]
  refine cat_of (by show s.size + 1 ≤ _; omega) ?_
  show ∃ l11a l11n l11c w12, Sem.run Tryz.prog (Builtin.append_ #[25, 9] 25 #[(.slice a2 b.length bc), (.string (bs (bl s ++ [10])))]) w = .ok (.slice l11a l11n l11c) w12 ∧ K l11a l11n l11c w12
  refine h.appendT E25 Tryz.underlying9 0 rfl (by omega) fun a3 c3 w3 h3 => ?_
  have h3 : Hs W (slP 5 1 a3 (b.length + (bs (bl s ++ [10])).size) c3 (u8v b ++ Lib.strCells (bs (bl s ++ [10]))) :: M) w3 := h3
  have e3 : u8v b ++ Lib.strCells (bs (bl s ++ [10])) = u8v (b ++ (bl s ++ [10])) := by rw [cells_u8v, u8v_app]; rfl
  have e2 : b.length + (bs (bl s ++ [10])).size = (b ++ (bl s ++ [10])).length := by rw [e1]; simp [bl_len]
  rw [e2, e3] at h3
  rw [e2]
  exact hK _ _ _ h3
theorem F19_1_loop {K2 : Value → World → Prop} {Kr : Value → Value → Value → World → Prop} {xb : Nat} (hT : TB W) (hS : ScrOk W p q a ds) (hn : ds.length ≤ 65536) :
    ∀ (ds2 ds1 : List Dd) (k : Nat) (ba : Option Addr) (bc : Nat) (b : List UInt8) (w : World), ds = ds1 ++ ds2 → ds2.length < k → b.length ≤ 20000000 → Hs W (slP 5 1 ba b.length bc (u8v b) :: pt xb (.cells (mk60 p q a ds.length c).c 61 (0, 0)) :: M) w →
    (badAt ds2 ds1.length = none → ∀ ba' bc' w', Hs W (slP 5 1 ba' (gather ds2 b).length bc' (u8v (gather ds2 b)) :: M) w' → K2 (.slice ba' (gather ds2 b).length bc') w') →
    (∀ (i : Nat) w', badAt ds2 ds1.length = some i → Hs W M w' → Kr (.string ⟨#[]⟩) (.int .i64 (i : Int)) (.int .i64 1) w') →
    F19_1 K2 Kr k (.pointer (some ⟨xb, 0, none⟩)) (.slice ba b.length bc) (.int .i64 (ds1.length : Int)) w := by
  intro ds2
  induction ds2 with
  | nil =>
    intro ds1 k ba bc b w hl hk hb h hK _
    obtain ⟨k, rfl⟩ : ∃ n, k = n + 1 := ⟨k - 1, by omega⟩
    show F19_1B _ _ _ _ _ _ _
    unfold F19_1B
    simp only [rdC_mk, rdI_mk, rdA_mk]
    refine ldC_c (at_d (h.atL 1 rfl)) ?_
    rw [List.append_nil] at hl
    rw [hl, decide_eq_false (by omega), br_false]
    exact hK rfl _ _ _ (h.erase 1)
  | cons d ds2 ih =>
    intro ds1 k ba bc b w hl hk hb h hK hKr
    obtain ⟨k, rfl⟩ : ∃ n, k = n + 1 := ⟨k - 1, by omega⟩
    have hlen : ds.length = ds1.length + (ds2.length + 1) := by rw [hl]; simp
    have hi : ds[ds1.length]? = some d := by rw [hl]; simp
    have hm : d ∈ ds := List.mem_of_getElem? hi
    show F19_1B _ _ _ _ _ _ _
    unfold F19_1B
    simp only [rdC_mk, rdI_mk, rdA_mk]
    refine ldC_c (at_d (h.atL 1 rfl)) ?_
    rw [decide_eq_true (by omega), br_true]
    refine ldC_c (at_d (h.atL 1 rfl)) ?_
    obtain ⟨ad, rfl, hat⟩ := hS.at h.1 hi
    refine ixS_to (p := ds1.length) rfl (by omega) ?_
    refine ldR26_of (s := d.1) hat ?_
    refine cl (line_callR hT h hS hm) ?_
    rintro _ w4 ⟨rfl, h5⟩
    refine ⟨_, _, rfl, ?_⟩
    have e3 : IntKind.wrap .i64 ((ds1.length : Int) + 1) = (((ds1 ++ [d]).length : Nat) : Int) := by rw [wrap_i64 (by omega) (by omega)]; simp
    have el : (ds1 ++ [d]).length = ds1.length + 1 := by simp
    rcases lineE_01 d with he | he
    · have e0 : ((0 : Int) != 0) = false := rfl
      rw [he, e0, br_false]
      have hbad : ∀ j, badAt (d :: ds2) j = badAt ds2 (j + 1) := fun j => by rw [badAt, if_pos he]
      by_cases hlong : b.length ≤ 4194304
      · rw [decide_eq_true (by omega), br_true]
        have hls := lineS_size d
        refine put_cat h5 (by omega) (by omega) fun a6 c6 w6 h6 => ?_
        rw [e3]
        refine ih (ds1 ++ [d]) k a6 c6 _ w6 (by rw [hl]; simp) (by simp at hk; omega) (by have := put_len b d; omega) h6 (fun hb' => ?_) (fun i w' hb' => ?_)
        · have := hK (by rw [hbad, ← el]; exact hb')
          rwa [gather, if_pos hlong] at this
        · exact hKr i w' (by rw [hbad, ← el]; exact hb')
      · rw [decide_eq_false (by omega), br_false, e3]
        refine ih (ds1 ++ [d]) k ba bc b w4 (by rw [hl]; simp) (by simp at hk; omega) hb h5 (fun hb' => ?_) (fun i w' hb' => ?_)
        · have := hK (by rw [hbad, ← el]; exact hb')
          rwa [gather, if_neg hlong] at this
        · exact hKr i w' (by rw [hbad, ← el]; exact hb')
    · have e0 : ((1 : Int) != 0) = true := rfl
      rw [he, e0, br_true]
      exact hKr _ _ (by rw [badAt, if_neg (by rw [he]; decide)]) (h5.erase 0).drop
theorem F19_2_go {K0 : Value → Value → World → Prop} {Kr : Value → Value → Value → World → Prop} {xb n : Nat} (hT : TB W) (hp : GoodC p.c) (hq : GoodC q.c) (h : Hs W (pt xb (.cells (mk60 p q a n c).c 61 (0, 0)) :: M) w)
    (hK : confE p = 0 → confE q = 0 → ∀ ba' bc' w', Hs W (slP 5 1 ba' (headB p q).length bc' (u8v (headB p q)) :: pt xb (.cells (mk60 p q a n c).c 61 (0, 0)) :: M) w' → K0 (.pointer (some ⟨xb, 0, none⟩)) (.slice ba' (headB p q).length bc') w')
    (hKr : (confE p ≠ 0 ∨ confE q ≠ 0) → ∀ w', Hs W M w' → Kr (.string ⟨#[]⟩) (.int .i64 (-1)) (.int .i64 1) w') :
    ∃ k, F19_2 K0 Kr k (.pointer (some ⟨xb, 0, none⟩)) (.slice none 0 0) (.int .i64 0) w := by
  refine ⟨3, ?_⟩
  have e0 : ((0 : Int) != 0) = false := rfl
  have e1 : ((1 : Int) != 0) = true := rfl
  have sp := confS_size p
  have sq := confS_size q
  show F19_2B _ _ _ _ _ _ _
  unfold F19_2B
  simp only [rdC_mk, rdI_mk, rdA_mk]
  rw [decide_eq_true (by decide), br_true]
  have h1 := h.nil 5 1
  refine ⟨by decide, ldR49_of (s := p) (at_p (h.atL 0 rfl)) ?_⟩
  refine cl (conf_callR hT h1 hp) ?_
  rintro _ w4 ⟨rfl, h4⟩
  refine ⟨_, _, rfl, ?_⟩
  have h5 : Hs W (slP 5 1 none (List.length ([] : List UInt8)) 0 (u8v []) :: pt xb (.cells (mk60 p q a n c).c 61 (0, 0)) :: M) w4 := h4
  rcases confE_01 p with he | he
  · rw [he, e0, br_false]
    refine put_cat (b := []) h5 (by simp; omega) (by omega) fun a6 c6 w6 h6 => ?_
    have e3 : IntKind.wrap .i64 ((0 : Int) + 1) = 1 := by rw [wrap_i64 (by omega) (by omega)]; rfl
    rw [e3]
    show F19_2B _ _ _ _ _ _ _
    unfold F19_2B
    simp only [rdC_mk, rdI_mk, rdA_mk]
    rw [decide_eq_true (by decide), br_true]
    refine ⟨by decide, ldR49_of (s := q) (at_q (h6.atL 1 rfl)) ?_⟩
    refine cl (conf_callR hT h6 hq) ?_
    rintro _ w9 ⟨rfl, h10⟩
    refine ⟨_, _, rfl, ?_⟩
    rcases confE_01 q with he2 | he2
    · rw [he2, e0, br_false]
      refine put_cat h10 (by simp [bl_len]; omega) (by omega) fun a11 c11 w11 h11 => ?_
      have e4 : IntKind.wrap .i64 ((1 : Int) + 1) = 2 := by rw [wrap_i64 (by omega) (by omega)]; rfl
      rw [e4]
      show F19_2B _ _ _ _ _ _ _
      unfold F19_2B
      simp only [rdC_mk, rdI_mk, rdA_mk]
      rw [decide_eq_false (by decide), br_false]
      exact hK he he2 _ _ _ h11
    · rw [he2, e1, br_true]
      exact hKr (.inr (by rw [he2]; decide)) _ (h10.erase 0).drop
  · rw [he, e1, br_true]
    exact hKr (.inl (by rw [he]; decide)) _ (h5.erase 0).drop
theorem c19 (hT : TB w) (hS : ScrOk w p q a ds) : Calls Tryz.prog 19 #[(mk60 p q a ds.length c).v] w (rt fun v w' => v = tup3 (printF p q ds) ∧ Same w w') := by
  refine F19_ok ?_
  unfold F19
  refine exR60_of (mk60 p q a ds.length c) ⟨rfl, ?_⟩
  refine (Hs.start w).alc fun b2 w3 h3 => ?_
  refine F19_2_go hT hS.gp hS.gq h3 (fun hp hq ba bc w4 h4 => ?_) (fun hbad w4 h4 => ?_)
  · intro _
    simp only [rdA_mk, rdC_mk]
    refine ldC_c (at_d (h4.atL 1 rfl)) ?_
    have hpf : printF p q ds = tailF (headB p q) ds := by unfold printF; rw [if_neg (by simp [hp, hq])]
    refine br_dec.2 ⟨fun hl => ?_, fun hl => ?_⟩
    · refine ⟨?_, h4.old⟩
      rw [hpf, tailF, if_pos (by omega)]
      rfl
    · refine ⟨ds.length + 1, ?_⟩
      refine F19_1_loop hT hS (by omega) ds [] _ ba bc _ w4 rfl (by omega) (headB_le p q) h4 (fun hn ba' bc' w5 h5 => ?_) (fun i w5 hi h5 => ?_)
      · intro _
        simp only [rdC_mk]
        refine br_dec.2 ⟨fun hg => ⟨?_, h5.old⟩, fun hg => ?_⟩
        · rw [hpf, tailF, if_neg (by omega), show badAt ds 0 = none from hn]
          simp only
          rw [if_pos (by omega)]
          rfl
        · refine ⟨_, _, run_bs (h5.rd 0 rfl), ?_, h5.old⟩
          rw [hpf, tailF, if_neg (by omega), show badAt ds 0 = none from hn]
          simp only
          rw [if_neg (by omega)]
          rfl
      · intro _
        simp only [rdS_mk, rdI_mk]
        refine ⟨?_, h5.old⟩
        rw [hpf, tailF, if_neg (by omega), show badAt ds 0 = some i from hi]
        rfl
  · intro _
    simp only [rdS_mk, rdI_mk]
    refine ⟨?_, h4.old⟩
    unfold printF
    rw [if_pos hbad]
    rfl
theorem c5 (hT : TB w) (hS : ScrOk w p q a ds) : Calls Tryz.prog 5 #[(mk60 p q a ds.length c).v] w (rt fun v w' => v = .bool true ∧ Same w w') := by
  refine F5_ok ?_
  unfold F5
  refine exR60_of (mk60 p q a ds.length c) ⟨rfl, ?_⟩
  refine (Hs.start w).alc fun b2 w3 h3 => ?_
  refine ldR60_of (s := mk60 p q a ds.length c) (h3.atL 0 rfl) ?_
  refine cl (c18 (hT.same h3.old) (hS.same h3.old)) ?_
  rintro _ w5 ⟨rfl, hs5⟩
  refine ⟨_, _, _, rfl, ?_⟩
  have h5 := h3.same hs5
  refine ldR60_of (s := mk60 p q a ds.length c) (h5.atL 0 rfl) ?_
  refine cl (c19 (hT.same h5.old) (hS.same h5.old)) ?_
  rintro _ w6 ⟨rfl, hs6⟩
  refine ⟨_, _, _, rfl, ?_⟩
  have h6 := h5.same hs6
  have en : ∀ n : Int, (n == n) = true := fun n => by simp
  rw [str_beq, decide_eq_true rfl, br_true, en, br_true, en, br_true]
  refine cl (c13 (hT.same h6.old)) ?_
  rintro _ w7 ⟨rfl, hs7⟩
  exact ⟨_, rfl, by first | rfl | trivial, (h6.same hs7).old⟩
end
end Go.Proofs.YtilenpnpnbdndaaGreatDoor
/- What is proved: the laws named below return true for every input of the row; each argument reads behind the call as it read before. -/
namespace Go.Proofs.YtilenpnpnbdndaaGreatDoor
open Go Go.Sh
open Go.ChangeShapes Go.WideShapes Go.ChangeAt Go.WideMaps Go.WideElems Go.RowKit
set_option maxRecDepth 100000
namespace Row5
theorem func : Tryz.prog.funcs[5]? = some Tryz.f5 := by kernel_rfl
theorem params : Tryz.f5.params.toList = [61] := by kernel_rfl
theorem reads (os : Os) {H : Type} (enc : TypeId × Value → H) : ∃ places, DataW.whole enc Tryz.prog ((laidWorld os).forCall (fun _ _ => 0) ⟨#[], #[(R60.v (mk60 R49.zz R49.zz none 0 0))], []⟩).memory Tryz.f5.params.toList Rows.scriptPrintsSpec.vars false (#[(R60.v (mk60 R49.zz R49.zz none 0 0))] : Array Value).toList 8 = some ([.agg [.agg [.agg [.agg [.agg [.lit (.int .u8 0), .lit (.int .u8 0), .lit (.int .u8 0), .lit (.int .u8 0), .lit (.int .u8 0), .lit (.int .u8 0), .lit (.int .u8 0), .lit (.int .u8 0), .lit (.int .u8 0), .lit (.int .u8 0), .lit (.int .u8 0), .lit (.int .u8 0), .lit (.int .u8 0), .lit (.int .u8 0), .lit (.int .u8 0), .lit (.int .u8 0)], .lit (.int .u64 0), .lit (.int .i64 0), .lit (.int .u32 0), .lit (.int .u16 0), .lit (.int .u16 0), .lit (.int .i64 0), .lit (.int .i64 0), .lit (.int .u16 0), .lit (.int .u16 0)], .lit (.int .i64 0), .lit (.int .i64 0), .lit (.int .i64 0), .agg [.lit (.int .i64 0), .lit (.int .i64 0), .lit (.int .i64 0)], .agg [.lit (.int .i64 0), .lit (.int .i64 0), .lit (.int .i64 0)], .lit (.int .i64 0), .lit (.int .i64 0), .lit (.int .i64 0), .lit (.int .i64 0), .lit (.bool false), .lit (.bool false), .lit (.bool false)], .agg [.agg [.agg [.lit (.int .u8 0), .lit (.int .u8 0), .lit (.int .u8 0), .lit (.int .u8 0), .lit (.int .u8 0), .lit (.int .u8 0), .lit (.int .u8 0), .lit (.int .u8 0), .lit (.int .u8 0), .lit (.int .u8 0), .lit (.int .u8 0), .lit (.int .u8 0), .lit (.int .u8 0), .lit (.int .u8 0), .lit (.int .u8 0), .lit (.int .u8 0)], .lit (.int .u64 0), .lit (.int .i64 0), .lit (.int .u32 0), .lit (.int .u16 0), .lit (.int .u16 0), .lit (.int .i64 0), .lit (.int .i64 0), .lit (.int .u16 0), .lit (.int .u16 0)], .lit (.int .i64 0), .lit (.int .i64 0), .lit (.int .i64 0), .agg [.lit (.int .i64 0), .lit (.int .i64 0), .lit (.int .i64 0)], .agg [.lit (.int .i64 0), .lit (.int .i64 0), .lit (.int .i64 0)], .lit (.int .i64 0), .lit (.int .i64 0), .lit (.int .i64 0), .lit (.int .i64 0), .lit (.bool false), .lit (.bool false), .lit (.bool false)]], .nil]], [], places) :=
  ⟨[], by kernel_rfl⟩
theorem lifted (os : Os) (started : os.Started) (H : Type) (enc : TypeId × Value → H) (F : Stop.Interp) :
    ReturnsInHanded {} Tryz.checked os 5 .any ((OpenSpec.ofChange Rows.scriptPrintsSpec).preRow enc Tryz.prog Tryz.f5 Rows.scriptPrintsRow.domain false Rows.scriptPrintsRow.laid) (((OpenSpec.ofChange Rows.scriptPrintsSpec).at F).post enc Tryz.prog Tryz.f5 false true false false) := by
  obtain ⟨places, hx⟩ := reads os enc
  refine returnsInHanded_of_row (C := Tryz.checked) (s := (OpenSpec.ofChange Rows.scriptPrintsSpec)) Row.own started (by kernel_rfl) func
    (witness_at (enc := enc) false (laidWorld os) #[(R60.v (mk60 R49.zz R49.zz none 0 0))] rfl (by kernel_rfl) (by kernel_rfl) (by kernel_rfl)
      (OpenSpec.preRow_of_cond 8 hx (by kernel_rfl) (fun k hk => by cases hk) (by kernel_rfl) (laid_met os _))) ?_
  intro W base args ds gs before hval0 hW _ hcond hz hL _ _
  have hval : ∀ (j : Nat) t v, Tryz.f5.params[j]? = some t → args[j]? = some v → Value.okWide Tryz.prog W .any base t v := hval0
  have hW' := hW
  obtain ⟨p, q, hA0, hV, rfl, hfz, hnd⟩ := hW
  have hA : DataW.TrodAll enc Tryz.prog W 0 (fun _ => true) true Tryz.f5.params.toList args.toList ds p := hA0
  rw [params] at hA
  have hwt := hz
  rw [params] at hwt
  obtain ⟨v0, d0, rfl, rfl, h0⟩ := trodAll_one hA

  obtain ⟨rfl, rfl⟩ := trodVars_none hV
  clear hA0 hval0
  have ht := of_laid hL
  have hlt0 : ∀ x ∈ p, x.block < W.heap.size := fun x hx => by simpa using hW'.lt x (by simp [hx])
  have h0k := h0
  obtain ⟨p0e, q0e, a0, ds0, c0, rfl, ok0⟩ := scr_in (hval 0 61 v0 (by kernel_rfl) rfl) (light_each hwt (j := 0) rfl rfl) h0
  have key := c5 (c := c0) ht ok0
  refine key.mono fun e W' ⟨v, he, hv, hf⟩ => ?_
  subst he; subst hv
  have hbelow : Below W.heap.size W W' := hf.below (Nat.le_refl _) fun _ x => x.elim
  refine ⟨_, rfl, _, _, _, [], p, [], hW', ?_, ?_, rfl, hbelow.frame _, fun h => by cases h⟩
  · exact trodAll_mk1 (shut_bool Row.u4 _)
  · exact trodAll_mk1 (Below.trod Row.laidOut (by kernel_rfl) (of_decide_eq_true (by kernel_rfl)) h0k hbelow hlt0)
theorem plain (f : FuncId) (fn : Func) (hf : Tryz.pinned.checked.prog.funcNamed "ropewalk/ropewalklaw25.ScriptPrints" = some f) (hfn : Tryz.pinned.checked.prog.funcs[f]? = some fn) :
    true = Tryz.pinned.checked.prog.looks [] ∧ ∀ (j : Nat) t, fn.params[j]? = some t → Tryz.pinned.checked.prog.wantsStandIn t = false := by
  obtain rfl : f = 5 := Option.some.inj ((show Tryz.prog.funcNamed "ropewalk/ropewalklaw25.ScriptPrints" = some 5 by kernel_rfl).symm.trans hf) |>.symm
  obtain rfl : fn = Tryz.f5 := (Option.some.inj (func.symm.trans hfn)).symm
  refine ⟨by kernel_rfl, fun j t ht => ?_⟩
  have hm : t ∈ [61] := by rw [← params]; simpa using Array.mem_of_getElem? ht
  have hall : ([61].all fun u => !Tryz.prog.wantsStandIn u) = true := by kernel_rfl
  exact (show Tryz.prog.wantsStandIn t = false by simpa using List.all_eq_true.1 hall t hm)
end Row5
theorem scriptPrints_holds : Rows.ScriptPrintsSaid :=
  OpenClaim.holds_of_cond 5 Tryz.f5 rfl rfl rfl rfl rfl rfl rfl ⟨rfl, rfl, rfl, rfl, rfl⟩ rfl rfl rfl rfl rfl (by kernel_rfl) Row5.func (by kernel_rfl)
    (of_decide_eq_true (by kernel_rfl)) (by unfold Func.isWrapper; first | (rw [if_pos (by decide +kernel)]; kernel_rfl) | (rw [if_neg (by decide +kernel)]; exact ⟨rfl, rfl⟩))
    (fun os started H enc _ F => by rw [OpenClaim.pre_eq_preRow]; exact Row5.lifted os started H enc F)
theorem scriptPrints_card : Rows.ScriptPrintsCardSaid :=
  Claim7.holds_tied_plain_at .later [] _ _ _ _ scriptPrints_holds (fun _ h => by cases h) (by kernel_rfl) (fun _ h => by cases h) scriptPrints_row_tie rfl ⟨rfl, rfl⟩ (by kernel_rfl) rfl Row5.plain (by kernel_rfl)
#print axioms scriptPrints_card
end Go.Proofs.YtilenpnpnbdndaaGreatDoor
