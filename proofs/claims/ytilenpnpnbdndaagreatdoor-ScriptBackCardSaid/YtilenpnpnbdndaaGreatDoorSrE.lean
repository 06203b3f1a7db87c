/- Own text: part of the shallow reading of the code and of the contracts that are proved over it. -/
import Derived.Test.YtilenpnpnbdndaaGreatDoorShDf
import Derived.KernelRfl
namespace Go.Proofs.YtilenpnpnbdndaaGreatDoor
open Go Go.Sh
set_option maxRecDepth 100000
set_option maxHeartbeats 4000000
section
variable [Esc]
noncomputable def F25_code : Code := Tryz.f25.body.getD .skip
omit [Esc] in
theorem F25_code_ok : okC Tryz.prog Tryz.f25.ntmps F25_code = true := by kernel_rfl
def F25_1C (K0 : World -> Prop) : Post := fun o _ w => match o with | .normal => False | .exit i => (match Nat.beq i 0 with | true => K0  w | false => False) | .ret => False
def F25_1B (R : Value -> Value -> Value -> World -> Prop) (K0 : World -> Prop) (x40 : Value) (x41 : Value) (x42 : Value) (w : World) : Prop :=
 rdC x40 fun l1a l1n l1c => rdI .i64 x41 fun n2 => rdI .i64 x42 fun n3 => br (decide ((n3 : Int) < n2)) (ixS 1 l1a l1n n3 fun a4 => ldV a4 w fun v5 => callV Tryz.prog v5 #[] w (.tup []) fun r7 w6 => r7 = (.tuple #[]) /\ (R (.slice l1a l1n l1c) (.int .i64 n2) (.int .i64 (IntKind.wrap .i64 (n3 + 1))) w6)) (K0 w)
def F25_1 (K0 : World -> Prop) : Nat -> Value -> Value -> Value -> World -> Prop
 | 0 => fun _ _ _ _ => False
 | n + 1 => F25_1B (F25_1 K0 n) K0
def F25_1O (Q : Post) (t : Tm) (w : World) : Prop := ∃ n,F25_1 (fun w => ∀ g,rsh [] (upds g []) fun t => Q (.exit 0) t w) n (t 40) (t 41) (t 42) w
theorem F25_1_step (K0 : World -> Prop) (n : Nat) (t : Tm) (w : World) : (F25_1 K0 (n + 1) (t 40) (t 41) (t 42) w) = rsh [(40,(.one .slc)),(41,(.one (.int .i64))),(42,(.one (.int .i64)))] t (fun t => vc Tryz.prog (orcOf []) [0,0,1,1,1,1,1,1,1] (getAt F25_code [0,0,1,1,1,1,1,1,1]) (fun o t w => match o with | .normal => F25_1 K0 n (t 40) (t 41) (t 42) w | .exit i => F25_1C K0 (.exit i) t w | .ret => F25_1C K0 .ret t w) t w) := by kernel_rfl
theorem F25_1_ok : ∀ Q t w,F25_1O Q t w -> W Tryz.prog Tryz.f25.ntmps (getAt F25_code [0,1,1,1,1,1,1,1]) Q t w := by
 intro Q t w ⟨n,h⟩
 refine (W_loop (P := Tryz.prog) (b := getAt F25_code [0,0,1,1,1,1,1,1,1]) (Q := F25_1C (fun w => ∀ g,rsh [] (upds g []) fun t => Q (.exit 0) t w)) (G := fun n t w => F25_1 (fun w => ∀ g,rsh [] (upds g []) fun t => Q (.exit 0) t w) n (t 40) (t 41) (t 42) w) (fun _ _ h => h) (fun n t w h => ?_) n t w h).mono ?_
 ·rw [F25_1_step] at h
  exact vc_sound mixed (orcNil F25_code) _ _ rfl (okC_at F25_code_ok [0,0,1,1,1,1,1,1,1]) _ _ _ (rsh_out h)
 ·intro o t w q
  cases o with
  | normal => exact q.elim
  | exit i =>
   unfold F25_1C at q
   simp only at q
   split at q
   ·rename_i hi
    rw [nbeq] at hi
    subst hi
    exact out_ok [] q
   ·exact q.elim
  | ret => exact q.elim
def F25 (x0 : Value) (x1 : Value) (x2 : Value) (w : World) (K : Value -> World -> Prop) : Prop :=
 ∃ p1 p2,x0 = (.agg #[(.pointer p1),(.pointer p2)]) /\ (rdI .i64 x1 fun n3 => alc (.cells #[(.pointer p1),(.pointer p2)] 82) w fun b4 w5 => ldP ((Addr.mk b4 0 none).add 0) w5 fun p6 => ldP ((Addr.mk b4 0 none).add 1) w5 fun p7 => Calls Tryz.prog 48 #[(.agg #[(.pointer p6),(.pointer p7)])] w5 (en fun e9 w8 => ∃ l10a l10n l10c,e9 = .returned (.slice l10a l10n l10c) /\ (Calls Tryz.prog 49 #[(.slice l10a l10n l10c),x2] w8 (en fun e12 w11 => ∃ n13,e12 = .returned (.int .i64 n13) /\ (Calls Tryz.prog 28 #[(.bool (decide ((n13 : Int) >= 0))),(.int .i64 n3)] w11 (en fun e15 w14 => e15 = .returned (.tuple #[]) /\ (drw w14 fun w16 => ldP ((Addr.mk b4 0 none).add 1) w16 fun p17 => ixS 3 l10a l10n n13 fun a18 => ldI .i64 (a18.add 0) w16 fun n19 => nn p17 fun a20 => stc (a20.add 0) (.int .i64 n19) w16 fun w21 => drw w21 fun w22 => ldP ((Addr.mk b4 0 none).add 0) w22 fun p23 => ixS 3 l10a l10n n13 fun a24 => ldS (a24.add 1) w22 fun s25 => Calls Tryz.prog 50 #[(.pointer p23),(.string s25)] w22 (en fun e27 w26 => e27 = .returned (.tuple #[]) /\ (ixS 3 l10a l10n n13 fun a28 => ldC (a28.add 2) w26 fun l29a l29n l29c => ∃ k33 : Nat,F25_1 (fun w31 => ∀ _g32 : Tm,K (.tuple #[]) w31) k33 (.slice l29a l29n l29c) (.int .i64 (l29n : Int)) (.int .i64 0) w26)))))))))
theorem F25_step (x0 : Value) (x1 : Value) (x2 : Value) (w : World) (K : Value -> World -> Prop) : (F25 x0 x1 x2 w K) = rsh [(0,(.agg [.ptr,.ptr])),(1,(.one (.int .i64)))] (args0 #[x0,x1,x2]) (fun t => vc Tryz.prog (orcOf [([0,1,1,1,1,1,1,1],F25_1O)]) [] F25_code (retQ Tryz.prog Tryz.f25 K) t w) := by kernel_rfl
theorem F25_ok {x0 x1 x2 : Value} {w : World} {K : Value -> World -> Prop} (h : F25 x0 x1 x2 w K) : Calls Tryz.prog 25 #[x0,x1,x2] w (rv K) := by
 rw [F25_step] at h
 exact calls_of (c := F25_code) mixed Tryz.func25 rfl (nlt rfl) (vc_sound mixed (orcCons (π := [0,1,1,1,1,1,1,1]) F25_1_ok (orcNil F25_code)) F25_code [] rfl F25_code_ok _ _ _ (rsh_out h))
noncomputable def F28_code : Code := Tryz.f28.body.getD .skip
omit [Esc] in
theorem F28_code_ok : okC Tryz.prog Tryz.f28.ntmps F28_code = true := by kernel_rfl
def F28 (x0 : Value) (x1 : Value) (w : World) (K : Value -> World -> Prop) : Prop :=
 rdB x0 fun b1 => rdI .i64 x1 fun n2 => br (!b1) (Esc.E [{ v := (.iface 113 (.agg #[(.int .i64 n2)])),recovered := false }] w) (K (.tuple #[]) w)
theorem F28_step (x0 : Value) (x1 : Value) (w : World) (K : Value -> World -> Prop) : (F28 x0 x1 w K) = rsh [(0,(.one .bool)),(1,(.one (.int .i64)))] (args0 #[x0,x1]) (fun t => vc Tryz.prog (orcOf []) [] F28_code (retQ Tryz.prog Tryz.f28 K) t w) := by kernel_rfl
theorem F28_ok {x0 x1 : Value} {w : World} {K : Value -> World -> Prop} (h : F28 x0 x1 w K) : Calls Tryz.prog 28 #[x0,x1] w (rv K) := by
 rw [F28_step] at h
 exact calls_of (c := F28_code) mixed Tryz.func28 rfl (nlt rfl) (vc_sound mixed (orcNil F28_code) F28_code [] rfl F28_code_ok _ _ _ (rsh_out h))
noncomputable def F34_code : Code := Tryz.f34.body.getD .skip
omit [Esc] in
theorem F34_code_ok : okC Tryz.prog Tryz.f34.ntmps F34_code = true := by kernel_rfl
def F34 (x0 : Value) (w : World) (K : Value -> World -> Prop) : Prop :=
 rdP x0 fun p1 => nn p1 fun a2 => ldC (a2.add 0) w fun _ l3n _ => Calls Tryz.prog 28 #[(.bool ((l3n : Int) == 0)),(.int .i64 250)] w (en fun e5 w4 => e5 = .returned (.tuple #[]) /\ (K (.tuple #[]) w4))
theorem F34_step (x0 : Value) (w : World) (K : Value -> World -> Prop) : (F34 x0 w K) = rsh [(0,(.one .ptr))] (args0 #[x0]) (fun t => vc Tryz.prog (orcOf []) [] F34_code (retQ Tryz.prog Tryz.f34 K) t w) := by kernel_rfl
theorem F34_ok {x0 : Value} {w : World} {K : Value -> World -> Prop} (h : F34 x0 w K) : Calls Tryz.prog 34 #[x0] w (rv K) := by
 rw [F34_step] at h
 exact calls_of (c := F34_code) mixed Tryz.func34 rfl (nlt rfl) (vc_sound mixed (orcNil F34_code) F34_code [] rfl F34_code_ok _ _ _ (rsh_out h))
noncomputable def F39_code : Code := Tryz.f39.body.getD .skip
omit [Esc] in
theorem F39_code_ok : okC Tryz.prog Tryz.f39.ntmps F39_code = true := by kernel_rfl
def F39_1C (Kn : World -> Prop) : Post := fun o _ w => match o with | .normal => Kn  w | .exit _ => (False) | .ret => False
def F39_1 (Kn : World -> Prop) (x0 : Value) (x1 : Value) (w : World) : Prop :=
 rdP x0 fun p1 => rdP x1 fun p2 => Calls Tryz.prog 50 #[(.pointer p1),(.string ⟨#[115,112,108,105,116]⟩)] w (en fun e4 w3 => e4 = .returned (.tuple #[]) /\ (nn p2 fun a5 => Calls Tryz.prog 62 #[(.pointer p1),(.pointer (some (a5.add 38))),(.string ⟨#[48]⟩),(.string ⟨#[49]⟩)] w3 (en fun e7 w6 => e7 = .returned (.tuple #[]) /\ (Calls Tryz.prog 50 #[(.pointer p1),(.string ⟨#[110,114]⟩)] w6 (en fun e9 w8 => e9 = .returned (.tuple #[]) /\ (nn p2 fun a10 => Calls Tryz.prog 62 #[(.pointer p1),(.pointer (some (a10.add 39))),(.string ⟨#[48]⟩),(.string ⟨#[49]⟩)] w8 (en fun e12 w11 => e12 = .returned (.tuple #[]) /\ (Calls Tryz.prog 50 #[(.pointer p1),(.string ⟨#[99,111,117,112,108,101]⟩)] w11 (en fun e14 w13 => e14 = .returned (.tuple #[]) /\ (nn p2 fun a15 => Calls Tryz.prog 62 #[(.pointer p1),(.pointer (some (a15.add 40))),(.string ⟨#[48]⟩),(.string ⟨#[49]⟩)] w13 (en fun e17 w16 => e17 = .returned (.tuple #[]) /\ (Kn w16))))))))))))
def F39_1O (Q : Post) (t : Tm) (w : World) : Prop := F39_1 (fun w => ∀ g,rsh [] (upds g []) fun t => Q .normal t w) (t 0) (t 1) w
theorem F39_1_step (Kn : World -> Prop) (t : Tm) (w : World) : (F39_1 Kn (t 0) (t 1) w) = rsh [(0,(.one .ptr)),(1,(.one .ptr))] t (fun t => vc Tryz.prog (orcOf []) [1,1,1,1,1,1,1,1,1,1,1,1,1,1,1,1,1,1,1,1,1,1] (getAt F39_code [1,1,1,1,1,1,1,1,1,1,1,1,1,1,1,1,1,1,1,1,1,1]) (F39_1C Kn) t w) := by kernel_rfl
theorem F39_1_ok : ∀ Q t w,F39_1O Q t w -> W Tryz.prog Tryz.f39.ntmps (getAt F39_code [1,1,1,1,1,1,1,1,1,1,1,1,1,1,1,1,1,1,1,1,1,1]) Q t w := by
 intro Q t w h
 unfold F39_1O at h
 rw [F39_1_step] at h
 refine (vc_sound mixed (orcNil F39_code) _ _ rfl (okC_at F39_code_ok [1,1,1,1,1,1,1,1,1,1,1,1,1,1,1,1,1,1,1,1,1,1]) _ _ _ (rsh_out h)).mono ?_
 intro o t w q
 cases o with
 | normal => exact out_ok [] q
 | exit i => exact q.elim
 | ret => exact q.elim
def F39_2C (Kn : World -> Prop) : Post := fun o _ w => match o with | .normal => Kn  w | .exit _ => (False) | .ret => False
def F39_2 (Kn : World -> Prop) (x0 : Value) (x1 : Value) (w : World) : Prop :=
 rdP x0 fun p1 => rdP x1 fun p2 => drw w fun w3 => nn p2 fun a4 => nn p2 fun a5 => nn p2 fun a6 => nn p2 fun a7 => ((alc (.cells #[(.string ⟨#[109,111,115,116]⟩),(.string ⟨#[100,101,108,97,121]⟩),(.string ⟨#[115,99,104,101,100]⟩),(.string ⟨#[99,97,112]⟩)] 9) w3 fun b8 w9 => alc (.cells #[(.pointer (some (a4.add 34))),(.pointer (some (a5.add 35))),(.pointer (some (a6.add 36))),(.pointer (some (a7.add 37)))] 129) w9 fun b10 w11 => Calls Tryz.prog 59 #[(.pointer p1),(.slice (some (Addr.mk b8 0 none)) 4 4),(.slice (some (Addr.mk b10 0 none)) 4 4)] w11 (en fun e13 w12 => e13 = .returned (.tuple #[]) /\ (F39_1 (fun w15 => ∀ _g16 : Tm,Kn w15) (.pointer p1) (.pointer p2) w12))) /\ (alc (.cells #[(.pointer (some (a4.add 34))),(.pointer (some (a5.add 35))),(.pointer (some (a6.add 36))),(.pointer (some (a7.add 37)))] 129) w3 fun b17 w18 => alc (.cells #[(.string ⟨#[109,111,115,116]⟩),(.string ⟨#[100,101,108,97,121]⟩),(.string ⟨#[115,99,104,101,100]⟩),(.string ⟨#[99,97,112]⟩)] 9) w18 fun b19 w20 => Calls Tryz.prog 59 #[(.pointer p1),(.slice (some (Addr.mk b19 0 none)) 4 4),(.slice (some (Addr.mk b17 0 none)) 4 4)] w20 (en fun e22 w21 => e22 = .returned (.tuple #[]) /\ (F39_1 (fun w24 => ∀ _g25 : Tm,Kn w24) (.pointer p1) (.pointer p2) w21))))
def F39_2O (Q : Post) (t : Tm) (w : World) : Prop := F39_2 (fun w => ∀ g,rsh [] (upds g []) fun t => Q .normal t w) (t 0) (t 1) w
theorem F39_2_step (Kn : World -> Prop) (t : Tm) (w : World) : (F39_2 Kn (t 0) (t 1) w) = rsh [(0,(.one .ptr)),(1,(.one .ptr))] t (fun t => vc Tryz.prog (orcOf [([1,1,1,1,1,1,1,1,1,1,1,1,1,1,1,1,1,1,1,1,1,1],F39_1O)]) [1,1,1,1,1,1,1,1,1,1,1,1,1,1,1,1,1,1,1,1,1] (getAt F39_code [1,1,1,1,1,1,1,1,1,1,1,1,1,1,1,1,1,1,1,1,1]) (F39_2C Kn) t w) := by kernel_rfl
theorem F39_2_ok : ∀ Q t w,F39_2O Q t w -> W Tryz.prog Tryz.f39.ntmps (getAt F39_code [1,1,1,1,1,1,1,1,1,1,1,1,1,1,1,1,1,1,1,1,1]) Q t w := by
 intro Q t w h
 unfold F39_2O at h
 rw [F39_2_step] at h
 refine (vc_sound mixed (orcCons (π := [1,1,1,1,1,1,1,1,1,1,1,1,1,1,1,1,1,1,1,1,1,1]) F39_1_ok (orcNil F39_code)) _ _ rfl (okC_at F39_code_ok [1,1,1,1,1,1,1,1,1,1,1,1,1,1,1,1,1,1,1,1,1]) _ _ _ (rsh_out h)).mono ?_
 intro o t w q
 cases o with
 | normal => exact out_ok [] q
 | exit i => exact q.elim
 | ret => exact q.elim
def F39_3C (Kn : World -> Prop) : Post := fun o _ w => match o with | .normal => Kn  w | .exit _ => (False) | .ret => False
def F39_3 (Kn : World -> Prop) (x0 : Value) (x1 : Value) (w : World) : Prop :=
 rdP x0 fun p1 => rdP x1 fun p2 => drw w fun w3 => nn p2 fun a4 => nn p2 fun a5 => nn p2 fun a6 => ((alc (.cells #[(.string ⟨#[101,114,114,111,114,115]⟩),(.string ⟨#[102,97,105,108]⟩),(.string ⟨#[112,97,117,115,101]⟩)] 9) w3 fun b7 w8 => alc (.cells #[(.pointer (some ((a4.add 31).add 0))),(.pointer (some ((a5.add 31).add 1))),(.pointer (some ((a6.add 31).add 2)))] 129) w8 fun b9 w10 => Calls Tryz.prog 59 #[(.pointer p1),(.slice (some (Addr.mk b7 0 none)) 3 3),(.slice (some (Addr.mk b9 0 none)) 3 3)] w10 (en fun e12 w11 => e12 = .returned (.tuple #[]) /\ (F39_2 (fun w14 => ∀ _g15 : Tm,Kn w14) (.pointer p1) (.pointer p2) w11))) /\ (alc (.cells #[(.pointer (some ((a4.add 31).add 0))),(.pointer (some ((a5.add 31).add 1))),(.pointer (some ((a6.add 31).add 2)))] 129) w3 fun b16 w17 => alc (.cells #[(.string ⟨#[101,114,114,111,114,115]⟩),(.string ⟨#[102,97,105,108]⟩),(.string ⟨#[112,97,117,115,101]⟩)] 9) w17 fun b18 w19 => Calls Tryz.prog 59 #[(.pointer p1),(.slice (some (Addr.mk b18 0 none)) 3 3),(.slice (some (Addr.mk b16 0 none)) 3 3)] w19 (en fun e21 w20 => e21 = .returned (.tuple #[]) /\ (F39_2 (fun w23 => ∀ _g24 : Tm,Kn w23) (.pointer p1) (.pointer p2) w20))))
def F39_3O (Q : Post) (t : Tm) (w : World) : Prop := F39_3 (fun w => ∀ g,rsh [] (upds g []) fun t => Q .normal t w) (t 0) (t 1) w
theorem F39_3_step (Kn : World -> Prop) (t : Tm) (w : World) : (F39_3 Kn (t 0) (t 1) w) = rsh [(0,(.one .ptr)),(1,(.one .ptr))] t (fun t => vc Tryz.prog (orcOf [([1,1,1,1,1,1,1,1,1,1,1,1,1,1,1,1,1,1,1,1,1,1],F39_1O),([1,1,1,1,1,1,1,1,1,1,1,1,1,1,1,1,1,1,1,1,1],F39_2O)]) [1,1,1,1,1,1,1,1,1,1,1,1,1,1,1,1,1,1,1,1] (getAt F39_code [1,1,1,1,1,1,1,1,1,1,1,1,1,1,1,1,1,1,1,1]) (F39_3C Kn) t w) := by kernel_rfl
theorem F39_3_ok : ∀ Q t w,F39_3O Q t w -> W Tryz.prog Tryz.f39.ntmps (getAt F39_code [1,1,1,1,1,1,1,1,1,1,1,1,1,1,1,1,1,1,1,1]) Q t w := by
 intro Q t w h
 unfold F39_3O at h
 rw [F39_3_step] at h
 refine (vc_sound mixed (orcCons (π := [1,1,1,1,1,1,1,1,1,1,1,1,1,1,1,1,1,1,1,1,1,1]) F39_1_ok (orcCons (π := [1,1,1,1,1,1,1,1,1,1,1,1,1,1,1,1,1,1,1,1,1]) F39_2_ok (orcNil F39_code))) _ _ rfl (okC_at F39_code_ok [1,1,1,1,1,1,1,1,1,1,1,1,1,1,1,1,1,1,1,1]) _ _ _ (rsh_out h)).mono ?_
 intro o t w q
 cases o with
 | normal => exact out_ok [] q
 | exit i => exact q.elim
 | ret => exact q.elim
def F39_4C (Kn : World -> Prop) : Post := fun o _ w => match o with | .normal => Kn  w | .exit _ => (False) | .ret => False
def F39_4 (Kn : World -> Prop) (x0 : Value) (x1 : Value) (w : World) : Prop :=
 rdP x0 fun p1 => rdP x1 fun p2 => Calls Tryz.prog 50 #[(.pointer p1),(.string ⟨#[112,111,114,116]⟩)] w (en fun e4 w3 => e4 = .returned (.tuple #[]) /\ (nn p2 fun a5 => Calls Tryz.prog 61 #[(.pointer p1),(.pointer (some ((a5.add 0).add 23)))] w3 (en fun e7 w6 => e7 = .returned (.tuple #[]) /\ (Calls Tryz.prog 50 #[(.pointer p1),(.string ⟨#[112,101,101,114]⟩)] w6 (en fun e9 w8 => e9 = .returned (.tuple #[]) /\ (nn p2 fun a10 => Calls Tryz.prog 61 #[(.pointer p1),(.pointer (some ((a10.add 0).add 24)))] w8 (en fun e12 w11 => e12 = .returned (.tuple #[]) /\ (drw w11 fun w13 => nn p2 fun a14 => nn p2 fun a15 => nn p2 fun a16 => nn p2 fun a17 => nn p2 fun a18 => nn p2 fun a19 => ((alc (.cells #[(.string ⟨#[112,97,116,104,115]⟩),(.string ⟨#[109,116,117]⟩),(.string ⟨#[98,117,102,102,101,114]⟩),(.string ⟨#[105,110,105,116]⟩),(.string ⟨#[109,105,110]⟩),(.string ⟨#[109,97,120]⟩)] 9) w13 fun b20 w21 => alc (.cells #[(.pointer (some (a14.add 25))),(.pointer (some (a15.add 26))),(.pointer (some (a16.add 27))),(.pointer (some ((a17.add 28).add 0))),(.pointer (some ((a18.add 28).add 1))),(.pointer (some ((a19.add 28).add 2)))] 129) w21 fun b22 w23 => Calls Tryz.prog 59 #[(.pointer p1),(.slice (some (Addr.mk b20 0 none)) 6 6),(.slice (some (Addr.mk b22 0 none)) 6 6)] w23 (en fun e25 w24 => e25 = .returned (.tuple #[]) /\ (F39_3 (fun w27 => ∀ _g28 : Tm,Kn w27) (.pointer p1) (.pointer p2) w24))) /\ (alc (.cells #[(.pointer (some (a14.add 25))),(.pointer (some (a15.add 26))),(.pointer (some (a16.add 27))),(.pointer (some ((a17.add 28).add 0))),(.pointer (some ((a18.add 28).add 1))),(.pointer (some ((a19.add 28).add 2)))] 129) w13 fun b29 w30 => alc (.cells #[(.string ⟨#[112,97,116,104,115]⟩),(.string ⟨#[109,116,117]⟩),(.string ⟨#[98,117,102,102,101,114]⟩),(.string ⟨#[105,110,105,116]⟩),(.string ⟨#[109,105,110]⟩),(.string ⟨#[109,97,120]⟩)] 9) w30 fun b31 w32 => Calls Tryz.prog 59 #[(.pointer p1),(.slice (some (Addr.mk b31 0 none)) 6 6),(.slice (some (Addr.mk b29 0 none)) 6 6)] w32 (en fun e34 w33 => e34 = .returned (.tuple #[]) /\ (F39_3 (fun w36 => ∀ _g37 : Tm,Kn w36) (.pointer p1) (.pointer p2) w33))))))))))))
def F39_4O (Q : Post) (t : Tm) (w : World) : Prop := F39_4 (fun w => ∀ g,rsh [] (upds g []) fun t => Q .normal t w) (t 0) (t 1) w
theorem F39_4_step (Kn : World -> Prop) (t : Tm) (w : World) : (F39_4 Kn (t 0) (t 1) w) = rsh [(0,(.one .ptr)),(1,(.one .ptr))] t (fun t => vc Tryz.prog (orcOf [([1,1,1,1,1,1,1,1,1,1,1,1,1,1,1,1,1,1,1,1,1,1],F39_1O),([1,1,1,1,1,1,1,1,1,1,1,1,1,1,1,1,1,1,1,1,1],F39_2O),([1,1,1,1,1,1,1,1,1,1,1,1,1,1,1,1,1,1,1,1],F39_3O)]) [1,1,1,1,1,1,1,1,1,1,1,1,1,1,1] (getAt F39_code [1,1,1,1,1,1,1,1,1,1,1,1,1,1,1]) (F39_4C Kn) t w) := by kernel_rfl
theorem F39_4_ok : ∀ Q t w,F39_4O Q t w -> W Tryz.prog Tryz.f39.ntmps (getAt F39_code [1,1,1,1,1,1,1,1,1,1,1,1,1,1,1]) Q t w := by
 intro Q t w h
 unfold F39_4O at h
 rw [F39_4_step] at h
 refine (vc_sound mixed (orcCons (π := [1,1,1,1,1,1,1,1,1,1,1,1,1,1,1,1,1,1,1,1,1,1]) F39_1_ok (orcCons (π := [1,1,1,1,1,1,1,1,1,1,1,1,1,1,1,1,1,1,1,1,1]) F39_2_ok (orcCons (π := [1,1,1,1,1,1,1,1,1,1,1,1,1,1,1,1,1,1,1,1]) F39_3_ok (orcNil F39_code)))) _ _ rfl (okC_at F39_code_ok [1,1,1,1,1,1,1,1,1,1,1,1,1,1,1]) _ _ _ (rsh_out h)).mono ?_
 intro o t w q
 cases o with
 | normal => exact out_ok [] q
 | exit i => exact q.elim
 | ret => exact q.elim
def F39 (x0 : Value) (x1 : Value) (w : World) (K : Value -> World -> Prop) : Prop :=
 rdP x0 fun p1 => rdP x1 fun p2 => Calls Tryz.prog 50 #[(.pointer p1),(.string ⟨#[99,111,110,102]⟩)] w (en fun e4 w3 => e4 = .returned (.tuple #[]) /\ (Calls Tryz.prog 50 #[(.pointer p1),(.string ⟨#[115,101,101,100]⟩)] w3 (en fun e6 w5 => e6 = .returned (.tuple #[]) /\ (nn p2 fun a7 => Calls Tryz.prog 57 #[(.pointer p1),(.pointer (some ((a7.add 0).add 16))),(.int .u64 18446744073709551615)] w5 (en fun e9 w8 => e9 = .returned (.tuple #[]) /\ (Calls Tryz.prog 50 #[(.pointer p1),(.string ⟨#[107,101,121]⟩)] w8 (en fun e11 w10 => e11 = .returned (.tuple #[]) /\ (nn p2 fun a12 => ∃ l13a l13n l13c,∃ w14,Sem.run Tryz.prog (Instr.sliceAt 41 (.pointer (some ((a12.add 0).add 0))) none none none) w10 = .ok (.slice l13a l13n l13c) w14 /\ (Calls Tryz.prog 58 #[(.pointer p1),(.slice l13a l13n l13c)] w14 (en fun e16 w15 => ∃ l17a l17n l17c,e16 = .returned (.slice l17a l17n l17c) /\ (Calls Tryz.prog 28 #[(.bool ((l17n : Int) == 16)),(.int .i64 250)] w15 (en fun e19 w18 => e19 = .returned (.tuple #[]) /\ (nn p2 fun a20 => ∃ l21a l21n l21c,∃ w22,Sem.run Tryz.prog (Instr.sliceAt 41 (.pointer (some ((a20.add 0).add 0))) none none none) w18 = .ok (.slice l21a l21n l21c) w22 /\ (∃ n23 w24,Sem.run Tryz.prog (Builtin.copy_ #[25,25] 3 #[(.slice l21a l21n l21c),(.slice l17a l17n l17c)]) w22 = .ok (.int .i64 n23) w24 /\ (alc (.cells #[(.string ⟨#[108,105,102,101]⟩)] 9) w24 fun b25 w26 => nn p2 fun a27 => alc (.cells #[(.pointer (some ((a27.add 0).add 17)))] 129) w26 fun b28 w29 => Calls Tryz.prog 59 #[(.pointer p1),(.slice (some (Addr.mk b25 0 none)) 1 1),(.slice (some (Addr.mk b28 0 none)) 1 1)] w29 (en fun e31 w30 => e31 = .returned (.tuple #[]) /\ (Calls Tryz.prog 50 #[(.pointer p1),(.string ⟨#[119,105,110,100,111,119]⟩)] w30 (en fun e33 w32 => e33 = .returned (.tuple #[]) /\ (nn p2 fun a34 => Calls Tryz.prog 60 #[(.pointer p1),(.pointer (some ((a34.add 0).add 18)))] w32 (en fun e36 w35 => e36 = .returned (.tuple #[]) /\ (Calls Tryz.prog 50 #[(.pointer p1),(.string ⟨#[111,117,116]⟩)] w35 (en fun e38 w37 => e38 = .returned (.tuple #[]) /\ (nn p2 fun a39 => Calls Tryz.prog 61 #[(.pointer p1),(.pointer (some ((a39.add 0).add 19)))] w37 (en fun e41 w40 => e41 = .returned (.tuple #[]) /\ (Calls Tryz.prog 50 #[(.pointer p1),(.string ⟨#[105,110]⟩)] w40 (en fun e43 w42 => e43 = .returned (.tuple #[]) /\ (nn p2 fun a44 => Calls Tryz.prog 61 #[(.pointer p1),(.pointer (some ((a44.add 0).add 20)))] w42 (en fun e46 w45 => e46 = .returned (.tuple #[]) /\ (drw w45 fun w47 => nn p2 fun a48 => nn p2 fun a49 => ((alc (.cells #[(.string ⟨#[116,114,105,101,115]⟩),(.string ⟨#[108,97,115,116,115]⟩)] 9) w47 fun b50 w51 => alc (.cells #[(.pointer (some ((a48.add 0).add 21))),(.pointer (some ((a49.add 0).add 22)))] 129) w51 fun b52 w53 => Calls Tryz.prog 59 #[(.pointer p1),(.slice (some (Addr.mk b50 0 none)) 2 2),(.slice (some (Addr.mk b52 0 none)) 2 2)] w53 (en fun e55 w54 => e55 = .returned (.tuple #[]) /\ (F39_4 (fun w57 => ∀ _g58 : Tm,K (.tuple #[]) w57) (.pointer p1) (.pointer p2) w54))) /\ (alc (.cells #[(.pointer (some ((a48.add 0).add 21))),(.pointer (some ((a49.add 0).add 22)))] 129) w47 fun b59 w60 => alc (.cells #[(.string ⟨#[116,114,105,101,115]⟩),(.string ⟨#[108,97,115,116,115]⟩)] 9) w60 fun b61 w62 => Calls Tryz.prog 59 #[(.pointer p1),(.slice (some (Addr.mk b61 0 none)) 2 2),(.slice (some (Addr.mk b59 0 none)) 2 2)] w62 (en fun e64 w63 => e64 = .returned (.tuple #[]) /\ (F39_4 (fun w66 => ∀ _g67 : Tm,K (.tuple #[]) w66) (.pointer p1) (.pointer p2) w63)))))))))))))))))))))))))))))))))
theorem F39_step (x0 : Value) (x1 : Value) (w : World) (K : Value -> World -> Prop) : (F39 x0 x1 w K) = rsh [(0,(.one .ptr)),(1,(.one .ptr))] (args0 #[x0,x1]) (fun t => vc Tryz.prog (orcOf [([1,1,1,1,1,1,1,1,1,1,1,1,1,1,1,1,1,1,1,1,1,1],F39_1O),([1,1,1,1,1,1,1,1,1,1,1,1,1,1,1,1,1,1,1,1,1],F39_2O),([1,1,1,1,1,1,1,1,1,1,1,1,1,1,1,1,1,1,1,1],F39_3O),([1,1,1,1,1,1,1,1,1,1,1,1,1,1,1],F39_4O)]) [] F39_code (retQ Tryz.prog Tryz.f39 K) t w) := by kernel_rfl
theorem F39_ok {x0 x1 : Value} {w : World} {K : Value -> World -> Prop} (h : F39 x0 x1 w K) : Calls Tryz.prog 39 #[x0,x1] w (rv K) := by
 rw [F39_step] at h
 exact calls_of (c := F39_code) mixed Tryz.func39 rfl (nlt rfl) (vc_sound mixed (orcCons (π := [1,1,1,1,1,1,1,1,1,1,1,1,1,1,1,1,1,1,1,1,1,1]) F39_1_ok (orcCons (π := [1,1,1,1,1,1,1,1,1,1,1,1,1,1,1,1,1,1,1,1,1]) F39_2_ok (orcCons (π := [1,1,1,1,1,1,1,1,1,1,1,1,1,1,1,1,1,1,1,1]) F39_3_ok (orcCons (π := [1,1,1,1,1,1,1,1,1,1,1,1,1,1,1]) F39_4_ok (orcNil F39_code))))) F39_code [] rfl F39_code_ok _ _ _ (rsh_out h))
noncomputable def F50_code : Code := Tryz.f50.body.getD .skip
omit [Esc] in
theorem F50_code_ok : okC Tryz.prog Tryz.f50.ntmps F50_code = true := by kernel_rfl
def F50 (x0 : Value) (x1 : Value) (w : World) (K : Value -> World -> Prop) : Prop :=
 rdP x0 fun p1 => rdS x1 fun s2 => nn p1 fun a3 => ldB (a3.add 1) w fun b4 => br b4 (Calls Tryz.prog 81 #[(.pointer p1)] w (en fun e6 w5 => ∃ s7,e6 = .returned (.string s7) /\ (Calls Tryz.prog 28 #[(.bool (ByteArray.toList s7 == ByteArray.toList s2)),(.int .i64 250)] w5 (en fun e9 w8 => e9 = .returned (.tuple #[]) /\ (K (.tuple #[]) w8))))) (alc (.cells #[(.string s2)] 9) w fun b10 w11 => Calls Tryz.prog 82 #[(.pointer p1),(.slice (some (Addr.mk b10 0 none)) 1 1)] w11 (en fun e13 w12 => e13 = .returned (.tuple #[]) /\ (K (.tuple #[]) w12)))
theorem F50_step (x0 : Value) (x1 : Value) (w : World) (K : Value -> World -> Prop) : (F50 x0 x1 w K) = rsh [(0,(.one .ptr)),(1,(.one .str))] (args0 #[x0,x1]) (fun t => vc Tryz.prog (orcOf []) [] F50_code (retQ Tryz.prog Tryz.f50 K) t w) := by kernel_rfl
theorem F50_ok {x0 x1 : Value} {w : World} {K : Value -> World -> Prop} (h : F50 x0 x1 w K) : Calls Tryz.prog 50 #[x0,x1] w (rv K) := by
 rw [F50_step] at h
 exact calls_of (c := F50_code) mixed Tryz.func50 rfl (nlt rfl) (vc_sound mixed (orcNil F50_code) F50_code [] rfl F50_code_ok _ _ _ (rsh_out h))
noncomputable def F57_code : Code := Tryz.f57.body.getD .skip
omit [Esc] in
theorem F57_code_ok : okC Tryz.prog Tryz.f57.ntmps F57_code = true := by kernel_rfl
def F57 (x0 : Value) (x1 : Value) (x2 : Value) (w : World) (K : Value -> World -> Prop) : Prop :=
 rdP x0 fun p1 => rdP x1 fun p2 => rdI .u64 x2 fun n3 => nn p1 fun a4 => ldB (a4.add 1) w fun b5 => br (!b5) (nn p2 fun a6 => ldI .u64 a6 w fun n7 => Calls Tryz.prog 40 #[(.int .u64 n7),(.int .i64 10)] w (en fun e9 w8 => ∃ s10,e9 = .returned (.string s10) /\ (alc (.cells #[(.string s10)] 9) w8 fun b11 w12 => Calls Tryz.prog 82 #[(.pointer p1),(.slice (some (Addr.mk b11 0 none)) 1 1)] w12 (en fun e14 w13 => e14 = .returned (.tuple #[]) /\ (K (.tuple #[]) w13))))) (Calls Tryz.prog 81 #[(.pointer p1)] w (en fun e16 w15 => ∃ s17,e16 = .returned (.string s17) /\ (Calls Tryz.prog 89 #[(.string s17),(.int .i64 10),(.int .i64 64)] w15 (en fun e19 w18 => ∃ n20,((e19 = .returned (.tuple #[(.int .u64 n20),.nilIface]) /\ (∃ b23,∃ w24,Sem.run Tryz.prog (binF Tryz.prog .eql 145 (.tmp 28) (.const .nilIface) .nilIface .nilIface) w18 = .ok (.bool b23) w24 /\ (br b23 (br (decide ((n20 : Int) <= n3)) (Calls Tryz.prog 40 #[(.int .u64 n20),(.int .i64 10)] w24 (en fun e26 w25 => ∃ s27,e26 = .returned (.string s27) /\ (Calls Tryz.prog 28 #[(.bool (ByteArray.toList s27 == ByteArray.toList s17)),(.int .i64 250)] w25 (en fun e29 w28 => e29 = .returned (.tuple #[]) /\ (nn p2 fun a30 => stc a30 (.int .u64 n20) w28 fun w31 => K (.tuple #[]) w31))))) (Calls Tryz.prog 28 #[(.bool false),(.int .i64 250)] w24 (en fun e33 w32 => e33 = .returned (.tuple #[]) /\ (nn p2 fun a34 => stc a34 (.int .u64 n20) w32 fun w35 => K (.tuple #[]) w35)))) (Calls Tryz.prog 28 #[(.bool false),(.int .i64 250)] w24 (en fun e37 w36 => e37 = .returned (.tuple #[]) /\ (nn p2 fun a38 => stc a38 (.int .u64 n20) w36 fun w39 => K (.tuple #[]) w39)))))) \/ (∃ u21 v22,e19 = .returned (.tuple #[(.int .u64 n20),(.iface u21 v22)]) /\ (∃ b40,∃ w41,Sem.run Tryz.prog (binF Tryz.prog .eql 145 (.tmp 28) (.const .nilIface) (.iface u21 v22) .nilIface) w18 = .ok (.bool b40) w41 /\ (br b40 (br (decide ((n20 : Int) <= n3)) (Calls Tryz.prog 40 #[(.int .u64 n20),(.int .i64 10)] w41 (en fun e43 w42 => ∃ s44,e43 = .returned (.string s44) /\ (Calls Tryz.prog 28 #[(.bool (ByteArray.toList s44 == ByteArray.toList s17)),(.int .i64 250)] w42 (en fun e46 w45 => e46 = .returned (.tuple #[]) /\ (nn p2 fun a47 => stc a47 (.int .u64 n20) w45 fun w48 => K (.tuple #[]) w48))))) (Calls Tryz.prog 28 #[(.bool false),(.int .i64 250)] w41 (en fun e50 w49 => e50 = .returned (.tuple #[]) /\ (nn p2 fun a51 => stc a51 (.int .u64 n20) w49 fun w52 => K (.tuple #[]) w52)))) (Calls Tryz.prog 28 #[(.bool false),(.int .i64 250)] w41 (en fun e54 w53 => e54 = .returned (.tuple #[]) /\ (nn p2 fun a55 => stc a55 (.int .u64 n20) w53 fun w56 => K (.tuple #[]) w56)))))))))))
theorem F57_step (x0 : Value) (x1 : Value) (x2 : Value) (w : World) (K : Value -> World -> Prop) : (F57 x0 x1 x2 w K) = rsh [(0,(.one .ptr)),(1,(.one .ptr)),(2,(.one (.int .u64)))] (args0 #[x0,x1,x2]) (fun t => vc Tryz.prog (orcOf []) [] F57_code (retQ Tryz.prog Tryz.f57 K) t w) := by kernel_rfl
theorem F57_ok {x0 x1 x2 : Value} {w : World} {K : Value -> World -> Prop} (h : F57 x0 x1 x2 w K) : Calls Tryz.prog 57 #[x0,x1,x2] w (rv K) := by
 rw [F57_step] at h
 exact calls_of (c := F57_code) mixed Tryz.func57 rfl (nlt rfl) (vc_sound mixed (orcNil F57_code) F57_code [] rfl F57_code_ok _ _ _ (rsh_out h))
noncomputable def F58_code : Code := Tryz.f58.body.getD .skip
omit [Esc] in
theorem F58_code_ok : okC Tryz.prog Tryz.f58.ntmps F58_code = true := by kernel_rfl
def F58_1C (Kn : Value -> Value -> Value -> World -> Prop) : Post := fun o t w => match o with | .normal => Kn (t 8) (t 9) (t 10) w | .exit _ => (False) | .ret => False
def F58_1 (Kn : Value -> Value -> Value -> World -> Prop) (x8 : Value) (x9 : Value) (x10 : Value) (x11 : Value) (x12 : Value) (w : World) : Prop :=
 rdS x8 fun s1 => rdC x9 fun l2a l2n l2c => rdI .i64 x10 fun n3 => rdI .i64 x11 fun n4 => rdI .i64 x12 fun n5 => alc (.cells #[(.int .u8 (IntKind.wrap .u8 ((bitI .or .i64 (IntKind.wrap .i64 (n4 * 2 ^ (min 4 (IntKind.bits .i64)))) n5))))] 5) w fun b6 w7 => ∃ l8a l8n l8c w9,Sem.run Tryz.prog (Builtin.append_ #[25,25] 25 #[(.slice l2a l2n l2c),(.slice (some (Addr.mk b6 0 none)) 1 1)]) w7 = .ok (.slice l8a l8n l8c) w9 /\ (Kn (.string s1) (.slice l8a l8n l8c) (.int .i64 n3) w9)
def F58_1O (Q : Post) (t : Tm) (w : World) : Prop := F58_1 (fun y8 y9 y10 w => ∀ g,rsh [(8,(.one .str)),(9,(.one .slc)),(10,(.one (.int .i64)))] (upds g [(8,y8),(9,y9),(10,y10)]) fun t => Q .normal t w) (t 8) (t 9) (t 10) (t 11) (t 12) w
theorem F58_1_step (Kn : Value -> Value -> Value -> World -> Prop) (t : Tm) (w : World) : (F58_1 Kn (t 8) (t 9) (t 10) (t 11) (t 12) w) = rsh [(8,(.one .str)),(9,(.one .slc)),(10,(.one (.int .i64))),(11,(.one (.int .i64))),(12,(.one (.int .i64)))] t (fun t => vc Tryz.prog (orcOf []) [1,1,0,0,1,0,0,1,0,1,1,1,1,1,1] (getAt F58_code [1,1,0,0,1,0,0,1,0,1,1,1,1,1,1]) (F58_1C Kn) t w) := by kernel_rfl
theorem F58_1_ok : ∀ Q t w,F58_1O Q t w -> W Tryz.prog Tryz.f58.ntmps (getAt F58_code [1,1,0,0,1,0,0,1,0,1,1,1,1,1,1]) Q t w := by
 intro Q t w h
 unfold F58_1O at h
 rw [F58_1_step] at h
 refine (vc_sound mixed (orcNil F58_code) _ _ rfl (okC_at F58_code_ok [1,1,0,0,1,0,0,1,0,1,1,1,1,1,1]) _ _ _ (rsh_out h)).mono ?_
 intro o t w q
 cases o with
 | normal => exact out_ok [8,9,10] q
 | exit i => exact q.elim
 | ret => exact q.elim
def F58_2C (K0 : Value -> Value -> Value -> World -> Prop) : Post := fun o t w => match o with | .normal => False | .exit i => (match Nat.beq i 0 with | true => K0 (t 0) (t 1) (t 5) w | false => False) | .ret => False
def F58_2B (R : Value -> Value -> Value -> Value -> Value -> Value -> World -> Prop) (K0 : Value -> Value -> Value -> World -> Prop) (x0 : Value) (x1 : Value) (x5 : Value) (x27 : Value) (x28 : Value) (x29 : Value) (w : World) : Prop :=
 rdP x0 fun p1 => rdC x1 fun l2a l2n l2c => rdC x5 fun l3a l3n l3c => rdC x27 fun l4a l4n l4c => rdI .i64 x28 fun n5 => rdI .i64 x29 fun n6 => br (decide ((n6 : Int) < n5)) (ixS 1 l4a l4n n6 fun a7 => ldI .u8 a7 w fun n8 => drw w fun w9 => ixT ⟨#[48,49,50,51,52,53,54,55,56,57,97,98,99,100,101,102]⟩ (Int.fdiv n8 (2 ^ (min 4 (IntKind.bits .u8)))) fun n10 => ixT ⟨#[48,49,50,51,52,53,54,55,56,57,97,98,99,100,101,102]⟩ (bitI .and .u8 n8 15) fun n11 => alc (.cells #[(.int .u8 n10),(.int .u8 n11)] 5) w9 fun b12 w13 => ∃ l14a l14n l14c w15,Sem.run Tryz.prog (Builtin.append_ #[25,25] 25 #[(.slice l3a l3n l3c),(.slice (some (Addr.mk b12 0 none)) 2 2)]) w13 = .ok (.slice l14a l14n l14c) w15 /\ (R (.pointer p1) (.slice l2a l2n l2c) (.slice l14a l14n l14c) (.slice l4a l4n l4c) (.int .i64 n5) (.int .i64 (IntKind.wrap .i64 (n6 + 1))) w15)) (K0 (.pointer p1) (.slice l2a l2n l2c) (.slice l3a l3n l3c) w)
def F58_2 (K0 : Value -> Value -> Value -> World -> Prop) : Nat -> Value -> Value -> Value -> Value -> Value -> Value -> World -> Prop
 | 0 => fun _ _ _ _ _ _ _ => False
 | n + 1 => F58_2B (F58_2 K0 n) K0
def F58_2O (Q : Post) (t : Tm) (w : World) : Prop := ∃ n,F58_2 (fun y0 y1 y5 w => ∀ g,rsh [(0,(.one .ptr)),(1,(.one .slc)),(5,(.one .slc))] (upds g [(0,y0),(1,y1),(5,y5)]) fun t => Q (.exit 0) t w) n (t 0) (t 1) (t 5) (t 27) (t 28) (t 29) w
theorem F58_2_step (K0 : Value -> Value -> Value -> World -> Prop) (n : Nat) (t : Tm) (w : World) : (F58_2 K0 (n + 1) (t 0) (t 1) (t 5) (t 27) (t 28) (t 29) w) = rsh [(0,(.one .ptr)),(1,(.one .slc)),(5,(.one .slc)),(27,(.one .slc)),(28,(.one (.int .i64))),(29,(.one (.int .i64)))] t (fun t => vc Tryz.prog (orcOf []) [0,0,1,0,1,1,0,1,0,1] (getAt F58_code [0,0,1,0,1,1,0,1,0,1]) (fun o t w => match o with | .normal => F58_2 K0 n (t 0) (t 1) (t 5) (t 27) (t 28) (t 29) w | .exit i => F58_2C K0 (.exit i) t w | .ret => F58_2C K0 .ret t w) t w) := by kernel_rfl
theorem F58_2_ok : ∀ Q t w,F58_2O Q t w -> W Tryz.prog Tryz.f58.ntmps (getAt F58_code [0,1,0,1,1,0,1,0,1]) Q t w := by
 intro Q t w ⟨n,h⟩
 refine (W_loop (P := Tryz.prog) (b := getAt F58_code [0,0,1,0,1,1,0,1,0,1]) (Q := F58_2C (fun y0 y1 y5 w => ∀ g,rsh [(0,(.one .ptr)),(1,(.one .slc)),(5,(.one .slc))] (upds g [(0,y0),(1,y1),(5,y5)]) fun t => Q (.exit 0) t w)) (G := fun n t w => F58_2 (fun y0 y1 y5 w => ∀ g,rsh [(0,(.one .ptr)),(1,(.one .slc)),(5,(.one .slc))] (upds g [(0,y0),(1,y1),(5,y5)]) fun t => Q (.exit 0) t w) n (t 0) (t 1) (t 5) (t 27) (t 28) (t 29) w) (fun _ _ h => h) (fun n t w h => ?_) n t w h).mono ?_
 ·rw [F58_2_step] at h
  exact vc_sound mixed (orcNil F58_code) _ _ rfl (okC_at F58_code_ok [0,0,1,0,1,1,0,1,0,1]) _ _ _ (rsh_out h)
 ·intro o t w q
  cases o with
  | normal => exact q.elim
  | exit i =>
   unfold F58_2C at q
   simp only at q
   split at q
   ·rename_i hi
    rw [nbeq] at hi
    subst hi
    exact out_ok [0,1,5] q
   ·exact q.elim
  | ret => exact q.elim
def F58_3C (K2 : Value -> World -> Prop) : Post := fun o t w => match o with | .normal => False | .exit i => (match Nat.beq i 2 with | true => K2 (t 9) w | false => False) | .ret => False
def F58_3B (R : Value -> Value -> Value -> World -> Prop) (K2 : Value -> World -> Prop) (x8 : Value) (x9 : Value) (x10 : Value) (w : World) : Prop :=
 rdS x8 fun s1 => rdC x9 fun l2a l2n l2c => rdI .i64 x10 fun n3 => br (decide ((n3 : Int) < (ByteArray.size s1 : Int))) (drw w fun w4 => ixT s1 n3 fun n5 => ixT s1 (IntKind.wrap .i64 (n3 + 1)) fun n6 => Calls Tryz.prog 67 #[(.string ⟨#[48,49,50,51,52,53,54,55,56,57,97,98,99,100,101,102]⟩),(.int .u8 n5)] w4 (en fun e8 w7 => ∃ n9,e8 = .returned (.int .i64 n9) /\ (Calls Tryz.prog 67 #[(.string ⟨#[48,49,50,51,52,53,54,55,56,57,97,98,99,100,101,102]⟩),(.int .u8 n6)] w7 (en fun e11 w10 => ∃ n12,e11 = .returned (.int .i64 n12) /\ (br (decide ((n9 : Int) >= 0)) (Calls Tryz.prog 28 #[(.bool (decide ((n12 : Int) >= 0))),(.int .i64 250)] w10 (en fun e14 w13 => e14 = .returned (.tuple #[]) /\ (F58_1 (fun y8_14 y9_14 y10_14 w16 => ∀ _g17 : Tm,rdS y8_14 fun s18 => rdC y9_14 fun l19a l19n l19c => rdI .i64 y10_14 fun n20 => R (.string s18) (.slice l19a l19n l19c) (.int .i64 (IntKind.wrap .i64 (n20 + 2))) w16) (.string s1) (.slice l2a l2n l2c) (.int .i64 n3) (.int .i64 n9) (.int .i64 n12) w13))) (Calls Tryz.prog 28 #[(.bool false),(.int .i64 250)] w10 (en fun e22 w21 => e22 = .returned (.tuple #[]) /\ (F58_1 (fun y8_22 y9_22 y10_22 w24 => ∀ _g25 : Tm,rdS y8_22 fun s26 => rdC y9_22 fun l27a l27n l27c => rdI .i64 y10_22 fun n28 => R (.string s26) (.slice l27a l27n l27c) (.int .i64 (IntKind.wrap .i64 (n28 + 2))) w24) (.string s1) (.slice l2a l2n l2c) (.int .i64 n3) (.int .i64 n9) (.int .i64 n12) w21)))))))) (K2 (.slice l2a l2n l2c) w)
def F58_3 (K2 : Value -> World -> Prop) : Nat -> Value -> Value -> Value -> World -> Prop
 | 0 => fun _ _ _ _ => False
 | n + 1 => F58_3B (F58_3 K2 n) K2
def F58_3O (Q : Post) (t : Tm) (w : World) : Prop := ∃ n,F58_3 (fun y9 w => ∀ g,rsh [(9,(.one .slc))] (upds g [(9,y9)]) fun t => Q (.exit 2) t w) n (t 8) (t 9) (t 10) w
theorem F58_3_step (K2 : Value -> World -> Prop) (n : Nat) (t : Tm) (w : World) : (F58_3 K2 (n + 1) (t 8) (t 9) (t 10) w) = rsh [(8,(.one .str)),(9,(.one .slc)),(10,(.one (.int .i64)))] t (fun t => vc Tryz.prog (orcOf [([1,1,0,0,1,0,0,1,0,1,1,1,1,1,1],F58_1O)]) [0,0,1,0,1,1,1,1,1,1] (getAt F58_code [0,0,1,0,1,1,1,1,1,1]) (fun o t w => match o with | .normal => F58_3 K2 n (t 8) (t 9) (t 10) w | .exit i => F58_3C K2 (.exit i) t w | .ret => F58_3C K2 .ret t w) t w) := by kernel_rfl
theorem F58_3_ok : ∀ Q t w,F58_3O Q t w -> W Tryz.prog Tryz.f58.ntmps (getAt F58_code [0,1,0,1,1,1,1,1,1]) Q t w := by
 intro Q t w ⟨n,h⟩
 refine (W_loop (P := Tryz.prog) (b := getAt F58_code [0,0,1,0,1,1,1,1,1,1]) (Q := F58_3C (fun y9 w => ∀ g,rsh [(9,(.one .slc))] (upds g [(9,y9)]) fun t => Q (.exit 2) t w)) (G := fun n t w => F58_3 (fun y9 w => ∀ g,rsh [(9,(.one .slc))] (upds g [(9,y9)]) fun t => Q (.exit 2) t w) n (t 8) (t 9) (t 10) w) (fun _ _ h => h) (fun n t w h => ?_) n t w h).mono ?_
 ·rw [F58_3_step] at h
  exact vc_sound mixed (orcCons (π := [1,1,0,0,1,0,0,1,0,1,1,1,1,1,1]) F58_1_ok (orcNil F58_code)) _ _ rfl (okC_at F58_code_ok [0,0,1,0,1,1,1,1,1,1]) _ _ _ (rsh_out h)
 ·intro o t w q
  cases o with
  | normal => exact q.elim
  | exit i =>
   unfold F58_3C at q
   simp only at q
   split at q
   ·rename_i hi
    rw [nbeq] at hi
    subst hi
    exact out_ok [9] q
   ·exact q.elim
  | ret => exact q.elim
def F58_4C (Kr : Value -> World -> Prop) : Post := fun o t w => match o with | .normal => False | .exit _ => (False) | .ret => Kr (t 4) w
def F58_4 (Kr : Value -> World -> Prop) (x8 : Value) (w : World) : Prop :=
 rdS x8 fun s1 => ∃ k6 : Nat,F58_3 (fun y9_1 w3 => ∀ _g4 : Tm,rdC y9_1 fun l5a l5n l5c => Kr (.slice l5a l5n l5c) w3) k6 (.string s1) (.slice none 0 0) (.int .i64 0) w
def F58_4O (Q : Post) (t : Tm) (w : World) : Prop := F58_4 (fun y4 w => ∀ g,rsh [(4,(.one .slc))] (upds g [(4,y4)]) fun t => Q .ret t w) (t 8) w
theorem F58_4_step (Kr : Value -> World -> Prop) (t : Tm) (w : World) : (F58_4 Kr (t 8) w) = rsh [(8,(.one .str))] t (fun t => vc Tryz.prog (orcOf [([1,1,0,0,1,0,0,1,0,1,1,1,1,1,1],F58_1O),([0,1,0,1,1,1,1,1,1],F58_3O)]) [1,1,1,1,1] (getAt F58_code [1,1,1,1,1]) (F58_4C Kr) t w) := by kernel_rfl
theorem F58_4_ok : ∀ Q t w,F58_4O Q t w -> W Tryz.prog Tryz.f58.ntmps (getAt F58_code [1,1,1,1,1]) Q t w := by
 intro Q t w h
 unfold F58_4O at h
 rw [F58_4_step] at h
 refine (vc_sound mixed (orcCons (π := [1,1,0,0,1,0,0,1,0,1,1,1,1,1,1]) F58_1_ok (orcCons (π := [0,1,0,1,1,1,1,1,1]) F58_3_ok (orcNil F58_code))) _ _ rfl (okC_at F58_code_ok [1,1,1,1,1]) _ _ _ (rsh_out h)).mono ?_
 intro o t w q
 cases o with
 | normal => exact q.elim
 | exit i => exact q.elim
 | ret => exact out_ok [4] q
def F58 (x0 : Value) (x1 : Value) (w : World) (K : Value -> World -> Prop) : Prop :=
 rdP x0 fun p1 => rdC x1 fun l2a l2n l2c => nn p1 fun a3 => ldB (a3.add 1) w fun b4 => br (!b4) (Calls Tryz.prog 28 #[(.bool (decide (((l2n : Int) : Int) <= 65536))),(.int .i64 1)] w (en fun e6 w5 => e6 = .returned (.tuple #[]) /\ (∃ l7a l7n l7c,∃ w8,Sem.run Tryz.prog (Instr.makeSlice 25 (.int .i64 0) (.int .i64 (IntKind.wrap .i64 ((IntKind.wrap .i64 (2 * (l2n : Int))) + 1)))) w5 = .ok (.slice l7a l7n l7c) w8 /\ (∃ k31 : Nat,F58_2 (fun y0_8 y1_8 y5_8 w10 => ∀ _g11 : Tm,rdP y0_8 fun p12 => rdC y1_8 fun l13a l13n l13c => rdC y5_8 fun l14a l14n l14c => br ((l13n : Int) == 0) (alc (.cells #[(.int .u8 45)] 5) w10 fun b15 w16 => ∃ l17a l17n l17c w18,Sem.run Tryz.prog (Builtin.append_ #[25,25] 25 #[(.slice l14a l14n l14c),(.slice (some (Addr.mk b15 0 none)) 1 1)]) w16 = .ok (.slice l17a l17n l17c) w18 /\ (∃ s19,∃ w20,Sem.run Tryz.prog (convert 25 9 (.slice l17a l17n l17c)) w18 = .ok (.string s19) w20 /\ (alc (.cells #[(.string s19)] 9) w20 fun b21 w22 => Calls Tryz.prog 82 #[(.pointer p12),(.slice (some (Addr.mk b21 0 none)) 1 1)] w22 (en fun e24 w23 => e24 = .returned (.tuple #[]) /\ (K (.slice l13a l13n l13c) w23))))) (∃ s25,∃ w26,Sem.run Tryz.prog (convert 25 9 (.slice l14a l14n l14c)) w10 = .ok (.string s25) w26 /\ (alc (.cells #[(.string s25)] 9) w26 fun b27 w28 => Calls Tryz.prog 82 #[(.pointer p12),(.slice (some (Addr.mk b27 0 none)) 1 1)] w28 (en fun e30 w29 => e30 = .returned (.tuple #[]) /\ (K (.slice l13a l13n l13c) w29))))) k31 (.pointer p1) (.slice l2a l2n l2c) (.slice l7a l7n l7c) (.slice l2a l2n l2c) (.int .i64 (l2n : Int)) (.int .i64 0) w8)))) (Calls Tryz.prog 81 #[(.pointer p1)] w (en fun e33 w32 => ∃ s34,e33 = .returned (.string s34) /\ (br (ByteArray.toList s34 == ByteArray.toList ⟨#[45]⟩) (K (.slice none 0 0) w32) (br (!(ByteArray.toList s34 == ByteArray.toList ⟨#[]⟩)) (br ((Int.tmod (ByteArray.size s34 : Int) 2) == 0) (Calls Tryz.prog 28 #[(.bool (decide (((IntKind.wrap .i64 (Int.tdiv (ByteArray.size s34 : Int) 2)) : Int) <= 65536))),(.int .i64 250)] w32 (en fun e36 w35 => e36 = .returned (.tuple #[]) /\ (F58_4 (fun y4_36 w38 => ∀ _g39 : Tm,rdC y4_36 fun l40a l40n l40c => K (.slice l40a l40n l40c) w38) (.string s34) w35))) (Calls Tryz.prog 28 #[(.bool false),(.int .i64 250)] w32 (en fun e42 w41 => e42 = .returned (.tuple #[]) /\ (F58_4 (fun y4_42 w44 => ∀ _g45 : Tm,rdC y4_42 fun l46a l46n l46c => K (.slice l46a l46n l46c) w44) (.string s34) w41)))) (Calls Tryz.prog 28 #[(.bool false),(.int .i64 250)] w32 (en fun e48 w47 => e48 = .returned (.tuple #[]) /\ (F58_4 (fun y4_48 w50 => ∀ _g51 : Tm,rdC y4_48 fun l52a l52n l52c => K (.slice l52a l52n l52c) w50) (.string s34) w47)))))))
theorem F58_step (x0 : Value) (x1 : Value) (w : World) (K : Value -> World -> Prop) : (F58 x0 x1 w K) = rsh [(0,(.one .ptr)),(1,(.one .slc))] (args0 #[x0,x1]) (fun t => vc Tryz.prog (orcOf [([1,1,0,0,1,0,0,1,0,1,1,1,1,1,1],F58_1O),([0,1,0,1,1,0,1,0,1],F58_2O),([0,1,0,1,1,1,1,1,1],F58_3O),([1,1,1,1,1],F58_4O)]) [] F58_code (retQ Tryz.prog Tryz.f58 K) t w) := by kernel_rfl
theorem F58_ok {x0 x1 : Value} {w : World} {K : Value -> World -> Prop} (h : F58 x0 x1 w K) : Calls Tryz.prog 58 #[x0,x1] w (rv K) := by
 rw [F58_step] at h
 exact calls_of (c := F58_code) mixed Tryz.func58 rfl (nlt rfl) (vc_sound mixed (orcCons (π := [1,1,0,0,1,0,0,1,0,1,1,1,1,1,1]) F58_1_ok (orcCons (π := [0,1,0,1,1,0,1,0,1]) F58_2_ok (orcCons (π := [0,1,0,1,1,1,1,1,1]) F58_3_ok (orcCons (π := [1,1,1,1,1]) F58_4_ok (orcNil F58_code))))) F58_code [] rfl F58_code_ok _ _ _ (rsh_out h))
noncomputable def F59_code : Code := Tryz.f59.body.getD .skip
omit [Esc] in
theorem F59_code_ok : okC Tryz.prog Tryz.f59.ntmps F59_code = true := by kernel_rfl
def F59_1C (K0 : World -> Prop) : Post := fun o _ w => match o with | .normal => False | .exit i => (match Nat.beq i 0 with | true => K0  w | false => False) | .ret => False
def F59_1B (R : Value -> Value -> Value -> Value -> Value -> World -> Prop) (K0 : World -> Prop) (x0 : Value) (x2 : Value) (x8 : Value) (x9 : Value) (x10 : Value) (w : World) : Prop :=
 rdP x0 fun p1 => rdC x2 fun l2a l2n l2c => rdC x8 fun l3a l3n l3c => rdI .i64 x9 fun n4 => rdI .i64 x10 fun n5 => br (decide ((n5 : Int) < n4)) (ixS 1 l3a l3n n5 fun a6 => ldS a6 w fun s7 => Calls Tryz.prog 50 #[(.pointer p1),(.string s7)] w (en fun e9 w8 => e9 = .returned (.tuple #[]) /\ (ixS 1 l2a l2n n5 fun a10 => ldP a10 w8 fun p11 => Calls Tryz.prog 90 #[(.pointer p1),(.pointer p11)] w8 (en fun e13 w12 => e13 = .returned (.tuple #[]) /\ (R (.pointer p1) (.slice l2a l2n l2c) (.slice l3a l3n l3c) (.int .i64 n4) (.int .i64 (IntKind.wrap .i64 (n5 + 1))) w12))))) (K0 w)
def F59_1 (K0 : World -> Prop) : Nat -> Value -> Value -> Value -> Value -> Value -> World -> Prop
 | 0 => fun _ _ _ _ _ _ => False
 | n + 1 => F59_1B (F59_1 K0 n) K0
def F59_1O (Q : Post) (t : Tm) (w : World) : Prop := ∃ n,F59_1 (fun w => ∀ g,rsh [] (upds g []) fun t => Q (.exit 0) t w) n (t 0) (t 2) (t 8) (t 9) (t 10) w
theorem F59_1_step (K0 : World -> Prop) (n : Nat) (t : Tm) (w : World) : (F59_1 K0 (n + 1) (t 0) (t 2) (t 8) (t 9) (t 10) w) = rsh [(0,(.one .ptr)),(2,(.one .slc)),(8,(.one .slc)),(9,(.one (.int .i64))),(10,(.one (.int .i64)))] t (fun t => vc Tryz.prog (orcOf []) [0,0,1] (getAt F59_code [0,0,1]) (fun o t w => match o with | .normal => F59_1 K0 n (t 0) (t 2) (t 8) (t 9) (t 10) w | .exit i => F59_1C K0 (.exit i) t w | .ret => F59_1C K0 .ret t w) t w) := by kernel_rfl
theorem F59_1_ok : ∀ Q t w,F59_1O Q t w -> W Tryz.prog Tryz.f59.ntmps (getAt F59_code [0,1]) Q t w := by
 intro Q t w ⟨n,h⟩
 refine (W_loop (P := Tryz.prog) (b := getAt F59_code [0,0,1]) (Q := F59_1C (fun w => ∀ g,rsh [] (upds g []) fun t => Q (.exit 0) t w)) (G := fun n t w => F59_1 (fun w => ∀ g,rsh [] (upds g []) fun t => Q (.exit 0) t w) n (t 0) (t 2) (t 8) (t 9) (t 10) w) (fun _ _ h => h) (fun n t w h => ?_) n t w h).mono ?_
 ·rw [F59_1_step] at h
  exact vc_sound mixed (orcNil F59_code) _ _ rfl (okC_at F59_code_ok [0,0,1]) _ _ _ (rsh_out h)
 ·intro o t w q
  cases o with
  | normal => exact q.elim
  | exit i =>
   unfold F59_1C at q
   simp only at q
   split at q
   ·rename_i hi
    rw [nbeq] at hi
    subst hi
    exact out_ok [] q
   ·exact q.elim
  | ret => exact q.elim
def F59 (x0 : Value) (x1 : Value) (x2 : Value) (w : World) (K : Value -> World -> Prop) : Prop :=
 rdP x0 fun p1 => rdC x1 fun l2a l2n l2c => rdC x2 fun l3a l3n l3c => ∃ k7 : Nat,F59_1 (fun w5 => ∀ _g6 : Tm,K (.tuple #[]) w5) k7 (.pointer p1) (.slice l3a l3n l3c) (.slice l2a l2n l2c) (.int .i64 (l2n : Int)) (.int .i64 0) w
theorem F59_step (x0 : Value) (x1 : Value) (x2 : Value) (w : World) (K : Value -> World -> Prop) : (F59 x0 x1 x2 w K) = rsh [(0,(.one .ptr)),(1,(.one .slc)),(2,(.one .slc))] (args0 #[x0,x1,x2]) (fun t => vc Tryz.prog (orcOf [([0,1],F59_1O)]) [] F59_code (retQ Tryz.prog Tryz.f59 K) t w) := by kernel_rfl
theorem F59_ok {x0 x1 x2 : Value} {w : World} {K : Value -> World -> Prop} (h : F59 x0 x1 x2 w K) : Calls Tryz.prog 59 #[x0,x1,x2] w (rv K) := by
 rw [F59_step] at h
 exact calls_of (c := F59_code) mixed Tryz.func59 rfl (nlt rfl) (vc_sound mixed (orcCons (π := [0,1]) F59_1_ok (orcNil F59_code)) F59_code [] rfl F59_code_ok _ _ _ (rsh_out h))
noncomputable def F60_code : Code := Tryz.f60.body.getD .skip
omit [Esc] in
theorem F60_code_ok : okC Tryz.prog Tryz.f60.ntmps F60_code = true := by kernel_rfl
def F60 (x0 : Value) (x1 : Value) (w : World) (K : Value -> World -> Prop) : Prop :=
 rdP x0 fun p1 => rdP x1 fun p2 => nn p2 fun a3 => ldI .u32 a3 w fun n4 => alc (.cells #[(.int .u64 0)] 42) w fun b5 w6 => stc (Addr.mk b5 0 none) (.int .u64 (IntKind.wrap .u64 (n4))) w6 fun w7 => Calls Tryz.prog 57 #[(.pointer p1),(.pointer (some (Addr.mk b5 0 none))),(.int .u64 (IntKind.wrap .u64 ((bitI .xor .u32 (if IntKind.signed .u32 then -1 else IntKind.max .u32) (IntKind.wrap .u32 (0))))))] w7 (en fun e9 w8 => e9 = .returned (.tuple #[]) /\ (ldI .u64 (Addr.mk b5 0 none) w8 fun n10 => nn p2 fun a11 => stc a11 (.int .u32 (IntKind.wrap .u32 (n10))) w8 fun w12 => K (.tuple #[]) w12))
theorem F60_step (x0 : Value) (x1 : Value) (w : World) (K : Value -> World -> Prop) : (F60 x0 x1 w K) = rsh [(0,(.one .ptr)),(1,(.one .ptr))] (args0 #[x0,x1]) (fun t => vc Tryz.prog (orcOf []) [] F60_code (retQ Tryz.prog Tryz.f60 K) t w) := by kernel_rfl
theorem F60_ok {x0 x1 : Value} {w : World} {K : Value -> World -> Prop} (h : F60 x0 x1 w K) : Calls Tryz.prog 60 #[x0,x1] w (rv K) := by
 rw [F60_step] at h
 exact calls_of (c := F60_code) mixed Tryz.func60 rfl (nlt rfl) (vc_sound mixed (orcNil F60_code) F60_code [] rfl F60_code_ok _ _ _ (rsh_out h))
noncomputable def F61_code : Code := Tryz.f61.body.getD .skip
omit [Esc] in
theorem F61_code_ok : okC Tryz.prog Tryz.f61.ntmps F61_code = true := by kernel_rfl
def F61 (x0 : Value) (x1 : Value) (w : World) (K : Value -> World -> Prop) : Prop :=
 rdP x0 fun p1 => rdP x1 fun p2 => nn p2 fun a3 => ldI .u16 a3 w fun n4 => alc (.cells #[(.int .u64 0)] 42) w fun b5 w6 => stc (Addr.mk b5 0 none) (.int .u64 (IntKind.wrap .u64 (n4))) w6 fun w7 => Calls Tryz.prog 57 #[(.pointer p1),(.pointer (some (Addr.mk b5 0 none))),(.int .u64 (IntKind.wrap .u64 ((bitI .xor .u16 (if IntKind.signed .u16 then -1 else IntKind.max .u16) (IntKind.wrap .u16 (0))))))] w7 (en fun e9 w8 => e9 = .returned (.tuple #[]) /\ (ldI .u64 (Addr.mk b5 0 none) w8 fun n10 => nn p2 fun a11 => stc a11 (.int .u16 (IntKind.wrap .u16 (n10))) w8 fun w12 => K (.tuple #[]) w12))
theorem F61_step (x0 : Value) (x1 : Value) (w : World) (K : Value -> World -> Prop) : (F61 x0 x1 w K) = rsh [(0,(.one .ptr)),(1,(.one .ptr))] (args0 #[x0,x1]) (fun t => vc Tryz.prog (orcOf []) [] F61_code (retQ Tryz.prog Tryz.f61 K) t w) := by kernel_rfl
theorem F61_ok {x0 x1 : Value} {w : World} {K : Value -> World -> Prop} (h : F61 x0 x1 w K) : Calls Tryz.prog 61 #[x0,x1] w (rv K) := by
 rw [F61_step] at h
 exact calls_of (c := F61_code) mixed Tryz.func61 rfl (nlt rfl) (vc_sound mixed (orcNil F61_code) F61_code [] rfl F61_code_ok _ _ _ (rsh_out h))
noncomputable def F98_code : Code := Tryz.f98.body.getD .skip
omit [Esc] in
theorem F98_code_ok : okC Tryz.prog Tryz.f98.ntmps F98_code = true := by kernel_rfl
def F98 (x0 : Value) (x1 : Value) (w : World) (K : Value -> World -> Prop) : Prop :=
 rdP x0 fun p1 => rdP x1 fun p2 => nn p2 fun a3 => ldI .u8 a3 w fun n4 => alc (.cells #[(.int .u64 0)] 42) w fun b5 w6 => stc (Addr.mk b5 0 none) (.int .u64 (IntKind.wrap .u64 (n4))) w6 fun w7 => Calls Tryz.prog 57 #[(.pointer p1),(.pointer (some (Addr.mk b5 0 none))),(.int .u64 (IntKind.wrap .u64 ((bitI .xor .u8 (if IntKind.signed .u8 then -1 else IntKind.max .u8) (IntKind.wrap .u8 (0))))))] w7 (en fun e9 w8 => e9 = .returned (.tuple #[]) /\ (ldI .u64 (Addr.mk b5 0 none) w8 fun n10 => nn p2 fun a11 => stc a11 (.int .u8 (IntKind.wrap .u8 (n10))) w8 fun w12 => K (.tuple #[]) w12))
theorem F98_step (x0 : Value) (x1 : Value) (w : World) (K : Value -> World -> Prop) : (F98 x0 x1 w K) = rsh [(0,(.one .ptr)),(1,(.one .ptr))] (args0 #[x0,x1]) (fun t => vc Tryz.prog (orcOf []) [] F98_code (retQ Tryz.prog Tryz.f98 K) t w) := by kernel_rfl
theorem F98_ok {x0 x1 : Value} {w : World} {K : Value -> World -> Prop} (h : F98 x0 x1 w K) : Calls Tryz.prog 98 #[x0,x1] w (rv K) := by
 rw [F98_step] at h
 exact calls_of (c := F98_code) mixed Tryz.func98 rfl (nlt rfl) (vc_sound mixed (orcNil F98_code) F98_code [] rfl F98_code_ok _ _ _ (rsh_out h))
noncomputable def F62_code : Code := Tryz.f62.body.getD .skip
omit [Esc] in
theorem F62_code_ok : okC Tryz.prog Tryz.f62.ntmps F62_code = true := by kernel_rfl
def F62 (x0 : Value) (x1 : Value) (x2 : Value) (x3 : Value) (w : World) (K : Value -> World -> Prop) : Prop :=
 rdP x0 fun p1 => rdP x1 fun p2 => rdS x2 fun s3 => rdS x3 fun s4 => nn p1 fun a5 => ldB (a5.add 1) w fun b6 => br (!b6) (nn p2 fun a7 => ldB a7 w fun b8 => br b8 (alc (.cells #[(.string s4)] 9) w fun b9 w10 => Calls Tryz.prog 82 #[(.pointer p1),(.slice (some (Addr.mk b9 0 none)) 1 1)] w10 (en fun e12 w11 => e12 = .returned (.tuple #[]) /\ (K (.tuple #[]) w11))) (alc (.cells #[(.string s3)] 9) w fun b13 w14 => Calls Tryz.prog 82 #[(.pointer p1),(.slice (some (Addr.mk b13 0 none)) 1 1)] w14 (en fun e16 w15 => e16 = .returned (.tuple #[]) /\ (K (.tuple #[]) w15)))) (Calls Tryz.prog 81 #[(.pointer p1)] w (en fun e18 w17 => ∃ s19,e18 = .returned (.string s19) /\ (br (ByteArray.toList s19 == ByteArray.toList s3) (Calls Tryz.prog 28 #[(.bool true),(.int .i64 250)] w17 (en fun e21 w20 => e21 = .returned (.tuple #[]) /\ (nn p2 fun a22 => stc a22 (.bool (ByteArray.toList s19 == ByteArray.toList s4)) w20 fun w23 => K (.tuple #[]) w23))) (Calls Tryz.prog 28 #[(.bool (ByteArray.toList s19 == ByteArray.toList s4)),(.int .i64 250)] w17 (en fun e25 w24 => e25 = .returned (.tuple #[]) /\ (nn p2 fun a26 => stc a26 (.bool (ByteArray.toList s19 == ByteArray.toList s4)) w24 fun w27 => K (.tuple #[]) w27))))))
theorem F62_step (x0 : Value) (x1 : Value) (x2 : Value) (x3 : Value) (w : World) (K : Value -> World -> Prop) : (F62 x0 x1 x2 x3 w K) = rsh [(0,(.one .ptr)),(1,(.one .ptr)),(2,(.one .str)),(3,(.one .str))] (args0 #[x0,x1,x2,x3]) (fun t => vc Tryz.prog (orcOf []) [] F62_code (retQ Tryz.prog Tryz.f62 K) t w) := by kernel_rfl
theorem F62_ok {x0 x1 x2 x3 : Value} {w : World} {K : Value -> World -> Prop} (h : F62 x0 x1 x2 x3 w K) : Calls Tryz.prog 62 #[x0,x1,x2,x3] w (rv K) := by
 rw [F62_step] at h
 exact calls_of (c := F62_code) mixed Tryz.func62 rfl (nlt rfl) (vc_sound mixed (orcNil F62_code) F62_code [] rfl F62_code_ok _ _ _ (rsh_out h))
noncomputable def F69_code : Code := Tryz.f69.body.getD .skip
omit [Esc] in
theorem F69_code_ok : okC Tryz.prog Tryz.f69.ntmps F69_code = true := by kernel_rfl
def F69 (x0 : Value) (w : World) (K : Value -> World -> Prop) : Prop :=
 ∃ p1 p2,x0 = (.agg #[(.pointer p1),(.pointer p2)]) /\ (alc (.cells #[(.pointer p1),(.pointer p2)] 82) w fun b3 w4 => drw w4 fun w5 => ldP ((Addr.mk b3 0 none).add 0) w5 fun p6 => ldP ((Addr.mk b3 0 none).add 1) w5 fun p7 => nn p7 fun a8 => Calls Tryz.prog 90 #[(.pointer p6),(.pointer (some (a8.add 1)))] w5 (en fun e10 w9 => e10 = .returned (.tuple #[]) /\ (K (.tuple #[]) w9)))
theorem F69_step (x0 : Value) (w : World) (K : Value -> World -> Prop) : (F69 x0 w K) = rsh [(0,(.agg [.ptr,.ptr]))] (args0 #[x0]) (fun t => vc Tryz.prog (orcOf []) [] F69_code (retQ Tryz.prog Tryz.f69 K) t w) := by kernel_rfl
theorem F69_ok {x0 : Value} {w : World} {K : Value -> World -> Prop} (h : F69 x0 w K) : Calls Tryz.prog 69 #[x0] w (rv K) := by
 rw [F69_step] at h
 exact calls_of (c := F69_code) mixed Tryz.func69 rfl (nlt rfl) (vc_sound mixed (orcNil F69_code) F69_code [] rfl F69_code_ok _ _ _ (rsh_out h))
noncomputable def F70_code : Code := Tryz.f70.body.getD .skip
omit [Esc] in
theorem F70_code_ok : okC Tryz.prog Tryz.f70.ntmps F70_code = true := by kernel_rfl
def F70 (x0 : Value) (w : World) (K : Value -> World -> Prop) : Prop :=
 ∃ p1 p2,x0 = (.agg #[(.pointer p1),(.pointer p2)]) /\ (alc (.cells #[(.pointer p1),(.pointer p2)] 82) w fun b3 w4 => drw w4 fun w5 => ldP ((Addr.mk b3 0 none).add 0) w5 fun p6 => ldP ((Addr.mk b3 0 none).add 1) w5 fun p7 => nn p7 fun a8 => Calls Tryz.prog 90 #[(.pointer p6),(.pointer (some (a8.add 2)))] w5 (en fun e10 w9 => e10 = .returned (.tuple #[]) /\ (K (.tuple #[]) w9)))
theorem F70_step (x0 : Value) (w : World) (K : Value -> World -> Prop) : (F70 x0 w K) = rsh [(0,(.agg [.ptr,.ptr]))] (args0 #[x0]) (fun t => vc Tryz.prog (orcOf []) [] F70_code (retQ Tryz.prog Tryz.f70 K) t w) := by kernel_rfl
theorem F70_ok {x0 : Value} {w : World} {K : Value -> World -> Prop} (h : F70 x0 w K) : Calls Tryz.prog 70 #[x0] w (rv K) := by
 rw [F70_step] at h
 exact calls_of (c := F70_code) mixed Tryz.func70 rfl (nlt rfl) (vc_sound mixed (orcNil F70_code) F70_code [] rfl F70_code_ok _ _ _ (rsh_out h))
noncomputable def F71_code : Code := Tryz.f71.body.getD .skip
omit [Esc] in
theorem F71_code_ok : okC Tryz.prog Tryz.f71.ntmps F71_code = true := by kernel_rfl
def F71 (x0 : Value) (w : World) (K : Value -> World -> Prop) : Prop :=
 ∃ p1 p2,x0 = (.agg #[(.pointer p1),(.pointer p2)]) /\ (alc (.cells #[(.pointer p1),(.pointer p2)] 82) w fun b3 w4 => drw w4 fun w5 => ldP ((Addr.mk b3 0 none).add 0) w5 fun p6 => ldP ((Addr.mk b3 0 none).add 1) w5 fun p7 => nn p7 fun a8 => Calls Tryz.prog 90 #[(.pointer p6),(.pointer (some (a8.add 3)))] w5 (en fun e10 w9 => e10 = .returned (.tuple #[]) /\ (K (.tuple #[]) w9)))
theorem F71_step (x0 : Value) (w : World) (K : Value -> World -> Prop) : (F71 x0 w K) = rsh [(0,(.agg [.ptr,.ptr]))] (args0 #[x0]) (fun t => vc Tryz.prog (orcOf []) [] F71_code (retQ Tryz.prog Tryz.f71 K) t w) := by kernel_rfl
theorem F71_ok {x0 : Value} {w : World} {K : Value -> World -> Prop} (h : F71 x0 w K) : Calls Tryz.prog 71 #[x0] w (rv K) := by
 rw [F71_step] at h
 exact calls_of (c := F71_code) mixed Tryz.func71 rfl (nlt rfl) (vc_sound mixed (orcNil F71_code) F71_code [] rfl F71_code_ok _ _ _ (rsh_out h))
noncomputable def F72_code : Code := Tryz.f72.body.getD .skip
omit [Esc] in
theorem F72_code_ok : okC Tryz.prog Tryz.f72.ntmps F72_code = true := by kernel_rfl
def F72 (x0 : Value) (w : World) (K : Value -> World -> Prop) : Prop :=
 ∃ p1 p2,x0 = (.agg #[(.pointer p1),(.pointer p2)]) /\ (alc (.cells #[(.pointer p1),(.pointer p2)] 82) w fun b3 w4 => drw w4 fun w5 => ldP ((Addr.mk b3 0 none).add 0) w5 fun p6 => ldP ((Addr.mk b3 0 none).add 1) w5 fun p7 => nn p7 fun a8 => Calls Tryz.prog 61 #[(.pointer p6),(.pointer (some (a8.add 7)))] w5 (en fun e10 w9 => e10 = .returned (.tuple #[]) /\ (K (.tuple #[]) w9)))
theorem F72_step (x0 : Value) (w : World) (K : Value -> World -> Prop) : (F72 x0 w K) = rsh [(0,(.agg [.ptr,.ptr]))] (args0 #[x0]) (fun t => vc Tryz.prog (orcOf []) [] F72_code (retQ Tryz.prog Tryz.f72 K) t w) := by kernel_rfl
theorem F72_ok {x0 : Value} {w : World} {K : Value -> World -> Prop} (h : F72 x0 w K) : Calls Tryz.prog 72 #[x0] w (rv K) := by
 rw [F72_step] at h
 exact calls_of (c := F72_code) mixed Tryz.func72 rfl (nlt rfl) (vc_sound mixed (orcNil F72_code) F72_code [] rfl F72_code_ok _ _ _ (rsh_out h))
noncomputable def F73_code : Code := Tryz.f73.body.getD .skip
omit [Esc] in
theorem F73_code_ok : okC Tryz.prog Tryz.f73.ntmps F73_code = true := by kernel_rfl
def F73 (x0 : Value) (w : World) (K : Value -> World -> Prop) : Prop :=
 ∃ p1 p2,x0 = (.agg #[(.pointer p1),(.pointer p2)]) /\ (alc (.cells #[(.pointer p1),(.pointer p2)] 82) w fun b3 w4 => drw w4 fun w5 => ldP ((Addr.mk b3 0 none).add 0) w5 fun p6 => ldP ((Addr.mk b3 0 none).add 1) w5 fun p7 => nn p7 fun a8 => Calls Tryz.prog 60 #[(.pointer p6),(.pointer (some (a8.add 8)))] w5 (en fun e10 w9 => e10 = .returned (.tuple #[]) /\ (K (.tuple #[]) w9)))
theorem F73_step (x0 : Value) (w : World) (K : Value -> World -> Prop) : (F73 x0 w K) = rsh [(0,(.agg [.ptr,.ptr]))] (args0 #[x0]) (fun t => vc Tryz.prog (orcOf []) [] F73_code (retQ Tryz.prog Tryz.f73 K) t w) := by kernel_rfl
theorem F73_ok {x0 : Value} {w : World} {K : Value -> World -> Prop} (h : F73 x0 w K) : Calls Tryz.prog 73 #[x0] w (rv K) := by
 rw [F73_step] at h
 exact calls_of (c := F73_code) mixed Tryz.func73 rfl (nlt rfl) (vc_sound mixed (orcNil F73_code) F73_code [] rfl F73_code_ok _ _ _ (rsh_out h))
noncomputable def F74_code : Code := Tryz.f74.body.getD .skip
omit [Esc] in
theorem F74_code_ok : okC Tryz.prog Tryz.f74.ntmps F74_code = true := by kernel_rfl
def F74 (x0 : Value) (w : World) (K : Value -> World -> Prop) : Prop :=
 ∃ p1 p2,x0 = (.agg #[(.pointer p1),(.pointer p2)]) /\ (alc (.cells #[(.pointer p1),(.pointer p2)] 82) w fun b3 w4 => drw w4 fun w5 => ldP ((Addr.mk b3 0 none).add 0) w5 fun p6 => ldP ((Addr.mk b3 0 none).add 1) w5 fun p7 => nn p7 fun a8 => Calls Tryz.prog 62 #[(.pointer p6),(.pointer (some (a8.add 9))),(.string ⟨#[111]⟩),(.string ⟨#[117]⟩)] w5 (en fun e10 w9 => e10 = .returned (.tuple #[]) /\ (K (.tuple #[]) w9)))
theorem F74_step (x0 : Value) (w : World) (K : Value -> World -> Prop) : (F74 x0 w K) = rsh [(0,(.agg [.ptr,.ptr]))] (args0 #[x0]) (fun t => vc Tryz.prog (orcOf []) [] F74_code (retQ Tryz.prog Tryz.f74 K) t w) := by kernel_rfl
theorem F74_ok {x0 : Value} {w : World} {K : Value -> World -> Prop} (h : F74 x0 w K) : Calls Tryz.prog 74 #[x0] w (rv K) := by
 rw [F74_step] at h
 exact calls_of (c := F74_code) mixed Tryz.func74 rfl (nlt rfl) (vc_sound mixed (orcNil F74_code) F74_code [] rfl F74_code_ok _ _ _ (rsh_out h))
noncomputable def F75_code : Code := Tryz.f75.body.getD .skip
omit [Esc] in
theorem F75_code_ok : okC Tryz.prog Tryz.f75.ntmps F75_code = true := by kernel_rfl
def F75 (x0 : Value) (w : World) (K : Value -> World -> Prop) : Prop :=
 ∃ p1 p2,x0 = (.agg #[(.pointer p1),(.pointer p2)]) /\ (alc (.cells #[(.pointer p1),(.pointer p2)] 82) w fun b3 w4 => drw w4 fun w5 => ∃ w6 : World,Pres w6 w5 /\ (ldP ((Addr.mk b3 0 none).add 1) w6 fun p7 => ldP ((Addr.mk b3 0 none).add 0) w5 fun p8 => ldP ((Addr.mk b3 0 none).add 1) w5 fun p9 => nn p9 fun a10 => ldC (a10.add 10) w5 fun l11a l11n l11c => Calls Tryz.prog 58 #[(.pointer p8),(.slice l11a l11n l11c)] w5 (en fun e13 w12 => ∃ l14a l14n l14c,e13 = .returned (.slice l14a l14n l14c) /\ (Pres w6 w12 /\ (nn p7 fun a15 => stc (a15.add 10) (.slice l14a l14n l14c) w12 fun w16 => K (.tuple #[]) w16)))))
theorem F75_step (x0 : Value) (w : World) (K : Value -> World -> Prop) : (F75 x0 w K) = rsh [(0,(.agg [.ptr,.ptr]))] (args0 #[x0]) (fun t => vc Tryz.prog (orcOf []) [] F75_code (retQ Tryz.prog Tryz.f75 K) t w) := by kernel_rfl
theorem F75_ok {x0 : Value} {w : World} {K : Value -> World -> Prop} (h : F75 x0 w K) : Calls Tryz.prog 75 #[x0] w (rv K) := by
 rw [F75_step] at h
 exact calls_of (c := F75_code) mixed Tryz.func75 rfl (nlt rfl) (vc_sound mixed (orcNil F75_code) F75_code [] rfl F75_code_ok _ _ _ (rsh_out h))
noncomputable def F76_code : Code := Tryz.f76.body.getD .skip
omit [Esc] in
theorem F76_code_ok : okC Tryz.prog Tryz.f76.ntmps F76_code = true := by kernel_rfl
def F76 (x0 : Value) (w : World) (K : Value -> World -> Prop) : Prop :=
 ∃ p1 p2,x0 = (.agg #[(.pointer p1),(.pointer p2)]) /\ (alc (.cells #[(.pointer p1),(.pointer p2)] 82) w fun b3 w4 => drw w4 fun w5 => ∃ w6 : World,Pres w6 w5 /\ (ldP ((Addr.mk b3 0 none).add 1) w6 fun p7 => ldP ((Addr.mk b3 0 none).add 0) w6 fun p8 => ldP ((Addr.mk b3 0 none).add 1) w5 fun p9 => nn p9 fun a10 => ldS (a10.add 11) w5 fun s11 => ∃ l12a l12n l12c,∃ w13,Sem.run Tryz.prog (convert 9 25 (.string s11)) w5 = .ok (.slice l12a l12n l12c) w13 /\ (Pres w6 w13 /\ (Calls Tryz.prog 58 #[(.pointer p8),(.slice l12a l12n l12c)] w13 (en fun e15 w14 => ∃ l16a l16n l16c,e15 = .returned (.slice l16a l16n l16c) /\ (Pres w6 w14 /\ (∃ s17,∃ w18,Sem.run Tryz.prog (convert 25 9 (.slice l16a l16n l16c)) w14 = .ok (.string s17) w18 /\ (Pres w6 w18 /\ (nn p7 fun a19 => stc (a19.add 11) (.string s17) w18 fun w20 => K (.tuple #[]) w20)))))))))
theorem F76_step (x0 : Value) (w : World) (K : Value -> World -> Prop) : (F76 x0 w K) = rsh [(0,(.agg [.ptr,.ptr]))] (args0 #[x0]) (fun t => vc Tryz.prog (orcOf []) [] F76_code (retQ Tryz.prog Tryz.f76 K) t w) := by kernel_rfl
theorem F76_ok {x0 : Value} {w : World} {K : Value -> World -> Prop} (h : F76 x0 w K) : Calls Tryz.prog 76 #[x0] w (rv K) := by
 rw [F76_step] at h
 exact calls_of (c := F76_code) mixed Tryz.func76 rfl (nlt rfl) (vc_sound mixed (orcNil F76_code) F76_code [] rfl F76_code_ok _ _ _ (rsh_out h))
noncomputable def F77_code : Code := Tryz.f77.body.getD .skip
omit [Esc] in
theorem F77_code_ok : okC Tryz.prog Tryz.f77.ntmps F77_code = true := by kernel_rfl
def F77 (x0 : Value) (w : World) (K : Value -> World -> Prop) : Prop :=
 ∃ p1 p2,x0 = (.agg #[(.pointer p1),(.pointer p2)]) /\ (alc (.cells #[(.pointer p1),(.pointer p2)] 82) w fun b3 w4 => drw w4 fun w5 => ldP ((Addr.mk b3 0 none).add 0) w5 fun p6 => ldP ((Addr.mk b3 0 none).add 1) w5 fun p7 => nn p7 fun a8 => Calls Tryz.prog 90 #[(.pointer p6),(.pointer (some (a8.add 6)))] w5 (en fun e10 w9 => e10 = .returned (.tuple #[]) /\ (K (.tuple #[]) w9)))
theorem F77_step (x0 : Value) (w : World) (K : Value -> World -> Prop) : (F77 x0 w K) = rsh [(0,(.agg [.ptr,.ptr]))] (args0 #[x0]) (fun t => vc Tryz.prog (orcOf []) [] F77_code (retQ Tryz.prog Tryz.f77 K) t w) := by kernel_rfl
theorem F77_ok {x0 : Value} {w : World} {K : Value -> World -> Prop} (h : F77 x0 w K) : Calls Tryz.prog 77 #[x0] w (rv K) := by
 rw [F77_step] at h
 exact calls_of (c := F77_code) mixed Tryz.func77 rfl (nlt rfl) (vc_sound mixed (orcNil F77_code) F77_code [] rfl F77_code_ok _ _ _ (rsh_out h))
noncomputable def F79_code : Code := Tryz.f79.body.getD .skip
omit [Esc] in
theorem F79_code_ok : okC Tryz.prog Tryz.f79.ntmps F79_code = true := by kernel_rfl
def F79 (x0 : Value) (w : World) (K : Value -> World -> Prop) : Prop :=
 ∃ p1 p2,x0 = (.agg #[(.pointer p1),(.pointer p2)]) /\ (alc (.cells #[(.pointer p1),(.pointer p2)] 82) w fun b3 w4 => drw w4 fun w5 => ldP ((Addr.mk b3 0 none).add 0) w5 fun p6 => ldP ((Addr.mk b3 0 none).add 1) w5 fun p7 => nn p7 fun a8 => Calls Tryz.prog 90 #[(.pointer p6),(.pointer (some (a8.add 4)))] w5 (en fun e10 w9 => e10 = .returned (.tuple #[]) /\ (K (.tuple #[]) w9)))
theorem F79_step (x0 : Value) (w : World) (K : Value -> World -> Prop) : (F79 x0 w K) = rsh [(0,(.agg [.ptr,.ptr]))] (args0 #[x0]) (fun t => vc Tryz.prog (orcOf []) [] F79_code (retQ Tryz.prog Tryz.f79 K) t w) := by kernel_rfl
theorem F79_ok {x0 : Value} {w : World} {K : Value -> World -> Prop} (h : F79 x0 w K) : Calls Tryz.prog 79 #[x0] w (rv K) := by
 rw [F79_step] at h
 exact calls_of (c := F79_code) mixed Tryz.func79 rfl (nlt rfl) (vc_sound mixed (orcNil F79_code) F79_code [] rfl F79_code_ok _ _ _ (rsh_out h))
noncomputable def F80_code : Code := Tryz.f80.body.getD .skip
omit [Esc] in
theorem F80_code_ok : okC Tryz.prog Tryz.f80.ntmps F80_code = true := by kernel_rfl
def F80 (x0 : Value) (w : World) (K : Value -> World -> Prop) : Prop :=
 ∃ p1 p2,x0 = (.agg #[(.pointer p1),(.pointer p2)]) /\ (alc (.cells #[(.pointer p1),(.pointer p2)] 82) w fun b3 w4 => drw w4 fun w5 => ldP ((Addr.mk b3 0 none).add 0) w5 fun p6 => ldP ((Addr.mk b3 0 none).add 1) w5 fun p7 => nn p7 fun a8 => Calls Tryz.prog 98 #[(.pointer p6),(.pointer (some (a8.add 5)))] w5 (en fun e10 w9 => e10 = .returned (.tuple #[]) /\ (K (.tuple #[]) w9)))
theorem F80_step (x0 : Value) (w : World) (K : Value -> World -> Prop) : (F80 x0 w K) = rsh [(0,(.agg [.ptr,.ptr]))] (args0 #[x0]) (fun t => vc Tryz.prog (orcOf []) [] F80_code (retQ Tryz.prog Tryz.f80 K) t w) := by kernel_rfl
theorem F80_ok {x0 : Value} {w : World} {K : Value -> World -> Prop} (h : F80 x0 w K) : Calls Tryz.prog 80 #[x0] w (rv K) := by
 rw [F80_step] at h
 exact calls_of (c := F80_code) mixed Tryz.func80 rfl (nlt rfl) (vc_sound mixed (orcNil F80_code) F80_code [] rfl F80_code_ok _ _ _ (rsh_out h))
noncomputable def F81_code : Code := Tryz.f81.body.getD .skip
omit [Esc] in
theorem F81_code_ok : okC Tryz.prog Tryz.f81.ntmps F81_code = true := by kernel_rfl
def F81 (x0 : Value) (w : World) (K : Value -> World -> Prop) : Prop :=
 rdP x0 fun p1 => nn p1 fun a2 => ldC (a2.add 0) w fun _ l3n _ => Calls Tryz.prog 28 #[(.bool (decide (((l3n : Int) : Int) > 0))),(.int .i64 250)] w (en fun e5 w4 => e5 = .returned (.tuple #[]) /\ (nn p1 fun a6 => ldC (a6.add 0) w4 fun l7a l7n _ => ixS 1 l7a l7n 0 fun a8 => ldS a8 w4 fun s9 => nn p1 fun a10 => ldC (a10.add 0) w4 fun l11a l11n l11c => slS 1 l11a l11n l11c (some (.int .i64 1)) none fun l12a l12n l12c => nn p1 fun a13 => stc (a13.add 0) (.slice l12a l12n l12c) w4 fun w14 => K (.string s9) w14))
theorem F81_step (x0 : Value) (w : World) (K : Value -> World -> Prop) : (F81 x0 w K) = rsh [(0,(.one .ptr))] (args0 #[x0]) (fun t => vc Tryz.prog (orcOf []) [] F81_code (retQ Tryz.prog Tryz.f81 K) t w) := by kernel_rfl
theorem F81_ok {x0 : Value} {w : World} {K : Value -> World -> Prop} (h : F81 x0 w K) : Calls Tryz.prog 81 #[x0] w (rv K) := by
 rw [F81_step] at h
 exact calls_of (c := F81_code) mixed Tryz.func81 rfl (nlt rfl) (vc_sound mixed (orcNil F81_code) F81_code [] rfl F81_code_ok _ _ _ (rsh_out h))
noncomputable def F90_code : Code := Tryz.f90.body.getD .skip
omit [Esc] in
theorem F90_code_ok : okC Tryz.prog Tryz.f90.ntmps F90_code = true := by kernel_rfl
def F90_1C (Kn : World -> Prop) : Post := fun o _ w => match o with | .normal => Kn  w | .exit _ => (False) | .ret => False
def F90_1 (Kn : World -> Prop) (x0 : Value) (x1 : Value) (w : World) : Prop :=
 rdP x0 fun p1 => rdP x1 fun p2 => nn p2 fun a3 => ldI .i64 a3 w fun n4 => alc (.cells #[(.int .u64 0)] 42) w fun b5 w6 => stc (Addr.mk b5 0 none) (.int .u64 (IntKind.wrap .u64 (n4))) w6 fun w7 => Calls Tryz.prog 57 #[(.pointer p1),(.pointer (some (Addr.mk b5 0 none))),(.int .u64 1099511627776)] w7 (en fun e9 w8 => e9 = .returned (.tuple #[]) /\ (ldI .u64 (Addr.mk b5 0 none) w8 fun n10 => nn p2 fun a11 => stc a11 (.int .i64 (IntKind.wrap .i64 (n10))) w8 fun w12 => Kn w12))
def F90_1O (Q : Post) (t : Tm) (w : World) : Prop := F90_1 (fun w => ∀ g,rsh [] (upds g []) fun t => Q .normal t w) (t 0) (t 1) w
theorem F90_1_step (Kn : World -> Prop) (t : Tm) (w : World) : (F90_1 Kn (t 0) (t 1) w) = rsh [(0,(.one .ptr)),(1,(.one .ptr))] t (fun t => vc Tryz.prog (orcOf []) [1] (getAt F90_code [1]) (F90_1C Kn) t w) := by kernel_rfl
theorem F90_1_ok : ∀ Q t w,F90_1O Q t w -> W Tryz.prog Tryz.f90.ntmps (getAt F90_code [1]) Q t w := by
 intro Q t w h
 unfold F90_1O at h
 rw [F90_1_step] at h
 refine (vc_sound mixed (orcNil F90_code) _ _ rfl (okC_at F90_code_ok [1]) _ _ _ (rsh_out h)).mono ?_
 intro o t w q
 cases o with
 | normal => exact out_ok [] q
 | exit i => exact q.elim
 | ret => exact q.elim
def F90 (x0 : Value) (x1 : Value) (w : World) (K : Value -> World -> Prop) : Prop :=
 rdP x0 fun p1 => rdP x1 fun p2 => nn p1 fun a3 => ldB (a3.add 1) w fun b4 => br (!b4) (nn p2 fun a5 => ldI .i64 a5 w fun n6 => br (decide ((n6 : Int) >= 0)) (nn p2 fun a7 => ldI .i64 a7 w fun n8 => Calls Tryz.prog 28 #[(.bool (decide ((n8 : Int) <= 1099511627776))),(.int .i64 1)] w (en fun e10 w9 => e10 = .returned (.tuple #[]) /\ (F90_1 (fun w12 => ∀ _g13 : Tm,K (.tuple #[]) w12) (.pointer p1) (.pointer p2) w9))) (Calls Tryz.prog 28 #[(.bool false),(.int .i64 1)] w (en fun e15 w14 => e15 = .returned (.tuple #[]) /\ (F90_1 (fun w17 => ∀ _g18 : Tm,K (.tuple #[]) w17) (.pointer p1) (.pointer p2) w14)))) (F90_1 (fun w20 => ∀ _g21 : Tm,K (.tuple #[]) w20) (.pointer p1) (.pointer p2) w)
theorem F90_step (x0 : Value) (x1 : Value) (w : World) (K : Value -> World -> Prop) : (F90 x0 x1 w K) = rsh [(0,(.one .ptr)),(1,(.one .ptr))] (args0 #[x0,x1]) (fun t => vc Tryz.prog (orcOf [([1],F90_1O)]) [] F90_code (retQ Tryz.prog Tryz.f90 K) t w) := by kernel_rfl
theorem F90_ok {x0 x1 : Value} {w : World} {K : Value -> World -> Prop} (h : F90 x0 x1 w K) : Calls Tryz.prog 90 #[x0,x1] w (rv K) := by
 rw [F90_step] at h
 exact calls_of (c := F90_code) mixed Tryz.func90 rfl (nlt rfl) (vc_sound mixed (orcCons (π := [1]) F90_1_ok (orcNil F90_code)) F90_code [] rfl F90_code_ok _ _ _ (rsh_out h))
end
end Go.Proofs.YtilenpnpnbdndaaGreatDoor
