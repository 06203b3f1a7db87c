/- Own text: part of the shallow reading of the code and of the contracts that are proved over it. -/
import Derived.Test.YtilenpnpnbdndaaGreatDoorSrR
import Derived.Test.YtilenpnpnbdndaaGreatDoorSuE
import Derived.KernelRfl
namespace Go.Sh
open Go
attribute [local instance] Esc.none
def vcRG (P : Program) (orc : Orc) (π : Path) (R : Rnd) (c : Code) (Q : Post) (t : Tm) (w : World) : Prop :=
  match c with
  | .seq (.seq a (.block i (.rangeFunc g ps _ _))) T =>
    vc P orc (0 :: 0 :: π) a (fun o t w => match o with
      | .normal => rgf P (ev t g) (fun vs w0 wb Kn Kx => bdv ps.toList vs t fun t => R t w0 wb Kn Kx) w (fun D w' => vc P orc (1 :: π) T (tl Q D) t w')
          (fun c D w' => jmp c i (tl Q D .ret t w') (vc P orc (1 :: π) T (tl Q D) t w'))
      | _ => False) t w
  | _ => False
section
variable {P : Program} {N : Fm} {t : Tm} {w : World}
theorem vcRG_sound (hm : P.follows .mixedOrders = true) {c0 : Code} {orc : Orc} (ho : OrcOk P N c0 orc) {π : Path} {R : Rnd} {c : Code} (hπ : getAt c0 π = c) (hok : okC P N c = true) {Q : Post} {ρ : Path} (hρ : ρ = 0 :: 1 :: 0 :: π)
    (hR : ∀ g ps as_ bd,getAt c0 ρ = .rangeFunc g ps as_ bd -> okC P N (.rangeFunc g ps as_ bd) = true -> ∀ t w wb Kn Kx,R t w wb Kn Kx -> W P N as_ (fun o t1 w1 => match o with | .normal => w1 = w /\ W P N bd (rndPost Kn Kx) t1 wb | _ => False) t w)
    (h : vcRG P orc π R c Q t w) : Wt P N c Q t w := by
  intro a ha
  unfold vcRG at h
  split at h
  · rename_i a0 i g ps as_ bd T
    have hR := hR g ps as_ bd (by rw [hρ]; simp [getAt,hπ,child]) (by
      have : okC P N (.seq (.seq a0 (.block i (.rangeFunc g ps as_ bd))) T) = true := hok
      rw [okC,okC,Bool.and_eq_true,Bool.and_eq_true] at this
      exact this.1.2)
    simp only [okC,Bool.and_eq_true] at hok
    have ha0 := vc_sound hm ho a0 (0 :: 0 :: π) (by simp [getAt,hπ,child]) hok.1.1 _ t w h
    refine wpIn_seq (wpIn_seq (wpIn_mono (ha0 none [] a ha) fun e y w q => ?_))
    cases e with
    | normal =>
      obtain ⟨t,hM,h⟩ := q
      have hT : ∀ D w',vc P orc (1 :: π) T (tl Q D) t w' -> T.wpIn (fw none) 0 P (upT N Q) { y with defers := [{ target := .collected D,args := #[] }] } w' := fun D w' hv =>
        wpIn_mono ((vc_sound hm ho T (1 :: π) (by simp [getAt,hπ,child]) hok.2 _ t w' hv) none _ _ ⟨hM.1,rfl,hM.2.2⟩) tl_up
      refine wpIn_block (wp_rgf hM hok.1.2.1.1 hR h ?_ ?_)
      · exact fun D w' hv => hT D w' hv
      · intro c D w' hv
        unfold jmp at hv
        split at hv
        · refine wpIn_ret ?_
          exact tl_up .ret _ _ ⟨t,⟨hM.1,rfl,hM.free.2.2⟩,hv⟩
        · rename_i j
          split at hv
          · rename_i hj
            rw [nbeq] at hj
            subst hj
            refine wpIn_exit ?_
            show if j = j then _ else _
            rw [if_pos rfl]
            exact hT D w' hv
          · exact hv.elim
        · exact hv.elim
    | exit i => obtain ⟨_,_,q⟩ := q; exact q.elim
    | ret => obtain ⟨_,_,q⟩ := q; exact q.elim
    | goto l => exact q.elim
    | panic c => exact q.2.elim
    | outgrown => exact q.elim
  · exact h.elim
end
end Go.Sh
namespace Go.Proofs.YtilenpnpnbdndaaGreatDoor
open Go Go.Sh
set_option maxRecDepth 100000
set_option maxHeartbeats 4000000
attribute [local instance] Esc.none
noncomputable def F20_code : Code := Tryz.f20.body.getD .skip
theorem F20_code_ok : okC Tryz.prog Tryz.f20.ntmps F20_code = true := by kernel_rfl
def F20_1C (Kn : Value -> World -> Prop) (Kr : World -> Prop) : Post := fun o t w => match o with | .normal => Kn (t 6) w | .exit _ => (False) | .ret => Kr  w
def F20_1 (Kn : Value -> World -> Prop) (Kr : World -> Prop) (x2 : Value) (x3 : Value) (x4 : Value) (x6 : Value) (x56 : Value) (w : World) : Prop :=
  rdA x2 fun a1 => rdA x3 fun a2 => rdA x4 fun a3 => rdA x6 fun a4 => rdB x56 fun b5 => br b5 (drw w fun w6 => ∃ w7 : World,Pres w7 w6 /\ (ldI .i64 a4 w7 fun n8 => stcL a1 0 (R60.mk 0 0 0 0 0 0 0 0 0 0 0 0 0 0 0 0 0 0 0 0 0 0 0 0 0 0 0 0 0 0 0 0 0 0 0 0 0 0 false false false 0 0 0 0 0 0 0 0 0 0 0 0 0 0 0 0 0 0 0 0 0 0 0 0 0 0 0 0 0 0 0 0 0 0 0 0 0 0 false false false none 0 0).l w6 fun w9 => Pres w7 w9 /\ (stc a2 (.int .i64 n8) w9 fun w10 => stc a3 (.int .i64 250) w10 fun w11 => Kr w11))) (Kn (.pointer (some a4)) w)
def F20_1O (Q : Post) (t : Tm) (w : World) : Prop := F20_1 (fun y6 w => ∀ g,rsh [(6,(.one .adr))] (upds g [(6,y6)]) fun t => Q .normal t w) (fun w => ∀ g,rsh [] (upds g []) fun t => Q .ret t w) (t 2) (t 3) (t 4) (t 6) (t 56) w
theorem F20_1_step (Kn : Value -> World -> Prop) (Kr : World -> Prop) (t : Tm) (w : World) : (F20_1 Kn Kr (t 2) (t 3) (t 4) (t 6) (t 56) w) = rsh [(2,(.one .adr)),(3,(.one .adr)),(4,(.one .adr)),(6,(.one .adr)),(56,(.one .bool))] t (fun t => vc Tryz.prog (orcOf []) [1,0,1,1,1,0,1,0,1,0,1,1,1,1] (getAt F20_code [1,0,1,1,1,0,1,0,1,0,1,1,1,1]) (F20_1C Kn Kr) t w) := by kernel_rfl
theorem F20_1_ok : ∀ Q t w,F20_1O Q t w -> W Tryz.prog Tryz.f20.ntmps (getAt F20_code [1,0,1,1,1,0,1,0,1,0,1,1,1,1]) Q t w := by
  intro Q t w h
  unfold F20_1O at h
  rw [F20_1_step] at h
  refine (vc_sound mixed (orcNil F20_code) _ _ rfl (okC_at F20_code_ok [1,0,1,1,1,0,1,0,1,0,1,1,1,1]) _ _ _ (rsh_out h)).mono ?_
  intro o t w q
  cases o with
  | normal => exact out_ok [6] q
  | exit i => exact q.elim
  | ret => exact out_ok [] q
def F20_2C (Kn : World -> Prop) (Kr : World -> Prop) : Post := fun o _ w => match o with | .normal => Kn  w | .exit _ => (False) | .ret => Kr  w
def F20_2 (Kn : World -> Prop) (Kr : World -> Prop) (x2 : Value) (x3 : Value) (x4 : Value) (x5 : Value) (x6 : Value) (x9 : Value) (x10 : Value) (w : World) : Prop :=
  rdA x2 fun a1 => rdA x3 fun a2 => rdA x4 fun a3 => rdA x5 fun a4 => rdA x6 fun a5 => rdB x9 fun b6 => rdI .i64 x10 fun n7 => br (!b6) (F20_1 (fun y6_7 w9 => ∀ _g10 : Tm,rdA y6_7 fun a11 => ldI .i64 a11 w9 fun n12 => stc a11 (.int .i64 (IntKind.wrap .i64 (n12 + 1))) w9 fun w13 => Kn w13) (fun w15 => ∀ _g16 : Tm,Kr w15) (.pointer (some a1)) (.pointer (some a2)) (.pointer (some a3)) (.pointer (some a5)) (.bool true) w) (br (n7 != 0) (F20_1 (fun y6_16 w18 => ∀ _g19 : Tm,rdA y6_16 fun a20 => ldI .i64 a20 w18 fun n21 => stc a20 (.int .i64 (IntKind.wrap .i64 (n21 + 1))) w18 fun w22 => Kn w22) (fun w24 => ∀ _g25 : Tm,Kr w24) (.pointer (some a1)) (.pointer (some a2)) (.pointer (some a3)) (.pointer (some a5)) (.bool true) w) (ldC (a4.add 82) w fun _ l26n _ => F20_1 (fun y6_26 w28 => ∀ _g29 : Tm,rdA y6_26 fun a30 => ldI .i64 a30 w28 fun n31 => stc a30 (.int .i64 (IntKind.wrap .i64 (n31 + 1))) w28 fun w32 => Kn w32) (fun w34 => ∀ _g35 : Tm,Kr w34) (.pointer (some a1)) (.pointer (some a2)) (.pointer (some a3)) (.pointer (some a5)) (.bool (decide (((l26n : Int) : Int) > 65536))) w))
def F20_2O (Q : Post) (t : Tm) (w : World) : Prop := F20_2 (fun w => ∀ g,rsh [] (upds g []) fun t => Q .normal t w) (fun w => ∀ g,rsh [] (upds g []) fun t => Q .ret t w) (t 2) (t 3) (t 4) (t 5) (t 6) (t 9) (t 10) w
theorem F20_2_step (Kn : World -> Prop) (Kr : World -> Prop) (t : Tm) (w : World) : (F20_2 Kn Kr (t 2) (t 3) (t 4) (t 5) (t 6) (t 9) (t 10) w) = rsh [(2,(.one .adr)),(3,(.one .adr)),(4,(.one .adr)),(5,(.one .adr)),(6,(.one .adr)),(9,(.one .bool)),(10,(.one (.int .i64)))] t (fun t => vc Tryz.prog (orcOf [([1,0,1,1,1,0,1,0,1,0,1,1,1,1],F20_1O)]) [1,1,1,0,1,0,1,0,1,1,1,1] (getAt F20_code [1,1,1,0,1,0,1,0,1,1,1,1]) (F20_2C Kn Kr) t w) := by kernel_rfl
theorem F20_2_ok : ∀ Q t w,F20_2O Q t w -> W Tryz.prog Tryz.f20.ntmps (getAt F20_code [1,1,1,0,1,0,1,0,1,1,1,1]) Q t w := by
  intro Q t w h
  unfold F20_2O at h
  rw [F20_2_step] at h
  refine (vc_sound mixed (orcCons (π := [1,0,1,1,1,0,1,0,1,0,1,1,1,1]) F20_1_ok (orcNil F20_code)) _ _ rfl (okC_at F20_code_ok [1,1,1,0,1,0,1,0,1,1,1,1]) _ _ _ (rsh_out h)).mono ?_
  intro o t w q
  cases o with
  | normal => exact out_ok [] q
  | exit i => exact q.elim
  | ret => exact out_ok [] q
def F20_3C (Kr : Value -> Value -> Value -> World -> Prop) : Post := fun o t w => match o with | .normal => False | .exit _ => (False) | .ret => Kr (t 2) (t 3) (t 4) w
def F20_3r (Kn : World -> Prop) (Kx : Code -> World -> Prop) (x2 : Value) (x3 : Value) (x4 : Value) (x5 : Value) (x6 : Value) (x18 : Value) (w wb : World) : Prop :=
  rdA x2 fun a1 => rdA x3 fun a2 => rdA x4 fun a3 => rdA x5 fun a4 => rdA x6 fun a5 => rdS x18 fun s6 => (w = w /\ (Calls Tryz.prog 46 #[(.string s6),(.string ⟨#[10]⟩)] wb (en fun e8 w7 => ∃ s9,∃ b10,e8 = .returned (.tuple #[(.string s9),(.bool b10)]) /\ (ldI .i64 a5 w7 fun n11 => br (decide ((n11 : Int) < 2)) (drw w7 fun w12 => ∃ w13 : World,Pres w13 w12 /\ (ldI .i64 a5 w13 fun n14 => Calls Tryz.prog 16 #[(.string s9)] w12 (en fun e16 w15 => exR49 fun s17 => ∃ n18,e16 = .returned (.tuple #[s17.v,(.int .i64 n18)]) /\ (Pres w13 w15 /\ (ixA 41 2 (a4.add 0) n14 fun a19 => stcL a19 0 s17.l w15 fun w20 => F20_2 (fun w22 => ∀ _g23 : Tm,Kn w22) (fun w25 => ∀ _g26 : Tm,Kx .ret w25) (.pointer (some a1)) (.pointer (some a2)) (.pointer (some a3)) (.pointer (some a4)) (.pointer (some a5)) (.bool b10) (.int .i64 n18) w20))))) (alc (.cells ((R26.mk 0 0 0 0 0 0 0 0 0 false none 0 0 ⟨#[]⟩)).c 27) w7 fun b27 w28 => Calls Tryz.prog 10 #[(.string s9)] w28 (en fun e30 w29 => exR26 fun s31 => ∃ n32,e30 = .returned (.tuple #[s31.v,(.int .i64 n32)]) /\ (stcL (Addr.mk b27 0 none) 0 s31.l w29 fun w33 => ldC (a4.add 82) w33 fun l34a l34n l34c => ldR26 (Addr.mk b27 0 none) w33 fun s35 => alc (.cells s35.c 27) w33 fun b36 w37 => ∃ l38a l38n l38c w39,Sem.run Tryz.prog (Builtin.append_ #[59,59] 59 #[(.slice l34a l34n l34c),(.slice (some (Addr.mk b36 0 none)) 1 1)]) w37 = .ok (.slice l38a l38n l38c) w39 /\ (stc (a4.add 82) (.slice l38a l38n l38c) w39 fun w40 => F20_2 (fun w42 => ∀ _g43 : Tm,Kn w42) (fun w45 => ∀ _g46 : Tm,Kx .ret w45) (.pointer (some a1)) (.pointer (some a2)) (.pointer (some a3)) (.pointer (some a4)) (.pointer (some a5)) (.bool b10) (.int .i64 n32) w40))))))))
theorem F20_3r_step (Kn : World -> Prop) (Kx : Code -> World -> Prop) (t : Tm) (w wb : World) : (F20_3r Kn Kx (t 2) (t 3) (t 4) (t 5) (t 6) (t 18) w wb) = rsh [(2,(.one .adr)),(3,(.one .adr)),(4,(.one .adr)),(5,(.one .adr)),(6,(.one .adr)),(18,(.one .str))] t (fun t => vcR Tryz.prog (orcOf [([1,0,1,1,1,0,1,0,1,0,1,1,1,1],F20_1O),([1,1,1,0,1,0,1,0,1,1,1,1],F20_2O)]) [0,1,0,1,1,1,1] (getAt F20_code [0,1,0,1,1,1,1]) Kn Kx t w wb) := by kernel_rfl
def F20_3rO (t : Tm) (w wb : World) (Kn : World -> Prop) (Kx : Code -> World -> Prop) : Prop := F20_3r Kn Kx (t 2) (t 3) (t 4) (t 5) (t 6) (t 18) w wb
def F20_3 (Kr : Value -> Value -> Value -> World -> Prop) (x0 : Value) (x2 : Value) (x3 : Value) (x4 : Value) (x5 : Value) (x6 : Value) (w : World) : Prop :=
  rdS x0 fun s1 => rdA x2 fun a2 => rdA x3 fun a3 => rdA x4 fun a4 => rdA x5 fun a5 => rdA x6 fun a6 => Calls Tryz.prog 45 #[(.string s1)] w (en fun e8 w7 => ∃ v9,e8 = .returned v9 /\ (rgf Tryz.prog v9 (fun vs10 w11 w12 Kn13 Kx14 => ∃ v15,vs10 = #[v15] /\ (F20_3r Kn13 Kx14 (.pointer (some a2)) (.pointer (some a3)) (.pointer (some a4)) (.pointer (some a5)) (.pointer (some a6)) v15 w11 w12)) w7 (fun D16 w17 => ldI .i64 a6 w17 fun n18 => br (decide ((n18 : Int) < 2)) (drw w17 fun w19 => ∃ w20 : World,Pres w20 w19 /\ (ldI .i64 a6 w20 fun n21 => stcL a2 0 (R60.mk 0 0 0 0 0 0 0 0 0 0 0 0 0 0 0 0 0 0 0 0 0 0 0 0 0 0 0 0 0 0 0 0 0 0 0 0 0 0 false false false 0 0 0 0 0 0 0 0 0 0 0 0 0 0 0 0 0 0 0 0 0 0 0 0 0 0 0 0 0 0 0 0 0 0 0 0 0 0 false false false none 0 0).l w19 fun w22 => Pres w20 w22 /\ (stc a3 (.int .i64 n21) w22 fun w23 => stc a4 (.int .i64 250) w23 fun w24 => w24.heap[D16]? = some (.deferred (some [])) /\ (Kr (.pointer (some a2)) (.pointer (some a3)) (.pointer (some a4)) (w24.putObj D16 (.deferred none)))))) (ldR60 a5 w17 fun s25 => stcL a2 0 s25.l w17 fun w26 => stc a3 (.int .i64 0) w26 fun w27 => stc a4 (.int .i64 0) w27 fun w28 => w28.heap[D16]? = some (.deferred (some [])) /\ (Kr (.pointer (some a2)) (.pointer (some a3)) (.pointer (some a4)) (w28.putObj D16 (.deferred none))))) (fun c29 D30 w31 => jmp c29 0 (w31.heap[D30]? = some (.deferred (some [])) /\ (Kr (.pointer (some a2)) (.pointer (some a3)) (.pointer (some a4)) (w31.putObj D30 (.deferred none)))) (ldI .i64 a6 w31 fun n32 => br (decide ((n32 : Int) < 2)) (drw w31 fun w33 => ∃ w34 : World,Pres w34 w33 /\ (ldI .i64 a6 w34 fun n35 => stcL a2 0 (R60.mk 0 0 0 0 0 0 0 0 0 0 0 0 0 0 0 0 0 0 0 0 0 0 0 0 0 0 0 0 0 0 0 0 0 0 0 0 0 0 false false false 0 0 0 0 0 0 0 0 0 0 0 0 0 0 0 0 0 0 0 0 0 0 0 0 0 0 0 0 0 0 0 0 0 0 0 0 0 0 false false false none 0 0).l w33 fun w36 => Pres w34 w36 /\ (stc a3 (.int .i64 n35) w36 fun w37 => stc a4 (.int .i64 250) w37 fun w38 => w38.heap[D30]? = some (.deferred (some [])) /\ (Kr (.pointer (some a2)) (.pointer (some a3)) (.pointer (some a4)) (w38.putObj D30 (.deferred none)))))) (ldR60 a5 w31 fun s39 => stcL a2 0 s39.l w31 fun w40 => stc a3 (.int .i64 0) w40 fun w41 => stc a4 (.int .i64 0) w41 fun w42 => w42.heap[D30]? = some (.deferred (some [])) /\ (Kr (.pointer (some a2)) (.pointer (some a3)) (.pointer (some a4)) (w42.putObj D30 (.deferred none))))))))
theorem F20_3_step (Kr : Value -> Value -> Value -> World -> Prop) (t : Tm) (w : World) : (F20_3 Kr (t 0) (t 2) (t 3) (t 4) (t 5) (t 6) w) = rsh [(0,(.one .str)),(2,(.one .adr)),(3,(.one .adr)),(4,(.one .adr)),(5,(.one .adr)),(6,(.one .adr))] t (fun t => vcRG Tryz.prog (orcOf [([1,0,1,1,1,0,1,0,1,0,1,1,1,1],F20_1O),([1,1,1,0,1,0,1,0,1,1,1,1],F20_2O)]) [1,1,1,1] F20_3rO (getAt F20_code [1,1,1,1]) (F20_3C Kr) t w) := by kernel_rfl
def F20_3O (Q : Post) (t : Tm) (w : World) : Prop := F20_3 (fun y2 y3 y4 w => ∀ g,rsh [(2,(.one .adr)),(3,(.one .adr)),(4,(.one .adr))] (upds g [(2,y2),(3,y3),(4,y4)]) fun t => Q .ret t w) (t 0) (t 2) (t 3) (t 4) (t 5) (t 6) w
theorem F20_3_ok : ∀ Q t w,F20_3O Q t w -> Wt Tryz.prog Tryz.f20.ntmps (getAt F20_code [1,1,1,1]) Q t w := by
  intro Q t w h
  unfold F20_3O at h
  rw [F20_3_step] at h
  refine (vcRG_sound mixed (orcCons (π := [1,0,1,1,1,0,1,0,1,0,1,1,1,1]) F20_1_ok (orcCons (π := [1,1,1,0,1,0,1,0,1,1,1,1]) F20_2_ok (orcNil F20_code))) (ρ := [0,1,0,1,1,1,1]) rfl (okC_at F20_code_ok [1,1,1,1]) rfl (fun g ps a0 bd hg hk t w wb Kn Kx h => ?_) (rsh_out h)).mono ?_
  · unfold F20_3rO at h
    rw [F20_3r_step] at h
    exact vcR_sound mixed (orcCons (π := [1,0,1,1,1,0,1,0,1,0,1,1,1,1]) F20_1_ok (orcCons (π := [1,1,1,0,1,0,1,0,1,1,1,1]) F20_2_ok (orcNil F20_code))) hg hk (rsh_out h)
  · intro o t w q
    cases o with
    | normal => exact q.elim
    | exit i => exact q.elim
    | ret => exact out_ok [2,3,4] q
def F20 (x0 : Value) (w : World) (K : Value -> World -> Prop) : Prop :=
  rdS x0 fun s1 => alc (.cells ((R60.mk 0 0 0 0 0 0 0 0 0 0 0 0 0 0 0 0 0 0 0 0 0 0 0 0 0 0 0 0 0 0 0 0 0 0 0 0 0 0 false false false 0 0 0 0 0 0 0 0 0 0 0 0 0 0 0 0 0 0 0 0 0 0 0 0 0 0 0 0 0 0 0 0 0 0 0 0 0 0 false false false none 0 0)).c 61) w fun b2 w3 => alc (.cells #[(.int .i64 0)] 3) w3 fun b4 w5 => alc (.cells #[(.int .i64 0)] 28) w5 fun b6 w7 => br (decide (((ByteArray.size s1 : Int) : Int) > 4194304)) (stcL (Addr.mk b2 0 none) 0 (R60.mk 0 0 0 0 0 0 0 0 0 0 0 0 0 0 0 0 0 0 0 0 0 0 0 0 0 0 0 0 0 0 0 0 0 0 0 0 0 0 false false false 0 0 0 0 0 0 0 0 0 0 0 0 0 0 0 0 0 0 0 0 0 0 0 0 0 0 0 0 0 0 0 0 0 0 0 0 0 0 false false false none 0 0).l w7 fun w8 => stc (Addr.mk b4 0 none) (.int .i64 0) w8 fun w9 => stc (Addr.mk b6 0 none) (.int .i64 2) w9 fun w10 => ldR60 (Addr.mk b2 0 none) w10 fun s11 => ldI .i64 (Addr.mk b4 0 none) w10 fun n12 => ldI .i64 (Addr.mk b6 0 none) w10 fun n13 => K (.tuple #[s11.v,(.int .i64 n12),(.int .i64 n13)]) w10) (alc (.cells ((R60.mk 0 0 0 0 0 0 0 0 0 0 0 0 0 0 0 0 0 0 0 0 0 0 0 0 0 0 0 0 0 0 0 0 0 0 0 0 0 0 false false false 0 0 0 0 0 0 0 0 0 0 0 0 0 0 0 0 0 0 0 0 0 0 0 0 0 0 0 0 0 0 0 0 0 0 0 0 0 0 false false false none 0 0)).c 61) w7 fun b14 w15 => alc (.cells #[(.int .i64 0)] 3) w15 fun b16 w17 => stc (Addr.mk b16 0 none) (.int .i64 0) w17 fun w18 => F20_3 (fun y2_18 y3_18 y4_18 w20 => ∀ _g21 : Tm,rdA y2_18 fun a22 => rdA y3_18 fun a23 => rdA y4_18 fun a24 => ldR60 a22 w20 fun s25 => ldI .i64 a23 w20 fun n26 => ldI .i64 a24 w20 fun n27 => K (.tuple #[s25.v,(.int .i64 n26),(.int .i64 n27)]) w20) (.string s1) (.pointer (some (Addr.mk b2 0 none))) (.pointer (some (Addr.mk b4 0 none))) (.pointer (some (Addr.mk b6 0 none))) (.pointer (some (Addr.mk b14 0 none))) (.pointer (some (Addr.mk b16 0 none))) w18)
theorem F20_step (x0 : Value) (w : World) (K : Value -> World -> Prop) : (F20 x0 w K) = rsh [(0,(.one .str))] (args0 #[x0]) (fun t => vcS Tryz.prog (orcOf [([1,0,1,1,1,0,1,0,1,0,1,1,1,1],F20_1O),([1,1,1,0,1,0,1,0,1,1,1,1],F20_2O)]) F20_3O 4 [] F20_code (retQ Tryz.prog Tryz.f20 K) t w) := by kernel_rfl
theorem F20_ok {x0 : Value} {w : World} {K : Value -> World -> Prop} (h : F20 x0 w K) : Calls Tryz.prog 20 #[x0] w fun e w' => ∃ v,e = .returned v /\ K v w' := by
  rw [F20_step] at h
  exact calls_ofT (c := F20_code) Tryz.func20 rfl (nlt rfl) (vcS_sound mixed (orcCons (π := [1,0,1,1,1,0,1,0,1,0,1,1,1,1]) F20_1_ok (orcCons (π := [1,1,1,0,1,0,1,0,1,1,1,1]) F20_2_ok (orcNil F20_code))) (fun _ _ _ h => h) 4 [] F20_code rfl F20_code_ok (fun t w h => F20_3_ok _ t w h) _ _ (rsh_out h))
end Go.Proofs.YtilenpnpnbdndaaGreatDoor
namespace Go.Proofs.YtilenpnpnbdndaaGreatDoor
open Go Go.Sh
set_option maxRecDepth 100000
attribute [local instance] Esc.none
noncomputable def E59i : TypeInfo := (Tryz.prog.info? 27).getD default
noncomputable def E59z : Value := E59i.zero.getD default
theorem E59 : ElemT Tryz.prog 59 27 12 112 E59z E59i := ⟨by kernel_rfl,by kernel_rfl,by kernel_rfl,by kernel_rfl,by kernel_rfl,by kernel_rfl,by decide⟩
theorem stcL_shift {b : Nat} (o1 : Nat) : ∀ (l : List Value) (o : Nat) (w : World) (K : World -> Prop),Go.Sh.stcL ⟨b,0,none⟩ (o1 + o) l w K -> Go.Sh.stcL ⟨b,o1,none⟩ o l w K
  | [],_,_,_,h => h
  | v :: l,o,w,K,h => by
    unfold Go.Sh.stcL at h ⊢
    rw [add_mk] at h ⊢
    rw [Nat.zero_add] at h
    refine Go.Sh.stc_mono ?_ h
    exact fun w' h' => stcL_shift o1 l (o + 1) w' K (by rw [← Nat.add_assoc]; exact h')
theorem setL_mid : ∀ (l : List Value) (cs : Array Value) (o : Nat),l.length + o <= cs.size -> (l.zipIdx o).foldl (fun c (p : Value × Nat) => c.setIfInBounds p.2 p.1) cs = (cs.toList.take o ++ (l ++ cs.toList.drop (o + l.length))).toArray
  | [],cs,o,h => by
    apply Array.toList_inj.1
    simp
  | v :: l,cs,o,h => by
    simp only [List.zipIdx_cons,List.foldl_cons]
    rw [setL_mid l _ (o + 1) (by simp at h ⊢; omega)]
    apply Array.toList_inj.1
    simp only [Array.toList_setIfInBounds]
    rw [List.take_add_one,List.take_set_of_le (Nat.le_refl _),List.getElem?_set,if_pos rfl,if_pos (by simp at h ⊢; omega),List.append_assoc,List.drop_set_of_lt (by omega)]
    simp [Nat.add_assoc,Nat.add_comm 1]
theorem mk60_t (p q : R49) (a : Option Addr) (n c : Nat) : (mk60 p q a n c).c.toList = p.l ++ (q.l ++ [.slice a n c]) := rfl
section
variable {W w : World} {M : List HP} {p q : R49} {a : Option Addr} {c n : Nat} {ds : List Dd}
theorem put_end {b : Nat} {i : Nat} {R : R49} {K : World -> Prop} (hi : i < 2) {L : List HP} {k : Nat} (h : Hs W L w) (hk : L[k]? = some (pt b (.cells (mk60 p q a n c).c 61 (0,0))))
    (hK : ∀ w',Hs W (L.set k (pt b (.cells (mk60 (if i = 0 then R else p) (if i = 0 then q else R) a n c).c 61 (0,0)))) w' -> K w') : Go.Sh.stcL ⟨b,i * 41,none⟩ 0 R.l w K := by
  refine stcL_shift (i * 41) R.l 0 w K ?_
  rw [Nat.add_zero]
  refine Hs.stcs R.l k (i * 41) h hk (by rw [R49.l_len,R60.c_size]; omega) fun w' h' => hK w' ?_
  have e : (R.l.zipIdx (i * 41)).foldl (fun c (p : Value × Nat) => c.setIfInBounds p.2 p.1) (mk60 p q a n c).c = (mk60 (if i = 0 then R else p) (if i = 0 then q else R) a n c).c := by
    rw [setL_mid _ _ _ (by rw [R49.l_len,R60.c_size]; omega)]
    apply Array.toList_inj.1
    rw [mk60_t,mk60_t,R49.l_len]
    have hp := R49.l_len p
    have hq := R49.l_len q
    rcases (show i = 0 \/ i = 1 by omega) with rfl | rfl
    · rw [if_pos rfl,if_pos rfl,Nat.zero_mul,List.take_zero,List.nil_append,Nat.zero_add,List.drop_left' hp]
    · rw [if_neg (by decide),if_neg (by decide),Nat.one_mul,List.take_left' hp,← List.append_assoc p.l q.l,List.drop_left' (by rw [List.length_append,hp,hq])]
  rw [e] at h'
  exact h'
abbrev zero60 : Array Value := (mk60 R49.zz R49.zz none 0 0).c
abbrev rdL (W : World) (b2 b4 b6 b14 b16 i : Nat) (p q : R49) (a : Option Addr) (c : Nat) (ds : List Dd) (M : List HP) : List HP :=
  pt b16 (.cells #[.int .i64 (i : Int)] 3 (0,0)) :: pt b14 (.cells (mk60 p q a ds.length c).c 61 (0,0)) :: slP 27 12 a ds.length c (ds.flatMap fun d => d.1.l) :: pt b6 (.cells #[.int .i64 0] 28 (0,0)) :: pt b4 (.cells #[.int .i64 0] 3 (0,0)) :: pt b2 (.cells zero60 61 (0,0)) :: (ds.reverse.map (fun d => dtP W d.1.c d.2) ++ M)
abbrev rtL (b2 b4 b6 i : Nat) (M : List HP) : List HP :=
  pt b6 (.cells #[.int .i64 250] 28 (0,0)) :: pt b4 (.cells #[.int .i64 (i : Int)] 3 (0,0)) :: pt b2 (.cells zero60 61 (0,0)) :: M
variable {b2 b4 b6 b14 b16 i : Nat}
theorem F20_1_go {Kn : Value -> World -> Prop} {Kr : World -> Prop} {bb : Bool} (h : Hs W (rdL W b2 b4 b6 b14 b16 i p q a c ds M) w)
    (hr : bb = true -> ∀ w',Hs W (rtL b2 b4 b6 i M) w' -> Kr w') (hn : bb = false -> Kn (.pointer (some ⟨b16,0,none⟩)) w) :
    F20_1 Kn Kr (.pointer (some ⟨b2,0,none⟩)) (.pointer (some ⟨b4,0,none⟩)) (.pointer (some ⟨b6,0,none⟩)) (.pointer (some ⟨b16,0,none⟩)) (.bool bb) w := by
  unfold F20_1
  simp only [rdA_mk,rdB_mk]
  cases bb with
  | false => rw [br_false]; exact hn rfl
  | true =>
    rw [br_true]
    refine h.drw fun w6 h6 => ⟨Go.Sh.lone w6 b16 _,Go.Sh.Pres.lone (h6.at 0 rfl),?_⟩
    refine ldI_c (n := (i : Int)) ?_ ?_
    · have := Go.Sh.lone_at w6 b16 (.cells #[.int .i64 (i : Int)] 3 (0,0))
      rw [cell_at this]
      rfl
    · refine h6.stcL 5 rfl (by rfl) fun w9 h9 => ?_
      have h9 : Hs W (rdL W b2 b4 b6 b14 b16 i p q a c ds M) w9 := h9
      refine ⟨Go.Sh.Pres.lone (h9.at 0 rfl),?_⟩
      refine h9.stc 4 rfl (by simp) fun w10 h10 => ?_
      refine h10.stc 3 rfl (by simp) fun w11 h11 => ?_
      have h11 : Hs W (pt b16 (.cells #[.int .i64 (i : Int)] 3 (0,0)) :: pt b14 (.cells (mk60 p q a ds.length c).c 61 (0,0)) :: slP 27 12 a ds.length c (ds.flatMap fun d => d.1.l) :: pt b6 (.cells #[.int .i64 250] 28 (0,0)) :: pt b4 (.cells #[.int .i64 (i : Int)] 3 (0,0)) :: pt b2 (.cells zero60 61 (0,0)) :: (ds.reverse.map (fun d => dtP W d.1.c d.2) ++ M)) w11 := h11
      refine hr rfl w11 ?_
      have h12 := h11.drop.drop.drop
      have h13 : Hs W (ds.reverse.map (fun d => dtP W d.1.c d.2) ++ (pt b6 (.cells #[.int .i64 250] 28 (0,0)) :: pt b4 (.cells #[.int .i64 (i : Int)] 3 (0,0)) :: pt b2 (.cells zero60 61 (0,0)) :: M)) w11 :=
        h12.perm (by
          have := (List.perm_append_comm (l₁ := [pt b6 (.cells #[.int .i64 250] 28 (0,0)),pt b4 (.cells #[.int .i64 (i : Int)] 3 (0,0)),pt b2 (.cells zero60 61 (0,0))]) (l₂ := ds.reverse.map (fun d => dtP W d.1.c d.2))).append_right M
          simpa using this)
      exact h13.dropL
theorem F20_2_go {Kn : World -> Prop} {Kr : World -> Prop} {ok : Bool} {e : Int} (hi : i < 4611686018427387904) (h : Hs W (rdL W b2 b4 b6 b14 b16 i p q a c ds M) w)
    (hn : ok = true -> e = 0 -> ds.length <= 65536 -> ∀ w',Hs W (rdL W b2 b4 b6 b14 b16 (i + 1) p q a c ds M) w' -> Kn w')
    (hr : (ok = true -> e = 0 -> ¬ ds.length <= 65536) -> ∀ w',Hs W (rtL b2 b4 b6 i M) w' -> Kr w') :
    F20_2 Kn Kr (.pointer (some ⟨b2,0,none⟩)) (.pointer (some ⟨b4,0,none⟩)) (.pointer (some ⟨b6,0,none⟩)) (.pointer (some ⟨b14,0,none⟩)) (.pointer (some ⟨b16,0,none⟩)) (.bool ok) (.int .i64 e) w := by
  unfold F20_2
  simp only [rdA_mk,rdB_mk,rdI_mk]
  cases ok with
  | false =>
    rw [Bool.not_false,br_true]
    refine F20_1_go h (fun _ w' h' => ?_) fun h => by cases h
    intro _
    exact hr (fun h => by cases h) w' h'
  | true =>
    rw [Bool.not_true,br_false]
    by_cases he : e = 0
    · subst he
      have e0 : ((0 : Int) != 0) = false := rfl
      rw [e0,br_false]
      refine ldC_c (at_d (h.atL 1 rfl)) ?_
      refine F20_1_go h (fun hb w' h' => ?_) fun hb => ?_
      · intro _
        exact hr (fun _ _ => by have := of_decide_eq_true hb; omega) w' h'
      · intro _
        simp only [rdA_mk]
        refine h.ldI 0 rfl rfl ?_
        refine h.stc 0 rfl (by simp) fun w13 h13 => ?_
        have e3 : IntKind.wrap .i64 ((i : Int) + 1) = ((i + 1 : Nat) : Int) := by rw [wrap_i64 (by omega) (by omega)]; simp
        rw [e3] at h13
        exact hn rfl rfl (by have := of_decide_eq_false hb; omega) w13 h13
    · have e0 : (e != 0) = true := by simpa using he
      rw [e0,br_true]
      refine F20_1_go h (fun _ w' h' => ?_) fun h => by cases h
      intro _
      exact hr (fun _ h => absurd h he) w' h'
theorem body_go {Kn : World -> Prop} {Kx : Code -> World -> Prop} {ok : Bool} {piece : ByteArray} {u : List UInt8} {w0 : World} (hT : TB W) (hu : u.length <= 8000000)
    (hcut : ∀ w,Calls Tryz.prog 46 #[.string piece,.string ⟨#[10]⟩] w (rt (KR (.tuple #[.string (bs u),.bool ok]) w)))
    (hi : i < 4611686018427387904) (hl : ds.length <= 65536) (h : Hs W (rdL W b2 b4 b6 b14 b16 i p q a c ds M) w)
    (hn1 : i < 2 -> ok = true -> ∀ R,IsConf (bs u) R -> ∀ w',Hs W (rdL W b2 b4 b6 b14 b16 (i + 1) (if i = 0 then R else p) (if i = 0 then q else R) a c ds M) w' -> Kn w')
    (hn2 : 2 <= i -> ok = true -> ds.length + 1 <= 65536 -> ∀ (d : Dd) (a' : Option Addr) (c' : Nat),IsDeed (bs u) d.1 d.2 -> ∀ w',Hs W (rdL W b2 b4 b6 b14 b16 (i + 1) p q a' c' (ds ++ [d]) M) w' -> Kn w')
    (hr : (ok = true -> i < 2 -> ¬ ∃ R,IsConf (bs u) R) -> (ok = true -> 2 <= i -> ds.length + 1 <= 65536 -> ¬ ∃ R d,IsDeed (bs u) R d) -> ∀ w',Hs W (rtL b2 b4 b6 i M) w' -> Kx .ret w') :
    F20_3r Kn Kx (.pointer (some ⟨b2,0,none⟩)) (.pointer (some ⟨b4,0,none⟩)) (.pointer (some ⟨b6,0,none⟩)) (.pointer (some ⟨b14,0,none⟩)) (.pointer (some ⟨b16,0,none⟩)) (.string piece) w0 w := by
  unfold F20_3r
  simp only [rdA_mk,rdS_mk]
  refine ⟨trivial,?_⟩
  refine clr (hcut w) ⟨_,_,rfl,?_⟩
  refine h.ldI 0 rfl rfl ?_
  have hus : (bs u).size <= 8000000 := hu
  refine br_dec.2 ⟨fun hi2 => ?_,fun hi2 => ?_⟩
  · refine h.drw fun w12 h12 => ⟨w12,Pres.of_Same (Fr.refl w12),?_⟩
    refine h12.ldI 0 rfl rfl ?_
    refine cl (c16q (hT.same h12.old) (Hs.start w12) hus) ?_
    rintro _ w15 ⟨R,N,rfl,hA,h15⟩
    refine exR49_of R ⟨_,rfl,Pres.of_Same h15.old,?_⟩
    have h16 := h12.same h15.old
    refine ⟨⟨by omega,by omega⟩,?_⟩
    rw [Int.toNat_natCast]
    have ea : ((Addr.mk b14 0 none).add 0).add (i * 41) = ⟨b14,i * 41,none⟩ := by simp [add_mk]
    rw [ea]
    refine put_end (by omega) h16 (k := 1) rfl fun w20 h20 => ?_
    have h20 : Hs W (rdL W b2 b4 b6 b14 b16 i (if i = 0 then R else p) (if i = 0 then q else R) a c ds M) w20 := h20
    refine F20_2_go hi h20 (fun ho he _ w' h' => ?_) (fun hno w' h' => ?_)
    · intro _
      rcases hA with ⟨hC,_⟩ | ⟨_,_,hN⟩
      · exact hn1 (by omega) ho R hC w' h'
      · rw [hN] at he; cases he
    · intro _
      refine hr (fun ho _ => ?_) (fun _ h2 => by omega) w' h'
      rcases hA with ⟨hC,hN⟩ | ⟨hno2,_⟩
      · exact absurd hl (hno ho hN)
      · exact hno2
  · refine h.alc fun b27 w28 h28 => ?_
    have h28 : Hs W (pt b27 (.cells R26.zz.c 27 (0,0)) :: rdL W b2 b4 b6 b14 b16 i p q a c ds M) w28 := h28
    refine cl (c10q hT h28 hus) ?_
    rintro _ w29 ⟨R,dat,N,rfl,hD,h29⟩
    refine exR26_of R ⟨_,rfl,?_⟩
    refine h29.stcL 1 rfl (by rfl) fun w33 h33 => ?_
    have h33 : Hs W (dtP W R.c dat :: pt b27 (.cells R.c 27 (0,0)) :: rdL W b2 b4 b6 b14 b16 i p q a c ds M) w33 := h33
    refine ldC_c (at_d (h33.atL 3 rfl)) ?_
    refine ldR26_of (s := R) (h33.atL 1 rfl) ?_
    unfold alc
    refine h33.push E59 4 rfl (news := R.c) rfl (by intro u hu; simp [R26.c] at hu; rcases hu with rfl | rfl | rfl | rfl | rfl | rfl | rfl | rfl | rfl | rfl | rfl | rfl <;> rfl) (by omega) (by omega) fun a' c' w39 h39 => ?_
    have h39 : Hs W (dtP W R.c dat :: pt b27 (.cells R.c 27 (0,0)) :: pt b16 (.cells #[.int .i64 (i : Int)] 3 (0,0)) :: pt b14 (.cells (mk60 p q a ds.length c).c 61 (0,0)) :: slP 27 12 a' (ds.length + 1) c' (ds.flatMap (fun d => d.1.l) ++ R.l) :: pt b6 (.cells #[.int .i64 0] 28 (0,0)) :: pt b4 (.cells #[.int .i64 0] 3 (0,0)) :: pt b2 (.cells zero60 61 (0,0)) :: (ds.reverse.map (fun d => dtP W d.1.c d.2) ++ M)) w39 := h39
    refine h39.stc 3 rfl (by rw [R60.c_size]; show 0 + 82 < 83; omega) fun w40 h40 => ?_
    have h41 : Hs W (dtP W R.c dat :: pt b27 (.cells R.c 27 (0,0)) :: pt b16 (.cells #[.int .i64 (i : Int)] 3 (0,0)) :: pt b14 (.cells (mk60 p q a' (ds.length + 1) c').c 61 (0,0)) :: slP 27 12 a' (ds.length + 1) c' (ds.flatMap (fun d => d.1.l) ++ R.l) :: pt b6 (.cells #[.int .i64 0] 28 (0,0)) :: pt b4 (.cells #[.int .i64 0] 3 (0,0)) :: pt b2 (.cells zero60 61 (0,0)) :: (ds.reverse.map (fun d => dtP W d.1.c d.2) ++ M)) w40 := h40
    have el : (ds ++ [(R,dat)]).length = ds.length + 1 := by simp
    have ef : (ds ++ [(R,dat)]).flatMap (fun d => d.1.l) = ds.flatMap (fun d => d.1.l) ++ R.l := by simp
    have h42 : Hs W (rdL W b2 b4 b6 b14 b16 i p q a' c' (ds ++ [(R,dat)]) M) w40 := by
      have h5 := h41.erase 1
      have h6 := Hs.behind (L := [pt b16 (.cells #[.int .i64 (i : Int)] 3 (0,0)),pt b14 (.cells (mk60 p q a' (ds.length + 1) c').c 61 (0,0)),slP 27 12 a' (ds.length + 1) c' (ds.flatMap (fun d => d.1.l) ++ R.l),pt b6 (.cells #[.int .i64 0] 28 (0,0)),pt b4 (.cells #[.int .i64 0] 3 (0,0)),pt b2 (.cells zero60 61 (0,0))]) h5
      have er : (ds ++ [(R,dat)]).reverse = (R,dat) :: ds.reverse := by simp
      show Hs W (pt b16 _ :: pt b14 (.cells (mk60 p q a' (ds ++ [(R,dat)]).length c').c 61 (0,0)) :: slP 27 12 a' (ds ++ [(R,dat)]).length c' ((ds ++ [(R,dat)]).flatMap fun d => d.1.l) :: _ :: _ :: _ :: ((ds ++ [(R,dat)]).reverse.map (fun d => dtP W d.1.c d.2) ++ M)) w40
      rw [el,ef,er]
      exact h6
    refine F20_2_go hi h42 (fun ho he hle w' h' => ?_) (fun hno w' h' => ?_)
    · intro _
      rcases hD with ⟨hC,_⟩ | ⟨_,_,_,hN⟩
      · exact hn2 (by omega) ho (by rw [el] at hle; exact hle) (R,dat) a' c' hC w' h'
      · rw [hN] at he; cases he
    · intro _
      refine hr (fun _ h2 => by omega) (fun ho _ hle => ?_) w' h'
      rcases hD with ⟨hC,hN⟩ | ⟨hno2,_⟩
      · exact absurd (by rw [el]; exact hle) (hno ho hN)
      · exact hno2
end
end Go.Proofs.YtilenpnpnbdndaaGreatDoor
