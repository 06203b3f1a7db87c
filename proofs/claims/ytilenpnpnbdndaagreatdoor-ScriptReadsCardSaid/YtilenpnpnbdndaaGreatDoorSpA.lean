/- Own text: part of the shallow reading of the code and of the contracts that are proved over it. -/
import Derived.Test.YtilenpnpnbdndaaGreatDoorSrD
import Derived.Test.YtilenpnpnbdndaaGreatDoorSrE
import Derived.Test.YtilenpnpnbdndaaGreatDoorShU
namespace Go.Proofs.YtilenpnpnbdndaaGreatDoor
open Go Go.Sh Go.RowKit
def FV (c : Int) : Value := .iface 113 (.agg #[.int .i64 c])
def PE (c : Int) : List PanicEntry := [{ v := FV c,recovered := false }]
section
variable {w : World} {p : Addr} {c x : Int}
attribute [local instance] Esc.none
theorem rest24 {a : Act} {w : World} {Q : Exit -> Act -> World -> Prop} {R : World -> Prop} (hs : a.tmps.size = 20) (hd : a.defers = [])
    (h : F24_0O (fun o _ w => match o with | .exit _ => False | _ => R w) (fun i => a.tmps.getD i undef) w)
    (hR : ∀ e a' w',(e = .normal \/ e = .ret) -> a'.defers = [] -> R w' -> Q e a' w') : (getAt F24_code [1]).wp Tryz.prog Q a w := by
  refine wp_mono (wpIn_wide.1 (F24_0_ok0 _ _ _ h none [] a ⟨hs,hd,fun _ => rfl,fun _ hi => by cases hi⟩)) fun e a w q => ?_
  cases e with
  | normal => obtain ⟨t,hM,q⟩ := q; exact hR _ _ _ (.inl rfl) hM.2.1 q
  | exit i => obtain ⟨t,hM,q⟩ := q; exact q.elim
  | ret => obtain ⟨t,hM,q⟩ := q; exact hR _ _ _ (.inr rfl) hM.2.1 q
  | goto l => exact q.elim
  | panic c => exact q.2.elim
  | outgrown => exact q.elim
theorem res24 (tmps : Array Value) (w : World) : (results Tryz.f24 tmps).run Tryz.prog w = .ok (.tuple #[]) w := by
  rw [results_eq]
  simp [Tryz.results24]
theorem code24 : F24_code = .seq (.region 0 #[{ dst := some 5, op := .call { callee := .builtin .recover, args := #[], argTypes := #[] }, type := 20, pos := "script.go:17", after := #[], guard := none }, { dst := some 2, op := .assign (.tmp 5), type := 20, pos := "script.go:17", after := #[{ on := 0, ground := .data }, { on := 0, ground := .chain }, { on := 0, ground := .phase }], guard := none }] false) (getAt F24_code [1]) := by kernel_rfl
theorem body24 : Tryz.f24.body = some F24_code := by kernel_rfl
theorem c24p {K : World -> Prop} {W : World} {b : Nat} {M : List HP} (h : Hs W (pt b (.cells #[.int .i64 x] 28) :: M) w) (hK : ∀ w',Hs W (pt b (.cells #[.int .i64 c] 28) :: M) w' -> K w') :
    dcl Tryz.prog 24 #[.pointer (some ⟨b,0,none⟩)] (.panicking (PE c)) w K := by
  unfold dcl
  refine callsD_of_wpS Tryz.func24 body24 fun c₀ cs hu => ?_
  rw [code24]
  apply wpS_seq
  apply wpS_region
  simp [wpOpsS,go_sem,recoverD,hu,Tryz.ntmps24,Exit.thenS,PE]
  apply wpS_of_wp
  refine rest24 (R := K) ?_ ?_ ?_ fun e a' w' he hd hk => ?_
  · simp
  · rfl
  · unfold F24_0O
    simp only []
    have e0 : (#[Value.pointer (some ⟨b,0,none⟩)] ++ ((Array.replicate 19 undef).setIfInBounds 4 (FV c)).setIfInBounds 1 (FV c)).getD 0 undef = .pointer (some ⟨b,0,none⟩) := by simp
    have e2 : (#[Value.pointer (some ⟨b,0,none⟩)] ++ ((Array.replicate 19 undef).setIfInBounds 4 (FV c)).setIfInBounds 1 (FV c)).getD 2 undef = FV c := by simp
    rw [e0,e2]
    unfold F24_0
    rw [rdP_mk]
    refine .inr ⟨_,_,rfl,false,w,by kernel_rfl,?_⟩
    rw [br_false]
    refine ⟨c,true,w,by kernel_rfl,?_⟩
    refine h.alc fun b' w' h' => ?_
    refine h'.stc 0 rfl (by simp) fun w2 h2 => ?_
    simp only [Bool.not_true,br_false]
    refine h2.ldI 0 rfl rfl ?_
    show nn (some _) _
    simp only [nn]
    refine h2.stc 1 rfl (by simp) fun w3 h3 => ?_
    intro _
    exact hK _ (h3.erase 0)
  · rcases he with rfl | rfl
    · exact ⟨hd,_,rfl,_,res24 _ _,⟨_,rfl⟩,rfl,hk⟩
    · exact ⟨hd,_,rfl,_,res24 _ _,⟨_,rfl⟩,rfl,hk⟩
theorem c24r {K : World -> Prop} (hK : K w) : dcl Tryz.prog 24 #[.pointer (some p)] .returning w K := by
  unfold dcl
  refine callsD_of_wpS Tryz.func24 body24 fun c₀ cs hu => ?_
  rw [code24]
  apply wpS_seq
  apply wpS_region
  simp [wpOpsS,go_sem,recoverD,hu,Tryz.ntmps24,Exit.thenS]
  apply wpS_of_wp
  refine rest24 (R := K) ?_ ?_ ?_ fun e a' w' he hd hk => ?_
  · simp
  · rfl
  · unfold F24_0O
    simp only []
    have e0 : (#[Value.pointer (some p)] ++ ((Array.replicate 19 undef).setIfInBounds 4 .nilIface).setIfInBounds 1 .nilIface).getD 0 undef = .pointer (some p) := by simp
    have e2 : (#[Value.pointer (some p)] ++ ((Array.replicate 19 undef).setIfInBounds 4 .nilIface).setIfInBounds 1 .nilIface).getD 2 undef = .nilIface := by simp
    rw [e0,e2]
    unfold F24_0
    rw [rdP_mk]
    refine .inl ⟨rfl,true,w,by kernel_rfl,?_⟩
    rw [br_true]
    intro _
    exact hK
  · have hm : (c₀ :: cs) = { c₀ with mode := .returning } :: cs := by cases c₀; simp at hu; subst hu; rfl
    rcases he with rfl | rfl
    · exact ⟨hd,.returning,hm,_,res24 _ _,⟨_,rfl⟩,rfl,hk⟩
    · exact ⟨hd,.returning,hm,_,res24 _ _,⟨_,rfl⟩,rfl,hk⟩
end
end Go.Proofs.YtilenpnpnbdndaaGreatDoor
