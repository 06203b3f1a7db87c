/- Own text: part of the shallow reading of the code and of the contracts that are proved over it. -/
import Derived.Test.YtilenpnpnbdndaaGreatDoorSqN
namespace Go.Proofs.YtilenpnpnbdndaaGreatDoor
open Go Go.Sh
set_option maxRecDepth 100000
section
variable {W w : World} {M : List HP} {lb cb i : Nat} {r : Bool} {S0 S : Sc} {ws0 ws : List ByteArray}
theorem rot4 {A B C D : HP} {L : List HP} (h : Hs W (A :: B :: C :: D :: L) w) : Hs W (C :: D :: B :: A :: L) w := ((h.focus (i := 1) rfl).focus (i := 3) rfl).focus (i := 3) rfl
theorem rot4b {A B C D : HP} {L : List HP} (h : Hs W (A :: B :: C :: D :: L) w) : Hs W (C :: D :: A :: B :: L) w := (h.focus (i := 3) rfl).focus (i := 3) rfl
theorem F39_1_go [Esc] {K : World -> Prop} (_ : TB W) (I : CI W M r lb cb S0 ws0 47 S ws w) (hE : ∀ ch w',CE W M r confItems S0 ws0 ch w' -> Esc.E ch w') (hK : ∀ S' ws' w',CI W M r lb cb S0 ws0 53 S' ws' w' -> K w') : F39_1 K (.pointer (some ⟨lb,0,none⟩)) (.pointer (some ⟨cb,0,none⟩)) w := by
 unfold F39_1
 simp only [rdP_mk,nn,add_mk,Nat.zero_add]
 refine clp (I.word (i := 47) rfl) ?_ hE
 rintro _ w47 ⟨rfl,S47,ws47,I⟩
 refine ⟨rfl,?_⟩
 refine clp (I.item (i := 48) rfl (I.flag (by simp)) (c62 (by decide) I.hs (I.shape.bty (by simp)) (I.one (by omega)))) ?_ hE
 rintro _ w48 ⟨rfl,S48,ws48,I⟩
 refine ⟨rfl,?_⟩
 refine clp (I.word (i := 49) rfl) ?_ hE
 rintro _ w49 ⟨rfl,S49,ws49,I⟩
 refine ⟨rfl,?_⟩
 refine clp (I.item (i := 50) rfl (I.flag (by simp)) (c62 (by decide) I.hs (I.shape.bty (by simp)) (I.one (by omega)))) ?_ hE
 rintro _ w50 ⟨rfl,S50,ws50,I⟩
 refine ⟨rfl,?_⟩
 refine clp (I.word (i := 51) rfl) ?_ hE
 rintro _ w51 ⟨rfl,S51,ws51,I⟩
 refine ⟨rfl,?_⟩
 refine clp (I.item (i := 52) rfl (I.flag (by simp)) (c62 (by decide) I.hs (I.shape.bty (by simp)) (I.one (by omega)))) ?_ hE
 rintro _ w52 ⟨rfl,S52,ws52,I⟩
 exact ⟨rfl,hK _ _ _ I⟩
theorem F39_2_go [Esc] {K : World -> Prop} (hT : TB W) (I : CI W M r lb cb S0 ws0 39 S ws w) (hE : ∀ ch w',CE W M r confItems S0 ws0 ch w' -> Esc.E ch w') (hK : ∀ S' ws' w',CI W M r lb cb S0 ws0 53 S' ws' w' -> K w') : F39_2 K (.pointer (some ⟨lb,0,none⟩)) (.pointer (some ⟨cb,0,none⟩)) w := by
 unfold F39_2
 simp only [rdP_mk,nn,add_mk,Nat.zero_add]
 have h1 := I.hs
 refine h1.drw fun w1 h1 => ⟨?_,?_⟩
 ·refine h1.alc fun nb w2 h2 => h2.alc fun xb w3 h3 => ?_
  refine clp (I.named (ns := [⟨#[109,111,115,116]⟩,⟨#[100,101,108,97,121]⟩,⟨#[115,99,104,101,100]⟩,⟨#[99,97,112]⟩]) (os := [34,35,36,37]) (n := 4) hT rfl rfl (by omega) (rot4 h3) (by simp [cfK]) (by omega) rfl) ?_ hE
  rintro _ w8 ⟨rfl,S8,ws8,I⟩
  refine ⟨rfl,?_⟩
  exact F39_1_go hT I hE fun S9 ws9 w9 I9 _ => hK S9 ws9 w9 I9
 ·refine h1.alc fun xb w2 h2 => h2.alc fun nb w3 h3 => ?_
  refine clp (I.named (ns := [⟨#[109,111,115,116]⟩,⟨#[100,101,108,97,121]⟩,⟨#[115,99,104,101,100]⟩,⟨#[99,97,112]⟩]) (os := [34,35,36,37]) (n := 4) hT rfl rfl (by omega) (rot4b h3) (by simp [cfK]) (by omega) rfl) ?_ hE
  rintro _ w8 ⟨rfl,S8,ws8,I⟩
  refine ⟨rfl,?_⟩
  exact F39_1_go hT I hE fun S9 ws9 w9 I9 _ => hK S9 ws9 w9 I9
theorem F39_3_go [Esc] {K : World -> Prop} (hT : TB W) (I : CI W M r lb cb S0 ws0 33 S ws w) (hE : ∀ ch w',CE W M r confItems S0 ws0 ch w' -> Esc.E ch w') (hK : ∀ S' ws' w',CI W M r lb cb S0 ws0 53 S' ws' w' -> K w') : F39_3 K (.pointer (some ⟨lb,0,none⟩)) (.pointer (some ⟨cb,0,none⟩)) w := by
 unfold F39_3
 simp only [rdP_mk,nn,add_mk,Nat.reduceAdd,Nat.zero_add,Nat.add_zero]
 have h1 := I.hs
 refine h1.drw fun w1 h1 => ⟨?_,?_⟩
 ·refine h1.alc fun nb w2 h2 => h2.alc fun xb w3 h3 => ?_
  refine clp (I.named (ns := [⟨#[101,114,114,111,114,115]⟩,⟨#[102,97,105,108]⟩,⟨#[112,97,117,115,101]⟩]) (os := [31,32,33]) (n := 3) hT rfl rfl (by omega) (rot4 h3) (by simp [cfK]) (by omega) rfl) ?_ hE
  rintro _ w8 ⟨rfl,S8,ws8,I⟩
  refine ⟨rfl,?_⟩
  exact F39_2_go hT I hE fun S9 ws9 w9 I9 _ => hK S9 ws9 w9 I9
 ·refine h1.alc fun xb w2 h2 => h2.alc fun nb w3 h3 => ?_
  refine clp (I.named (ns := [⟨#[101,114,114,111,114,115]⟩,⟨#[102,97,105,108]⟩,⟨#[112,97,117,115,101]⟩]) (os := [31,32,33]) (n := 3) hT rfl rfl (by omega) (rot4b h3) (by simp [cfK]) (by omega) rfl) ?_ hE
  rintro _ w8 ⟨rfl,S8,ws8,I⟩
  refine ⟨rfl,?_⟩
  exact F39_2_go hT I hE fun S9 ws9 w9 I9 _ => hK S9 ws9 w9 I9
theorem F39_4_go [Esc] {K : World -> Prop} (hT : TB W) (I : CI W M r lb cb S0 ws0 17 S ws w) (hE : ∀ ch w',CE W M r confItems S0 ws0 ch w' -> Esc.E ch w') (hK : ∀ S' ws' w',CI W M r lb cb S0 ws0 53 S' ws' w' -> K w') : F39_4 K (.pointer (some ⟨lb,0,none⟩)) (.pointer (some ⟨cb,0,none⟩)) w := by
 unfold F39_4
 simp only [rdP_mk,nn,add_mk,Nat.reduceAdd,Nat.zero_add,Nat.add_zero]
 refine clp (I.word (i := 17) rfl) ?_ hE
 rintro _ w17 ⟨rfl,S17,ws17,I⟩
 refine ⟨rfl,?_⟩
 refine clp (I.item (i := 18) rfl (I.num (by simp [cfK])) (c61 hT I.hs (I.shape.ty (by simp [cfK])) (fun hr => (I.gd hr).2.2.2.2.1) (I.one (by omega)) I.fit.2)) ?_ hE
 rintro _ w18 ⟨rfl,S18,ws18,I⟩
 refine ⟨rfl,?_⟩
 refine clp (I.word (i := 19) rfl) ?_ hE
 rintro _ w19 ⟨rfl,S19,ws19,I⟩
 refine ⟨rfl,?_⟩
 refine clp (I.item (i := 20) rfl (I.num (by simp [cfK])) (c61 hT I.hs (I.shape.ty (by simp [cfK])) (fun hr => (I.gd hr).2.2.2.2.2.1) (I.one (by omega)) I.fit.2)) ?_ hE
 rintro _ w20 ⟨rfl,S20,ws20,I⟩
 refine ⟨rfl,?_⟩
 have h1 := I.hs
 refine h1.drw fun w1 h1 => ⟨?_,?_⟩
 ·refine h1.alc fun nb w2 h2 => h2.alc fun xb w3 h3 => ?_
  refine clp (I.named (ns := [⟨#[112,97,116,104,115]⟩,⟨#[109,116,117]⟩,⟨#[98,117,102,102,101,114]⟩,⟨#[105,110,105,116]⟩,⟨#[109,105,110]⟩,⟨#[109,97,120]⟩]) (os := [25,26,27,28,29,30]) (n := 6) hT rfl rfl (by omega) (rot4 h3) (by simp [cfK]) (by omega) rfl) ?_ hE
  rintro _ w8 ⟨rfl,S8,ws8,I⟩
  refine ⟨rfl,?_⟩
  exact F39_3_go hT I hE fun S9 ws9 w9 I9 _ => hK S9 ws9 w9 I9
 ·refine h1.alc fun xb w2 h2 => h2.alc fun nb w3 h3 => ?_
  refine clp (I.named (ns := [⟨#[112,97,116,104,115]⟩,⟨#[109,116,117]⟩,⟨#[98,117,102,102,101,114]⟩,⟨#[105,110,105,116]⟩,⟨#[109,105,110]⟩,⟨#[109,97,120]⟩]) (os := [25,26,27,28,29,30]) (n := 6) hT rfl rfl (by omega) (rot4b h3) (by simp [cfK]) (by omega) rfl) ?_ hE
  rintro _ w8 ⟨rfl,S8,ws8,I⟩
  refine ⟨rfl,?_⟩
  exact F39_3_go hT I hE fun S9 ws9 w9 I9 _ => hK S9 ws9 w9 I9
theorem key_go [Esc] {S0 S : Sc} {ws0 ws : List ByteArray} {w : World} {K : World -> Prop} (I : CI W M r lb cb S0 ws0 4 S ws w) (hE : ∀ ch w',CE W M r confItems S0 ws0 ch w' -> Esc.E ch w') (hK : ∀ S' ws' w',CI W M r lb cb S0 ws0 5 S' ws' w' -> K w') :
  Calls Tryz.prog 58 #[.pointer (some ⟨lb,0,none⟩),.slice (some ⟨cb,0,none⟩) 16 16] w (en fun e16 w15 => ∃ l17a l17n l17c,e16 = .returned (.slice l17a l17n l17c) /\ (Calls Tryz.prog 28 #[.bool ((l17n : Int) == 16),.int .i64 250] w15 (en fun e19 w18 => e19 = .returned (.tuple #[]) /\
   (∃ l21a l21n l21c,∃ w22,Sem.run Tryz.prog (Instr.sliceAt 41 (.pointer (some (Addr.mk cb 0 none))) none none none) w18 = .ok (.slice l21a l21n l21c) w22 /\ (∃ n23 w24,Sem.run Tryz.prog (Builtin.copy_ #[25,25] 3 #[.slice l21a l21n l21c,.slice l17a l17n l17c]) w22 = .ok (.int .i64 n23) w24 /\ K w24))))) := by
 have hsz : 16 <= S.cs.size := by obtain ⟨R,e⟩ := I.shape; rw [e]; show 16 <= 41; omega
 cases r with
 | false =>
  have hkey := (I.gd rfl).2.2.2.2.2.2
  have hrd : ∀ w',Hs W (lnP lb false ws :: pt cb (.cells S.cs 50 (0,0)) :: M) w' -> Rd w' (some ⟨cb,0,none⟩) (u8v (keyAt S.cs)) := fun w' h' j u hj => by
   refine ⟨_,rfl,?_⟩
   rw [add_mk,cell_at (h'.at 1 rfl),Nat.zero_add,← Array.getElem?_toList]
   have hj16 : j < 16 := by
    have := (List.getElem?_eq_some_iff.1 hj).1
    simpa [u8v,keyAt] using this
   rw [← hkey,List.getElem?_take_of_lt hj16] at hj
   exact hj
  have hc := c58w (l := keyAt S.cs) (c := 16) I.hs hrd (I.one (by omega) rfl)
  rw [keyAt_len] at hc
  refine clp hc ?_ ?_
  ·rintro _ w2 ⟨rfl,_,h2⟩
   refine ⟨_,_,_,rfl,?_⟩
   refine clp c28 ?_ ?_
   ·rintro _ w3 ⟨_,rfl,rfl⟩
    refine ⟨rfl,_,_,_,_,sl16,?_⟩
    have hr2 : Rd w3 (some ⟨cb,0,none⟩) (u8v (keyAt S.cs)) := fun j u hj => by
     refine ⟨_,rfl,?_⟩
     rw [add_mk,cell_at (h2.at 1 rfl),Nat.zero_add,← Array.getElem?_toList]
     have hj16 : j < 16 := by
      have := (List.getElem?_eq_some_iff.1 hj).1
      simpa [u8v,keyAt] using this
     rw [← hkey,List.getElem?_take_of_lt hj16] at hj
     exact hj
    refine copy16 h2 (j := 1) rfl (keyAt_len _) hr2 hsz fun w4 h4 => ?_
    rw [setK_self hkey] at h4
    refine hK S _ w4 (I.next (i := 4) (it := .key) rfl ⟨⟨keyAt S.cs,keyAt_len _,by rw [setK_self hkey]⟩,trivial,?_,fun x => (nomatch x),fun _ => ⟨rfl,rfl⟩⟩ I.shape h4)
    intro j hj
    have hjl : j < (keyAt S.cs).length := by rw [keyAt_len]; exact hj
    refine ⟨(keyAt S.cs)[j]'hjl,?_⟩
    have h5 : (S.cs.toList.take 16)[j]? = (u8v (keyAt S.cs))[j]? := by rw [hkey]
    rw [List.getElem?_take_of_lt hj,Array.getElem?_toList] at h5
    rw [h5]
    simp [u8v,hjl]
   ·rintro ch _ ⟨hb,_⟩
    cases hb
  ·rintro ch w2 ⟨hn,_⟩
   exact absurd (by decide) hn
 | true =>
  have hinj : ∀ (l : List UInt8) (rest ws' : List ByteArray) (s' : Sc),bs (hexW l) :: rest = wd s' .key :: ws' -> l.length = 16 := fun l rest ws' s' e => by
   injection e with e1 _
   rw [hexW_inj (bs_inj e1),keyAt_len]
  refine clp (c58r I.hs (I.fit.2 rfl)) ?_ ?_
  ·rintro _ w2 ⟨l,rest,a,c',hl,rfl,rfl,h2⟩
   refine ⟨_,_,_,rfl,?_⟩
   refine clp c28 ?_ ?_
   ·rintro _ w3 ⟨hb,rfl,rfl⟩
    have h16 : l.length = 16 := by have := eq_of_beq hb; omega
    refine ⟨rfl,_,_,_,_,sl16,?_⟩
    have hr2 := h2.rd 0 rfl
    rw [h16] at h2 ⊢
    refine copy16 h2 (j := 2) rfl h16 hr2 hsz fun w4 h4 => ?_
    have h4 : Hs W (slP 5 1 a 16 c' (u8v l) :: lnP lb true rest :: pt cb (.cells (setK S.cs l) 50 (0,0)) :: M) w4 := h4
    refine hK ⟨setK S.cs l,S.dat⟩ _ w4 (I.next (i := 4) (it := .key) rfl ⟨⟨l,h16,rfl⟩,trivial,?_,fun _ => ?_,fun x => (nomatch x)⟩ (I.shape.key h16) h4.drop)
    ·intro j hj
     exact ⟨_,setK_in h16 hj⟩
    ·show _ = bs (hexW (keyAt (setK S.cs l))) :: rest
     rw [keyAt_setK h16]
   ·rintro ch _ ⟨hb,rfl,rfl⟩
    refine hE _ _ ⟨250,rfl,I.err (i := 4) (it := .key) rfl ⟨fun _ => ⟨rfl,fun s' ws' _ e => ?_⟩,fun x => (nomatch x)⟩,h2.drop.drop.drop⟩
    have := hinj _ _ _ _ e
    rw [this] at hb
    cases hb
  ·rintro ch w2 ⟨rfl,hn,hs⟩
   exact hE _ _ ⟨250,rfl,I.err (i := 4) (it := .key) rfl ⟨fun _ => ⟨rfl,fun s' ws' _ e => hn _ _ (by rw [keyAt_len]; omega) e⟩,fun x => (nomatch x)⟩,hs.drop⟩
theorem c39 (hT : TB W) (h : Hs W (lnP lb r ws :: pt cb (.cells S.cs 50 (0,0)) :: M) w) (hsh : Shape S.cs) (hG : r = false -> GoodC S.cs) (hf : Fit r 53 ws) :
  Calls Tryz.prog 39 #[.pointer (some ⟨lb,0,none⟩),.pointer (some ⟨cb,0,none⟩)] w (rtp (fun v w' => v = .tuple #[] /\ ∃ S' ws',CI W M r lb cb S ws 53 S' ws' w') (CE W M r confItems S ws)) := by
 have I : CI W M r lb cb S ws 0 S ws w := ⟨by omega,⟨rfl,rfl⟩,h,hf,hsh,hG⟩
 clear h
 refine escI fun hE => F39_ok ?_
 unfold F39
 simp only [rdP_mk,nn,add_mk,Nat.zero_add,Nat.add_zero]
 refine clp (I.word (i := 0) rfl) ?_ hE
 rintro _ w0 ⟨rfl,S0,ws0,I⟩
 refine ⟨rfl,?_⟩
 refine clp (I.word (i := 1) rfl) ?_ hE
 rintro _ w1 ⟨rfl,S1,ws1,I⟩
 refine ⟨rfl,?_⟩
 refine clp (I.item (i := 2) rfl (I.num (by simp [cfK])) (c57 hT I.hs (I.shape.ty (by simp [cfK])) (fun hr => (I.gd hr).1) (I.one (by omega)) (by decide) I.fit.2)) ?_ hE
 rintro _ w2 ⟨rfl,S2,ws2,I⟩
 refine ⟨rfl,?_⟩
 refine clp (I.word (i := 3) rfl) ?_ hE
 rintro _ w3 ⟨rfl,S3,ws3,I⟩
 refine ⟨rfl,?_⟩
 refine ⟨_,_,_,_,sl16,?_⟩
 refine key_go I hE fun S4 ws4 w4 I => ?_
 have h1 := I.hs
 refine h1.alc fun nb w5 h5 => h5.alc fun xb w6 h6 => ?_
 refine clp (I.named (ns := [⟨#[108,105,102,101]⟩]) (os := [17]) (n := 1) hT rfl rfl (by omega) (rot4 h6) (by simp [cfK]) (by omega) rfl) ?_ hE
 rintro _ w8 ⟨rfl,S8,ws8,I⟩
 refine ⟨rfl,?_⟩
 refine clp (I.word (i := 7) rfl) ?_ hE
 rintro _ w7 ⟨rfl,S7,ws7,I⟩
 refine ⟨rfl,?_⟩
 refine clp (I.item (i := 8) rfl (I.num (by simp [cfK])) (c60 hT I.hs (I.shape.ty (by simp [cfK])) (fun hr => (I.gd hr).2.1) (I.one (by omega)) I.fit.2)) ?_ hE
 rintro _ w8 ⟨rfl,S8,ws8,I⟩
 refine ⟨rfl,?_⟩
 refine clp (I.word (i := 9) rfl) ?_ hE
 rintro _ w9 ⟨rfl,S9,ws9,I⟩
 refine ⟨rfl,?_⟩
 refine clp (I.item (i := 10) rfl (I.num (by simp [cfK])) (c61 hT I.hs (I.shape.ty (by simp [cfK])) (fun hr => (I.gd hr).2.2.1) (I.one (by omega)) I.fit.2)) ?_ hE
 rintro _ w10 ⟨rfl,S10,ws10,I⟩
 refine ⟨rfl,?_⟩
 refine clp (I.word (i := 11) rfl) ?_ hE
 rintro _ w11 ⟨rfl,S11,ws11,I⟩
 refine ⟨rfl,?_⟩
 refine clp (I.item (i := 12) rfl (I.num (by simp [cfK])) (c61 hT I.hs (I.shape.ty (by simp [cfK])) (fun hr => (I.gd hr).2.2.2.1) (I.one (by omega)) I.fit.2)) ?_ hE
 rintro _ w12 ⟨rfl,S12,ws12,I⟩
 refine ⟨rfl,?_⟩
 have h1 := I.hs
 refine h1.drw fun w1 h1 => ⟨?_,?_⟩
 ·refine h1.alc fun nb w2 h2 => h2.alc fun xb w3 h3 => ?_
  refine clp (I.named (ns := [⟨#[116,114,105,101,115]⟩,⟨#[108,97,115,116,115]⟩]) (os := [21,22]) (n := 2) hT rfl rfl (by omega) (rot4 h3) (by simp [cfK]) (by omega) rfl) ?_ hE
  rintro _ w8 ⟨rfl,S8,ws8,I⟩
  refine ⟨rfl,?_⟩
  exact F39_4_go hT I hE fun S9 ws9 w9 I9 _ => ⟨by first | rfl | trivial,S9,ws9,I9⟩
 ·refine h1.alc fun xb w2 h2 => h2.alc fun nb w3 h3 => ?_
  refine clp (I.named (ns := [⟨#[116,114,105,101,115]⟩,⟨#[108,97,115,116,115]⟩]) (os := [21,22]) (n := 2) hT rfl rfl (by omega) (rot4b h3) (by simp [cfK]) (by omega) rfl) ?_ hE
  rintro _ w8 ⟨rfl,S8,ws8,I⟩
  refine ⟨rfl,?_⟩
  exact F39_4_go hT I hE fun S9 ws9 w9 I9 _ => ⟨by first | rfl | trivial,S9,ws9,I9⟩
end
end Go.Proofs.YtilenpnpnbdndaaGreatDoor
namespace Go.Proofs.YtilenpnpnbdndaaGreatDoor
open Go Go.Sh
set_option maxRecDepth 100000
def smallIt : It -> Bool
 | .lit x => decide (x.size <= 100)
 | .num _ _ m => decide (m < 18446744073709551616)
 | .flag _ a b => decide (a.size <= 100) && decide (b.size <= 100)
 | _ => true
theorem wd_size {s : Sc} {it : It} (h : smallIt it = true) (ho : okI s it) : (wd s it).size <= 131100 := by
 cases it with
 | lit x => have := of_decide_eq_true h; show x.size <= _; omega
 | num o k m =>
  have hm := of_decide_eq_true h
  obtain ⟨h0,h1⟩ := ho
  show (dec (iAt s.cs o)).size <= _
  unfold dec
  rw [← bl_len,bl_bs,Lib.decDigits_length]
  have := Lib.nDigits_le20 (iAt s.cs o).toNat (by omega)
  omega
 | flag o a b =>
  rw [smallIt,Bool.and_eq_true] at h
  have h1 := of_decide_eq_true h.1
  have h2 := of_decide_eq_true h.2
  show (if bAt s.cs o then b else a).size <= _
  split <;> omega
 | key =>
  show (bs (hexW (keyAt s.cs))).size <= _
  rw [← bl_len,bl_bs]
  have := hexW_len (keyAt s.cs)
  rw [keyAt_len] at this
  omega
 | dat o =>
  show (bs (hexW s.dat)).size <= _
  rw [← bl_len,bl_bs]
  have := hexW_len s.dat
  have h2 : s.dat.length <= 65536 := ho
  omega
 | why o =>
  show (bs (hexW (bl (sAt s.cs o)))).size <= _
  rw [← bl_len,bl_bs]
  have := hexW_len (bl (sAt s.cs o))
  rw [bl_len] at this
  have h2 : (sAt s.cs o).size <= 65536 := ho
  omega
theorem joined_cons (x : ByteArray) (ws : List ByteArray) : (joined (x :: ws)).size <= x.size + (joined ws).size + 1 := by
 rw [← bl_len,← bl_len,← bl_len]
 unfold joined
 rw [bl_bs,bl_bs,List.map_cons]
 cases ws with
 | nil => simp [Lib.join,List.intercalate]
 | cons y r =>
  have : Lib.join (bl x :: List.map bl (y :: r)) [32] = bl x ++ 32 :: Lib.join (List.map bl (y :: r)) [32] := by
   simp [Lib.join,List.intercalate]
  rw [this]
  simp
  omega
theorem joined_size {ws : List ByteArray} (h : ∀ x ∈ ws,x.size <= 131100) : (joined ws).size <= ws.length * 131101 := by
 induction ws with
 | nil => show _ <= _; simp [joined,bs,Lib.join,List.intercalate]; rfl
 | cons x r ih =>
  have h1 := joined_cons x r
  have h2 := h x (by simp)
  have h3 := ih fun y hy => h y (by simp [hy])
  simp only [List.length_cons]
  omega
theorem conf_small : ∀ it ∈ confItems,smallIt it = true := by
 have : confItems.all smallIt = true := by decide
 exact List.all_eq_true.1 this
theorem items_size {its : List It} {s : Sc} (h : ∀ it ∈ its,smallIt it = true) (ho : ∀ it ∈ its,okI s it) : (joined (its.map (wd s))).size <= its.length * 131101 := by
 have := joined_size (ws := its.map (wd s)) (fun x hx => by
  obtain ⟨it,hi,rfl⟩ := List.mem_map.1 hx
  exact wd_size (h it hi) (ho it hi))
 simpa using this
section
variable {W w : World} {M : List HP} {lb cb kb : Nat} {r : Bool} {S : Sc} {ws : List ByteArray}
theorem ln_new (h : Hs W (pt lb (.cells #[.slice none 0 0,.bool r] 79 (0,0)) :: M) w) : Hs W (lnP lb r [] :: M) w := by
 have h2 := (h.nil 9 1).perm (List.Perm.swap _ _ _)
 exact ln_shut (a := none) (c := 0) (h2.toO 1 rfl)
end
theorem hb14 : Tryz.f14.body = some (.seq (getAt F14_code [0]) (.seq (.region 1 #[{ dst := none, op := .defer { callee := .value (.func 24), args := #[.tmp 3], argTypes := #[75] }, type := 0, pos := "script.go:183", after := #[], guard := none }] false) (getAt F14_code [1, 1]))) := by kernel_rfl
theorem res14 (t : Tm) (w : World) (K : List Value -> Prop) : resL Tryz.prog t w Tryz.f14.results.toList K = (match t 3 with | .pointer (some b) => ldI .i64 b w fun n => K [t 2,.int .i64 n] | _ => False) := by kernel_rfl
theorem ok24 : okFn Tryz.prog 24 = true := by kernel_rfl
theorem nt14 : Tryz.f14.ntmps = 11 := by kernel_rfl
end Go.Proofs.YtilenpnpnbdndaaGreatDoor
namespace Go.Proofs.YtilenpnpnbdndaaGreatDoor
open Go Go.Sh
set_option maxRecDepth 100000
theorem gen3 {P : Tm -> Prop} {t : Tm} (i j k : Nat) {v1 v2 v3 : Value} (h1 : t i = v1) (h2 : t j = v2) (h3 : t k = v3) (h : ∀ t,t i = v1 -> t j = v2 -> t k = v3 -> P t) : rsh [] t P := h t h1 h2 h3
def okAll (its : List It) (s : Sc) : Prop := ∀ it ∈ its,okI s it
def lineOf (its : List It) (s : Sc) : ByteArray := joined (its.map (wd s))
section
variable {W w : World} {M : List HP} {lb cb kb : Nat} {x : Int}
section
attribute [local instance] Esc.none
theorem F14_1_go {ws : List ByteArray} {Kr : Value -> Value -> World -> Prop} (h : Hs W (lnP lb false ws :: pt kb (.cells #[.int .i64 x] 28 (0,0)) :: M) w) (hn : ws.length <= 140737488355328) (hl : (joined ws).size <= 140737488355328)
  (hK : ∀ w',Hs W (pt kb (.cells #[.int .i64 0] 28 (0,0)) :: M) w' -> Kr (.string (joined ws)) (.pointer (some ⟨kb,0,none⟩)) w') : F14_1 Kr (.pointer (some ⟨kb,0,none⟩)) (.pointer (some ⟨lb,0,none⟩)) w := by
 unfold F14_1
 simp only [rdA_mk,rdP_mk]
 refine cl (c27 h hn hl) ?_
 rintro _ w2 ⟨rfl,h2⟩
 refine ⟨_,rfl,h2.stc 1 rfl (by simp) fun w3 h3 => hK w3 ?_⟩
 exact h3.drop
end
theorem F14_2_go [Esc] {R : R49} {Kr : Value -> Value -> World -> Prop} (hT : TB W) (hG : GoodC R.c) (h : Hs W (pt kb (.cells #[.int .i64 0] 28 (0,0)) :: pt cb (.cells R.c 50 (0,0)) :: M) w)
  (hE : ∀ ch w' c,ch = PE c -> Bad false confItems ⟨R.c,[]⟩ [] c -> Hs W (pt kb (.cells #[.int .i64 0] 28 (0,0)) :: M) w' -> Esc.E ch w')
  (hK : ∀ w',okAll confItems ⟨R.c,[]⟩ -> Hs W (pt kb (.cells #[.int .i64 0] 28 (0,0)) :: M) w' -> Kr (.string (lineOf confItems ⟨R.c,[]⟩)) (.pointer (some ⟨kb,0,none⟩)) w') :
  F14_2 Kr (.pointer (some ⟨cb,0,none⟩)) (.pointer (some ⟨kb,0,none⟩)) w := by
 unfold F14_2
 simp only [rdA_mk]
 refine h.alc fun b3 w3 h3 => ?_
 have h4 := ln_new h3
 have h5 : Hs W (lnP b3 false [] :: pt cb (.cells R.c 50 (0,0)) :: pt kb (.cells #[.int .i64 0] 28 (0,0)) :: M) w3 := (h4.focus (i := 2) rfl).focus (i := 1) rfl
 refine clp (c39 (S := ⟨R.c,[]⟩) hT h5 ⟨R,rfl⟩ (fun _ => hG) ⟨fun _ => by simp,fun x => (nomatch x)⟩) ?_ ?_
 ·rintro _ w6 ⟨rfl,S',ws',I⟩
  refine ⟨rfl,?_⟩
  have hsts := I.sts
  have e53 : confItems.take 53 = confItems := rfl
  rw [e53] at hsts
  obtain ⟨rfl,rfl,hok⟩ := hsts.w
  have h6 := I.hs
  rw [List.nil_append] at h6
  have h7 : Hs W (lnP b3 false (confItems.map (wd ⟨R.c,[]⟩)) :: pt kb (.cells #[.int .i64 0] 28 (0,0)) :: M) w6 := h6.erase 1
  have hlen : (confItems.map (wd ⟨R.c,[]⟩)).length = 53 := by rw [List.length_map]; rfl
  have hsz := items_size conf_small hok
  have hcl : confItems.length = 53 := rfl
  rw [hcl] at hsz
  refine F14_1_go h7 (by rw [hlen]; omega) (by omega) fun w8 h8 => ?_
  intro _
  simp only [rdS_mk,rdA_mk]
  exact hK w8 hok h8
 ·rintro ch w6 ⟨c,rfl,hb,h6⟩
  exact hE _ _ c rfl hb h6
theorem c14 {R : R49} (hT : TB W) (h : Hs W M w) (hG : GoodC R.c) : Calls Tryz.prog 14 #[R.v] w (rt fun v w' => Hs W M w' /\
  ((okAll confItems ⟨R.c,[]⟩ /\ v = .tuple #[.string (lineOf confItems ⟨R.c,[]⟩),.int .i64 0]) \/ (¬ okAll confItems ⟨R.c,[]⟩ /\ v = .tuple #[.string ⟨#[]⟩,.int .i64 1]))) := by
 refine calls_ofD Tryz.func14 hb14 rfl rfl rfl ok24 (by rw [nt14]; show 1 <= 11; omega) ?_
 refine F14_0_ok0 _ _ _ ?_
 show F14_0 _ R.v w
 unfold F14_0
 refine exR49_of R ⟨rfl,?_⟩
 refine h.alc fun b2 w2 h2 => h2.alc fun b4 w4 h4 => ?_
 intro g
 refine ⟨_,rfl,_,rfl,_,rfl,?_⟩
 refine gen3 1 2 3 (v1 := .pointer (some ⟨b2,0,none⟩)) (v2 := .string ⟨#[]⟩) (v3 := .pointer (some ⟨b4,0,none⟩)) ?_ ?_ ?_ fun t t1 t2 t3 => ?_
 ·rfl
 ·rfl
 ·rfl
 show Behind _ _ _ _ _ _ t _
 have hx : (#[Operand.tmp 3]).map (ev t) = #[.pointer (some ⟨b4,0,none⟩)] := by simp [ev,t3]
 refine ⟨[2,3],fun ch w' => ∃ c,ch = PE c /\ Bad false confItems ⟨R.c,[]⟩ [] c /\ Hs W (pt b4 (.cells #[.int .i64 0] 28 (0,0)) :: M) w',?_,?_⟩
 ·refine @F14_2_ok ⟨_⟩ _ _ _ _ ?_
  unfold F14_2O
  rw [t1,t3]
  refine @F14_2_go W w4 M b2 b4 ⟨_⟩ R _ hT hG h4 (fun ch w' c hc hb hs => ⟨c,hc,hb,hs⟩) fun w6 hok h6 => ?_
  intro g2
  refine ⟨_,rfl,_,rfl,?_⟩
  show dcl Tryz.prog 24 _ .returning w6 _
  rw [hx]
  refine c24r ?_
  rw [res14]
  show ldI .i64 ⟨b4,0,none⟩ w6 _
  refine h6.ldI 0 rfl rfl ?_
  exact ⟨h6.drop,.inl ⟨hok,rfl⟩⟩
 ·rintro ch w6 ⟨c,rfl,hb,h6⟩
  rw [hx]
  refine c24p h6 fun w7 h7 t' ht' => ?_
  rw [res14,ht' 3 (by simp),ht' 2 (by simp),t3,t2]
  refine h7.ldI 0 rfl rfl ?_
  obtain ⟨e,it,hi,hn⟩ := hb.2 rfl
  refine ⟨h7.drop,.inr ⟨fun ho => hn (ho it hi),?_⟩⟩
  rw [e]
  rfl
end
end Go.Proofs.YtilenpnpnbdndaaGreatDoor
namespace Go.Proofs.YtilenpnpnbdndaaGreatDoor
open Go Go.Sh
set_option maxRecDepth 100000
def KeyOk (cs : Array Value) : Prop := cs.toList.take 16 = u8v (keyAt cs)
def nearIt : It -> Bool
 | .num o _ _ => decide (16 <= o)
 | .flag o _ _ => decide (16 <= o)
 | .why o => decide (16 <= o)
 | .dat _ => false
 | _ => true
theorem take_set16 {cs : Array Value} {o : Nat} {v : Value} (h : 16 <= o) : (cs.setIfInBounds o v).toList.take 16 = cs.toList.take 16 := by
 rw [Array.toList_setIfInBounds,List.take_set_of_le h]
theorem Chg.key {it : It} {S S' : Sc} (h : Chg S S' it) (hn : nearIt it = true) (hk : KeyOk S.cs) : KeyOk S'.cs /\ S'.dat = S.dat := by
 cases it with
 | lit x => cases h; exact ⟨hk,rfl⟩
 | num o k m =>
  obtain ⟨n,rfl⟩ := h
  have := of_decide_eq_true hn
  exact ⟨by unfold KeyOk at hk ⊢; rw [take_set16 this,keyAt_set this]; exact hk,rfl⟩
 | flag o a b =>
  obtain ⟨n,rfl⟩ := h
  have := of_decide_eq_true hn
  exact ⟨by unfold KeyOk at hk ⊢; rw [take_set16 this,keyAt_set this]; exact hk,rfl⟩
 | why o =>
  obtain ⟨n,rfl⟩ := h
  have := of_decide_eq_true hn
  exact ⟨by unfold KeyOk at hk ⊢; rw [take_set16 this,keyAt_set this]; exact hk,rfl⟩
 | key =>
  obtain ⟨l,hl,rfl⟩ := h
  refine ⟨?_,rfl⟩
  unfold KeyOk
  rw [keyAt_setK hl]
  unfold setK
  simp [u8v,hl]
 | dat o => cases hn
theorem Sts.key {r : Bool} : ∀ {l : List It} {S S' : Sc} {ws ws' : List ByteArray},Sts r l S ws S' ws' -> (∀ it ∈ l,nearIt it = true) -> KeyOk S.cs -> KeyOk S'.cs /\ S'.dat = S.dat
 | [],_,_,_,_,⟨e,_⟩,_,hk => by subst e; exact ⟨hk,rfl⟩
 | it :: l,_,_,_,_,⟨_,_,h1,h2⟩,hn,hk => by
  obtain ⟨a,b⟩ := h1.1.key (hn it (by simp)) hk
  obtain ⟨c,d⟩ := Sts.key h2 (fun x hx => hn x (by simp [hx])) a
  exact ⟨c,d.trans b⟩
theorem conf_near : ∀ it ∈ confItems,nearIt it = true := by
 have : confItems.all nearIt = true := by decide
 exact List.all_eq_true.1 this
def apartB : List It -> Bool
 | [] => true
 | a :: l => l.all (fun b => (foot b).all fun o => !(foot a).contains o) && apartB l
theorem apart_of : ∀ {l : List It},apartB l = true -> Apart l
 | [],_ => List.Pairwise.nil
 | a :: l,h => by
  rw [apartB,Bool.and_eq_true] at h
  refine List.pairwise_cons.2 ⟨fun b hb o ho hoa => ?_,apart_of h.2⟩
  have h1 := List.all_eq_true.1 (List.all_eq_true.1 h.1 b hb) o ho
  simp [hoa] at h1
theorem conf_apart : Apart confItems := apart_of (by decide)
theorem wrds_le : ∀ (l : List UInt8),∀ x ∈ wrds l,x.length <= l.length
 | [],x,hx => by simp [wrds] at hx; simp [hx]
 | b :: l,x,hx => by
  have ih := wrds_le l
  unfold wrds at hx
  split at hx
  ·rcases List.mem_cons.1 hx with rfl | hx
   ·simp
   ·have := ih x hx; simp; omega
  ·split at hx
   ·rename_i w ws e
    rcases List.mem_cons.1 hx with rfl | hx
    ·have := ih w (by rw [e]; simp); simpa using this
    ·have := ih x (by rw [e]; simp [hx]); simp; omega
   ·rename_i e
    exact absurd e (wrds_ne l)
theorem words_small {s : ByteArray} (h : s.size <= 281474976710656) : small (words s) := fun x hx => by
 obtain ⟨l,hl,rfl⟩ := List.mem_map.1 hx
 have := wrds_le _ l hl
 rw [← bl_len,bl_bs]
 rw [bl_len] at this
 omega
theorem join_cons2 (x y : List UInt8) (r : List (List UInt8)) : Lib.join (x :: y :: r) [32] = x ++ 32 :: Lib.join (y :: r) [32] := by
 simp [Lib.join,List.intercalate,List.intersperse]
theorem wrds_join : ∀ (ws : List (List UInt8)),ws ≠ [] -> (∀ x ∈ ws,32 ∉ x) -> wrds (Lib.join ws [32]) = ws
 | [],h,_ => absurd rfl h
 | [x],_,h => by
  have : Lib.join [x] [32] = x := Lib.join_one x [32]
  rw [this,wrds_none (h x (by simp))]
 | x :: y :: r,_,h => by
  rw [join_cons2,wrds_split _ _ (h x (by simp)),wrds_join (y :: r) (by simp) fun z hz => h z (by simp [hz])]
theorem join_wrds : ∀ (l : List UInt8),Lib.join (wrds l) [32] = l
 | [] => Lib.join_one [] [32]
 | b :: l => by
  have ih := join_wrds l
  unfold wrds
  split
  ·rename_i hb
   subst hb
   cases e : wrds l with
   | nil => exact absurd e (wrds_ne l)
   | cons y r => rw [join_cons2,← e,ih]; rfl
  ·split
   ·rename_i w ws e
    rw [e] at ih
    cases ws with
    | nil =>
     rw [Lib.join_one] at ih ⊢
     rw [ih]
    | cons y r =>
     rw [join_cons2] at ih ⊢
     rw [List.cons_append,ih]
   ·rename_i e
    exact absurd e (wrds_ne l)
theorem words_joined {ws : List ByteArray} (h0 : ws ≠ []) (h : ∀ x ∈ ws,32 ∉ bl x) : words (joined ws) = ws := by
 unfold words joined
 rw [bl_bs,wrds_join (ws.map bl) (by simpa using h0) (fun x hx => by obtain ⟨y,hy,rfl⟩ := List.mem_map.1 hx; exact h y hy),List.map_map]
 conv => rhs; rw [← List.map_id ws]
 exact List.map_congr_left fun x _ => bs_bl x
theorem joined_words (s : ByteArray) : joined (words s) = s := by
 unfold words joined
 rw [List.map_map]
 have : List.map (bl ∘ bs) (wrds (bl s)) = wrds (bl s) := by
  conv => rhs; rw [← List.map_id (wrds (bl s))]
  exact List.map_congr_left fun x _ => bl_bs x
 rw [this,join_wrds,bs_bl]
theorem words_ne (s : ByteArray) : words s ≠ [] := by
 unfold words
 simpa using wrds_ne (bl s)
def R49.zz : R49 := R49.mk 0 0 0 0 0 0 0 0 0 0 0 0 0 0 0 0 0 0 0 0 0 0 0 0 0 0 0 0 0 0 0 0 0 0 0 0 0 0 false false false
theorem hb16 : Tryz.f16.body = some (.seq (getAt F16_code [0]) (.seq (.region 1 #[{ dst := none, op := .defer { callee := .value (.func 24), args := #[.tmp 3], argTypes := #[75] }, type := 0, pos := "script.go:191", after := #[], guard := none }] false) (getAt F16_code [1, 1]))) := by kernel_rfl
theorem res16 (t : Tm) (w : World) (K : List Value -> Prop) : resL Tryz.prog t w Tryz.f16.results.toList K = (match t 2 with | .pointer (some a) => ldR49 a w fun s => (match t 3 with | .pointer (some b) => ldI .i64 b w fun n => K [s.v,.int .i64 n] | _ => False) | _ => False) := by kernel_rfl
theorem nt16 : Tryz.f16.ntmps = 15 := by kernel_rfl
def IsConf (s : ByteArray) (R : R49) : Prop := KeyOk R.c /\ okAll confItems ⟨R.c,[]⟩ /\ words s = confItems.map (wd ⟨R.c,[]⟩)
section
variable {W w : World} {M : List HP} {lb cb kb : Nat} {x : Int}
theorem F16_1_go [Esc] {s : ByteArray} {Kr : Value -> Value -> World -> Prop} (hT : TB W) (hs : s.size <= 8000000) (h : Hs W (pt kb (.cells #[.int .i64 0] 28 (0,0)) :: pt cb (.cells R49.zz.c 50 (0,0)) :: M) w)
  (hE : ∀ ch w',ch = PE 250 -> (¬ ∃ R,IsConf s R) -> Hs W (pt kb (.cells #[.int .i64 0] 28 (0,0)) :: pt cb (.cells R49.zz.c 50 (0,0)) :: M) w' -> Esc.E ch w')
  (hK : ∀ w' R,IsConf s R -> Hs W (pt kb (.cells #[.int .i64 0] 28 (0,0)) :: pt cb (.cells R.c 50 (0,0)) :: M) w' -> Kr (.pointer (some ⟨cb,0,none⟩)) (.pointer (some ⟨kb,0,none⟩)) w') :
  F16_1 Kr (.string s) (.pointer (some ⟨cb,0,none⟩)) (.pointer (some ⟨kb,0,none⟩)) w := by
 unfold F16_1
 simp only [rdA_mk,rdS_mk]
 refine h.alc fun ob w2 h2 => ?_
 refine cl (c32 hs h2) ?_
 rintro _ w3 ⟨a,rfl,h3⟩
 refine ⟨_,_,_,rfl,h3.alc fun lb w4 h4 => ?_⟩
 have h5 : Hs W (lnP lb true (words s) :: pt ob (.cells R49.zz.c 50 (0,0)) :: pt kb (.cells #[.int .i64 0] 28 (0,0)) :: pt cb (.cells R49.zz.c 50 (0,0)) :: M) w4 := ln_shut (h4.toO 1 rfl)
 refine clp (c39 (S := ⟨R49.zz.c,[]⟩) hT h5 ⟨R49.zz,rfl⟩ (fun x => (nomatch x)) ⟨fun x => (nomatch x),fun _ => words_small (by omega)⟩) ?_ ?_
 ·rintro _ w6 ⟨rfl,S',ws',I⟩
  refine ⟨rfl,?_⟩
  have hsts := I.sts
  have e53 : confItems.take 53 = confItems := rfl
  rw [e53] at hsts
  obtain ⟨hw,hok⟩ := hsts.r conf_apart
  obtain ⟨hko,hda⟩ := hsts.key conf_near (by unfold KeyOk; rfl)
  obtain ⟨R,hR⟩ := I.shape
  refine clp (c34 I.hs) ?_ ?_
  ·rintro _ w7 ⟨rfl,rfl,h7⟩
   rw [hR] at h7 hko
   have hS : S' = ⟨R.c,[]⟩ := by cases S'; simp only at hR hda; rw [hR,hda]
   subst hS
   rw [List.append_nil] at hw
   refine ⟨rfl,ldR49_of (s := R) (h7.atL 0 rfl) ?_⟩
   refine h7.stcL 2 rfl (by rfl) fun w8 h8 => ?_
   refine h8.stc 1 rfl (by simp) fun w9 h9 => hK w9 R ⟨hko,hok,hw⟩ ?_
   exact h9.drop
  ·rintro ch w7 ⟨hne,rfl,h7⟩
   refine hE _ _ rfl ?_ h7.drop
   rintro ⟨R2,_,_,h2⟩
   rw [h2] at hw
   have := congrArg List.length hw
   rw [List.length_append,List.length_map,List.length_map] at this
   exact hne (List.length_eq_zero_iff.1 (by omega))
 ·rintro ch w6 ⟨c,rfl,hb,h6⟩
  obtain ⟨e,hb2⟩ := hb.1 rfl
  subst e
  refine hE _ _ rfl ?_ h6
  rintro ⟨R2,_,h1,h2⟩
  exact hb2 ⟨R2.c,[]⟩ [] h1 (by rw [List.append_nil]; exact h2)
theorem c16 {s : ByteArray} (hT : TB W) (h : Hs W M w) (hs : s.size <= 8000000) : Calls Tryz.prog 16 #[.string s] w (rt fun v w' => Hs W M w' /\
  ((∃ R,IsConf s R /\ v = .tuple #[R.v,.int .i64 0]) \/ ((¬ ∃ R,IsConf s R) /\ v = .tuple #[R49.zz.v,.int .i64 250]))) := by
 refine calls_ofD Tryz.func16 hb16 rfl rfl rfl ok24 (by rw [nt16]; show 1 <= 15; omega) ?_
 refine F16_0_ok0 _ _ _ ?_
 show F16_0 _ (.string s) w
 unfold F16_0
 simp only [rdS_mk]
 refine h.alc fun b2 w2 h2 => h2.alc fun b4 w4 h4 => ?_
 have h4 : Hs W (pt b4 (.cells #[.int .i64 0] 28 (0,0)) :: pt b2 (.cells R49.zz.c 50 (0,0)) :: M) w4 := h4
 intro g
 refine ⟨_,rfl,_,rfl,_,rfl,?_⟩
 refine gen3 0 2 3 (v1 := .string s) (v2 := .pointer (some ⟨b2,0,none⟩)) (v3 := .pointer (some ⟨b4,0,none⟩)) ?_ ?_ ?_ fun t t1 t2 t3 => ?_
 ·rfl
 ·rfl
 ·rfl
 show Behind _ _ _ _ _ _ t _
 have hx : (#[Operand.tmp 3]).map (ev t) = #[.pointer (some ⟨b4,0,none⟩)] := by simp [ev,t3]
 refine ⟨[2,3],fun ch w' => ch = PE 250 /\ (¬ ∃ R,IsConf s R) /\ Hs W (pt b4 (.cells #[.int .i64 0] 28 (0,0)) :: pt b2 (.cells R49.zz.c 50 (0,0)) :: M) w',?_,?_⟩
 ·refine @F16_1_ok ⟨_⟩ _ _ _ _ ?_
  unfold F16_1O
  rw [t1,t2,t3]
  refine @F16_1_go W w4 M b2 b4 ⟨_⟩ s _ hT hs h4 (fun ch w' hc hb hs => ⟨hc,hb,hs⟩) fun w6 R hok h6 => ?_
  intro g2
  refine ⟨_,rfl,_,rfl,?_⟩
  show dcl Tryz.prog 24 _ .returning w6 _
  rw [hx]
  refine c24r ?_
  rw [res16]
  show ldR49 ⟨b2,0,none⟩ w6 (fun s => ldI .i64 ⟨b4,0,none⟩ w6 _)
  refine ldR49_of (s := R) (h6.atL 1 rfl) ?_
  refine h6.ldI 0 rfl rfl ?_
  exact ⟨h6.drop.drop,.inl ⟨R,hok,rfl⟩⟩
 ·rintro ch w6 ⟨rfl,hb,h6⟩
  rw [hx]
  refine c24p h6 fun w7 h7 t' ht' => ?_
  rw [res16,ht' 3 (by simp),ht' 2 (by simp),t3,t2]
  show ldR49 ⟨b2,0,none⟩ w7 (fun s => ldI .i64 ⟨b4,0,none⟩ w7 _)
  refine ldR49_of (s := R49.zz) (h7.atL 1 rfl) ?_
  refine h7.ldI 0 rfl rfl ?_
  exact ⟨h7.drop.drop,.inr ⟨hb,rfl⟩⟩
end
end Go.Proofs.YtilenpnpnbdndaaGreatDoor
