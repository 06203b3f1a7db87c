/- Own text: part of the shallow reading of the code and of the contracts that are proved over it. -/
import Derived.Test.YtilenpnpnbdndaaGreatDoorRtF
import Derived.Test.YtilenpnpnbdndaaGreatDoorSrQ1
namespace Go.Proofs.YtilenpnpnbdndaaGreatDoor
open Go Go.Sh
set_option maxRecDepth 100000
attribute [local instance] Esc.none
def maskR (t : Vb) (R : R26) : R26 := R26.mk R.f0 (bif t.2.2.contains 69 then R.f1 else 0) (bif t.2.2.contains 70 then R.f2 else 0) (bif t.2.2.contains 71 then R.f3 else 0) (bif t.2.2.contains 79 then R.f4 else 0) (bif t.2.2.contains 80 then R.f5 else 0) (bif t.2.2.contains 77 then R.f6 else 0) (bif t.2.2.contains 72 then R.f7 else 0) (bif t.2.2.contains 73 then R.f8 else 0) (bif t.2.2.contains 74 then R.f9 else false) (bif t.2.2.contains 75 then R.f10a else none) (bif t.2.2.contains 75 then R.f10n else 0) (bif t.2.2.contains 75 then R.f10c else 0) (bif t.2.2.contains 76 then R.f11 else ⟨#[]⟩)
def maskD (t : Vb) (dat : List UInt8) : List UInt8 := bif t.2.2.contains 75 then dat else []
theorem sz26 (R : R26) (o : Nat) (h : o < 12) : o < R.c.size := h
section
variable {W w : World} {M : List HP}
theorem c53S {a : Option Addr} {c n : Nat} {l : List Int} {s : ByteArray} {ws : List ByteArray} (hT : TB w) (hr : Rd w a (iV l)) (hlen : l.length <= 10) (hn : l.length = n) (hin : ∀ n ∈ l,0 <= n /\ n <= 1099511627776) (h0 : ws ≠ []) (hs : s = joined ws) (hsz : (joined ws).size <= 1000000000) :
  Calls Tryz.prog 53 #[.string s,.slice a n c] w (rt fun v w' => v = .string (joined (ws ++ l.map dec)) /\ Same w w') :=
 rt_mono (c53 (W := w) (M := []) hT (Hs.start w) hlen hn hin (fun _ h' => hr.fr h'.old fun _ _ x => x) h0 hs hsz) fun _ _ ⟨hv,h⟩ => ⟨hv,h.old⟩
theorem c41S {a : Option Addr} {c : Nat} {l : List UInt8} (hr : Rd w a (u8v l)) (hlen : l.length <= 70000000000) : Calls Tryz.prog 41 #[.slice a l.length c] w (rt fun v w' => v = .string (bs (hexW l)) /\ Same w w') :=
 rt_mono (c41 (W := w) (M := []) (Hs.start w) hlen (fun _ h' => hr.fr h'.old fun _ _ x => x)) fun _ _ ⟨hv,h⟩ => ⟨hv,h.old⟩
theorem row_size : ∀ (ws : List ByteArray) (l : List Int),ws ≠ [] -> l.length <= 10 -> (∀ n ∈ l,0 <= n /\ n <= 1099511627776) -> (joined ws).size <= 1000 -> (joined (ws ++ l.map dec)).size <= (joined ws).size + 21 * l.length
 | ws,[],_,_,_,_ => by simp
 | ws,n :: l,h0,hl,hin,hs => by
  have h1 : (dec n).size <= 20 := dec_size (hin n (by simp))
  have h2 := joined_snoc_size (dec n) h0
  have h3 : ∀ (ws : List ByteArray) (l : List Int),ws ≠ [] -> (∀ n ∈ l,0 <= n /\ n <= 1099511627776) -> (joined (ws ++ l.map dec)).size <= (joined ws).size + 21 * l.length := by
   intro ws l
   induction l generalizing ws with
   | nil => intro _ _; simp
   | cons x l ih =>
    intro h0 hin
    have a1 : (dec x).size <= 20 := dec_size (hin x (by simp))
    have a2 := joined_snoc_size (dec x) h0
    have a3 := ih (ws ++ [dec x]) (by simp) fun n hn => hin n (by simp [hn])
    have a4 : ws ++ (x :: l).map dec = ws ++ [dec x] ++ l.map dec := by simp
    rw [a4]
    simp only [List.length_cons]
    omega
  exact h3 ws (n :: l) h0 hin
theorem hexs_size {l : List UInt8} (h : l.length <= 65536) : (bs (hexW l)).size <= 131073 := by
 rw [← bl_len,bl_bs]
 have := hexW_len l
 omega
structure Fine (R : R26) (dat : List UInt8) : Prop where
 n1 : 0 <= R.f1 /\ R.f1 <= 1099511627776
 n2 : 0 <= R.f2 /\ R.f2 <= 1099511627776
 n3 : 0 <= R.f3 /\ R.f3 <= 1099511627776
 n4 : 0 <= R.f4 /\ R.f4 <= 1099511627776
 n6 : 0 <= R.f6 /\ R.f6 <= 1099511627776
 good : GoodD ⟨R.c,dat⟩
 dat : dat.length <= 65536
 why : R.f11.size <= 65536
theorem bytes_newS {w : World} {s : ByteArray} : ∃ c,Sem.run Tryz.prog (convert 9 25 (.string s)) w = .ok (.slice (some ⟨w.heap.size,0,none⟩) (bl s).length c) (Lib.bytesWorld w 5 s) /\ Same w (Lib.bytesWorld w 5 s) /\ Rd (Lib.bytesWorld w 5 s) (some ⟨w.heap.size,0,none⟩) (u8v (bl s)) := by
 obtain ⟨o,c,hrun,h2,hrd⟩ := bytes_new (s := s) (Hs.start w)
 exact ⟨c,hrun,h2.old,hrd h2 (i := 0) rfl⟩
set_option maxHeartbeats 8000000 in
theorem F31_go {R : R26} {dat : List UInt8} {K : Value -> World -> Prop} (hT : TB W) (h : Hs W M w) (hd : Holds26 W R dat) (hF : Fine R dat)
  (hv : ∀ t w',vfind (fun k _ => k == R.f0) = some t -> Hs W M w' -> K (.tuple #[.string (lineOf (itemsOf t) ⟨R.c,dat⟩),(maskR t R).v]) w') (hn : ∀ w',vfind (fun k _ => k == R.f0) = none -> Hs W M w' -> K (.tuple #[.string ⟨#[]⟩,R26.zz.v]) w') : F31 R.v w K := by
 obtain ⟨n1,n2,n3,n4,n6,⟨g5,g7,g8⟩,hdl,hwl⟩ := hF
 have g5 : 0 <= R.f5 /\ R.f5 <= 255 := g5
 have g7 : 0 <= R.f7 /\ R.f7 <= 65535 := g7
 have g8 : 0 <= R.f8 /\ R.f8 <= 4294967295 := g8
 have n5 : 0 <= R.f5 /\ R.f5 <= 1099511627776 := ⟨g5.1,by omega⟩
 have n7 : 0 <= R.f7 /\ R.f7 <= 1099511627776 := ⟨g7.1,by omega⟩
 have n8 : 0 <= R.f8 /\ R.f8 <= 1099511627776 := ⟨g8.1,by omega⟩
 have wr5 : IntKind.wrap .i64 R.f5 = R.f5 := wrap_i64 (by omega) (by omega)
 have wr7 : IntKind.wrap .i64 R.f7 = R.f7 := wrap_i64 (by omega) (by omega)
 have wr8 : IntKind.wrap .i64 R.f8 = R.f8 := wrap_i64 (by omega) (by omega)
 have c41R : ∀ {w : World},Rd w R.f10a (u8v dat) -> dat.length <= 65536 -> Calls Tryz.prog 41 #[.slice R.f10a R.f10n R.f10c] w (rt fun v w' => v = .string (bs (hexW dat)) /\ Same w w') := fun hr hl => by
  rw [hd.len]
  exact c41S hr (by omega)
 have hsw : ∀ {L : List HP} w',Hs W L w' -> Same W w' := fun w' h' => h'.old
 unfold F31
 refine exR26_of R ⟨rfl,?_⟩
 refine h.alc fun b2 w2 h2 => h2.alc fun b4 w3 h3 => ?_
 refine h3.ldI 1 rfl rfl (h3.ldI 1 rfl rfl ?_)
 refine h3.alc fun b8 w4 h4 => h4.stcL 0 rfl (by rfl) fun w5 h => ?_
 have h : Hs W (pt b8 (.cells (({ R26.zz with f0 := R.f0,f1 := R.f1 } : R26)).c 27 (0,0)) :: pt b4 (.cells R26.zz.c 27 (0,0)) :: pt b2 (.cells R.c 27 (0,0)) :: M) w5 := h
 refine h.ldI 2 rfl rfl ?_
 refine br_and (fun e => ?_) (fun e => ?_)
 ·have e1 : R.f0 = 1 := eq_of_beq e
  refine h.drw fun w1 h => ⟨w1,Go.Sh.Pres.refl _,?_⟩
  refine h.ldI 2 rfl rfl ?_
  refine ldR26_of (s := maskR (1,⟨#[111,112,101,110]⟩,[69]) R) (h.atL 0 rfl) ?_
  refine alcS h fun ib w2 h2 hs2 => ⟨Go.Sh.Pres.of_Same hs2,?_⟩
  refine cl (c53S (l := [R.f1]) (ws := [⟨#[111,112,101,110]⟩]) (hT.same h2.old) (rd_blk (h2.at 0 rfl)) (by show 1 <= 10; omega) rfl (by intro n hn; simp only [List.mem_cons,List.not_mem_nil,or_false] at hn; rcases hn with rfl <;> assumption) (by simp) rfl (by decide)) ?_
  rintro _ w3 ⟨rfl,hs3⟩
  have hs : Same w1 w3 := hs2.trans hs3 fun _ _ x => x
  refine ⟨_,rfl,Go.Sh.Pres.of_Same hs,?_⟩
  have hh := h.same hs
  refine hh.stcL 1 rfl (by rfl) fun w8 h8 => ?_
  have h8 : Hs W (_ :: pt b4 (.cells (maskR (1,⟨#[111,112,101,110]⟩,[69]) R).c 27 (0,0)) :: pt b2 (.cells R.c 27 (0,0)) :: M) w8 := h8
  refine ldR26_of (s := maskR (1,⟨#[111,112,101,110]⟩,[69]) R) (h8.atL 1 rfl) ?_
  exact hv (1,⟨#[111,112,101,110]⟩,[69]) w8 (by rw [e1]; rfl) h8.drop.drop.drop
 have e1 : R.f0 ≠ 1 := fun x => by rw [x] at e; cases e
 refine br_and (fun e => ?_) (fun e => ?_)
 ·have e2 : R.f0 = 2 := eq_of_beq e
  refine h.drw fun w1 h => ⟨Go.Sh.lone w1 b2 _,Go.Sh.Pres.lone (h.at 2 rfl),?_⟩
  refine h.ldI 2 rfl rfl ?_
  refine ldI_at (lone_at _ _ _) rfl ?_
  refine ldB_at (lone_at _ _ _) rfl ?_
  refine ldC_at (lone_at _ _ _) rfl ?_
  refine h.stc 0 rfl (sz26 _ 7 (by decide)) fun w2 h => ⟨Go.Sh.Pres.lone (h.at 2 rfl),?_⟩
  have h : Hs W (pt b8 (.cells (({ R26.zz with f0 := R.f0,f1 := R.f1,f7 := R.f7 } : R26)).c 27 (0,0)) :: pt b4 (.cells R26.zz.c 27 (0,0)) :: pt b2 (.cells R.c 27 (0,0)) :: M) w2 := h
  refine h.stc 0 rfl (sz26 _ 8 (by decide)) fun w2 h => ⟨Go.Sh.Pres.lone (h.at 2 rfl),?_⟩
  have h : Hs W (pt b8 (.cells (({ R26.zz with f0 := R.f0,f1 := R.f1,f7 := R.f7,f8 := R.f8 } : R26)).c 27 (0,0)) :: pt b4 (.cells R26.zz.c 27 (0,0)) :: pt b2 (.cells R.c 27 (0,0)) :: M) w2 := h
  refine h.stc 0 rfl (sz26 _ 9 (by decide)) fun w2 h => ⟨Go.Sh.Pres.lone (h.at 2 rfl),?_⟩
  have h : Hs W (pt b8 (.cells (({ R26.zz with f0 := R.f0,f1 := R.f1,f7 := R.f7,f8 := R.f8,f9 := R.f9 } : R26)).c 27 (0,0)) :: pt b4 (.cells R26.zz.c 27 (0,0)) :: pt b2 (.cells R.c 27 (0,0)) :: M) w2 := h
  refine h.stc 0 rfl (sz26 _ 10 (by decide)) fun w2 h => ?_
  have h : Hs W (pt b8 (.cells (({ R26.zz with f0 := R.f0,f1 := R.f1,f7 := R.f7,f8 := R.f8,f9 := R.f9,f10a := R.f10a,f10n := R.f10n,f10c := R.f10c } : R26)).c 27 (0,0)) :: pt b4 (.cells R26.zz.c 27 (0,0)) :: pt b2 (.cells R.c 27 (0,0)) :: M) w2 := h
  refine h.drw fun w1 h => ⟨w1,Go.Sh.Pres.refl _,?_⟩
  refine h.ldI 2 rfl rfl ?_
  refine h.ldI 2 rfl rfl ?_
  refine h.ldI 2 rfl rfl ?_
  refine h.ldB 2 rfl rfl ?_
  refine h.ldC 2 rfl rfl ?_
  refine ldR26_of (s := maskR (2,⟨#[115,101,110,100]⟩,[69,72,73,74,75]) R) (h.atL 0 rfl) ?_
  rw [wr7]
  rw [wr8]
  refine alcS h fun ib w2 h2 hs2 => ⟨Go.Sh.Pres.of_Same hs2,?_⟩
  refine cl (c53S (l := [R.f1,R.f7,R.f8]) (ws := [⟨#[115,101,110,100]⟩]) (hT.same h2.old) (rd_blk (h2.at 0 rfl)) (by show 3 <= 10; omega) rfl (by intro n hn; simp only [List.mem_cons,List.not_mem_nil,or_false] at hn; rcases hn with rfl | rfl | rfl <;> assumption) (by simp) rfl (by decide)) ?_
  rintro _ w3 ⟨rfl,hs3⟩
  have hs : Same w1 w3 := hs2.trans hs3 fun _ _ x => x
  refine ⟨_,rfl,Go.Sh.Pres.of_Same hs,?_⟩
  have hz := row_size [⟨#[115,101,110,100]⟩] [R.f1,R.f7,R.f8] (by simp) (by show 3 <= 10; omega) (by intro n hn; simp only [List.mem_cons,List.not_mem_nil,or_false] at hn; rcases hn with rfl | rfl | rfl <;> assumption) (by decide)
  have hzl : (joined [⟨#[115,101,110,100]⟩]).size + 21 * [R.f1,R.f7,R.f8].length <= 1000 := by show (joined [⟨#[115,101,110,100]⟩]).size + 21 * 3 <= 1000; decide
  refine cat_of (by show _ + 1 <= _; omega) ?_
  refine clr c54 ⟨_,rfl,Go.Sh.Pres.of_Same hs,?_⟩
  have ho : ((if R.f9 then ⟨#[117]⟩ else ⟨#[111]⟩ : ByteArray)).size = 1 := by cases R.f9 <;> rfl
  refine cat_of (by rw [sp_size]; omega) ?_
  rw [sp_word (by simp)]
  have hz2 := joined_snoc_size (ws := [⟨#[115,101,110,100]⟩] ++ [R.f1,R.f7,R.f8].map dec) (if R.f9 then ⟨#[117]⟩ else ⟨#[111]⟩ : ByteArray) (by simp)
  refine cat_of (by show _ + 1 <= _; omega) ?_
  refine cl (c41R ((hd.same (hsw w3 (h.same hs))).rd) hdl) ?_
  rintro _ w4 ⟨rfl,hs4⟩
  have hs : Same w1 w4 := hs.trans hs4 fun _ _ x => x
  refine ⟨_,rfl,Go.Sh.Pres.of_Same hs,?_⟩
  refine cat_of (by rw [sp_size]; have := hexs_size (l := dat) hdl; omega) ?_
  rw [sp_word (by simp)]
  have hh := h.same hs
  refine hh.stcL 1 rfl (by rfl) fun w8 h8 => ?_
  have h8 : Hs W (_ :: pt b4 (.cells (maskR (2,⟨#[115,101,110,100]⟩,[69,72,73,74,75]) R).c 27 (0,0)) :: pt b2 (.cells R.c 27 (0,0)) :: M) w8 := h8
  refine ldR26_of (s := maskR (2,⟨#[115,101,110,100]⟩,[69,72,73,74,75]) R) (h8.atL 1 rfl) ?_
  exact hv (2,⟨#[115,101,110,100]⟩,[69,72,73,74,75]) w8 (by rw [e2]; rfl) h8.drop.drop.drop
 have e2 : R.f0 ≠ 2 := fun x => by rw [x] at e; cases e
 refine br_and (fun e => ?_) (fun e => ?_)
 ·have e3 : R.f0 = 3 := eq_of_beq e
  refine h.drw fun w1 h => ⟨w1,Go.Sh.Pres.refl _,?_⟩
  refine h.ldI 2 rfl rfl ?_
  refine ldR26_of (s := maskR (3,⟨#[114,101,99,101,105,118,101]⟩,[69]) R) (h.atL 0 rfl) ?_
  refine alcS h fun ib w2 h2 hs2 => ⟨Go.Sh.Pres.of_Same hs2,?_⟩
  refine cl (c53S (l := [R.f1]) (ws := [⟨#[114,101,99,101,105,118,101]⟩]) (hT.same h2.old) (rd_blk (h2.at 0 rfl)) (by show 1 <= 10; omega) rfl (by intro n hn; simp only [List.mem_cons,List.not_mem_nil,or_false] at hn; rcases hn with rfl <;> assumption) (by simp) rfl (by decide)) ?_
  rintro _ w3 ⟨rfl,hs3⟩
  have hs : Same w1 w3 := hs2.trans hs3 fun _ _ x => x
  refine ⟨_,rfl,Go.Sh.Pres.of_Same hs,?_⟩
  have hh := h.same hs
  refine hh.stcL 1 rfl (by rfl) fun w8 h8 => ?_
  have h8 : Hs W (_ :: pt b4 (.cells (maskR (3,⟨#[114,101,99,101,105,118,101]⟩,[69]) R).c 27 (0,0)) :: pt b2 (.cells R.c 27 (0,0)) :: M) w8 := h8
  refine ldR26_of (s := maskR (3,⟨#[114,101,99,101,105,118,101]⟩,[69]) R) (h8.atL 1 rfl) ?_
  exact hv (3,⟨#[114,101,99,101,105,118,101]⟩,[69]) w8 (by rw [e3]; rfl) h8.drop.drop.drop
 have e3 : R.f0 ≠ 3 := fun x => by rw [x] at e; cases e
 refine br_and (fun e => ?_) (fun e => ?_)
 ·have e4 : R.f0 = 4 := eq_of_beq e
  refine h.drw fun w1 h => ⟨w1,Go.Sh.Pres.refl _,?_⟩
  refine h.ldI 2 rfl rfl ?_
  refine ldR26_of (s := maskR (4,⟨#[115,104,117,116,100,111,119,110]⟩,[69]) R) (h.atL 0 rfl) ?_
  refine alcS h fun ib w2 h2 hs2 => ⟨Go.Sh.Pres.of_Same hs2,?_⟩
  refine cl (c53S (l := [R.f1]) (ws := [⟨#[115,104,117,116,100,111,119,110]⟩]) (hT.same h2.old) (rd_blk (h2.at 0 rfl)) (by show 1 <= 10; omega) rfl (by intro n hn; simp only [List.mem_cons,List.not_mem_nil,or_false] at hn; rcases hn with rfl <;> assumption) (by simp) rfl (by decide)) ?_
  rintro _ w3 ⟨rfl,hs3⟩
  have hs : Same w1 w3 := hs2.trans hs3 fun _ _ x => x
  refine ⟨_,rfl,Go.Sh.Pres.of_Same hs,?_⟩
  have hh := h.same hs
  refine hh.stcL 1 rfl (by rfl) fun w8 h8 => ?_
  have h8 : Hs W (_ :: pt b4 (.cells (maskR (4,⟨#[115,104,117,116,100,111,119,110]⟩,[69]) R).c 27 (0,0)) :: pt b2 (.cells R.c 27 (0,0)) :: M) w8 := h8
  refine ldR26_of (s := maskR (4,⟨#[115,104,117,116,100,111,119,110]⟩,[69]) R) (h8.atL 1 rfl) ?_
  exact hv (4,⟨#[115,104,117,116,100,111,119,110]⟩,[69]) w8 (by rw [e4]; rfl) h8.drop.drop.drop
 have e4 : R.f0 ≠ 4 := fun x => by rw [x] at e; cases e
 refine br_and (fun e => ?_) (fun e => ?_)
 ·have e5 : R.f0 = 5 := eq_of_beq e
  refine h.ldS 2 rfl rfl (h.stc 0 rfl (sz26 _ 11 (by decide)) fun w2 h => ?_)
  have h : Hs W (pt b8 (.cells (({ R26.zz with f0 := R.f0,f1 := R.f1,f11 := R.f11 } : R26)).c 27 (0,0)) :: pt b4 (.cells R26.zz.c 27 (0,0)) :: pt b2 (.cells R.c 27 (0,0)) :: M) w2 := h
  refine h.drw fun w1 h => ⟨w1,Go.Sh.Pres.refl _,?_⟩
  refine h.ldI 2 rfl rfl (h.ldS 2 rfl rfl ?_)
  refine ldR26_of (s := maskR (5,⟨#[97,98,111,114,116]⟩,[69,76]) R) (h.atL 0 rfl) ?_
  have hfin : ∀ w8,Same w1 w8 -> Go.Sh.stcL ⟨b4,0,none⟩ 0 (maskR (5,⟨#[97,98,111,114,116]⟩,[69,76]) R).l w8 fun w9 => ldR26 ⟨b4,0,none⟩ w9 fun s => K (.tuple #[.string (joined ([⟨#[97,98,111,114,116]⟩] ++ [R.f1].map dec ++ [bs (hexW (bl R.f11))])),s.v]) w9 := fun w8 hs => by
   have hh := h.same hs
   refine hh.stcL 1 rfl (by rfl) fun w8 h8 => ?_
   have h8 : Hs W (_ :: pt b4 (.cells (maskR (5,⟨#[97,98,111,114,116]⟩,[69,76]) R).c 27 (0,0)) :: pt b2 (.cells R.c 27 (0,0)) :: M) w8 := h8
   refine ldR26_of (s := maskR (5,⟨#[97,98,111,114,116]⟩,[69,76]) R) (h8.atL 1 rfl) ?_
   exact hv (5,⟨#[97,98,111,114,116]⟩,[69,76]) w8 (by rw [e5]; rfl) h8.drop.drop.drop
  have hz := row_size [⟨#[97,98,111,114,116]⟩] [R.f1] (by simp) (by show 1 <= 10; omega) (by intro n hn; simp only [List.mem_cons,List.not_mem_nil,or_false] at hn; rcases hn with rfl <;> assumption) (by decide)
  have hzl : (joined [⟨#[97,98,111,114,116]⟩]).size + 21 * [R.f1].length <= 1000 := by show (joined [⟨#[97,98,111,114,116]⟩]).size + 21 * 1 <= 1000; decide
  have hw11 : (bl R.f11).length <= 65536 := by rw [bl_len]; exact hwl
  have hhx := hexs_size (l := bl R.f11) hw11
  refine ⟨?_,?_⟩
  ·refine alcS h fun ib w2 h2 hs2 => ⟨Go.Sh.Pres.of_Same hs2,?_,?_⟩
   ·refine cl (c53S (l := [R.f1]) (ws := [⟨#[97,98,111,114,116]⟩]) (hT.same h2.old) (rd_blk (h2.at 0 rfl)) (by show 1 <= 10; omega) rfl (by intro n hn; simp only [List.mem_cons,List.not_mem_nil,or_false] at hn; rcases hn with rfl <;> assumption) (by simp) rfl (by decide)) ?_
    rintro _ w3 ⟨rfl,hs3⟩
    have hs := hs2.trans hs3 fun _ _ x => x
    refine ⟨_,rfl,Go.Sh.Pres.of_Same hs,cat_of (by show _ + 1 <= _; omega) ?_⟩
    obtain ⟨c,hrun,hs4,hr4⟩ := bytes_newS (w := w3) (s := R.f11)
    have hs := hs.trans hs4 fun _ _ x => x
    refine ⟨_,_,_,_,hrun,Go.Sh.Pres.of_Same hs,?_⟩
    refine cl (c41S hr4 (by omega)) ?_
    rintro _ w5 ⟨rfl,hs5⟩
    have hs := hs.trans hs5 fun _ _ x => x
    refine ⟨_,rfl,Go.Sh.Pres.of_Same hs,cat_of (by rw [sp_size]; omega) ?_⟩
    rw [sp_word (by simp)]
    exact hfin _ hs
   ·obtain ⟨c,hrun,hs4,hr4⟩ := bytes_newS (w := w2) (s := R.f11)
    have hs := hs2.trans hs4 fun _ _ x => x
    refine ⟨_,_,_,_,hrun,Go.Sh.Pres.of_Same hs,?_⟩
    refine cl (c53S (l := [R.f1]) (ws := [⟨#[97,98,111,114,116]⟩]) ((hT.same h2.old).same hs4) ((rd_blk (h2.at 0 rfl)).fr hs4 fun _ _ x => x) (by show 1 <= 10; omega) rfl (by intro n hn; simp only [List.mem_cons,List.not_mem_nil,or_false] at hn; rcases hn with rfl <;> assumption) (by simp) rfl (by decide)) ?_
    rintro _ w3 ⟨rfl,hs3⟩
    have hs := hs.trans hs3 fun _ _ x => x
    refine ⟨_,rfl,Go.Sh.Pres.of_Same hs,cat_of (by show _ + 1 <= _; omega) ?_⟩
    refine cl (c41S (hr4.fr hs3 fun _ _ x => x) (by omega)) ?_
    rintro _ w5 ⟨rfl,hs5⟩
    have hs := hs.trans hs5 fun _ _ x => x
    refine ⟨_,rfl,Go.Sh.Pres.of_Same hs,cat_of (by rw [sp_size]; omega) ?_⟩
    rw [sp_word (by simp)]
    exact hfin _ hs
  ·obtain ⟨c,hrun,hs2,hr4⟩ := bytes_newS (w := w1) (s := R.f11)
   refine ⟨_,_,_,_,hrun,Go.Sh.Pres.of_Same hs2,?_⟩
   refine alcS (h.same hs2) fun ib w2 h2 hs4 => ?_
   have hs := hs2.trans hs4 fun _ _ x => x
   refine ⟨Go.Sh.Pres.of_Same hs,?_⟩
   refine cl (c53S (l := [R.f1]) (ws := [⟨#[97,98,111,114,116]⟩]) (hT.same h2.old) (rd_blk (h2.at 0 rfl)) (by show 1 <= 10; omega) rfl (by intro n hn; simp only [List.mem_cons,List.not_mem_nil,or_false] at hn; rcases hn with rfl <;> assumption) (by simp) rfl (by decide)) ?_
   rintro _ w3 ⟨rfl,hs3⟩
   have hs := hs.trans hs3 fun _ _ x => x
   refine ⟨_,rfl,Go.Sh.Pres.of_Same hs,cat_of (by show _ + 1 <= _; omega) ?_⟩
   refine cl (c41S (hr4.fr (hs4.trans hs3 fun _ _ x => x) fun _ _ x => x) (by omega)) ?_
   rintro _ w5 ⟨rfl,hs5⟩
   have hs := hs.trans hs5 fun _ _ x => x
   refine ⟨_,rfl,Go.Sh.Pres.of_Same hs,cat_of (by rw [sp_size]; omega) ?_⟩
   rw [sp_word (by simp)]
   exact hfin _ hs
 have e5 : R.f0 ≠ 5 := fun x => by rw [x] at e; cases e
 refine br_and (fun e => ?_) (fun e => ?_)
 ·have e6 : R.f0 = 6 := eq_of_beq e
  refine h.drw fun w1 h => ⟨w1,Go.Sh.Pres.refl _,?_⟩
  refine h.ldI 2 rfl rfl ?_
  refine ldR26_of (s := maskR (6,⟨#[116,105,99,107]⟩,[69]) R) (h.atL 0 rfl) ?_
  refine alcS h fun ib w2 h2 hs2 => ⟨Go.Sh.Pres.of_Same hs2,?_⟩
  refine cl (c53S (l := [R.f1]) (ws := [⟨#[116,105,99,107]⟩]) (hT.same h2.old) (rd_blk (h2.at 0 rfl)) (by show 1 <= 10; omega) rfl (by intro n hn; simp only [List.mem_cons,List.not_mem_nil,or_false] at hn; rcases hn with rfl <;> assumption) (by simp) rfl (by decide)) ?_
  rintro _ w3 ⟨rfl,hs3⟩
  have hs : Same w1 w3 := hs2.trans hs3 fun _ _ x => x
  refine ⟨_,rfl,Go.Sh.Pres.of_Same hs,?_⟩
  have hh := h.same hs
  refine hh.stcL 1 rfl (by rfl) fun w8 h8 => ?_
  have h8 : Hs W (_ :: pt b4 (.cells (maskR (6,⟨#[116,105,99,107]⟩,[69]) R).c 27 (0,0)) :: pt b2 (.cells R.c 27 (0,0)) :: M) w8 := h8
  refine ldR26_of (s := maskR (6,⟨#[116,105,99,107]⟩,[69]) R) (h8.atL 1 rfl) ?_
  exact hv (6,⟨#[116,105,99,107]⟩,[69]) w8 (by rw [e6]; rfl) h8.drop.drop.drop
 have e6 : R.f0 ≠ 6 := fun x => by rw [x] at e; cases e
 refine br_and (fun e => ?_) (fun e => ?_)
 ·have e7 : R.f0 = 7 := eq_of_beq e
  refine h.drw fun w1 h => ⟨w1,Go.Sh.Pres.refl _,?_⟩
  refine h.ldI 2 rfl rfl (h.ldI 2 rfl rfl (h.ldI 2 rfl rfl ?_))
  refine alcS h fun ib w2 h2 hs2 => ⟨Go.Sh.Pres.of_Same hs2,?_⟩
  refine cl (c53S (l := [R.f6]) (ws := [⟨#[99,108,111,99,107]⟩]) (hT.same h2.old) (rd_blk (h2.at 0 rfl)) (by show 1 <= 10; omega) rfl (by intro n hn; simp only [List.mem_cons,List.not_mem_nil,or_false] at hn; rcases hn with rfl <;> assumption) (by simp) rfl (by decide)) ?_
  rintro _ w3 ⟨rfl,hs3⟩
  have hs : Same w1 w3 := hs2.trans hs3 fun _ _ x => x
  refine ⟨_,rfl,Go.Sh.Pres.of_Same hs,?_⟩
  have hh := h.same hs
  refine hh.stcL 1 rfl (by rfl) fun w8 h8 => ?_
  have h8 : Hs W (_ :: pt b4 (.cells (maskR (7,⟨#[99,108,111,99,107]⟩,[77]) R).c 27 (0,0)) :: pt b2 (.cells R.c 27 (0,0)) :: M) w8 := h8
  refine ldR26_of (s := maskR (7,⟨#[99,108,111,99,107]⟩,[77]) R) (h8.atL 1 rfl) ?_
  exact hv (7,⟨#[99,108,111,99,107]⟩,[77]) w8 (by rw [e7]; rfl) h8.drop.drop.drop
 have e7 : R.f0 ≠ 7 := fun x => by rw [x] at e; cases e
 refine br_and (fun e => ?_) (fun e => ?_)
 ·have e8 : R.f0 = 8 := eq_of_beq e
  refine h.drw fun w1 h => ⟨Go.Sh.lone w1 b2 _,Go.Sh.Pres.lone (h.at 2 rfl),?_⟩
  refine h.ldI 2 rfl rfl ?_
  refine ldI_at (lone_at _ _ _) rfl ?_
  refine h.stc 0 rfl (sz26 _ 2 (by decide)) fun w2 h => ⟨Go.Sh.Pres.lone (h.at 2 rfl),?_⟩
  have h : Hs W (pt b8 (.cells (({ R26.zz with f0 := R.f0,f1 := R.f1,f2 := R.f2 } : R26)).c 27 (0,0)) :: pt b4 (.cells R26.zz.c 27 (0,0)) :: pt b2 (.cells R.c 27 (0,0)) :: M) w2 := h
  refine h.stc 0 rfl (sz26 _ 3 (by decide)) fun w2 h => ?_
  have h : Hs W (pt b8 (.cells (({ R26.zz with f0 := R.f0,f1 := R.f1,f2 := R.f2,f3 := R.f3 } : R26)).c 27 (0,0)) :: pt b4 (.cells R26.zz.c 27 (0,0)) :: pt b2 (.cells R.c 27 (0,0)) :: M) w2 := h
  refine h.drw fun w1 h => ⟨w1,Go.Sh.Pres.refl _,?_⟩
  refine h.ldI 2 rfl rfl ?_
  refine h.ldI 2 rfl rfl ?_
  refine h.ldI 2 rfl rfl ?_
  refine ldR26_of (s := maskR (8,⟨#[100,101,108,105,118,101,114]⟩,[69,70,71]) R) (h.atL 0 rfl) ?_
  refine alcS h fun ib w2 h2 hs2 => ⟨Go.Sh.Pres.of_Same hs2,?_⟩
  refine cl (c53S (l := [R.f1,R.f2,R.f3]) (ws := [⟨#[100,101,108,105,118,101,114]⟩]) (hT.same h2.old) (rd_blk (h2.at 0 rfl)) (by show 3 <= 10; omega) rfl (by intro n hn; simp only [List.mem_cons,List.not_mem_nil,or_false] at hn; rcases hn with rfl | rfl | rfl <;> assumption) (by simp) rfl (by decide)) ?_
  rintro _ w3 ⟨rfl,hs3⟩
  have hs : Same w1 w3 := hs2.trans hs3 fun _ _ x => x
  refine ⟨_,rfl,Go.Sh.Pres.of_Same hs,?_⟩
  have hh := h.same hs
  refine hh.stcL 1 rfl (by rfl) fun w8 h8 => ?_
  have h8 : Hs W (_ :: pt b4 (.cells (maskR (8,⟨#[100,101,108,105,118,101,114]⟩,[69,70,71]) R).c 27 (0,0)) :: pt b2 (.cells R.c 27 (0,0)) :: M) w8 := h8
  refine ldR26_of (s := maskR (8,⟨#[100,101,108,105,118,101,114]⟩,[69,70,71]) R) (h8.atL 1 rfl) ?_
  exact hv (8,⟨#[100,101,108,105,118,101,114]⟩,[69,70,71]) w8 (by rw [e8]; rfl) h8.drop.drop.drop
 have e8 : R.f0 ≠ 8 := fun x => by rw [x] at e; cases e
 refine br_and (fun e => ?_) (fun e => ?_)
 ·have e9 : R.f0 = 9 := eq_of_beq e
  refine h.drw fun w1 h => ⟨Go.Sh.lone w1 b2 _,Go.Sh.Pres.lone (h.at 2 rfl),?_⟩
  refine h.ldI 2 rfl rfl ?_
  refine ldI_at (lone_at _ _ _) rfl ?_
  refine h.stc 0 rfl (sz26 _ 2 (by decide)) fun w2 h => ⟨Go.Sh.Pres.lone (h.at 2 rfl),?_⟩
  have h : Hs W (pt b8 (.cells (({ R26.zz with f0 := R.f0,f1 := R.f1,f2 := R.f2 } : R26)).c 27 (0,0)) :: pt b4 (.cells R26.zz.c 27 (0,0)) :: pt b2 (.cells R.c 27 (0,0)) :: M) w2 := h
  refine h.stc 0 rfl (sz26 _ 3 (by decide)) fun w2 h => ?_
  have h : Hs W (pt b8 (.cells (({ R26.zz with f0 := R.f0,f1 := R.f1,f2 := R.f2,f3 := R.f3 } : R26)).c 27 (0,0)) :: pt b4 (.cells R26.zz.c 27 (0,0)) :: pt b2 (.cells R.c 27 (0,0)) :: M) w2 := h
  refine h.drw fun w1 h => ⟨w1,Go.Sh.Pres.refl _,?_⟩
  refine h.ldI 2 rfl rfl ?_
  refine h.ldI 2 rfl rfl ?_
  refine h.ldI 2 rfl rfl ?_
  refine ldR26_of (s := maskR (9,⟨#[100,114,111,112]⟩,[69,70,71]) R) (h.atL 0 rfl) ?_
  refine alcS h fun ib w2 h2 hs2 => ⟨Go.Sh.Pres.of_Same hs2,?_⟩
  refine cl (c53S (l := [R.f1,R.f2,R.f3]) (ws := [⟨#[100,114,111,112]⟩]) (hT.same h2.old) (rd_blk (h2.at 0 rfl)) (by show 3 <= 10; omega) rfl (by intro n hn; simp only [List.mem_cons,List.not_mem_nil,or_false] at hn; rcases hn with rfl | rfl | rfl <;> assumption) (by simp) rfl (by decide)) ?_
  rintro _ w3 ⟨rfl,hs3⟩
  have hs : Same w1 w3 := hs2.trans hs3 fun _ _ x => x
  refine ⟨_,rfl,Go.Sh.Pres.of_Same hs,?_⟩
  have hh := h.same hs
  refine hh.stcL 1 rfl (by rfl) fun w8 h8 => ?_
  have h8 : Hs W (_ :: pt b4 (.cells (maskR (9,⟨#[100,114,111,112]⟩,[69,70,71]) R).c 27 (0,0)) :: pt b2 (.cells R.c 27 (0,0)) :: M) w8 := h8
  refine ldR26_of (s := maskR (9,⟨#[100,114,111,112]⟩,[69,70,71]) R) (h8.atL 1 rfl) ?_
  exact hv (9,⟨#[100,114,111,112]⟩,[69,70,71]) w8 (by rw [e9]; rfl) h8.drop.drop.drop
 have e9 : R.f0 ≠ 9 := fun x => by rw [x] at e; cases e
 refine br_and (fun e => ?_) (fun e => ?_)
 ·have e10 : R.f0 = 10 := eq_of_beq e
  refine h.drw fun w1 h => ⟨Go.Sh.lone w1 b2 _,Go.Sh.Pres.lone (h.at 2 rfl),?_⟩
  refine h.ldI 2 rfl rfl ?_
  refine ldI_at (lone_at _ _ _) rfl ?_
  refine h.stc 0 rfl (sz26 _ 2 (by decide)) fun w2 h => ⟨Go.Sh.Pres.lone (h.at 2 rfl),?_⟩
  have h : Hs W (pt b8 (.cells (({ R26.zz with f0 := R.f0,f1 := R.f1,f2 := R.f2 } : R26)).c 27 (0,0)) :: pt b4 (.cells R26.zz.c 27 (0,0)) :: pt b2 (.cells R.c 27 (0,0)) :: M) w2 := h
  refine h.stc 0 rfl (sz26 _ 3 (by decide)) fun w2 h => ?_
  have h : Hs W (pt b8 (.cells (({ R26.zz with f0 := R.f0,f1 := R.f1,f2 := R.f2,f3 := R.f3 } : R26)).c 27 (0,0)) :: pt b4 (.cells R26.zz.c 27 (0,0)) :: pt b2 (.cells R.c 27 (0,0)) :: M) w2 := h
  refine h.drw fun w1 h => ⟨w1,Go.Sh.Pres.refl _,?_⟩
  refine h.ldI 2 rfl rfl ?_
  refine h.ldI 2 rfl rfl ?_
  refine h.ldI 2 rfl rfl ?_
  refine ldR26_of (s := maskR (10,⟨#[116,119,105,99,101]⟩,[69,70,71]) R) (h.atL 0 rfl) ?_
  refine alcS h fun ib w2 h2 hs2 => ⟨Go.Sh.Pres.of_Same hs2,?_⟩
  refine cl (c53S (l := [R.f1,R.f2,R.f3]) (ws := [⟨#[116,119,105,99,101]⟩]) (hT.same h2.old) (rd_blk (h2.at 0 rfl)) (by show 3 <= 10; omega) rfl (by intro n hn; simp only [List.mem_cons,List.not_mem_nil,or_false] at hn; rcases hn with rfl | rfl | rfl <;> assumption) (by simp) rfl (by decide)) ?_
  rintro _ w3 ⟨rfl,hs3⟩
  have hs : Same w1 w3 := hs2.trans hs3 fun _ _ x => x
  refine ⟨_,rfl,Go.Sh.Pres.of_Same hs,?_⟩
  have hh := h.same hs
  refine hh.stcL 1 rfl (by rfl) fun w8 h8 => ?_
  have h8 : Hs W (_ :: pt b4 (.cells (maskR (10,⟨#[116,119,105,99,101]⟩,[69,70,71]) R).c 27 (0,0)) :: pt b2 (.cells R.c 27 (0,0)) :: M) w8 := h8
  refine ldR26_of (s := maskR (10,⟨#[116,119,105,99,101]⟩,[69,70,71]) R) (h8.atL 1 rfl) ?_
  exact hv (10,⟨#[116,119,105,99,101]⟩,[69,70,71]) w8 (by rw [e10]; rfl) h8.drop.drop.drop
 have e10 : R.f0 ≠ 10 := fun x => by rw [x] at e; cases e
 refine br_and (fun e => ?_) (fun e => ?_)
 ·have e11 : R.f0 = 11 := eq_of_beq e
  refine h.drw fun w1 h => ⟨Go.Sh.lone w1 b2 _,Go.Sh.Pres.lone (h.at 2 rfl),?_⟩
  refine h.ldI 2 rfl rfl ?_
  refine ldI_at (lone_at _ _ _) rfl ?_
  refine ldI_at (lone_at _ _ _) rfl ?_
  refine ldI_at (lone_at _ _ _) rfl ?_
  refine h.stc 0 rfl (sz26 _ 2 (by decide)) fun w2 h => ⟨Go.Sh.Pres.lone (h.at 2 rfl),?_⟩
  have h : Hs W (pt b8 (.cells (({ R26.zz with f0 := R.f0,f1 := R.f1,f2 := R.f2 } : R26)).c 27 (0,0)) :: pt b4 (.cells R26.zz.c 27 (0,0)) :: pt b2 (.cells R.c 27 (0,0)) :: M) w2 := h
  refine h.stc 0 rfl (sz26 _ 3 (by decide)) fun w2 h => ⟨Go.Sh.Pres.lone (h.at 2 rfl),?_⟩
  have h : Hs W (pt b8 (.cells (({ R26.zz with f0 := R.f0,f1 := R.f1,f2 := R.f2,f3 := R.f3 } : R26)).c 27 (0,0)) :: pt b4 (.cells R26.zz.c 27 (0,0)) :: pt b2 (.cells R.c 27 (0,0)) :: M) w2 := h
  refine h.stc 0 rfl (sz26 _ 4 (by decide)) fun w2 h => ⟨Go.Sh.Pres.lone (h.at 2 rfl),?_⟩
  have h : Hs W (pt b8 (.cells (({ R26.zz with f0 := R.f0,f1 := R.f1,f2 := R.f2,f3 := R.f3,f4 := R.f4 } : R26)).c 27 (0,0)) :: pt b4 (.cells R26.zz.c 27 (0,0)) :: pt b2 (.cells R.c 27 (0,0)) :: M) w2 := h
  refine h.stc 0 rfl (sz26 _ 5 (by decide)) fun w2 h => ?_
  have h : Hs W (pt b8 (.cells (({ R26.zz with f0 := R.f0,f1 := R.f1,f2 := R.f2,f3 := R.f3,f4 := R.f4,f5 := R.f5 } : R26)).c 27 (0,0)) :: pt b4 (.cells R26.zz.c 27 (0,0)) :: pt b2 (.cells R.c 27 (0,0)) :: M) w2 := h
  refine h.drw fun w1 h => ⟨w1,Go.Sh.Pres.refl _,?_⟩
  refine h.ldI 2 rfl rfl ?_
  refine h.ldI 2 rfl rfl ?_
  refine h.ldI 2 rfl rfl ?_
  refine h.ldI 2 rfl rfl ?_
  refine h.ldI 2 rfl rfl ?_
  refine ldR26_of (s := maskR (11,⟨#[115,112,111,105,108]⟩,[69,70,71,79,80]) R) (h.atL 0 rfl) ?_
  rw [wr5]
  refine alcS h fun ib w2 h2 hs2 => ⟨Go.Sh.Pres.of_Same hs2,?_⟩
  refine cl (c53S (l := [R.f1,R.f2,R.f3,R.f4,R.f5]) (ws := [⟨#[115,112,111,105,108]⟩]) (hT.same h2.old) (rd_blk (h2.at 0 rfl)) (by show 5 <= 10; omega) rfl (by intro n hn; simp only [List.mem_cons,List.not_mem_nil,or_false] at hn; rcases hn with rfl | rfl | rfl | rfl | rfl <;> assumption) (by simp) rfl (by decide)) ?_
  rintro _ w3 ⟨rfl,hs3⟩
  have hs : Same w1 w3 := hs2.trans hs3 fun _ _ x => x
  refine ⟨_,rfl,Go.Sh.Pres.of_Same hs,?_⟩
  have hh := h.same hs
  refine hh.stcL 1 rfl (by rfl) fun w8 h8 => ?_
  have h8 : Hs W (_ :: pt b4 (.cells (maskR (11,⟨#[115,112,111,105,108]⟩,[69,70,71,79,80]) R).c 27 (0,0)) :: pt b2 (.cells R.c 27 (0,0)) :: M) w8 := h8
  refine ldR26_of (s := maskR (11,⟨#[115,112,111,105,108]⟩,[69,70,71,79,80]) R) (h8.atL 1 rfl) ?_
  exact hv (11,⟨#[115,112,111,105,108]⟩,[69,70,71,79,80]) w8 (by rw [e11]; rfl) h8.drop.drop.drop
 have e11 : R.f0 ≠ 11 := fun x => by rw [x] at e; cases e
 refine br_and (fun e => ?_) (fun e => ?_)
 ·have e12 : R.f0 = 12 := eq_of_beq e
  refine h.drw fun w1 h => ⟨Go.Sh.lone w1 b2 _,Go.Sh.Pres.lone (h.at 2 rfl),?_⟩
  refine h.ldI 2 rfl rfl ?_
  refine ldC_at (lone_at _ _ _) rfl ?_
  refine h.stc 0 rfl (sz26 _ 2 (by decide)) fun w2 h => ⟨Go.Sh.Pres.lone (h.at 2 rfl),?_⟩
  have h : Hs W (pt b8 (.cells (({ R26.zz with f0 := R.f0,f1 := R.f1,f2 := R.f2 } : R26)).c 27 (0,0)) :: pt b4 (.cells R26.zz.c 27 (0,0)) :: pt b2 (.cells R.c 27 (0,0)) :: M) w2 := h
  refine h.stc 0 rfl (sz26 _ 10 (by decide)) fun w2 h => ?_
  have h : Hs W (pt b8 (.cells (({ R26.zz with f0 := R.f0,f1 := R.f1,f2 := R.f2,f10a := R.f10a,f10n := R.f10n,f10c := R.f10c } : R26)).c 27 (0,0)) :: pt b4 (.cells R26.zz.c 27 (0,0)) :: pt b2 (.cells R.c 27 (0,0)) :: M) w2 := h
  refine h.drw fun w1 h => ⟨w1,Go.Sh.Pres.refl _,?_⟩
  refine h.ldI 2 rfl rfl ?_
  refine h.ldI 2 rfl rfl ?_
  refine h.ldC 2 rfl rfl ?_
  refine ldR26_of (s := maskR (12,⟨#[102,111,114,103,101]⟩,[69,70,75]) R) (h.atL 0 rfl) ?_
  refine alcS h fun ib w2 h2 hs2 => ⟨Go.Sh.Pres.of_Same hs2,?_⟩
  refine cl (c53S (l := [R.f1,R.f2]) (ws := [⟨#[102,111,114,103,101]⟩]) (hT.same h2.old) (rd_blk (h2.at 0 rfl)) (by show 2 <= 10; omega) rfl (by intro n hn; simp only [List.mem_cons,List.not_mem_nil,or_false] at hn; rcases hn with rfl | rfl <;> assumption) (by simp) rfl (by decide)) ?_
  rintro _ w3 ⟨rfl,hs3⟩
  have hs : Same w1 w3 := hs2.trans hs3 fun _ _ x => x
  refine ⟨_,rfl,Go.Sh.Pres.of_Same hs,?_⟩
  have hz := row_size [⟨#[102,111,114,103,101]⟩] [R.f1,R.f2] (by simp) (by show 2 <= 10; omega) (by intro n hn; simp only [List.mem_cons,List.not_mem_nil,or_false] at hn; rcases hn with rfl | rfl <;> assumption) (by decide)
  have hzl : (joined [⟨#[102,111,114,103,101]⟩]).size + 21 * [R.f1,R.f2].length <= 1000 := by show (joined [⟨#[102,111,114,103,101]⟩]).size + 21 * 2 <= 1000; decide
  refine cat_of (by show _ + 1 <= _; omega) ?_
  refine cl (c41R ((hd.same (hsw w3 (h.same hs))).rd) hdl) ?_
  rintro _ w4 ⟨rfl,hs4⟩
  have hs : Same w1 w4 := hs.trans hs4 fun _ _ x => x
  refine ⟨_,rfl,Go.Sh.Pres.of_Same hs,?_⟩
  refine cat_of (by rw [sp_size]; have := hexs_size (l := dat) hdl; omega) ?_
  rw [sp_word (by simp)]
  have hh := h.same hs
  refine hh.stcL 1 rfl (by rfl) fun w8 h8 => ?_
  have h8 : Hs W (_ :: pt b4 (.cells (maskR (12,⟨#[102,111,114,103,101]⟩,[69,70,75]) R).c 27 (0,0)) :: pt b2 (.cells R.c 27 (0,0)) :: M) w8 := h8
  refine ldR26_of (s := maskR (12,⟨#[102,111,114,103,101]⟩,[69,70,75]) R) (h8.atL 1 rfl) ?_
  exact hv (12,⟨#[102,111,114,103,101]⟩,[69,70,75]) w8 (by rw [e12]; rfl) h8.drop.drop.drop
 have e12 : R.f0 ≠ 12 := fun x => by rw [x] at e; cases e
 refine br_and (fun e => ?_) (fun e => ?_)
 ·have e13 : R.f0 = 13 := eq_of_beq e
  refine h.drw fun w1 h => ⟨w1,Go.Sh.Pres.refl _,?_⟩
  refine h.ldI 2 rfl rfl (h.ldI 2 rfl rfl (h.ldI 2 rfl rfl ?_))
  refine alcS h fun ib w2 h2 hs2 => ⟨Go.Sh.Pres.of_Same hs2,?_⟩
  refine cl (c53S (l := [R.f2]) (ws := [⟨#[100,111,119,110]⟩]) (hT.same h2.old) (rd_blk (h2.at 0 rfl)) (by show 1 <= 10; omega) rfl (by intro n hn; simp only [List.mem_cons,List.not_mem_nil,or_false] at hn; rcases hn with rfl <;> assumption) (by simp) rfl (by decide)) ?_
  rintro _ w3 ⟨rfl,hs3⟩
  have hs : Same w1 w3 := hs2.trans hs3 fun _ _ x => x
  refine ⟨_,rfl,Go.Sh.Pres.of_Same hs,?_⟩
  have hh := h.same hs
  refine hh.stcL 1 rfl (by rfl) fun w8 h8 => ?_
  have h8 : Hs W (_ :: pt b4 (.cells (maskR (13,⟨#[100,111,119,110]⟩,[70]) R).c 27 (0,0)) :: pt b2 (.cells R.c 27 (0,0)) :: M) w8 := h8
  refine ldR26_of (s := maskR (13,⟨#[100,111,119,110]⟩,[70]) R) (h8.atL 1 rfl) ?_
  exact hv (13,⟨#[100,111,119,110]⟩,[70]) w8 (by rw [e13]; rfl) h8.drop.drop.drop
 have e13 : R.f0 ≠ 13 := fun x => by rw [x] at e; cases e
 refine br_and (fun e => ?_) (fun e => ?_)
 ·have e14 : R.f0 = 14 := eq_of_beq e
  refine h.drw fun w1 h => ⟨w1,Go.Sh.Pres.refl _,?_⟩
  refine h.ldI 2 rfl rfl (h.ldI 2 rfl rfl (h.ldI 2 rfl rfl ?_))
  refine alcS h fun ib w2 h2 hs2 => ⟨Go.Sh.Pres.of_Same hs2,?_⟩
  refine cl (c53S (l := [R.f2]) (ws := [⟨#[117,112]⟩]) (hT.same h2.old) (rd_blk (h2.at 0 rfl)) (by show 1 <= 10; omega) rfl (by intro n hn; simp only [List.mem_cons,List.not_mem_nil,or_false] at hn; rcases hn with rfl <;> assumption) (by simp) rfl (by decide)) ?_
  rintro _ w3 ⟨rfl,hs3⟩
  have hs : Same w1 w3 := hs2.trans hs3 fun _ _ x => x
  refine ⟨_,rfl,Go.Sh.Pres.of_Same hs,?_⟩
  have hh := h.same hs
  refine hh.stcL 1 rfl (by rfl) fun w8 h8 => ?_
  have h8 : Hs W (_ :: pt b4 (.cells (maskR (14,⟨#[117,112]⟩,[70]) R).c 27 (0,0)) :: pt b2 (.cells R.c 27 (0,0)) :: M) w8 := h8
  refine ldR26_of (s := maskR (14,⟨#[117,112]⟩,[70]) R) (h8.atL 1 rfl) ?_
  exact hv (14,⟨#[117,112]⟩,[70]) w8 (by rw [e14]; rfl) h8.drop.drop.drop
 have e14 : R.f0 ≠ 14 := fun x => by rw [x] at e; cases e
 refine h.stcL 1 rfl (by rfl) fun w8 h8 => ?_
 have h8 : Hs W (_ :: pt b4 (.cells R26.zz.c 27 (0,0)) :: pt b2 (.cells R.c 27 (0,0)) :: M) w8 := h8
 refine ldR26_of (s := R26.zz) (h8.atL 1 rfl) ?_
 refine hn w8 ?_ h8.drop.drop.drop
 have hne : ∀ t ∈ vtab,(t.1 == R.f0) = false := by
  intro t ht
  simp only [vtab,List.mem_cons,List.not_mem_nil,or_false] at ht
  rw [beq_eq_false_iff_ne]
  rcases ht with rfl | rfl | rfl | rfl | rfl | rfl | rfl | rfl | rfl | rfl | rfl | rfl | rfl | rfl
  all_goals exact fun x => by simp only at x; omega
 exact List.find?_eq_none.2 fun t ht => by show ¬ ((t.1 == R.f0) = true); rw [hne t ht]; simp
theorem c31 {R : R26} {dat : List UInt8} (hT : TB W) (h : Hs W M w) (hd : Holds26 W R dat) (hF : Fine R dat) : Calls Tryz.prog 31 #[R.v] w (rt fun v w' => Hs W M w' /\
  ((∃ t,vfind (fun k _ => k == R.f0) = some t /\ v = .tuple #[.string (lineOf (itemsOf t) ⟨R.c,dat⟩),(maskR t R).v]) \/ (vfind (fun k _ => k == R.f0) = none /\ v = .tuple #[.string ⟨#[]⟩,R26.zz.v]))) :=
 F31_ok (F31_go hT h hd hF (fun t _ hv h' => ⟨h',.inl ⟨t,hv,rfl⟩⟩) (fun _ hn h' => ⟨h',.inr ⟨hn,rfl⟩⟩))
end
end Go.Proofs.YtilenpnpnbdndaaGreatDoor
