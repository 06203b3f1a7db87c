/- Own text: part of the shallow reading of the code and of the contracts that are proved over it. -/
import Derived.Test.YtjcigidbnpmeaaaDoorSpG
namespace Go.Proofs.YtjcigidbnpmeaaaDoor
open Go Go.Sh Go.Sp

/-! All, High: closures over each -/
noncomputable def E30i : TypeInfo := (Tryd.prog.info? 22).getD default
theorem E30 : ElemT Tryd.prog 30 22 1 4 (.int .u32 0) E30i := ⟨by kernel_rfl, by kernel_rfl, by kernel_rfl, by kernel_rfl, by kernel_rfl, rfl, by decide⟩
def numV (cum : Int) (S : List Nat) : List Value := S.map fun (d : Nat) => Value.int .u32 ((cum + (d : Int)) % 4294967296)
theorem numV_snoc (cum : Int) (S : List Nat) (d : Nat) : numV cum (S ++ [d]) = numV cum S ++ [Value.int .u32 ((cum + (d : Int)) % 4294967296)] := by simp [numV]
theorem addN {cum : Int} {d : Nat} (h : d < 65536) : IntKind.wrap .u32 (cum + IntKind.wrap .u32 (d : Int)) = (cum + d) % 4294967296 := by rw [wrap_u32 (n := (d : Int)) (by omega) (by omega), wrap_u32_mod]
section
variable {b m : Nat} {cum : Int} {S : List Nat}
structure Al (w0 : World) (b m bo bs : Nat) (cum : Int) (S : List Nat) (pre : List Nat) (w : World) : Prop where
  fr : Same w0 w
  set : SetR w b m cum S
  ptr : w.heap[bs]? = some (.cells #[.pointer (some ⟨b, 0, none⟩)] 25 (0, 0))
  out : ∃ a l c, w.heap[bo]? = some (.cells #[.slice a l c] 30 (0, 0)) ∧ Own w (bo + 1) 22 1 a l c (numV cum pre)
theorem c37 {w0 w : World} {bo bs d : Nat} {pre rest : List Nat} (hS : S = pre ++ d :: rest) (hbo : w0.heap.size ≤ bo) (hbs : bs < bo) (hb : b < bo) (hm : m < bo) (h : Al w0 b m bo bs cum S pre w) :
    Calls Tryd.prog 37 #[.int .i64 (d : Int), .pointer (some ⟨bo, 0, none⟩), .pointer (some ⟨bs, 0, none⟩)] w (rt fun v w' => v = .tuple #[] ∧ Al w0 b m bo bs cum S (pre ++ [d]) w') := by
  refine F37_ok ?_
  unfold F37 drw alc
  simp only [rdI_mk, rdA_mk]
  obtain ⟨a, l, c, h1, h2⟩ := h.out
  have hd := h.set.rng d (by rw [hS]; simp)
  have hlen := h.set.len
  have hl : l = pre.length := by have := h2.length; simp [numV] at this; omega
  have hl2 : l + 1 ≤ 65534 := by rw [hS] at hlen; simp at hlen; omega
  refine ldC_at (w := w.drew) h1 rfl (ldP_at (w := w.drew) h.ptr rfl ?_)
  simp only [nn_some, add_mk]
  refine ldI_at (w := w.drew) h.set.fld.blk rfl ⟨Pres.alloc _ _, ?_⟩
  have f0 : Same w w.drew := (Fr.refl w).drew
  rw [addN (by omega)]
  refine push E30 (h2.fr f0 fun _ _ x => x) (news := #[_]) rfl (by simp [Value.oneCell']) (by omega) (by omega) (Nat.succ_le_of_lt (by simpa using lt_of_blk h1)) ?_
  intro a' c' w' k1 k2 k3
  have nb : ∀ k, k ≤ bo → ¬ inB a k := fun k hk x => by have := (h2.base_le x).1; omega
  have s1 : ∀ {k}, k ≤ bo → k < w.heap.size → w'.heap[k]? = w.heap[k]? := fun {k} hk hlt => k2.block k (by simpa using hlt) (nb k hk)
  have o1 : w'.heap[bo]? = some (.cells #[.slice a l c] 30 (0, 0)) := by rw [s1 (Nat.le_refl _) (lt_of_blk h1)]; exact h1
  refine stc_at o1 (by simp) ⟨trivial, ?_⟩
  have f1 : Fr (fun k => bo ≤ k) w w' := (f0.mono (S' := fun k => bo ≤ k) fun _ _ x => x.elim).trans k2 fun i _ x => by have := (h2.base_le x).1; omega
  have f2 := f1.sb (b := bo) (o := .cells (#[.slice a l c].setIfInBounds 0 (.slice a' (l + 1) c')) 30 (0, 0)) fun _ => Nat.le_refl _
  refine ⟨(h.fr.mono (S' := fun k => w0.heap.size ≤ k) fun _ _ x => x.elim).trans f2 (fun i _ (x : bo ≤ i) => by omega) |>.mono fun i hi x => by omega, h.set.fr f2 (by omega) (by omega), f2.blk h.ptr (by omega), a', l + 1, c', sb_same o1, ?_⟩
  rw [numV_snoc]
  refine k1.fr ((Fr.refl w').sb (S := (· = bo)) fun _ => rfl) fun k hk x => ?_
  subst x
  have := (k1.base_le hk).1
  omega
theorem c12 {w : World} (ht : TB w) (h : SetR w b m cum S) :
    Calls Tryd.prog 12 #[.pointer (some ⟨b, 0, none⟩)] w (rt fun v w' => ∃ a c, v = .slice a S.length c ∧ Own w' w.heap.size 22 1 a S.length c (numV cum S) ∧ Same w w') := by
  refine F12_ok ?_
  unfold F12 alc
  simp only [rdP_mk]
  have hbl := h.blt
  have hml := h.mlt
  refine ldP_at (alloc_new _ _) rfl ?_
  refine clr (c35 (h.same ((Fr.refl w).alloc _))) ⟨_, rfl, ?_⟩
  simp only [Bool.not_true, br_false]
  refine ldP_at (alloc_blk (alloc_new _ _)) rfl ?_
  simp only [nn_some, add_mk]
  obtain ⟨w1, hw1⟩ : ∃ w1, w1 = (w.alloc (.cells #[.pointer (some ⟨b, 0, none⟩)] 25)).alloc (.cells #[.slice none 0 0] 30) := ⟨_, rfl⟩
  have z1 : w1.heap.size = w.heap.size + 2 := by rw [hw1]; simp
  have o1 : w1.heap[w.heap.size + 1]? = some (.cells #[.slice none 0 0] 30 (0, 0)) := by
    have := alloc_new (w.alloc (.cells #[.pointer (some ⟨b, 0, none⟩)] 25)) (.cells #[.slice none 0 0] 30)
    rw [← hw1] at this
    simpa using this
  have p1 : w1.heap[w.heap.size]? = some (.cells #[.pointer (some ⟨b, 0, none⟩)] 25 (0, 0)) := by rw [hw1]; exact alloc_blk (alloc_new _ _)
  have f1 : Same w w1 := by rw [hw1]; exact ((Fr.refl w).alloc _).alloc _
  have hsz : (w.alloc (.cells #[.pointer (some ⟨b, 0, none⟩)] 25)).heap.size = w.heap.size + 1 := by simp
  rw [← hw1, hsz]
  clear hw1 hsz
  have start : Al w b m (w.heap.size + 1) w.heap.size cum S [] w1 := ⟨f1, h.same f1, p1, none, 0, 0, o1, Own.nil _ _ _ _⟩
  have E : Each b m S (.func (.func 37) #[] #[.pointer (some ⟨w.heap.size + 1, 0, none⟩), .pointer (some ⟨w.heap.size, 0, none⟩)]) (Al w b m (w.heap.size + 1) w.heap.size cum S) :=
    { rising := h.rising
      bound := fun d hd => by have := h.rng d hd; omega
      tab := fun pre w' hI => ht.fr hI.fr fun x => x
      fld := fun pre w' hI => by obtain ⟨f, k1, k2⟩ := hI.set.fld.map; exact ⟨_, _, f, hI.set.fld.blk, rfl, k1, k2⟩
      step := fun pre d rest w' hS hI => by
        refine callV_of (by kernel_rfl) (call_of (c37 (rest := rest) hS (by omega) (by omega) (by omega) (by omega) hI) ?_)
        rintro _ w'' ⟨v, rfl, rfl, h2⟩
        exact ⟨rfl, rfl, h2⟩ }
  refine cl (c36 E (start.set.fld.blk) rfl start) ?_
  rintro _ w' ⟨rfl, hI⟩
  obtain ⟨a, l, c, h1, h2⟩ := hI.out
  have hl : l = S.length := by have := h2.length; simp [numV] at this; omega
  subst hl
  exact ⟨rfl, ldC_at h1 rfl ⟨a, c, rfl, h2.mono (by omega), hI.fr⟩⟩

/-! High -/
def highS (cum : Int) (S : List Nat) : Int := (cum + (S.getLastD 0 : Nat)) % 4294967296
structure Hi (w0 : World) (b m bo bs : Nat) (cum : Int) (S : List Nat) (pre : List Nat) (w : World) : Prop where
  fr : Same w0 w
  set : SetR w b m cum S
  ptr : w.heap[bs]? = some (.cells #[.pointer (some ⟨b, 0, none⟩)] 25 (0, 0))
  out : w.heap[bo]? = some (.cells #[.int .u32 (highS cum pre)] 22 (0, 0))
theorem c44 {w0 w : World} {bo bs d : Nat} {pre rest : List Nat} (hS : S = pre ++ d :: rest) (hbo : w0.heap.size ≤ bo) (hbs : bs < bo) (hb : b < bo) (hm : m < bo) (h : Hi w0 b m bo bs cum S pre w) :
    Calls Tryd.prog 44 #[.int .i64 (d : Int), .pointer (some ⟨bs, 0, none⟩), .pointer (some ⟨bo, 0, none⟩)] w (rt fun v w' => v = .tuple #[] ∧ Hi w0 b m bo bs cum S (pre ++ [d]) w') := by
  refine F44_ok ?_
  unfold F44
  simp only [rdI_mk, rdA_mk]
  have hd := h.set.rng d (by rw [hS]; simp)
  refine ldP_at h.ptr rfl ?_
  simp only [nn_some, add_mk]
  refine ldI_at h.set.fld.blk rfl (stc_at h.out (by simp) ⟨trivial, ?_⟩)
  rw [addN (by omega)]
  have f2 := (Fr.refl (S := fun k => bo ≤ k) w).sb (b := bo) (o := .cells (#[.int .u32 (highS cum pre)].setIfInBounds 0 (.int .u32 ((cum + (d : Int)) % 4294967296))) 22 (0, 0)) fun _ => Nat.le_refl _
  refine ⟨(h.fr.mono (S' := fun k => w0.heap.size ≤ k) fun _ _ x => x.elim).trans f2 (fun i _ (x : bo ≤ i) => by omega) |>.mono fun i hi x => by omega, h.set.fr f2 (by omega) (by omega), f2.blk h.ptr (by omega), ?_⟩
  have : highS cum (pre ++ [d]) = (cum + (d : Int)) % 4294967296 := by simp [highS, List.getLastD_eq_getLast?]
  rw [this]
  exact sb_same h.out
theorem c20 {w : World} (ht : TB w) (h : SetR w b m cum S) : Calls Tryd.prog 20 #[.pointer (some ⟨b, 0, none⟩)] w (rt fun v w' => v = .int .u32 (highS cum S) ∧ Same w w') := by
  refine F20_ok ?_
  unfold F20 alc
  simp only [rdP_mk]
  have hbl := h.blt
  have hml := h.mlt
  have h0 := h.same ((Fr.refl w).alloc (.cells #[.pointer (some ⟨b, 0, none⟩)] 25))
  refine ldP_at (alloc_new _ _) rfl ?_
  refine clr (c35 h0) ⟨_, rfl, ?_⟩
  simp only [Bool.not_true, br_false]
  refine ldP_at (alloc_new _ _) rfl ?_
  simp only [nn_some, add_mk]
  refine ldI_at h0.fld.blk rfl (stc_at (alloc_new _ _) (by simp) ?_)
  obtain ⟨w1, hw1⟩ : ∃ w1, w1 = (w.alloc (.cells #[.pointer (some ⟨b, 0, none⟩)] 25)).alloc (.cells #[.int .u32 0] 22) := ⟨_, rfl⟩
  have z1 : w1.heap.size = w.heap.size + 2 := by rw [hw1]; simp
  have o1 : w1.heap[w.heap.size + 1]? = some (.cells #[.int .u32 0] 22 (0, 0)) := by
    have := alloc_new (w.alloc (.cells #[.pointer (some ⟨b, 0, none⟩)] 25)) (.cells #[.int .u32 0] 22)
    rw [← hw1] at this
    simpa using this
  have p1 : w1.heap[w.heap.size]? = some (.cells #[.pointer (some ⟨b, 0, none⟩)] 25 (0, 0)) := by rw [hw1]; exact alloc_blk (alloc_new _ _)
  have f1 : Same w w1 := by rw [hw1]; exact ((Fr.refl w).alloc _).alloc _
  have hsz : (w.alloc (.cells #[.pointer (some ⟨b, 0, none⟩)] 25)).heap.size = w.heap.size + 1 := by simp
  rw [← hw1, hsz]
  clear hw1 hsz
  generalize hw2 : sb w1 (w.heap.size + 1) _ = w2
  have f2 : Same w w2 := by rw [← hw2]; exact f1.sb fun x => by omega
  have o2 : w2.heap[w.heap.size + 1]? = some (.cells #[.int .u32 cum] 22 (0, 0)) := by rw [← hw2]; exact sb_same o1
  have p2 : w2.heap[w.heap.size]? = some (.cells #[.pointer (some ⟨b, 0, none⟩)] 25 (0, 0)) := by rw [← hw2, sb_other (by omega)]; exact p1
  clear hw2
  have e0 : highS cum [] = cum := by have := h.c0; have := h.c1; simp [highS]; omega
  have start : Hi w b m (w.heap.size + 1) w.heap.size cum S [] w2 := ⟨f2, h.same f2, p2, by rw [e0]; exact o2⟩
  have E : Each b m S (.func (.func 44) #[] #[.pointer (some ⟨w.heap.size, 0, none⟩), .pointer (some ⟨w.heap.size + 1, 0, none⟩)]) (Hi w b m (w.heap.size + 1) w.heap.size cum S) :=
    { rising := h.rising
      bound := fun d hd => by have := h.rng d hd; omega
      tab := fun pre w' hI => ht.fr hI.fr fun x => x
      fld := fun pre w' hI => by obtain ⟨f, k1, k2⟩ := hI.set.fld.map; exact ⟨_, _, f, hI.set.fld.blk, rfl, k1, k2⟩
      step := fun pre d rest w' hS hI => by
        refine callV_of (by kernel_rfl) (call_of (c44 (rest := rest) hS (by omega) (by omega) (by omega) (by omega) hI) ?_)
        rintro _ w'' ⟨v, rfl, rfl, h2⟩
        exact ⟨rfl, rfl, h2⟩ }
  refine ldP_at p2 rfl ?_
  simp only [nn_some, add_mk]
  refine cl (c36 E (start.set.fld.blk) rfl start) ?_
  rintro _ w' ⟨rfl, hI⟩
  exact ⟨rfl, ldI_at hI.out rfl ⟨rfl, hI.fr⟩⟩
end
end Go.Proofs.YtjcigidbnpmeaaaDoor
