/- Own text: part of the shallow reading of the code and of the contracts that are proved over it. -/
import Derived.WalkKit
import Derived.RangeFuncSeq
import Derived.RangeFuncRecord
import Derived.TacticsIn
import Derived.OrdersIn
namespace Go.Sh
open Go
abbrev Tm := Nat -> Value
def upd (t : Tm) (i : Nat) (v : Value) : Tm := fun j => bif Nat.beq j i then v else t j
def putO (t : Tm) (d : Option Nat) (v : Value) : Tm := match d with | none => t | some i => upd t i v
def ev (t : Tm) (x : Operand) : Value :=
 match x with
 | .tmp i => t i
 | .const v => v
 | .global g => .pointer (some ⟨g,0,none⟩)
 | .func f => .func (.func f) #[] #[]
inductive Kd where
 | int (k : IntKind) | bool | str | ptr | adr | slc | map | ifc | any
inductive Kx where
 | one (k : Kd) | agg (ks : List Kd)
inductive Ky where
 | one (x : Kx) | tup (xs : List Kx)
def exK (k : Kd) (K : Value -> Prop) : Prop :=
 match k with
 | .int k => ∃ n : Int,K (.int k n)
 | .bool => ∃ b : Bool,K (.bool b)
 | .str => ∃ s : ByteArray,K (.string s)
 | .ptr => ∃ p : Option Addr,K (.pointer p)
 | .adr => ∃ a : Addr,K (.pointer (some a))
 | .slc => ∃ (a : Option Addr) (l c : Nat),K (.slice a l c)
 | .map => ∃ m : Option Nat,K (.map m)
 | .ifc => K .nilIface \/ ∃ (u : TypeId) (v : Value),K (.iface u v)
 | .any => ∃ v : Value,K v
def exL : List Kd -> (List Value -> Prop) -> Prop
 | [],K => K []
 | k :: r,K => exK k fun v => exL r fun vs => K (v :: vs)
def exX (x : Kx) (K : Value -> Prop) : Prop :=
 match x with
 | .one k => exK k K
 | .agg ks => exL ks fun vs => K (.agg vs.toArray)
def exXs : List Kx -> (List Value -> Prop) -> Prop
 | [],K => K []
 | x :: r,K => exX x fun v => exXs r fun vs => K (v :: vs)
def exY (y : Ky) (K : Value -> Prop) : Prop :=
 match y with
 | .one x => exX x K
 | .tup xs => exXs xs fun vs => K (.tuple vs.toArray)
def flatKd : TypeDesc -> Kd
 | .bool => .bool
 | .int k => .int k
 | .string => .str
 | .pointer _ => .ptr
 | .unsafePointer => .ptr
 | .slice _ => .slc
 | .map _ _ => .map
 | .interface _ => .ifc
 | _ => .any
def cellKds (P : Program) : Nat -> TypeId -> List Kd
 | 0,_ => []
 | d + 1,t =>
  match P.underlying t with
  | some (.struct fs) => fs.toList.flatMap fun f => cellKds P d f.type
  | some (.array n e) => (List.replicate n (cellKds P d e)).flatten
  | some d => [flatKd d]
  | none => []
def isAggT (P : Program) (t : TypeId) : Bool :=
 match P.underlying t with
 | some (.struct _) | some (.array _ _) => true
 | _ => false
def tyI (P : Program) (t : TypeId) : Option TypeInfo :=
 match P.underlying t with
 | some _ => P.info? t
 | none => none
def kxOf (P : Program) (t : TypeId) : Kx :=
 match P.underlying t with
 | some (.struct _) | some (.array _ _) => .agg (cellKds P 20 t)
 | some d => .one (flatKd d)
 | none => .one .any
def kyOf (P : Program) (t : TypeId) : Ky :=
 match P.underlying t with
 | some (.tuple ts) => .tup (ts.toList.map (kxOf P))
 | _ => .one (kxOf P t)
def br (b : Bool) (A B : Prop) : Prop := match b with | true => A | false => B
def nn (p : Option Addr) (K : Addr -> Prop) : Prop := match p with | some a => K a | none => False
def nz (b : Int) (A : Prop) : Prop := match b with | .ofNat (_ + 1) => A | .negSucc _ => A | .ofNat 0 => False
def shc (b : Int) (K : Nat -> Prop) : Prop := match b with | .ofNat n => K n | .negSucc _ => False
def bitI (op : BinOp) (k : IntKind) (x y : Int) : Int :=
 match op with
 | .and => k.wrap (BitVec.ofInt k.bits x &&& BitVec.ofInt k.bits y).toNat
 | .or => k.wrap (BitVec.ofInt k.bits x ||| BitVec.ofInt k.bits y).toNat
 | .xor => k.wrap (BitVec.ofInt k.bits x ^^^ BitVec.ofInt k.bits y).toNat
 | _ => k.wrap (BitVec.ofInt k.bits x &&& ~~~(BitVec.ofInt k.bits y)).toNat
def ldL (w : World) (a : Addr) : List Kd -> Nat -> (List Value -> Prop) -> Prop
 | [],_,K => K []
 | k :: r,i,K => exK k fun v => w.cell? (a.add i) = some v /\ ldL w a r (i + 1) fun vs => K (v :: vs)
def ldX (x : Kx) (a : Addr) (w : World) (K : Value -> Prop) : Prop :=
 match x with
 | .one k => exK k fun v => w.cell? a = some v /\ K v
 | .agg ks => ldL w a ks 0 fun vs => K (.agg vs.toArray)
def ldI (k : IntKind) (a : Addr) (w : World) (K : Int -> Prop) : Prop := ∃ n,w.cell? a = some (.int k n) /\ K n
def ldB (a : Addr) (w : World) (K : Bool -> Prop) : Prop := ∃ n,w.cell? a = some (.bool n) /\ K n
def ldS (a : Addr) (w : World) (K : ByteArray -> Prop) : Prop := ∃ n,w.cell? a = some (.string n) /\ K n
def ldP (a : Addr) (w : World) (K : Option Addr -> Prop) : Prop := ∃ n,w.cell? a = some (.pointer n) /\ K n
def ldC (a : Addr) (w : World) (K : Option Addr -> Nat -> Nat -> Prop) : Prop := ∃ b l c,w.cell? a = some (.slice b l c) /\ K b l c
def ldV (a : Addr) (w : World) (K : Value -> Prop) : Prop := ∃ n,w.cell? a = some n /\ K n
def rdI (k : IntKind) (v : Value) (K : Int -> Prop) : Prop := ∃ n,v = .int k n /\ K n
def rdB (v : Value) (K : Bool -> Prop) : Prop := ∃ n,v = .bool n /\ K n
def rdS (v : Value) (K : ByteArray -> Prop) : Prop := ∃ n,v = .string n /\ K n
def rdP (v : Value) (K : Option Addr -> Prop) : Prop := ∃ n,v = .pointer n /\ K n
def rdA (v : Value) (K : Addr -> Prop) : Prop := ∃ n,v = .pointer (some n) /\ K n
def rdC (v : Value) (K : Option Addr -> Nat -> Nat -> Prop) : Prop := ∃ b l c,v = .slice b l c /\ K b l c
def stc (a : Addr) (v : Value) (w : World) (K : World -> Prop) : Prop :=
 ((w.cell? a).isSome = true /\ w.frozen? a = false) /\ K (w.setCell a v)
def st (a : Addr) (v : Value) (w : World) (K : World -> Prop) : Prop :=
 match v with
 | .agg _ => False
 | .tuple _ => False
 | .bool b => stc a (.bool b) w K
 | .int k n => stc a (.int k n) w K
 | .string s => stc a (.string s) w K
 | .pointer p => stc a (.pointer p) w K
 | .slice b l c => stc a (.slice b l c) w K
 | .map m => stc a (.map m) w K
 | .func f x y => stc a (.func f x y) w K
 | .nilFunc => stc a .nilFunc w K
 | .iface u v => stc a (.iface u v) w K
 | .nilIface => stc a .nilIface w K
 | v => stc a v w K
def stL (a : Addr) : Nat -> List Value -> World -> (World -> Prop) -> Prop
 | _,[],w,K => K w
 | i,v :: r,w,K => st (a.add i) v w fun w => stL a (i + 1) r w K
def stX (agg : Bool) (n : Nat) (a : Addr) (v : Value) (w : World) (K : World -> Prop) : Prop :=
 match agg with
 | false => match n with | 1 => st a v w K | _ => False
 | true => match v with
  | .agg cs => match Nat.beq cs.size n with | true => stL a 0 cs.toList w K | false => False
  | _ => False
def ixS (sz : Nat) (base : Option Addr) (l : Nat) (i : Int) (K : Addr -> Prop) : Prop :=
 (0 <= i /\ i < (l : Int)) /\ nn base fun a => K (a.add (i.toNat * sz))
def ixA (sz n : Nat) (a : Addr) (i : Int) (K : Addr -> Prop) : Prop :=
 (0 <= i /\ i < (n : Int)) /\ K (a.add (i.toNat * sz))
def ixT (s : ByteArray) (i : Int) (K : Int -> Prop) : Prop := ∃ b,(0 <= i /\ s[i.toNat]? = some b) /\ K (b.toNat : Int)
def cat (x y : ByteArray) (K : ByteArray -> Prop) : Prop := ((x.size + y.size : Nat) : Int) <= IntKind.i64.max /\ K (x ++ y)
def bnd (v : Option Value) (dflt y : Nat) (K : Nat -> Prop) : Prop :=
 match v with
 | none => K dflt
 | some (.int _ i) => (0 <= i /\ i <= (y : Int)) /\ K i.toNat
 | some _ => False
def slS (sz : Nat) (a : Option Addr) (l c : Nat) (lo hi : Option Value) (K : Option Addr -> Nat -> Nat -> Prop) : Prop :=
 bnd hi l c fun h => bnd lo 0 h fun f => K (if c = f then a else a.map (·.add (f * sz))) (h - f) (c - f)
def slT (s : ByteArray) (lo hi : Option Value) (K : ByteArray -> Prop) : Prop :=
 bnd hi s.size s.size fun h => bnd lo 0 h fun f => K (s.extract f h)
def rn (P : Program) (s : Sem Value) (w : World) (y : Ky) (K : Value -> World -> Prop) : Prop :=
 exY y fun v => ∃ w',s.run P w = .ok v w' /\ K v w'
def nxt (P : Program) (s : Sem Value) (w : World) (K : Value -> World -> Prop) : Prop :=
 (∃ w',s.run P w = .ok (.tuple #[.bool false]) w' /\ K (.tuple #[.bool false]) w') \/ ∃ k v w',s.run P w = .ok (.tuple #[.bool true,k,v]) w' /\ K (.tuple #[.bool true,k,v]) w'
def rnU (P : Program) (s : Sem Unit) (w : World) (K : World -> Prop) : Prop := ∃ w',s.run P w = .ok () w' /\ K w'
class Esc where
 E : List PanicEntry -> World -> Prop
@[reducible] def Esc.none : Esc := ⟨fun _ _ => False⟩
def en [Esc] (R : Ending -> World -> Prop) (e : Ending) (w : World) : Prop := match e with | .panicked ch => Esc.E ch w | e => R e w
def rv [Esc] (K : Value -> World -> Prop) : Ending -> World -> Prop := en fun e w' => ∃ v,e = .returned v /\ K v w'
theorem en_mono [Esc] {R R' : Ending -> World -> Prop} (h : ∀ e w,R e w -> R' e w) : ∀ {e w},en R e w -> en R' e w
 | .returned _,_,x => h _ _ x
 | .panicked _,_,x => x
 | .outgrown,_,x => h _ _ x
theorem rv_iff [Esc] {K : Value -> World -> Prop} {e : Ending} {w : World} : rv K e w ↔ (∃ v,e = .returned v /\ K v w) \/ ∃ ch,e = .panicked ch /\ Esc.E ch w := by
 cases e with
 | returned v => exact ⟨fun x => .inl x,fun x => x.elim id fun ⟨_,h,_⟩ => by cases h⟩
 | panicked ch => exact ⟨fun x => .inr ⟨_,rfl,x⟩,fun x => x.elim (fun ⟨_,h,_⟩ => by cases h) fun ⟨_,h,y⟩ => by cases h; exact y⟩
 | outgrown => exact ⟨fun x => .inl x,fun x => x.elim id fun ⟨_,h,_⟩ => by cases h⟩
def call [Esc] (P : Program) (f : FuncId) (args : Array Value) (w : World) (y : Ky) (K : Value -> World -> Prop) : Prop :=
 Calls P f args w (en fun e w' => exY y fun v => e = .returned v /\ K v w')
def okFn (P : Program) (f : FuncId) : Bool :=
 match P.funcs[f]? with
 | some fn => fn.body.isSome && !(fn.name == "runtime.NumGoroutine")
 | none => false
def ext (P : Program) (f : FuncId) (args : Array Value) (w : World) (y : Ky) (K : Value -> World -> Prop) : Prop :=
 exY y fun v => ∃ w',(callFunc f args).run P w = .ok (.value v) w' /\ K v w'
def yd (P : Program) (l : Nat) (args : Array Value) (w : World) (K : Value -> World -> Prop) : Prop :=
 YieldAt Fence.wide 0 P l args w fun e w' => ∃ v,e = .returned v /\ K v w'
def callV [Esc] (P : Program) (fv : Value) (args : Array Value) (w : World) (y : Ky) (K : Value -> World -> Prop) : Prop :=
 (∃ f first captured,fv = .func (.func f) first captured /\ okFn P f = true /\ call P f (first ++ args ++ captured) w y K) \/
 (∃ l,fv = .func (.yield l) #[] #[] /\ yd P l args w fun v w' => exY y fun u => v = u /\ K u w')
def callX [Esc] (P : Program) (s : Sem Next) (w : World) (y : Ky) (K : Value -> World -> Prop) : Prop :=
 ∃ f args w1,s.run P w = .ok (.enter f args) w1 /\ call P f args w1 y K
def alc (o : Obj) (w : World) (K : Nat -> World -> Prop) : Prop := K w.heap.size (w.alloc o)
def drw (w : World) (K : World -> Prop) : Prop := K w.drew
def isBoolT (P : Program) (t : TypeId) : Bool := match P.underlying t with | some .bool => true | _ => false
def isIntT (P : Program) (t : TypeId) : Bool := match P.underlying t with | some (.int _) => true | _ => false
def isStrT (P : Program) (t : TypeId) : Bool := match P.underlying t with | some .string => true | _ => false
def lookF (P : Program) (k e : TypeId) (m ix : Value) (ok : Bool) (w : World) : Option Value :=
 match (match m with
  | .map none => some []
  | .map (some r) => (match w.heap[r]? with | some (.map es _) => some es.toList | _ => none)
  | _ => none : Option (List MapEntry)) with
 | none => none
 | some es => match P.underlying k,(P.info? e).bind (·.zero) with
  | some kd,some z => match Instr.findNow kd ix es 0 with
   | some (some (_,v)) => some (match ok with | true => .tuple #[v,.bool true] | false => v)
   | some none => some (match ok with | true => .tuple #[z,.bool false] | false => z)
   | none => none
  | _,_ => none
def lkp (P : Program) (k e : TypeId) (m ix : Value) (ok : Bool) (w : World) (y : Ky) (K : Value -> Prop) : Prop := exY y fun v => lookF P k e m ix ok w = some v /\ K v
def keyT (P : Program) (ty : TypeId) : Option (TypeId × TypeId) :=
 match P.underlying ty with
 | some (.map k e) => match isIntT P k || isStrT P k || isBoolT P k with
  | true => some (k,e)
  | false => none
 | _ => none
def fieldOff (P : Program) (ty : TypeId) (i : Nat) : Option Nat :=
 match P.underlying ty with
 | some (.struct fs) => match fs[i]? with
  | some f => match P.info? f.type with
   | some inf => match inf.size with | 0 => none | _ + 1 => some f.offset
   | none => none
  | none => none
 | _ => none
def partV (P : Program) (t : TypeId) (cs : Array Value) (off : Nat) : Option Value :=
 match isAggT P t with
 | true => some (.agg (cs.extract off (off + P.cellsOf t)))
 | false => cs[off]?
def fieldV (P : Program) (ty : TypeId) (cs : Array Value) (i : Nat) : Option Value :=
 match P.underlying ty with
 | some (.struct fs) => match fs[i]? with
  | some f => match tyI P f.type with | some _ => partV P f.type cs f.offset | none => none
  | none => none
 | _ => none
def optV (v : Option Value) (K : Value -> Prop) : Prop := match v with | some v => K v | none => False
def buildV (P : Program) (ty : TypeId) (parts : List (Nat × Value)) : Option Value :=
 match (P.info? ty).bind (·.zero) with
 | none => none
 | some z => match P.underlying ty with
  | some (.struct fs) => match fs.all fun f => (P.info? f.type).isSome with
   | true => (Instr.fill ((fs.map fun f => (f.offset,P.cellsOf f.type))[·]?) z.cells parts).map .agg
   | false => none
  | some (.array _ e) => match P.info? e with
   | some ie => (Instr.fill (fun i => some (i * ie.size,ie.size)) z.cells parts).map .agg
   | none => none
  | _ => none
def buildS (P : Program) (ty : TypeId) (len : Nat) (parts : List (Nat × Value)) : Option (TypeId × Array Value) :=
 match P.underlying ty with
 | some (.slice e) => match P.info? e with
  | none => none
  | some i => match i.zero with
   | none => none
   | some z => match Nat.blt (2 ^ 24) (len * i.size) || Nat.beq (len * i.size) 0 with
    | true => none
    | false => (Instr.fill (fun j => some (j * i.size,i.size)) ((Array.range (len * i.size)).map (z.cells[· % z.cells.size]!)) parts).map (e,·)
 | _ => none
def isPtrT (P : Program) (t : TypeId) : Bool := match P.underlying t with | some (.pointer _) => true | _ => false
def isSlcT (P : Program) (t : TypeId) : Bool := match P.underlying t with | some (.slice _) => true | _ => false
def isMapT (P : Program) (t : TypeId) : Bool := match P.underlying t with | some (.map _ _) => true | _ => false
def binF (_ : Program) (op : BinOp) (ty : TypeId) (x y : Operand) (a b : Value) : Sem Value := do eqGuard op ty x y a b; binOp op ty a b
def vcBin (P : Program) (op : BinOp) (ty : TypeId) (xo yo : Operand) (x y : Value) (w : World) (Y : Ky) (K : Value -> World -> Prop) : Prop :=
 match x,y with
 | .int k a,.int k' b =>
  match op with
  | .shl => shc b fun n => K (.int k (k.wrap (a * 2 ^ (min n k.bits)))) w
  | .shr => shc b fun n => K (.int k (a.fdiv (2 ^ (min n k.bits)))) w
  | op => match decide (k = k') with
   | false => False
   | true => match op with
    | .add => K (.int k (k.wrap (a + b))) w
    | .sub => K (.int k (k.wrap (a - b))) w
    | .mul => K (.int k (k.wrap (a * b))) w
    | .quo => nz b (K (.int k (k.wrap (a.tdiv b))) w)
    | .rem => nz b (K (.int k (a.tmod b)) w)
    | .and => K (.int k (bitI .and k a b)) w
    | .or => K (.int k (bitI .or k a b)) w
    | .xor => K (.int k (bitI .xor k a b)) w
    | .andNot => K (.int k (bitI .andNot k a b)) w
    | .eql => K (.bool (a == b)) w
    | .neq => K (.bool (a != b)) w
    | .lss => K (.bool (decide (a < b))) w
    | .leq => K (.bool (decide (a <= b))) w
    | .gtr => K (.bool (decide (a > b))) w
    | .geq => K (.bool (decide (a >= b))) w
    | _ => False
 | .string a,.string b =>
  match op with
  | .add => cat a b fun s => K (.string s) w
  | .eql => K (.bool (a.toList == b.toList)) w
  | .neq => K (.bool !(a.toList == b.toList)) w
  | .lss => K (.bool (Op.bytesLess a.toList b.toList)) w
  | .leq => K (.bool (Op.bytesLess a.toList b.toList || a.toList == b.toList)) w
  | .gtr => K (.bool !(Op.bytesLess a.toList b.toList || a.toList == b.toList)) w
  | .geq => K (.bool !(Op.bytesLess a.toList b.toList)) w
  | _ => False
 | .bool a,.bool b =>
  match isBoolT P ty,op with
  | true,.eql => K (.bool (a == b)) w
  | true,.neq => K (.bool !(a == b)) w
  | _,_ => False
 | .pointer p,.pointer none =>
  match isPtrT P ty,op with
  | true,.eql => K (.bool p.isNone) w
  | true,.neq => K (.bool !p.isNone) w
  | _,_ => False
 | .slice a _ _,.slice none _ _ =>
  match isSlcT P ty,op with
  | true,.eql => K (.bool a.isNone) w
  | true,.neq => K (.bool !a.isNone) w
  | _,_ => False
 | .map m,.map none =>
  match isMapT P ty,op with
  | true,.eql => K (.bool m.isNone) w
  | true,.neq => K (.bool !m.isNone) w
  | _,_ => False
 | x,y => match isIntT P ty || isStrT P ty || isBoolT P ty with
  | true => False
  | false => rn P (binF P op ty xo yo x y) w Y K
def vcConv (P : Program) (src dst : TypeId) (x : Value) (w : World) (K : Value -> World -> Prop) : Prop :=
 match P.underlying src,P.underlying dst,x with
 | some _,some (.int k),.int _ n => K (.int k (k.wrap n)) w
 | some _,some .string,.string s => K (.string s) w
 | _,_,x => match isIntT P src && isIntT P dst with
  | true => False
  | false => rn P (convert src dst x) w (kyOf P dst) K
def lenT (P : Program) (ats : Array TypeId) : Bool := match ats[0]? with | some t => isSlcT P t || isStrT P t | none => false
def vcBuiltin (P : Program) (b : Builtin) (ats : Array TypeId) (ty : TypeId) (args : List Value) (w : World) (K : Value -> World -> Prop) : Prop :=
 match b,args with
 | .len,[.slice _ l _] => match ats[0]? with
  | some t => match isSlcT P t with | true => K (.int .i64 (l : Int)) w | false => False
  | none => False
 | .len,[.string s] => match ats[0]? with
  | some t => match isStrT P t with | true => K (.int .i64 (s.size : Int)) w | false => False
  | none => False
 | .len,args => match lenT P ats with
  | true => False
  | false => rn P (Builtin.len_ ats ty args.toArray) w (.one (.one (.int .i64))) K
 | .cap,args => rn P (Builtin.cap_ ats ty args.toArray) w (.one (.one (.int .i64))) K
 | .append,args => rn P (Builtin.append_ ats ty args.toArray) w (.one (.one .slc)) K
 | .copy,args => rn P (Builtin.copy_ ats ty args.toArray) w (.one (.one (.int .i64))) K
 | .delete,args => rn P (Builtin.delete_ ats ty args.toArray) w (.tup []) K
 | .clear,args => rn P (Builtin.clear_ ats ty args.toArray) w (.tup []) K
 | .unsafeString,args => rn P (Builtin.unsafeString_ ats ty args.toArray) w (.one (.one .str)) K
 | .unsafeSliceData,args => rn P (Builtin.unsafeSliceData_ ats ty args.toArray) w (.one (.one .ptr)) K
 | .min,[.int k x,.int _ y] => K (.int k (if y < x then y else x)) w
 | .max,[.int k x,.int _ y] => K (.int k (if y > x then y else x)) w
 | .min,args => rn P (Builtin.min_ ats ty args.toArray) w (kyOf P ty) K
 | .max,args => rn P (Builtin.max_ ats ty args.toArray) w (kyOf P ty) K
 | _,_ => False
def vcOp [Esc] (P : Program) (o : Oper) (ρ : Operand -> Value) (wr w : World) (K : Value -> World -> Prop) : Prop :=
 match o.op with
 | .move x => K (ρ x) w
 | .assign x => K (ρ x) w
 | .pick c a b => match ρ c with
  | .bool e => br e (K (ρ a) w) (K (ρ b) w)
  | _ => False
 | .nilCheck x => match ρ x with
  | .pointer p => nn p fun a => K (.pointer (some a)) w
  | .func (.func f) x y => K (.func (.func f) x y) w
  | .iface u v => K (.iface u v) w
  | _ => False
 | .fieldAddr ty x i => match ρ x with
  | .pointer (some a) => match fieldOff P ty i with
   | some off => K (.pointer (some (a.add off))) w
   | none => False
  | _ => False
 | .load ty x => match ρ x with
  | .pointer (some a) => match tyI P ty with
   | some inf => match (match kxOf P ty with | .agg ks => Nat.beq ks.length inf.size | .one _ => true) with
    | true => ldX (kxOf P ty) a wr fun v => K v w
    | false => False
   | none => False
  | _ => False
 | .store ty x y => match ρ x with
  | .pointer (some a) => match tyI P ty with
   | some inf => stX (isAggT P ty) inf.size a (ρ y) w (K undef)
   | none => False
  | _ => False
 | .indexAddr ty x ix => match ρ ix with
  | .int _ i => match P.underlying ty with
   | some (.slice e) => match ρ x with
    | .slice base l _ => match P.info? e with
     | some inf => ixS inf.size base l i fun a => K (.pointer (some a)) w
     | none => False
    | _ => False
   | some (.array n e) => match ρ x with
    | .pointer (some a) => match P.info? e with
     | some inf => ixA inf.size n a i fun a => K (.pointer (some a)) w
     | none => False
    | _ => False
   | _ => False
  | _ => False
 | .index ty x ix => match ρ ix with
  | .int _ i => match P.underlying ty with
   | some .string => match ρ x with
    | .string s => ixT s i fun n => K (.int .u8 n) w
    | _ => False
   | some (.array n e) => match ρ x with
    | .agg cs => (0 <= i /\ i < (n : Int)) /\ (match tyI P e with
     | some inf => exY (kyOf P o.type) fun v => partV P e cs (i.toNat * inf.size) = some v /\ K v w
     | none => False)
    | _ => False
   | _ => False
  | _ => False
 | .extract x i => match ρ x with
  | .tuple vs => optV vs[i]? fun v => K v w
  | _ => False
 | .field ty x i => match ρ x with
  | .agg cs => optV (fieldV P ty cs i) fun v => K v w
  | _ => False
 | .binOp op ty x y _ => vcBin P op ty x y (ρ x) (ρ y) w (kyOf P o.type) K
 | .unOp op _ x => match op,ρ x with
  | .neg,.int k n => K (.int k (k.wrap (0 - n))) w
  | .xor,.int k n => K (.int k (bitI .xor k (if k.signed then -1 else k.max) n)) w
  | .not,.bool b => K (.bool !b) w
  | _,_ => False
 | .convert src dst x => vcConv P src dst (ρ x) w K
 | .makeFunc fn f c => K (.func fn (f.map ρ) (c.map ρ)) w
 | .alloc e => match (P.info? e).bind (·.zero) with
  | some z => K (.pointer (some ⟨w.heap.size,0,none⟩)) (w.alloc (.cells z.cells e))
  | none => False
 | .box e x => K (.pointer (some ⟨w.heap.size,0,none⟩)) (w.alloc (.cells (ρ x).cells e))
 | .build ty ps => optV (buildV P ty (ps.toList.map fun (i,x) => (i,ρ x))) fun v => K v w
 | .buildSlice ty n ps => match buildS P ty n (ps.toList.map fun (i,x) => (i,ρ x)) with
  | some (e,cs) => K (.slice (some ⟨w.heap.size,0,none⟩) n n) (w.alloc (.cells cs e))
  | none => rn P (Instr.buildSlice ty n (ps.map fun (i,x) => (i,ρ x))) w (.one (.one .slc)) K
 | .makeMap _ none => K (.map (some w.heap.size)) (w.alloc (.map #[] 0))
 | .makeMap ty (some r) => rn P (Instr.makeMap ty (some (ρ r))) w (.one (.one .map)) K
 | .makeInterface ty x => match P.underlying ty with
  | none => False
  | some (.interface _) => False
  | some _ => K (.iface ty (ρ x)) w
 | .slice ty x lo hi none => match P.underlying ty,ρ x with
  | some (.slice e),.slice a l c => match P.info? e with
   | some inf => slS inf.size a l c (lo.map ρ) (hi.map ρ) fun a l c => K (.slice a l c) w
   | none => False
  | some .string,.string s => slT s (lo.map ρ) (hi.map ρ) fun s => K (.string s) w
  | _,_ => match isSlcT P ty || isStrT P ty with
   | true => False
   | false => rn P (Instr.sliceAt ty (ρ x) (lo.map ρ) (hi.map ρ) none) w (kyOf P o.type) K
 | .slice ty x lo hi mx => rn P (Instr.sliceAt ty (ρ x) (lo.map ρ) (hi.map ρ) (mx.map ρ)) w (kyOf P o.type) K
 | .makeSlice ty l c => rn P (Instr.makeSlice ty (ρ l) (ρ c)) w (.one (.one .slc)) K
 | .lookup ty x ix ok => match keyT P ty with
  | some (k,e) => lkp P k e (ρ x) (ρ ix) ok wr (kyOf P o.type) fun v => K v w
  | none => rn P (Instr.lookup ty (ρ x) (ρ ix) ok) w (kyOf P o.type) K
 | .mapUpdate ty m k x => rnU P (Instr.mapUpdate ty (ρ m) (ρ k) (ρ x)) w (K undef)
 | .insert ty m k x => rnU P (Instr.mapUpdate ty (ρ m) (ρ k) (ρ x)) w (K undef)
 | .mapEntry ty m k => rn P (Instr.mapEntry ty (ρ m) (ρ k)) w (kyOf P o.type) K
 | .entryStore ty m s x => rnU P (Instr.entryStore ty (ρ m) (ρ s) (ρ x)) w (K undef)
 | .range ty x => rn P (Instr.range ty (ρ x)) w (.one (.one .ptr)) K
 | .next it b => nxt P (Instr.next (ρ it) b o.type) w K
 | .entry it => rn P (Instr.entry (ρ it)) w (.tup [.one .any,.one .any]) K
 | .typeAssert x a b ok => rn P (Instr.typeAssert (ρ x) a b ok) w (kyOf P o.type) K
 | .call c => match c.callee with
  | .value (.func f) => match okFn P f with
   | true => call P f (c.args.map ρ) w (kyOf P o.type) K
   | false => ext P f (c.args.map ρ) w (kyOf P o.type) K
  | .value x => callV P (ρ x) (c.args.map ρ) w (kyOf P o.type) fun v w' => exY (kyOf P o.type) fun u => v = u /\ K u w'
  | .builtin b => vcBuiltin P b c.argTypes o.type (c.args.toList.map ρ) w K
  | .invoke r name => callX P (callMethod (ρ r) name (c.args.map ρ)) w (kyOf P o.type) K
 | .panic x => match ρ x with
  | .iface u v => Esc.E [{ v := .iface u v,recovered := false }] w
  | _ => False
 | _ => False
inductive Out where
 | normal | exit (id : Nat) | ret
structure Pres (w w' : World) : Prop where
 size : w.heap.size <= w'.heap.size
 cell : ∀ a v,w.cell? a = some v -> w'.cell? a = some v
 map : ∀ (r : Nat) (es : Array MapEntry) (c : Nat),w.heap[r]? = some (.map es c) -> w'.heap[r]? = some (.map es c)
def isRead (P : Program) : Op -> Bool
 | .load .. => true
 | .lookup ty _ _ _ => (keyT P ty).isSome
 | _ => false
def isPure : Op -> Bool
 | .move _ | .assign _ | .pick .. | .nilCheck _ | .fieldAddr .. | .indexAddr .. | .index .. | .extract .. | .field .. | .unOp .. | .makeFunc .. | .build .. | .makeInterface .. => true
 | _ => false
def pureIn (P : Program) (o : Oper) : Bool :=
 match o.op with
 | .binOp _ ty _ _ _ => isIntT P ty || isStrT P ty || isBoolT P ty
 | .convert src dst _ => isIntT P src && isIntT P dst
 | .slice ty _ _ _ none => isSlcT P ty || isStrT P ty
 | .call { callee := .builtin b,argTypes := ats,.. } => (match b with | .len => true | _ => false) && lenT P ats
 | op => isPure op
def depsOf (o : Oper) : Nat := o.after.toList.foldl (fun s e => match Region.binds .any e with | true => s ||| 2 ^ e.on | false => s) 0
def befores (ops : List Oper) : List Nat :=
 (ops.foldl (fun (acc : List Nat) o => acc ++ [o.after.toList.foldl (fun s e => match Region.binds .any e with | true => s ||| (2 ^ e.on) ||| (acc.getD e.on 0) | false => s) 0]) [])
def bef (B : List Nat) (i j : Nat) : Bool := Nat.testBit (B.getD j 0) i
def idx (l : List Oper) : List (Nat × Oper) := (List.range l.length).zip l
def floats (P : Program) (ops : List Oper) : List Bool :=
 let B := befores ops
 (idx ops).map fun (i,o) => isRead P o.op && (idx ops).any fun (j,x) => !Nat.beq i j && !bef B i j && !bef B j i && !pureIn P x && !isRead P x.op
def keeps (P : Program) (ops : List Oper) : List Bool :=
 let B := befores ops
 let F := floats P ops
 (idx ops).map fun (j,x) => !pureIn P x && !isRead P x.op && (F.zipIdx.any fun (f,i) => f && !bef B i j)
def guardTmp (ops : List Oper) (j : Nat) : Option Nat := match ops[j]? with | some o => o.dst | none => none
def lit (t : Tm) (i : Option Nat) (b : Bool) : Tm := match i with | some i => upd t i (.bool b) | none => t
def gd (g : Option (Option Nat × Bool)) (t : Tm) (A B : Tm -> Prop) : Prop :=
 match g with
 | none => A t
 | some (some i,true) => match t i with | .bool b => br b (A (upd t i (.bool true))) (B (upd t i (.bool false))) | _ => B t
 | some (some i,false) => match t i with | .bool b => br b (B (upd t i (.bool true))) (A (upd t i (.bool false))) | _ => B t
 | some (none,_) => B t
def entK (P : Program) (all : List Oper) (d i : Nat) : Kx :=
 match all.find? fun x => match x.op with | .extract (.tmp t) j => Nat.beq t d && Nat.beq j i | _ => false with
 | some x => kxOf P x.type
 | none => .one .any
def vcOpE [Esc] (P : Program) (all : List Oper) (o : Oper) (ρ : Operand -> Value) (w : World) (K : Value -> World -> Prop) : Prop :=
 match o.op with
 | .entry it => match o.dst with
  | some d => rn P (Instr.entry (ρ it)) w (.tup [entK P all d 0,entK P all d 1]) K
  | none => vcOp P o ρ w w K
 | _ => vcOp P o ρ w w K
def vcOps [Esc] (P : Program) (all : List Oper) : List Oper -> Tm -> World -> (Tm -> World -> Prop) -> Prop
 | [],t,w,K => K t w
 | o :: rest,t,w,K =>
  gd (o.guard.map fun g => (guardTmp all g.1,g.2)) t
   (fun t => vcOpE P all o (ev t) w fun v w' => vcOps P all rest (putO t o.dst v) w' K)
   (fun t => vcOps P all rest (putO t o.dst undef) w K)
abbrev It := Oper × Bool × Bool
def marked (P : Program) (ops : List Oper) : List It := ops.zip ((floats P ops).zip (keeps P ops))
def stepD [Esc] (P : Program) (all : List Oper) (w0 : World) (m : It) (t : Tm) (w : World) (K : Tm -> World -> Prop) : Prop :=
 match m with
 | (o,fl,pr) =>
  gd (o.guard.map fun g => (guardTmp all g.1,g.2)) t
   (fun t => vcOp P o (ev t) (match fl with | true => w0 | false => w) w fun v w' =>
    match pr with
    | true => Pres w0 w' /\ K (putO t o.dst v) w'
    | false => K (putO t o.dst v) w')
   (fun t => K (putO t o.dst undef) w)
def stillB (P : Program) (m : It) : Bool := pureIn P m.1 || isRead P m.1.op
def dlist (P : Program) (ms : List It) : List (Nat × Nat × Bool) := (List.range ms.length).zip (ms.map fun m => (depsOf m.1,stillB P m))
def readyB (L : Nat) (d : Nat × Nat × Bool) : Bool := !Nat.testBit L d.1 && Nat.beq (Nat.land d.2.1 L) d.2.1
def firstStill (L : Nat) : List (Nat × Nat × Bool) -> Option Nat
 | [] => none
 | d :: r => match d.2.2 && readyB L d with | true => some d.1 | false => firstStill L r
def allReady (L : Nat) : List (Nat × Nat × Bool) -> List Nat
 | [] => []
 | d :: r => match readyB L d with | true => d.1 :: allReady L r | false => allReady L r
def andAll (f : Nat -> Prop) : List Nat -> Prop
 | [] => True
 | [i] => f i
 | i :: r => f i /\ andAll f r
def stepAt [Esc] (P : Program) (all : List Oper) (w0 : World) (ms : List It) (i : Nat) (t : Tm) (w : World) (K : Tm -> World -> Prop) : Prop :=
 match ms[i]? with
 | none => False
 | some m => stepD P all w0 m t w K
def vcT [Esc] (P : Program) (all : List Oper) (w0 : World) (ms : List It) (D : List (Nat × Nat × Bool)) (K : Tm -> World -> Prop) : Nat -> Nat -> Tm -> World -> Prop
 | 0,L,t,w => match allReady L D with
  | [] => K t w
  | _ => False
 | n + 1,L,t,w =>
  match firstStill L D with
  | some i => stepAt P all w0 ms i t w (vcT P all w0 ms D K n (L ||| 2 ^ i))
  | none => match allReady L D with
   | [] => K t w
   | l => andAll (fun i => stepAt P all w0 ms i t w (vcT P all w0 ms D K n (L ||| 2 ^ i))) l
abbrev Post := Out -> Tm -> World -> Prop
def loopN (B : Post -> Tm -> World -> Prop) (Q : Post) : Nat -> Tm -> World -> Prop
 | 0,_,_ => False
 | n + 1,t,w => B (fun o t w => match o with | .normal => loopN B Q n t w | .exit i => Q (.exit i) t w | .ret => Q .ret t w) t w
def turns : Op -> Bool
 | .store .. | .mapUpdate .. | .insert .. | .entryStore .. | .next .. => true
 | .call c => match c.callee with
  | .builtin b => (match b with | .copy | .delete | .clear => true | _ => false)
  | _ => true
 | _ => false
def besideStore (P : Program) (ops : List Oper) : Bool := (ops.zip (keeps P ops)).any fun (o,k) => k && turns o.op
def vcDraw [Esc] (P : Program) (ops : List Oper) (K : Tm -> World -> Prop) (n : Nat) (t : Tm) (w : World) : Prop :=
 match besideStore P ops with
 | true => ∃ wr,Pres wr w /\ vcT P ops wr (marked P ops) (dlist P (marked P ops)) K n 0 t w
 | false => vcT P ops w (marked P ops) (dlist P (marked P ops)) K n 0 t w
abbrev Path := List Nat
abbrev Orc := Path -> Option (Post -> Tm -> World -> Prop)
def vc [Esc] (P : Program) (orc : Orc) : Path -> Code -> Post -> Tm -> World -> Prop
 | π,c,Q,t,w =>
  match orc π with
  | some O => O Q t w
  | none =>
   match c with
   | .skip => Q .normal t w
   | .label _ => Q .normal t w
   | .ret => Q .ret t w
   | .exit i => Q (.exit i) t w
   | .region _ ops false => vcOps P ops.toList ops.toList t w (Q .normal)
   | .region _ ops true => vcDraw P ops.toList (Q .normal) ops.size t w.drew
   | .seq a b => vc P orc (0 :: π) a (fun o t w => match o with | .normal => vc P orc (1 :: π) b Q t w | .exit i => Q (.exit i) t w | .ret => Q .ret t w) t w
   | .cond (.tmp i) a b => match t i with
    | .bool e => br e (vc P orc (0 :: π) a Q (upd t i (.bool true)) w) (vc P orc (1 :: π) b Q (upd t i (.bool false)) w)
    | _ => False
   | .cond (.const (.bool e)) a b => br e (vc P orc (0 :: π) a Q t w) (vc P orc (1 :: π) b Q t w)
   | .block id b => vc P orc (0 :: π) b (fun o t w => match o with | .normal => Q .normal t w | .exit i => (match Nat.beq i id with | true => Q .normal t w | false => Q (.exit i) t w) | .ret => Q .ret t w) t w
   | .loop b => ∃ n,loopN (vc P orc (0 :: π) b) Q n t w
   | _ => False
end Go.Sh
