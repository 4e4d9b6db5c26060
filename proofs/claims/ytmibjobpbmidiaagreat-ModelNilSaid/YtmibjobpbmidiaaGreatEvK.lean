/-
  A machine-free evaluator for calls ('Go.Ev'), first part: the instructions and how code is turned into them. Own work.
-/
import Derived.CallsIn
import Derived.OrdersIn
import Derived.RangeFuncLeaves
import Derived.Laws.Append
import Derived.Laws.CopyRow
import Derived.Laws.BytesString
import Derived.MapKept
import Derived.Below
import Derived.KernelRfl
namespace Go.Ev
set_option linter.unusedSimpArgs false
set_option linter.unusedVariables false
open Go Go.RowKit

/-- The mark of a capacity that is not known. -/
def UNK : Nat := 4611686018427387904

/-- A value without a place in memory. -/
def flat : Nat → Value → Bool
  | _, .bool _ => true
  | _, .int _ _ => true
  | _, .float _ _ => true
  | _, .string _ => true
  | _, .pointer none => true
  | _, .slice none 0 0 => true
  | _, .map none => true
  | _, .nilFunc => true
  | _, .nilIface => true
  | n + 1, .iface _ v => flat n v
  | n + 1, .agg cs => cs.toList.all (flat n)
  | n + 1, .tuple cs => cs.toList.all (flat n)
  | n + 1, .func (.func _) a b => a.toList.all (flat n) && b.toList.all (flat n)
  | _, _ => false

/-- Temporaries, as a tree. -/
inductive TT where
  | lf
  | nd (l r : TT)
  | vl (v : Value)

/-- A way down such a tree. -/
inductive Pa where
  | e
  | l (p : Pa)
  | r (p : Pa)

noncomputable def TT.left (t : TT) : TT := TT.casesOn t .lf (fun l _ => l) (fun _ => .lf)
noncomputable def TT.right (t : TT) : TT := TT.casesOn t .lf (fun _ r => r) (fun _ => .lf)
noncomputable def TT.val (t : TT) : Value := TT.casesOn t undef (fun _ _ => undef) (fun v => v)
noncomputable def TT.get (t : TT) (p : Pa) : Value := Pa.rec (motive := fun _ => TT → Value) TT.val (fun _ ih t => ih t.left) (fun _ ih t => ih t.right) p t
noncomputable def TT.set (t : TT) (p : Pa) (v : Value) : TT :=
  Pa.rec (motive := fun _ => TT → TT) (fun _ => .vl v) (fun _ ih t => .nd (ih t.left) t.right) (fun _ ih t => .nd t.left (ih t.right)) p t

/-- The way to temporary number t in a tree of depth d. -/
def pa : Nat → Nat → Pa
  | 0, _ => .e
  | d + 1, t => if t % 2 = 0 then .l (pa d (t / 2)) else .r (pa d (t / 2))

/-- An operand. -/
inductive Od where
  | t (p : Pa)
  | c (v : Value)
  | f (f : FuncId)

def od (d : Nat) : Operand → Od
  | .tmp t => .t (pa d t)
  | .const v => .c v
  | .func f => .f f
  | .global _ => .c undef

/-- The value of an operand. -/
noncomputable def av (T : TT) (x : Od) : Value := Od.casesOn x (fun p => T.get p) (fun v => v) (fun f => .func (.func f) #[] #[])

/-- An operand whose value needs no place in memory of its own. -/
def opdOk : Operand → Bool
  | .tmp _ => true
  | .const v => flat 3 v
  | .global _ => false
  | .func _ => true

/-- What is made anew: by its number. -/
inductive AV where
  | ptr
  | sl (n c : Nat)
  | mp

def AV.val (id : Nat) : AV → Value
  | .ptr => .pointer (some ⟨id, 0, none⟩)
  | .sl n c => .slice (some ⟨id, 0, none⟩) n c
  | .mp => .map (some id)

/-- Instructions that make a block. -/
inductive KA where
  | alloc (zs : List Value)
  | box (x : Od)
  | bslice (len sz : Nat) (zs : List Value) (parts : List (Nat × Od))
  | mks (sz bytes : Nat) (zs : List Value) (l c : Od)
  | mkmap

/-- Instructions that turn nothing. -/
inductive KQ where
  | mov (x : Od)
  | pick (c a b : Od)
  | flat (d : Nat) (op : Op) (ty : TypeId)
  | bin (op : BinOp) (x y : Od)
  | conv (k : IntKind) (x : Od)
  | nileq (tag : Nat) (neg : Bool) (x y : Od)
  | nilc (x : Od)
  | fld (x : Od) (off : Nat)
  | idx (x i : Od) (sz : Nat)
  | idxA (x i : Od) (n sz : Nat)
  | load (x : Od) (sz : Nat) (ag : Bool)
  | build (zs : List Value) (parts : List (Nat × Nat × Od))
  | slc (x : Od) (lo hi mx : Option Od) (sz : Nat)
  | ext (x : Od) (i : Nat)
  | fldv (x : Od) (off sz : Nat) (ag : Bool)
  | len (x : Od)
  | lens (x : Od)
  | cap (x : Od)
  | b2s (x : Od)
  | look (kd : Option IntKind) (m k : Od) (zero : Value) (ok : Bool)
  | mkfn (f : FuncId) (first captured : List Od)
  | mkif (t : TypeId) (x : Od)

/-- Instructions that write. -/
inductive KW where
  | store (a v : Od) (sz : Nat)
  | app (s x : Od) (sz bytes : Nat)
  | cpy (d s : Od) (sz : Nat)
  | mapup (kd : Option IntKind) (m k v : Od)
  | del (kd : Option IntKind) (m k : Od)

inductive K where
  | bad
  | a (k : KA)
  | q (k : KQ)
  | w (k : KW)
  | call (f : FuncId) (args : List Od)
  | callv (x : Od) (args : List Od)

def pat (zs : List Value) (n : Nat) : List Value := (List.range n).map fun i => zs.getD (i % zs.length) undef

/-! ### From the program's own operations -/

def sizeOfT (P : Program) (t : TypeId) : Option Nat := (P.info? t).map (·.size)
def isAggT (P : Program) (t : TypeId) : Option Bool := (P.underlying t).map fun | .struct _ | .array _ _ => true | _ => false
def zeroT (P : Program) (t : TypeId) : Option (List Value) :=
  match P.info? t with
  | some i => match i.zero with
    | some z => cond (z.cells.toList.all (flat 3)) (some z.cells.toList) none
    | none => none
  | none => none

/-- A type's zero, without a place. -/
def zeroV (P : Program) (t : TypeId) : Option Value :=
  match P.info? t with
  | some i => match i.zero with
    | some z => cond (flat 3 z) (some z) none
    | none => none
  | none => none

def compOp0 (P : Program) (d : Nat) (o : Oper) : Option K :=
  cond (o.op.operands.toList.all opdOk) (match o.op with
  | .move x | .assign x => some (.q (.mov (od d x)))
  | .pick c a b => some (.q (.pick (od d c) (od d a) (od d b)))
  | .alloc t => match zeroT P t with
    | some zs => some (.a (.alloc zs))
    | none => none
  | .box _ x => some (.a (.box (od d x)))
  | .build t parts => match P.underlying t, zeroT P t with
    | some (.struct fs), some zs =>
      match (fs.toList.mapM fun f => (sizeOfT P f.type).map fun s => (f.offset, s)) with
      | some pl => match (parts.toList.mapM fun (i, x) => (pl[i]?).map fun p => (p.1, p.2, od d x)) with
        | some ps => some (.q (.build zs ps))
        | none => none
      | none => none
    | some (.array _ e), some zs => match sizeOfT P e with
      | some s => some (.q (.build zs (parts.toList.map fun (i, x) => (i * s, s, od d x))))
      | none => none
    | _, _ => none
  | .buildSlice t len parts => match P.underlying t with
    | some (.slice e) => match sizeOfT P e, zeroT P e with
      | some s, some zs => cond (Nat.ble (len * s) 16777216 && Nat.blt len UNK && Nat.beq zs.length s) (some (.a (.bslice len s (pat zs (len * s)) (parts.toList.map fun (i, x) => (i, od d x))))) none
      | _, _ => none
    | _ => none
  | .load t a => match isAggT P t, sizeOfT P t with
    | some ag, some s => cond ag (some (.q (.load (od d a) s true))) (some (.q (.load (od d a) 1 false)))
    | _, _ => none
  | .store t a v => match sizeOfT P t with
    | some s => some (.w (.store (od d a) (od d v) s))
    | none => none
  | .nilCheck x => some (.q (.nilc (od d x)))
  | .binOp op t x y yt => match op with
    | .eql | .neq => match P.underlying t with
      | some (.pointer _) => some (.q (.nileq 0 (match op with | .neq => true | _ => false) (od d x) (od d y)))
      | some (.slice _) => some (.q (.nileq 1 (match op with | .neq => true | _ => false) (od d x) (od d y)))
      | some (.map _ _) => some (.q (.nileq 2 (match op with | .neq => true | _ => false) (od d x) (od d y)))
      | some (.func _ _ _) => some (.q (.nileq 3 (match op with | .neq => true | _ => false) (od d x) (od d y)))
      | some (.int _) => some (.q (.bin op (od d x) (od d y)))
      | _ => some (.q (.flat d o.op o.type))
    | _ => match P.underlying t with
      | some (.int _) => some (.q (.bin op (od d x) (od d y)))
      | _ => some (.q (.flat d o.op o.type))
  | .unOp _ _ _ => some (.q (.flat d o.op o.type))
  | .convert src dst x => match P.underlying src, P.underlying dst with
    | some (.int _), some (.int k) => some (.q (.conv k (od d x)))
    | some (.slice e), some .string => match P.underlying e with
      | some (.int .u8) => some (.q (.b2s (od d x)))
      | _ => none
    | some .string, some .string => some (.q (.flat d o.op o.type))
    | _, _ => none
  | .makeInterface t x => match P.underlying t with
    | some (.interface _) => none
    | some _ => some (.q (.mkif t (od d x)))
    | none => none
  | .makeFunc (.func f) a b => some (.q (.mkfn f (a.toList.map (od d)) (b.toList.map (od d))))
  | .makeMap t none => some (.a .mkmap)
  | .makeSlice t l c => match P.underlying t with
    | some (.slice e) => match P.info? e, zeroT P e with
      | some i, some zs => cond (Nat.beq zs.length i.size) (some (.a (.mks i.size i.bytes zs (od d l) (od d c)))) none
      | _, _ => none
    | _ => none
  | .slice t x lo hi mx => match P.underlying t with
    | some (.slice e) => match sizeOfT P e with
      | some s => some (.q (.slc (od d x) (lo.map (od d)) (hi.map (od d)) (mx.map (od d)) s))
      | none => none
    | some .string => some (.q (.flat d o.op o.type))
    | _ => none
  | .fieldAddr s x f => match P.underlying s with
    | some (.struct fs) => match fs[f]? with
      | some fd => match sizeOfT P fd.type with
        | some (_ + 1) => some (.q (.fld (od d x) fd.offset))
        | _ => none
      | none => none
    | _ => none
  | .field t x f => match P.underlying t with
    | some (.struct fs) => match fs[f]? with
      | some fd => match isAggT P fd.type, sizeOfT P fd.type with
        | some ag, some s => cond ag (some (.q (.fldv (od d x) fd.offset s true))) (some (.q (.fldv (od d x) fd.offset 1 false)))
        | _, _ => none
      | none => none
    | _ => none
  | .indexAddr t x i => match P.underlying t with
    | some (.slice e) => match sizeOfT P e with
      | some s => some (.q (.idx (od d x) (od d i) s))
      | none => none
    | some (.array n e) => match sizeOfT P e with
      | some s => some (.q (.idxA (od d x) (od d i) n s))
      | none => none
    | _ => none
  | .index t _ _ => match P.underlying t with
    | some .string => some (.q (.flat d o.op o.type))
    | _ => none
  | .lookup t x i ok => match P.underlying t with
    | some (.map kt e) => match P.underlying kt, zeroV P e with
      | some (.int kd), some z => some (.q (.look (some kd) (od d x) (od d i) z ok))
      | some .string, some z => some (.q (.look none (od d x) (od d i) z ok))
      | _, _ => none
    | _ => none
  | .mapUpdate t m k x => match P.underlying t with
    | some (.map kt _) => match P.underlying kt with
      | some (.int kd) => some (.w (.mapup (some kd) (od d m) (od d k) (od d x)))
      | some .string => some (.w (.mapup none (od d m) (od d k) (od d x)))
      | _ => none
    | _ => none
  | .extract t ix => some (.q (.ext (od d t) ix))
  | .call c => match c.callee with
    | .builtin .len => match c.argTypes[0]?, c.args.toList with
      | some t, [x] => match P.underlying t with
        | some (.slice _) => some (.q (.len (od d x)))
        | some .string => some (.q (.lens (od d x)))
        | _ => none
      | _, _ => none
    | .builtin .cap => match c.argTypes[0]?, c.args.toList with
      | some t, [x] => match P.underlying t with
        | some (.slice _) => some (.q (.cap (od d x)))
        | _ => none
      | _, _ => none
    | .builtin .append => match c.argTypes[0]?, c.argTypes[1]?, c.args.toList with
      | some t, some u, [s, x] => match P.underlying t, P.underlying u with
        | some (.slice e), some (.slice _) => match P.info? e, zeroT P e with
          | some i, some zs => cond (Nat.blt 0 i.bytes && Nat.beq zs.length i.size) (some (.w (.app (od d s) (od d x) i.size i.bytes))) none
          | _, _ => none
        | some (.slice e), some .string => match P.info? e, zeroT P e with
          | some i, some zs => cond (Nat.blt 0 i.bytes && Nat.beq zs.length i.size) (some (.w (.app (od d s) (od d x) i.size i.bytes))) none
          | _, _ => none
        | _, _ => none
      | _, _, _ => none
    | .builtin .copy => match c.argTypes[0]?, c.args.toList with
      | some t, [dst, s] => match P.underlying t with
        | some (.slice e) => match sizeOfT P e with
          | some z => some (.w (.cpy (od d dst) (od d s) z))
          | none => none
        | _ => none
      | _, _ => none
    | .builtin .max | .builtin .min => some (.q (.flat d o.op o.type))
    | .builtin .delete => match c.argTypes[0]?, c.args.toList with
      | some t, [m, k] => match P.underlying t with
        | some (.map kt _) => match P.underlying kt with
          | some (.int kd) => some (.w (.del (some kd) (od d m) (od d k)))
          | some .string => some (.w (.del none (od d m) (od d k)))
          | _ => none
        | _ => none
      | _, _ => none
    | .value (.func f) => match P.funcs[f]? with
      | some fn => cond (fn.body.isSome && fn.name != "runtime.NumGoroutine") (some (.call f (c.args.toList.map (od d)))) none
      | none => none
    | .value (.tmp t) => some (.callv (.t (pa d t)) (c.args.toList.map (od d)))
    | _ => none
  | _ => none) none

/-- What is not served is told so where it is run. -/
def compOp (P : Program) (d : Nat) (o : Oper) : K :=
  match compOp0 P d o with
  | some k => k
  | none => .bad

/-- An instruction with where its value goes, and under which test it runs. -/
structure Ins where
  dst : Option Pa
  k : K
  guard : Option (Pa × Bool)

/-- How an operation stands in a region whose order is drawn: it turns nothing and asks no memory · it reads: behind which writing ones it may come · it makes a block · it writes, or calls. -/
inductive Cls where
  | p
  | r (lo hi : Nat)
  | a (lo hi : Nat)
  | h

structure DIns where
  no : Nat
  cls : Cls
  ins : Ins

inductive C where
  | skip
  | reg (l : List Ins)
  | drw (l : List DIns)
  | seq (a b : C)
  | cond (c : Od) (a b : C)
  | block (id : Nat) (a : C)
  | loop (a : C)
  | exit (id : Nat)
  | ret
  | range (f : Od) (ps : List Pa) (asg body : C)

inductive RV where
  | tmp (t : Pa)
  | cell (t : Pa) (sz : Nat) (ag : Bool)

structure F where
  d : Nat
  n : Nat
  params : List Pa
  results : List RV
  body : C

inductive Ex where
  | normal
  | exit (id : Nat)
  | ret

/-! ### Made out of the program -/

def guardOf (d n : Nat) (ops : Array Oper) : Option (Nat × Bool) → Option (Option (Pa × Bool))
  | none => some none
  | some (j, w) => match (ops[j]?).bind (·.dst) with
    | some t => cond (Nat.blt t n) (some (some (pa d t, w))) none
    | none => none

/-- An operand within the temporaries. -/
def inN (n : Nat) : Operand → Bool
  | .tmp t => Nat.blt t n
  | _ => true

def dstOk (n : Nat) : Option Nat → Bool
  | some d => Nat.blt d n
  | none => true

def compIns (P : Program) (d n : Nat) (ops : Array Oper) (o : Oper) : Option Ins :=
  cond (dstOk n o.dst && o.op.operands.toList.all (inN n)) (match guardOf d n ops o.guard with
  | some g => some ⟨o.dst.map (pa d), compOp P d o, g⟩
  | none => none) none

def compReg (P : Program) (d n : Nat) (ops : Array Oper) : List Oper → Option (List Ins)
  | [] => some []
  | o :: l => match compIns P d n ops o, compReg P d n ops l with
    | some i, some r => some (i :: r)
    | _, _ => none

/-- Does it write or call? -/
def K.heavy : K → Bool
  | .a _ | .q _ => false
  | _ => true

/-- Does it make a block? -/
def K.makes : K → Bool
  | .a _ => true
  | _ => false

/-- Does it ask memory? -/
def KQ.reads : KQ → Bool
  | .load _ _ _ | .slc _ _ _ _ _ | .b2s _ | .look _ _ _ _ _ => true
  | _ => false

/-- For each operation, as bits: which must have been before. The order l is one in which those stand first. -/
def ancs (ops : Array Oper) : List Nat → (Nat → Nat) → (Nat → Nat)
  | [], m => m
  | i :: l, m =>
    let b := match ops[i]? with
      | some o => o.after.foldl (fun s e => if Region.binds .any e then s ||| 2 ^ e.on ||| m e.on else s) 0
      | none => 0
    ancs ops l (fun k => cond (Nat.beq k i) b (m k))

def bitCount (b : Nat) (l : List Nat) : Nat := l.foldl (fun s j => cond (b.testBit j) (s + 1) s) 0

/-- The class of an operation: hs: the writing ones, in order; m: what stands before each. -/
def clsOf (m : Nat → Nat) (hs : List Nat) (i : Nat) : K → Cls
  | .a _ => .a (bitCount (m i) hs) (hs.foldl (fun s j => cond ((m j).testBit i) s (s + 1)) 0)
  | .q k => cond k.reads (.r (bitCount (m i) hs) (hs.foldl (fun s j => cond ((m j).testBit i) s (s + 1)) 0)) .p
  | _ => .h

def compDrw (P : Program) (d n : Nat) (ops : Array Oper) (m : Nat → Nat) (hs : List Nat) : List Nat → Option (List DIns)
  | [] => some []
  | i :: l => match ops[i]? with
    | none => none
    | some o => match compIns P d n ops o, compDrw P d n ops m hs l with
      | some s, some r => some (⟨i, clsOf m hs i s.k, s⟩ :: r)
      | _, _ => none

def tmpsOf (ops : Array Oper) (o : Oper) : List Nat := o.looksAt ops

def dstIn (l : List Nat) : Option Nat → Bool
  | some d => l.contains d
  | none => false

/-- May these two stand in either order, or are they bound? And they do not put their values to one place. -/
def pairOk (ops : Array Oper) (m : Nat → Nat) (i j : Nat) (oi oj : Oper) (ki kj : K) : Bool :=
  ((m j).testBit i || (m i).testBit j || (!dstIn (tmpsOf ops oj) oi.dst && !dstIn (tmpsOf ops oi) oj.dst && !(ki.heavy && kj.heavy))) && !dstIn oj.dst.toList oi.dst

def allPairs (P : Program) (d : Nat) (ops : Array Oper) (m : Nat → Nat) : Bool :=
  (List.range ops.size).all fun i => (List.range ops.size).all fun j =>
    Nat.ble j i || (match ops[i]?, ops[j]? with
      | some oi, some oj => pairOk ops m i j oi oj (compOp P d oi) (compOp P d oj)
      | _, _ => false)

def heavies (P : Program) (d : Nat) (ops : Array Oper) (l : List Nat) : List Nat :=
  l.filter fun i => match ops[i]? with
    | some o => (compOp P d o).heavy
    | none => false

/-- An order: whatever does not write comes as soon as it may. -/
def early (P : Program) (d : Nat) (ops : Array Oper) : Nat → List Nat → List Nat → List Nat
  | 0, _, done => done.reverse
  | n + 1, todo, done =>
    let ready := todo.filter fun i => match ops[i]? with
      | some o => o.after.all fun e => !(Region.binds .any e) || done.contains e.on
      | none => false
    match ready.find? (fun i => match ops[i]? with
      | some o => !(compOp P d o).heavy
      | none => false) with
    | some i => early P d ops n (todo.filter (· != i)) (i :: done)
    | none => match ready with
      | i :: _ => early P d ops n (todo.filter (· != i)) (i :: done)
      | [] => done.reverse

/-- Every operation once, and each behind those that bind it. -/
def orderOk (ops : Array Oper) : List Nat → List Nat → Bool
  | [], done => (List.range ops.size).all fun i => done.contains i
  | i :: l, done => !(done.contains i) && (match ops[i]? with
      | some o => o.after.all fun e => !(Region.binds .any e) || done.contains e.on
      | none => false) && orderOk ops l (i :: done)

def compC (P : Program) (d n : Nat) : Code → Option C
  | .skip => some .skip
  | .region _ ops false => match compReg P d n ops ops.toList with
    | some l => some (.reg l)
    | none => none
  | .region _ ops true =>
    let l := early P d ops ops.size (List.range ops.size) []
    let m := ancs ops l (fun _ => 0)
    cond (orderOk ops l [] && allPairs P d ops m) (match compDrw P d n ops m (heavies P d ops l) l with
      | some r => some (.drw r)
      | none => none) none
  | .seq a b => match compC P d n a, compC P d n b with
    | some x, some y => some (.seq x y)
    | _, _ => none
  | .cond x a b => cond (opdOk x && inN n x) (match compC P d n a, compC P d n b with
    | some u, some v => some (.cond (od d x) u v)
    | _, _ => none) none
  | .block id a => match compC P d n a with
    | some x => some (.block id x)
    | none => none
  | .loop a => match compC P d n a with
    | some x => some (.loop x)
    | none => none
  | .exit id => some (.exit id)
  | .ret => some .ret
  | .rangeFunc f ps asg b => cond (opdOk f && inN n f && ps.toList.all (fun p => Nat.blt p n)) (match compC P d n asg, compC P d n b with
    | some x, some y => some (.range (od d f) (ps.toList.map (pa d)) x y)
    | _, _ => none) none
  | _ => none

def compRV (P : Program) (d n : Nat) : ResultVar → Option RV
  | .tmp t => cond (Nat.blt t n) (some (.tmp (pa d t))) none
  | .cell a t => match isAggT P t, sizeOfT P t with
    | some ag, some s => cond (Nat.blt a n) (cond ag (some (.cell (pa d a) s true)) (some (.cell (pa d a) 1 false))) none
    | _, _ => none

/-- The depth of a tree for so many. -/
def depthOf : Nat → Nat → Nat
  | 0, _ => 0
  | f + 1, n => if n ≤ 1 then 0 else depthOf f ((n + 1) / 2) + 1

def compF (P : Program) (fn : Func) : Option F :=
  match fn.body with
  | some b =>
    let d := depthOf 16 fn.ntmps
    cond (Nat.ble fn.ntmps (2 ^ d) && Nat.ble (fn.params.size + fn.nfree) fn.ntmps && fn.name != "runtime.NumGoroutine") (match compC P d fn.ntmps b, fn.results.toList.mapM (compRV P d fn.ntmps) with
    | some c, some rs => some ⟨d, fn.ntmps, (List.range (fn.params.size + fn.nfree)).map (pa d), rs, c⟩
    | _, _ => none) none
  | none => none

end Go.Ev
