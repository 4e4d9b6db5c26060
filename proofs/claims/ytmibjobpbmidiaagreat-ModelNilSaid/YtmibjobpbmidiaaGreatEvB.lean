/-
  A machine-free evaluator for calls ('Go.Ev'): what the instructions do to the evaluator's heap, code, calls. Own work.
-/
import Derived.Test.YtmibjobpbmidiaaGreatEvA
namespace Go.Ev
set_option linter.unusedSimpArgs false
set_option linter.unusedVariables false
open Go Go.RowKit
noncomputable section

/-! ### What they do -/

/-- Cells written one behind the other. -/
def setAll (cs : List Value) (off : Nat) : List Value → List Value
  | [] => cs
  | v :: r => setAll (cs.set off v) (off + 1) r

/-- A literal's parts laid into zeros. -/
def fillL (cs : List Value) : List (Nat × Nat × Value) → Option (List Value)
  | [] => some cs
  | (off, size, v) :: r =>
    cond (Nat.beq v.cells.size size && Nat.ble (off + size) cs.length) (fillL (setAll cs off v.cells.toList) r) none

def natOf : Value → Option Nat
  | .int _ (.ofNat n) => some n
  | _ => none

def a_bslice (ρ : Od → Value) (len sz : Nat) (zs : List Value) (parts : List (Nat × Od)) : Option (AObj × AV) :=
  match fillL zs (parts.map fun (i, x) => (i * sz, sz, ρ x)) with
  | some cs => some (.cells false (Cs.ofL cs) sz, .sl len len)
  | none => none
def a_mks (sz bytes : Nat) (zs : List Value) (l c : Option Nat) : Option (AObj × AV) := match l, c with
  | some l, some c => cond (Nat.ble l c && Nat.ble (c * bytes) 140737488355328 && Nat.blt c UNK) (some (.cells false (Cs.ofL (pat zs (c * sz))) sz, .sl l c)) none
  | _, _ => none

def exA (ρ : Od → Value) : KA → Option (AObj × AV)
  | .alloc zs => some (.cells false (Cs.ofL zs) 0, .ptr)
  | .box x => some (.cells false (Cs.ofL (ρ x).cells.toList) 0, .ptr)
  | .bslice len sz zs parts => a_bslice ρ len sz zs parts
  | .mks sz bytes zs l c => a_mks sz bytes zs (natOf (ρ l)) (natOf (ρ c))
  | .mkmap => some (.map [] 0, .mp)

/-- A run of the model's own that neither asks memory nor the tape. -/
def pureP {α : Type} (P : Program) : Sem α → Option α
  | .pure a => some a
  | .program k => pureP P (k P)
  | _ => none

/-- An operation alone. -/
def flatO (op : Op) (ty : TypeId) : Oper := { dst := none, op := op, type := ty, pos := "", after := #[], guard := none }

/-- 'IntKind.wrap', quick where nothing is wrapped. -/
def wrapF (k : IntKind) (n : Int) : Int :=
  match k, n with
  | .i64, .ofNat m => cond (Nat.blt m 9223372036854775808) (.ofNat m) (IntKind.wrap .i64 (.ofNat m))
  | .i64, .negSucc m => cond (Nat.blt m 9223372036854775808) (.negSucc m) (IntKind.wrap .i64 (.negSucc m))
  | k, n => k.wrap n

def ltF : Int → Int → Bool
  | .ofNat m, .ofNat n => Nat.blt m n
  | .ofNat _, .negSucc _ => false
  | .negSucc _, .ofNat _ => true
  | .negSucc m, .negSucc n => Nat.blt n m

def eqF : Int → Int → Bool
  | .ofNat m, .ofNat n => Nat.beq m n
  | .negSucc m, .negSucc n => Nat.beq m n
  | _, _ => false

def ikF : IntKind → IntKind → Bool
  | .i64, .i64 => true
  | a, b => decide (a = b)

/-- A whole number's operation; none: it panics. -/
def intRare (op : BinOp) (k : IntKind) (a : Int) (b : Int) : Option Value :=
  match op with
  | .and => some (.int k (k.wrap (BitVec.ofInt k.bits a &&& BitVec.ofInt k.bits b).toNat))
  | .or => some (.int k (k.wrap (BitVec.ofInt k.bits a ||| BitVec.ofInt k.bits b).toNat))
  | .xor => some (.int k (k.wrap (BitVec.ofInt k.bits a ^^^ BitVec.ofInt k.bits b).toNat))
  | .andNot => some (.int k (k.wrap (BitVec.ofInt k.bits a &&& ~~~ BitVec.ofInt k.bits b).toNat))
  | _ => none
def intQuo (k : IntKind) (a b : Int) : Option Value := cond (eqF b 0) none (some (.int k (wrapF k (Int.tdiv a b))))
def intRem (k : IntKind) (a b : Int) : Option Value := cond (eqF b 0) none (some (.int k (Int.tmod a b)))
def intShl (k : IntKind) (a b : Int) : Option Value := cond (ltF b 0) none (some (.int k (k.wrap (a * 2 ^ (min b.toNat k.bits)))))
def intShr (k : IntKind) (a b : Int) : Option Value := cond (ltF b 0) none (some (.int k (a.fdiv (2 ^ (min b.toNat k.bits)))))
def intSame (op : BinOp) (k : IntKind) (a : Int) (b : Int) : Option Value :=
  match op with
  | .add => some (.int k (wrapF k (Int.add a b)))
  | .sub => some (.int k (wrapF k (Int.sub a b)))
  | .mul => some (.int k (wrapF k (Int.mul a b)))
  | .quo => intQuo k a b
  | .rem => intRem k a b
  | .eql => some (.bool (eqF a b))
  | .neq => some (.bool (!(eqF a b)))
  | .lss => some (.bool (ltF a b))
  | .leq => some (.bool (!(ltF b a)))
  | .gtr => some (.bool (ltF b a))
  | .geq => some (.bool (!(ltF a b)))
  | op => intRare op k a b
def intBin (op : BinOp) (k : IntKind) (a : Int) (k' : IntKind) (b : Int) : Option Value :=
  match op with
  | .shl => intShl k a b
  | .shr => intShr k a b
  | op => cond (ikF k k') (intSame op k a b) none

def nilcmp : Nat → Value → Value → Option Bool
  | 0, .pointer none, .pointer b => some b.isNone
  | 0, .pointer (some _), .pointer none => some false
  | 1, .slice none _ _, .slice b _ _ => some b.isNone
  | 1, .slice (some _) _ _, .slice none _ _ => some false
  | 2, .map none, .map b => some b.isNone
  | 2, .map (some _), .map none => some false
  | 3, .nilFunc, .nilFunc => some true
  | 3, .nilFunc, .func _ _ _ => some false
  | 3, .func _ _ _, .nilFunc => some false
  | _, _, _ => none

/-- A slice's cells. -/
def rdCells (H : Heap) (b o n : Nat) : Option (List Value) :=
  match H.get b with
  | some (.cells _ cs _) => cond (Nat.ble (o + n) cs.n) (some (cs.t.rd o n)) none
  | _ => none

def strCellsV (s : ByteArray) : List Value := s.data.toList.map fun b => .int .u8 b.toNat

/-- How many elements a source of append or copy has. -/
def lenV : Value → Option Nat
  | .slice _ n _ => some n
  | .string s => some s.size
  | _ => none

/-- The first n elements' cells of it. -/
def srcCells (H : Heap) (sz n : Nat) : Value → Option (List Value)
  | .slice (some a) _ _ => cond (Nat.beq (n * sz) 0) (some []) (rdCells H a.block a.off (n * sz))
  | .slice none _ _ => some []
  | .string s => cond (Nat.beq sz 1) (some ((strCellsV s).take n)) none
  | _ => none

def intsOf : List Value → Option (List Int)
  | [] => some []
  | .int .u8 n :: l => match intsOf l with
    | some r => some (n :: r)
    | none => none
  | _ => none

/-- A key's kind: a string's, or a whole number's. -/
def keyD : Option IntKind → TypeDesc
  | some k => .int k
  | none => .string
def keyOk : Option IntKind → Value → Bool
  | some k, .int k' _ => ikF k k'
  | none, .string _ => true
  | _, _ => false

def optNat (ρ : Od → Value) : Option Od → Option (Option Nat)
  | none => some none
  | some x => (natOf (ρ x)).map some

/-- The bounds of a slice of so many elements, of a capacity: low, high, the new capacity (the mark: not known). -/
def slcB (n c : Nat) (lo hi mx : Option Nat) : Option (Nat × Nat × Nat) :=
  match mx with
  | some m =>
    match hi with
    | some h => cond (Nat.ble (lo.getD 0) h && Nat.ble h m && cond (Nat.beq c UNK) (Nat.ble m n && Nat.blt m UNK) (Nat.ble m c)) (some (lo.getD 0, h, m)) none
    | none => none
  | none => cond (Nat.ble (lo.getD 0) (hi.getD n) && cond (Nat.beq c UNK) (Nat.ble (hi.getD n) n) (Nat.ble (hi.getD n) c)) (some (lo.getD 0, hi.getD n, c)) none

def q_pick (c a b : Value) : Option Value := match c with
  | .bool t => some (cond t a b)
  | _ => none
def q_pure (P : Program) (ρ : Od → Value) (d : Nat) (op : Op) (ty : TypeId) : Option Value := match pureP P (execOp (fun x => ρ (od d x)) (flatO op ty)) with
  | some (.value v) => cond (Ev.flat 3 v) (some v) none
  | _ => none
def q_flat (P : Program) (ρ : Od → Value) (d : Nat) (op : Op) (ty : TypeId) : Option Value :=
  cond (op.operands.toList.all fun x => Ev.flat 3 (ρ (od d x))) (q_pure P ρ d op ty) none
def q_bin (op : BinOp) (x y : Value) : Option Value := match x, y with
  | .int k a, .int k' b => intBin op k a k' b
  | _, _ => none
def q_conv (k : IntKind) (x : Value) : Option Value := match x with
  | .int _ n => some (.int k (wrapF k n))
  | _ => none
def q_nileq (tag : Nat) (neg : Bool) (x y : Value) : Option Value := match nilcmp tag x y with
  | some b => some (.bool (cond neg (!b) b))
  | none => none
def q_nilc (x : Value) : Option Value := match x with
  | .pointer (some a) => some (.pointer (some a))
  | .func (.func f) a b => some (.func (.func f) a b)
  | _ => none
def q_fld (x : Value) (off : Nat) : Option Value := match x with
  | .pointer (some a) => some (.pointer (some ⟨a.block, a.off + off, none⟩))
  | _ => none
def q_idx (x i : Value) (sz : Nat) : Option Value := match x, natOf i with
  | .slice (some a) n _, some j => cond (Nat.blt j n) (some (.pointer (some ⟨a.block, a.off + j * sz, none⟩))) none
  | _, _ => none
def q_idxA (x i : Value) (n sz : Nat) : Option Value := match x, natOf i with
  | .pointer (some a), some j => cond (Nat.blt j n) (some (.pointer (some ⟨a.block, a.off + j * sz, none⟩))) none
  | _, _ => none
/-- A cell. -/
def rdCell (H : Heap) (b o : Nat) : Option Value :=
  match H.get b with
  | some (.cells _ cs _) => cond (Nat.blt o cs.n) (some (cs.t.get o)) none
  | _ => none
def q_loadA (H : Heap) (a : Addr) (sz : Nat) : Option Value := match rdCells H a.block a.off sz with
  | some cs => some (.agg cs.toArray)
  | none => none
def q_load (H : Heap) (x : Value) (sz : Nat) (ag : Bool) : Option Value := match x with
  | .pointer (some a) => cond ag (q_loadA H a sz) (rdCell H a.block a.off)
  | _ => none
def q_build (ρ : Od → Value) (zs : List Value) (parts : List (Nat × Nat × Od)) : Option Value :=
  match fillL zs (parts.map fun (o, s, x) => (o, s, ρ x)) with
  | some cs => some (.agg cs.toArray)
  | none => none
def q_slcU (H : Heap) (a : Addr) (l h sz : Nat) : Option Value := match H.get a.block with
  | some (.cells _ _ esz) => cond (Nat.beq esz sz) (some (.slice (some ⟨a.block, a.off + l * sz, none⟩) (h - l) UNK)) none
  | _ => none
def q_slcS (H : Heap) (a : Addr) (n c : Nat) (lo hi mx : Option Nat) (sz : Nat) : Option Value :=
  match slcB n c lo hi mx with
  | some (l, h, m) => cond (Nat.beq m UNK) (q_slcU H a l h sz) (some (.slice (some ⟨a.block, cond (Nat.beq m l) a.off (a.off + l * sz), none⟩) (h - l) (m - l)))
  | none => none
def q_slc0 (lo hi mx : Option Nat) : Option Value := match slcB 0 0 lo hi mx with
  | some _ => some (.slice none 0 0)
  | none => none
def q_slc (H : Heap) (x : Value) (lo hi mx : Option (Option Nat)) (sz : Nat) : Option Value := match x, lo, hi, mx with
  | .slice (some a) n c, some lo, some hi, some mx => q_slcS H a n c lo hi mx sz
  | .slice none 0 0, some lo, some hi, some mx => q_slc0 lo hi mx
  | _, _, _, _ => none
def q_ext (x : Value) (i : Nat) : Option Value := match x with
  | .tuple vs => vs.toList[i]?
  | _ => none
def q_fldv (x : Value) (off sz : Nat) (ag : Bool) : Option Value := match x with
  | .agg cs => cond (Nat.ble (off + sz) cs.size) (cond ag (some (.agg (cs.extract off (off + sz)))) cs[off]?) none
  | _ => none
def q_len (x : Value) : Option Value := match x with
  | .slice _ n _ => some (.int .i64 n)
  | _ => none
def q_lens (x : Value) : Option Value := match x with
  | .string s => some (.int .i64 s.size)
  | _ => none
def q_cap (x : Value) : Option Value := match x with
  | .slice _ _ c => cond (Nat.blt c UNK) (some (.int .i64 c)) none
  | _ => none
def q_b2s (H : Heap) (x : Value) : Option Value := match x with
  | .slice none _ _ => some (.string .empty)
  | .slice (some a) n _ => match cond (Nat.beq n 0) (some []) (rdCells H a.block a.off n) with
    | some cs => match intsOf cs with
      | some l => some (.string (l.foldl (fun r n => r.push (UInt8.ofNat n.toNat)) ByteArray.empty))
      | none => none
    | none => none
  | _ => none
def q_found (zero : Value) (ok : Bool) : Option (Option (Nat × Value)) → Option Value
  | some (some (_, v)) => some (cond ok (.tuple #[v, .bool true]) v)
  | some none => some (cond ok (.tuple #[zero, .bool false]) zero)
  | none => none
def q_lookM (H : Heap) (r : Nat) (kd : TypeDesc) (k : Value) (zero : Value) (ok : Bool) : Option Value := match H.get r with
  | some (.map es _) => q_found zero ok (Instr.findNow kd k es 0)
  | _ => none
def q_look (H : Heap) (kd : Option IntKind) (m k : Value) (zero : Value) (ok : Bool) : Option Value := cond (keyOk kd k) (match m with
  | .map none => some (cond ok (.tuple #[zero, .bool false]) zero)
  | .map (some r) => q_lookM H r (keyD kd) k zero ok
  | _ => none) none

def exQ (P : Program) (ρ : Od → Value) (H : Heap) : KQ → Option Value
  | .mov x => some (ρ x)
  | .pick c a b => q_pick (ρ c) (ρ a) (ρ b)
  | .flat d op ty => q_flat P ρ d op ty
  | .bin op x y => q_bin op (ρ x) (ρ y)
  | .conv k x => q_conv k (ρ x)
  | .nileq tag neg x y => q_nileq tag neg (ρ x) (ρ y)
  | .nilc x => q_nilc (ρ x)
  | .fld x off => q_fld (ρ x) off
  | .idx x i sz => q_idx (ρ x) (ρ i) sz
  | .idxA x i n sz => q_idxA (ρ x) (ρ i) n sz
  | .load x sz ag => q_load H (ρ x) sz ag
  | .build zs parts => q_build ρ zs parts
  | .slc x lo hi mx sz => q_slc H (ρ x) (optNat ρ lo) (optNat ρ hi) (optNat ρ mx) sz
  | .ext x i => q_ext (ρ x) i
  | .fldv x off sz ag => q_fldv (ρ x) off sz ag
  | .len x => q_len (ρ x)
  | .lens x => q_lens (ρ x)
  | .cap x => q_cap (ρ x)
  | .b2s x => q_b2s H (ρ x)
  | .look kd m k zero ok => q_look H kd (ρ m) (ρ k) zero ok
  | .mkfn f a b => some (.func (.func f) (a.map ρ).toArray (b.map ρ).toArray)
  | .mkif t x => some (.iface t (ρ x))

/-- A block with cells written. -/
def wrCells (H : Heap) (b o : Nat) (vs : List Value) : Option Heap :=
  match H.get b with
  | some (.cells false cs esz) => cond (Nat.ble (o + vs.length) cs.n && vs.all Value.oneCell') (some (H.set b (some (.cells false (cs.wr o vs) esz)))) none
  | _ => none

def ROOM : Nat := 140737488355328

def w_store (H : Heap) (a v : Value) (sz : Nat) : Option (Value × Heap) := match a with
  | .pointer (some a) => cond (Nat.beq v.cells.size sz) ((wrCells H a.block a.off v.cells.toList).map fun H' => (undef, H')) none
  | _ => none
/-- An append onto a slice whose capacity is not known: in place or not, what was there is given up. -/
def w_appU (H : Heap) (a : Addr) (n k sz bytes : Nat) (news : List Value) : Option (Value × Heap) := match H.get a.block with
  | some (.cells false cs esz) =>
    cond (Nat.ble (a.off + n * sz) cs.n && Nat.beq esz sz && Nat.ble ((n + k) * bytes) ROOM && Nat.blt H.next LIM && news.all Value.oneCell')
      (some (.slice (some ⟨H.next, 0, none⟩) (n + k) UNK, (H.set a.block none).new (.cells false (cond (Nat.beq a.off 0 && Nat.beq (n * sz) cs.n) (cs.app news) (Cs.ofL (cs.t.rd a.off (n * sz) ++ news))) sz))) none
  | _ => none
/-- An append that fits. -/
def w_appI (H : Heap) (base : Option Addr) (n k c sz : Nat) (news : List Value) : Option (Value × Heap) := match base with
  | none => none
  | some a => (wrCells H a.block (a.off + n * sz) news).map fun H' => (.slice (some a) (n + k) c, H')
/-- What a slice holds. -/
def oldsOf (H : Heap) (base : Option Addr) (n : Nat) : Option (List Value) := match base with
  | none => some []
  | some a => cond (Nat.beq n 0) (some []) (rdCells H a.block a.off n)
/-- An append that does not fit. -/
def w_appN (H : Heap) (base : Option Addr) (n k sz bytes : Nat) (news : List Value) : Option (Value × Heap) := match oldsOf H base (n * sz) with
  | none => none
  | some olds => cond (Nat.beq olds.length (n * sz) && Nat.ble ((n + k) * bytes) ROOM && Nat.blt H.next LIM)
      (some (.slice (some ⟨H.next, 0, none⟩) (n + k) UNK, H.new (.cells false (Cs.ofL (olds ++ news)) sz))) none
def w_app1 (H : Heap) (base : Option Addr) (n c k sz bytes : Nat) (news : List Value) : Option (Value × Heap) :=
  cond (Nat.beq c UNK) (match base with
    | none => none
    | some a => w_appU H a n k sz bytes news)
  (cond (Nat.ble (n + k) c) (w_appI H base n k c sz news) (w_appN H base n k sz bytes news))
def w_appS (H : Heap) (base : Option Addr) (n c k : Nat) (x : Value) (sz bytes : Nat) : Option (Value × Heap) :=
  cond (Nat.beq k 0) (some (.slice base n c, H)) (match srcCells H sz k x with
    | none => none
    | some news => w_app1 H base n c k sz bytes news)
def w_app (H : Heap) (s x : Value) (sz bytes : Nat) : Option (Value × Heap) := match s, lenV x with
  | .slice base n c, some k => w_appS H base n c k x sz bytes
  | _, _ => none
def w_cpyS (H : Heap) (base : Option Addr) (m : Nat) (s : Value) (sz : Nat) : Option (Value × Heap) :=
  cond (Nat.beq m 0) (some (.int .i64 m, H))
  (match base, srcCells H sz m s with
   | some a, some cs => (wrCells H a.block a.off cs).map fun H' => (.int .i64 m, H')
   | _, _ => none)
def w_cpy (H : Heap) (d s : Value) (sz : Nat) : Option (Value × Heap) := match d, lenV s with
  | .slice base n _, some k => w_cpyS H base (Nat.min k n) s sz
  | _, _ => none
def w_mapupM (H : Heap) (r : Nat) (kd : TypeDesc) (k v : Value) : Option (Value × Heap) := match H.get r with
  | some (.map es clock) => match Instr.findNow kd k es 0 with
    | some (some (i, _)) => some (undef, H.set r (some (.map (es.modify i fun e => { e with key := k, val := v }) clock)))
    | some none => some (undef, H.set r (some (.map (es ++ [{ key := k, val := v, born := clock }]) (clock + 1))))
    | none => none
  | _ => none
def w_mapup (H : Heap) (kd : Option IntKind) (m k v : Value) : Option (Value × Heap) := cond (keyOk kd k) (match m with
  | .map (some r) => w_mapupM H r (keyD kd) k v
  | _ => none) none
def exW (ρ : Od → Value) (H : Heap) : KW → Option (Value × Heap)
  | .store a v sz => w_store H (ρ a) (ρ v) sz
  | .app s x sz bytes => w_app H (ρ s) (ρ x) sz bytes
  | .cpy d s sz => w_cpy H (ρ d) (ρ s) sz
  | .mapup kd m k v => w_mapup H kd (ρ m) (ρ k) (ρ v)
  | .del _ _ _ => none

/-- What is called: a function, or a loop's next round. -/
inductive Tg where
  | f (f : FuncId)
  | y (l : Nat)

abbrev CallF := Tg → List Value → Heap → Option (Value × Heap)

def i_a (H : Heap) : Option (AObj × AV) → Option (Value × Heap)
  | some (o, v) => cond (Nat.blt H.next LIM) (some (v.val H.next, H.new o)) none
  | none => none
def i_q (H : Heap) : Option Value → Option (Value × Heap)
  | some v => some (v, H)
  | none => none
def i_callv (call : CallF) (H : Heap) (f : Value) (args : List Value) : Option (Value × Heap) := match f with
  | .func (.func f) a b => call (.f f) (a.toList ++ args ++ b.toList) H
  | .func (.yield l) _ _ => call (.y l) args H
  | _ => none

def exIns (P : Program) (call : CallF) (T : TT) (H : Heap) : K → Option (Value × Heap)
  | .a k => i_a H (exA (av T) k)
  | .q k => i_q H (exQ P (av T) H k)
  | .w k => exW (av T) H k
  | .call f args => call (.f f) (args.map (av T)) H
  | .callv x args => i_callv call H (av T x) (args.map (av T))
  | .bad => none

def putT (T : TT) : Option Pa → Value → TT
  | some d, v => T.set d v
  | none, _ => T

/-- Does it run? -/
def goes (T : TT) : Option (Pa × Bool) → Bool
  | none => true
  | some (t, want) => match T.get t with
    | .bool b => b == want
    | _ => false

def r_put (dst : Option Pa) (T : TT) (k : TT → Heap → Option (TT × Heap)) : Option (Value × Heap) → Option (TT × Heap)
  | some (v, H') => k (putT T dst v) H'
  | none => none
def exReg1 (P : Program) (call : CallF) (i : Ins) (k : TT → Heap → Option (TT × Heap)) (T : TT) (H : Heap) : Option (TT × Heap) :=
  cond (goes T i.guard) (r_put i.dst T k (exIns P call T H i.k)) (k (putT T i.dst undef) H)
def exReg (P : Program) (call : CallF) (l : List Ins) : TT → Heap → Option (TT × Heap) :=
  List.rec (motive := fun _ => TT → Heap → Option (TT × Heap)) (fun T H => some (T, H)) (fun i _ k => exReg1 P call i k) l

def veqs (f : Value → Value → Bool) : List Value → List Value → Bool
  | [], [] => true
  | x :: l, y :: r => f x y && veqs f l r
  | _, _ => false

/-- Are two values the same? (Not every two that are.) -/
def veq : Nat → Value → Value → Bool
  | _, .bool a, .bool b => a == b
  | _, .int j a, .int k b => decide (j = k) && decide (a = b)
  | _, .string a, .string b => decide (a = b)
  | _, .pointer none, .pointer none => true
  | _, .pointer (some a), .pointer (some b) => decide (a = b)
  | _, .slice none n c, .slice none n' c' => Nat.beq n n' && Nat.beq c c'
  | _, .slice (some a) n c, .slice (some a') n' c' => decide (a = a') && Nat.beq n n' && Nat.beq c c'
  | _, .map none, .map none => true
  | _, .map (some a), .map (some b) => Nat.beq a b
  | _, .nilFunc, .nilFunc => true
  | _, .nilIface, .nilIface => true
  | n + 1, .func f a b, .func f' a' b' => decide (f = f') && veqs (veq n) a.toList a'.toList && veqs (veq n) b.toList b'.toList
  | n + 1, .agg a, .agg b => veqs (veq n) a.toList b.toList
  | n + 1, .tuple a, .tuple b => veqs (veq n) a.toList b.toList
  | n + 1, .iface t x, .iface u y => Nat.beq t u && veq n x y
  | _, _, _ => false

/-- What is asked again behind the writes from number lo to number hi: a read (the instruction, the temporaries as they were, what it gave), a block that was made (its number, what it holds). -/
inductive Rec where
  | q (k : KQ) (T : TT) (v : Value) (lo hi : Nat)
  | a (id : Nat) (o : AObj) (lo hi : Nat)

def oeq : AObj → Option AObj → Bool
  | .cells false cs e, some (.cells false cs' e') => veqs (veq 4) cs.toL cs'.toL && Nat.beq e e'
  | .map [] 0, some (.map [] 0) => true
  | _, _ => false

def Rec.ok (P : Program) (H : Heap) : Rec → Bool
  | .q k T v _ _ => match exQ P (av T) H k with
    | some v' => veq 4 v' v
    | none => false
  | .a id o _ _ => Nat.blt id H.next && oeq o (H.get id)

def Rec.lo : Rec → Nat | .q _ _ _ lo _ => lo | .a _ _ lo _ => lo
def Rec.hi : Rec → Nat | .q _ _ _ _ hi => hi | .a _ _ _ hi => hi

/-- All heaps from number lo to number hi give the same. -/
def again (P : Program) (q : Rec) : Nat → List Heap → Bool
  | _, [] => true
  | j, H :: l => cond (Nat.ble q.lo j && Nat.ble j q.hi) (q.ok P H) true && again P q (j + 1) l

abbrev DrwK := TT → Heap → List Heap → List Rec → Option (TT × Heap)
def d_end (P : Program) (T : TT) (H : Heap) (hs : List Heap) (rs : List Rec) : Option (TT × Heap) :=
  cond (rs.all fun q => again P q 0 (hs.reverse ++ [H])) (some (T, H)) none
def d_p (dst : Option Pa) (k : DrwK) (T : TT) (H : Heap) (hs : List Heap) (rs : List Rec) : Option Value → Option (TT × Heap)
  | some v => k (putT T dst v) H hs rs
  | none => none
def d_r (dst : Option Pa) (k : DrwK) (q : KQ) (lo hi : Nat) (T : TT) (H : Heap) (hs : List Heap) (rs : List Rec) : Option Value → Option (TT × Heap)
  | some v => k (putT T dst v) H hs (.q q T v lo hi :: rs)
  | none => none
def d_a (dst : Option Pa) (k : DrwK) (lo hi : Nat) (T : TT) (H : Heap) (hs : List Heap) (rs : List Rec) : Option (AObj × AV) → Option (TT × Heap)
  | some (o, v) => cond (Nat.blt H.next LIM) (k (putT T dst (v.val H.next)) (H.new o) hs (.a H.next o lo hi :: rs)) none
  | none => none
def d_h (dst : Option Pa) (k : DrwK) (T : TT) (H : Heap) (hs : List Heap) (rs : List Rec) : Option (Value × Heap) → Option (TT × Heap)
  | some (v, H') => cond (Nat.ble H.next H'.next) (k (putT T dst v) H' (H :: hs) rs) none
  | none => none
def d_go (P : Program) (call : CallF) (i : DIns) (k : DrwK) (T : TT) (H : Heap) (hs : List Heap) (rs : List Rec) : Option (TT × Heap) :=
  match i.cls, i.ins.k with
  | .p, .q q => d_p i.ins.dst k T H hs rs (exQ P (av T) H q)
  | .r lo hi, .q q => d_r i.ins.dst k q lo hi T H hs rs (exQ P (av T) H q)
  | .a lo hi, .a a => d_a i.ins.dst k lo hi T H hs rs (exA (av T) a)
  | .h, q => d_h i.ins.dst k T H hs rs (exIns P call T H q)
  | _, _ => none
def d_skip (i : DIns) (k : DrwK) (T : TT) (H : Heap) (hs : List Heap) (rs : List Rec) : Option (TT × Heap) :=
  match i.cls with
  | .h => k (putT T i.ins.dst undef) H (H :: hs) rs
  | _ => k (putT T i.ins.dst undef) H hs rs
def d_one (P : Program) (call : CallF) (i : DIns) (k : DrwK) (T : TT) (H : Heap) (hs : List Heap) (rs : List Rec) : Option (TT × Heap) :=
  cond (goes T i.ins.guard) (d_go P call i k T H hs rs) (d_skip i k T H hs rs)
def exDrw (P : Program) (call : CallF) (l : List DIns) : DrwK :=
  List.rec (motive := fun _ => DrwK) (d_end P) (fun i _ k => d_one P call i k) l

/-- Behind a piece of code: how it ended, the temporaries, the marks of its loops, the heap. -/
abbrev Out := Ex × TT × List Nat × Heap

/-- A jump that ends a loop over a function. -/
def exJump (T : TT) (D : List Nat) (H : Heap) : Option Ex → Out
  | none => (.normal, T, D, H)
  | some e => (e, T, D, H)

/-- What goes on behind a piece of code that has ended as it does. -/
def o_seq (r : Option Out) (k : TT → List Nat → Heap → Option Out) : Option Out := match r with
  | some (.normal, T, D, H) => k T D H
  | r => r
def o_block (id : Nat) (r : Option Out) : Option Out := match r with
  | some (.exit j, T, D, H) => _root_.cond (Nat.beq j id) (some (.normal, T, D, H)) (some (.exit j, T, D, H))
  | r => r
def o_reg (D : List Nat) (r : Option (TT × Heap)) : Option Out := match r with
  | some (T, H) => some (.normal, T, D, H)
  | none => none
def o_cond (x : Value) (a b : Option Out) : Option Out := match x with
  | .bool t => _root_.cond t a b
  | _ => none
def o_mark (rd : Option Nat) (D : List Nat) (H : Heap) : Option (List Nat × Heap) := match rd with
  | none => _root_.cond (Nat.blt H.next LIM) (some (H.next :: D, H.new .dfr)) none
  | some l => match H.get l with
    | some (.loop _ _ _ _ _ _ _ _) => some (D, H)
    | _ => none
def o_left (l : Nat) (T : TT) (D : List Nat) (r : Option (Value × Heap)) : Option Out := match r with
  | some (_, H) => match H.get l with
    | some (.loop d' n' T' ps' asg' b' st j) => match st with
      | .busy => none
      | _ => some (exJump T D (H.set l (some (.loop d' n' T' ps' asg' b' .exhausted j))) j)
    | _ => none
  | none => none
def o_over (call : CallF) (dp nt : Nat) (f : Value) (ps : List Pa) (asg b : C) (T : TT) (D : List Nat) (H : Heap) : Option Out :=
  match f with
  | .func (.func g) x y => _root_.cond (Nat.blt H.next LIM) (o_left H.next T D (call (.f g) (x.toList ++ [.func (.yield H.next) #[] #[]] ++ y.toList) (H.new (.loop dp nt T ps asg b .ready none)))) none
  | _ => none
def o_range (call : CallF) (rd : Option Nat) (dp nt : Nat) (f : Value) (ps : List Pa) (asg b : C) (T : TT) (D : List Nat) (H : Heap) : Option Out :=
  match o_mark rd D H with
  | none => none
  | some (D, H) => o_over call dp nt f ps asg b T D H

/-- A piece of code, the pieces in it by 'rec'. -/
def stepC (P : Program) (call : CallF) (rd : Option Nat) (dp nt : Nat) (rec : C → TT → List Nat → Heap → Option Out) (c : C) (T : TT) (D : List Nat) (H : Heap) : Option Out :=
  match c with
  | .skip => some (.normal, T, D, H)
  | .reg l => o_reg D (exReg P call l T H)
  | .drw l => o_reg D (exDrw P call l T H [] [])
  | .seq a b => o_seq (rec a T D H) (rec b)
  | .cond x a b => o_cond (av T x) (rec a T D H) (rec b T D H)
  | .block id a => o_block id (rec a T D H)
  | .loop a => o_seq (rec a T D H) (rec (.loop a))
  | .exit id => some (.exit id, T, D, H)
  | .ret => some (.ret, T, D, H)
  | .range f ps asg b => o_range call rd dp nt (av T f) ps asg b T D H

def exC (P : Program) (call : CallF) (rd : Option Nat) (dp nt : Nat) (n : Nat) : C → TT → List Nat → Heap → Option Out :=
  Nat.rec (motive := fun _ => C → TT → List Nat → Heap → Option Out) (fun _ _ _ _ => none) (fun _ rec => stepC P call rd dp nt rec) n

def exRes (T : TT) (H : Heap) : List RV → Option (List Value)
  | [] => some []
  | .tmp t :: l => match exRes T H l with
    | some vs => some (T.get t :: vs)
    | none => none
  | .cell t sz ag :: l => match q_load H (T.get t) sz ag, exRes T H l with
    | some v, some vs => some (v :: vs)
    | _, _ => none

def resV : List Value → Value
  | [v] => v
  | vs => .tuple vs.toArray

/-- The marks are taken away. -/
def exMarks : List Nat → Heap → Option Heap
  | [], H => some H
  | d :: D, H => match H.get d with
    | some .dfr => exMarks D (H.set d none)
    | _ => none

def setPs : TT → List Pa → List Value → TT
  | T, p :: ps, v :: vs => setPs (T.set p v) ps vs
  | T, _, _ => T

def f_out (F : F) (r : Option Out) : Option (Value × Heap) := match r with
  | some (.exit _, _, _, _) => none
  | some (_, T, D, H') => match exMarks D H' with
    | some H2 => match exRes T H2 F.results with
      | some vs => some (resV vs, H2)
      | none => none
    | none => none
  | none => none
def f_end (l : Nat) (r : Option Out) : Option (Value × Heap) := match r with
  | some (e, _, [], H2) => match H2.get l with
    | some (.loop d3 n3 T3 ps3 asg3 b3 _ _) => match e with
      | .normal => some (.bool true, H2.set l (some (.loop d3 n3 T3 ps3 asg3 b3 .ready none)))
      | e => some (.bool false, H2.set l (some (.loop d3 n3 T3 ps3 asg3 b3 .done (some e))))
    | _ => none
  | _ => none
def f_body (l : Nat) (r : Option Out) (k : TT → Heap → Option Out) : Option (Value × Heap) := match r with
  | some (.normal, T1, [], H1) => match H1.get l with
    | some (.loop d2 n2 T2 ps2 asg2 b2 .ready j2) => f_end l (k T1 (H1.set l (some (.loop d2 n2 T2 ps2 asg2 b2 .busy j2))))
    | _ => none
  | _ => none

abbrev ExF := Tg → List Value → Heap → Option (Value × Heap)
def f_call (P : Program) (fs : FuncId → Option F) (n : Nat) (rec : ExF) (f : FuncId) (args : List Value) (H : Heap) : Option (Value × Heap) := match fs f with
  | none => none
  | some F => cond (Nat.beq args.length F.params.length) (f_out F (exC P rec none F.d F.n n F.body (setPs .lf F.params args) [] H)) none
def f_round (P : Program) (n : Nat) (rec : ExF) (l : Nat) (args : List Value) (H : Heap) : Option (Value × Heap) := match H.get l with
  | some (.loop d nt T ps asg b _ _) => cond (Nat.beq args.length ps.length)
    (f_body l (exC P rec (some l) d nt n asg (setPs T ps args) [] H) (fun T1 H1 => exC P rec (some l) d nt n b T1 [] H1)) none
  | _ => none
def f_own (P : Program) (fs : FuncId → Option F) (n : Nat) (rec : ExF) (t : Tg) (args : List Value) (H : Heap) : Option (Value × Heap) := match t with
  | .f f => f_call P fs n rec f args H
  | .y l => f_round P n rec l args H
/-- What is known already ('base') is not run. -/
def f_step (P : Program) (base : ExF) (fs : FuncId → Option F) (n : Nat) (rec : ExF) (t : Tg) (args : List Value) (H : Heap) : Option (Value × Heap) := match base t args H with
  | some r => some r
  | none => f_own P fs n rec t args H

/-- A call: by so many levels, and rounds. -/
def exF (P : Program) (base : ExF) (fs : FuncId → Option F) (n : Nat) : ExF :=
  Nat.rec (motive := fun _ => ExF) (fun _ _ _ => none) (fun n rec => f_step P base fs n rec) n

end
end Go.Ev
