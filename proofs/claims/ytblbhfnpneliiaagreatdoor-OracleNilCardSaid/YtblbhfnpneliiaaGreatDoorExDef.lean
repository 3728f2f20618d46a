/- The exact evaluator, part 1: values, blocks, states, operations; all of it plain functions. -/
import Derived.Test.YtblbhfnpneliiaaGreatDoorAbOps2
namespace Go.Ex
open Go.Ab (TI Sh setL)

/-- Values by names of blocks. -/
inductive X where
  | v (x : Value)
  | agg (l : List X)
  | tup (l : List X)
  | ptr (b o : Nat)
  | slc (b o len cap : Nat)
  | gsl (b i len sz : Nat)
  | mp (b : Nat)
  | it (b : Nat)
  | fn (f : FuncId) (fs cs : List X)
  | yld (b : Nat)
  | iface (t : TypeId) (x : X)

/-- A finite map. -/
inductive Tr (α : Type) where
  | nil
  | node (v : Option α) (l r : Tr α)
def Tr.get {α : Type} : Tr α → Nat → Option α
  | .nil, _ => none
  | .node v l r, k => bif Nat.beq k 0 then v else bif Nat.beq (Nat.mod k 2) 1 then l.get (Nat.div k 2) else r.get (Nat.pred (Nat.div k 2))
def Tr.setF {α : Type} : Nat → Tr α → Nat → Option α → Tr α
  | 0, t, _, _ => t
  | n + 1, .nil, k, x => bif Nat.beq k 0 then .node x .nil .nil else bif Nat.beq (Nat.mod k 2) 1 then .node none (Tr.setF n .nil (Nat.div k 2) x) .nil else .node none .nil (Tr.setF n .nil (Nat.pred (Nat.div k 2)) x)
  | n + 1, .node v l r, k, x => bif Nat.beq k 0 then .node x l r else bif Nat.beq (Nat.mod k 2) 1 then .node v (Tr.setF n l (Nat.div k 2) x) r else .node v l (Tr.setF n r (Nat.pred (Nat.div k 2)) x)
def Tr.set {α : Type} (t : Tr α) (k : Nat) (x : Option α) : Tr α := Tr.setF (Nat.succ k) t k x

/-- Blocks. -/
inductive B where
  | row (T : TypeId) (l : List X) (fz : Nat × Nat)
  | grow (T : TypeId) (l : List X) (sz : Nat) (fz : Nat × Nat)
  | map (es : List (Value × X × Nat)) (clock : Nat)
  | iter (m : Option Nat) (since : Nat) (seen : List Nat) (stepped : Nat)
  | loop (st : LoopState) (pend : Option Code) (f : FuncId) (nt : Nat) (env : Tr X) (ps : List Tmp) (a b : Code) (d : Nat)
  | defd (open_ : Bool)

def u0 : X := .v (.tuple #[])
/-- What the evaluator is given. -/
structure Cx where
  P : Program
  ti : Tr TI
  gl : Tr (List Value)
  fn : Tr Func

def evX (env : Tr X) : Operand → X
  | .tmp t => match env.get t with | some x => x | none => u0
  | .const v => .v v
  | .global g => .v (.pointer (some ⟨g, 0, none⟩))
  | .func f => .fn f [] []

/-- Entry k of a list. -/
def nth {α : Type} : List α → Nat → Option α
  | [], _ => none
  | x :: l, k => bif Nat.beq k 0 then some x else nth l (Nat.pred k)
def takeN {α : Type} : Nat → List α → Option (List α)
  | 0, _ => some []
  | _ + 1, [] => none
  | n + 1, x :: l => match takeN n l with | some r => some (x :: r) | none => none
def dropN {α : Type} : Nat → List α → Option (List α)
  | 0, l => some l
  | _ + 1, [] => none
  | n + 1, _ :: l => dropN n l
/-- Piece o..o+n. -/
def piece {α : Type} (l : List α) (o n : Nat) : Option (List α) := match dropN o l with | some r => takeN n r | none => none
/-- ys put at o. -/
def put {α : Type} : List α → Nat → List α → Option (List α)
  | l, 0, [] => some l
  | [], 0, _ :: _ => none
  | _ :: l, 0, y :: ys => match put l 0 ys with | some r => some (y :: r) | none => none
  | [], _ + 1, _ => none
  | x :: l, o + 1, ys => match put l o ys with | some r => some (x :: r) | none => none

def oneV : Value → Bool
  | .agg _ => false
  | .tuple _ => false
  | _ => true
def oneX : X → Bool
  | .v v => oneV v
  | .agg _ => false
  | .tup _ => false
  | _ => true
def allOne : List X → Bool
  | [] => true
  | x :: l => bif oneX x then allOne l else false
def cellsX : X → Option (List X)
  | .agg l => bif allOne l then some l else none
  | x => bif oneX x then some [x] else none

/-- What an operation comes to: a value; a block that is new, or written, or given up; the blocks that were looked at. -/
structure Ef where
  x : X
  up : List (Nat × Option B)
  rd : List Nat
abbrev Rs := Option Ef
def pX (x : X) : Rs := some ⟨x, [], []⟩

def lenL {α : Type} : List α → Nat
  | [] => 0
  | _ :: l => Nat.succ (lenL l)
def mapV : List Value → List X
  | [] => []
  | v :: l => .v v :: mapV l

def rowOf : B → Option (TypeId × List X × (Nat × Nat))
  | .row T l fz => some (T, l, fz)
  | .grow T l _ fz => some (T, l, fz)
  | _ => none
def withRow : B → List X → B
  | .row T _ fz, l => .row T l fz
  | .grow T _ sz fz, l => .grow T l sz fz
  | b, _ => b
def thaw (fz : Nat × Nat) (o n : Nat) : Bool := Nat.ble fz.2 o || Nat.ble (o + n) fz.1 || Nat.ble fz.2 fz.1

def loadX (ti : TI) (G : Tr (List Value)) (hp : Tr B) : X → Rs
  | .ptr b o => match hp.get b with
    | some blk => match rowOf blk with
      | some (_, l, _) => bif ti.ag then (match piece l o ti.sz with | some r => some ⟨.agg r, [], [b]⟩ | none => none) else match nth l o with
        | some x => some ⟨x, [], [b]⟩
        | none => none
      | none => none
    | none => none
  | .v (.pointer (some ⟨g, o, none⟩)) => match G.get g with
    | some l => bif ti.ag then (match piece l o ti.sz with | some r => pX (.agg (mapV r)) | none => none) else match nth l o with
      | some x => pX (.v x)
      | none => none
    | none => none
  | _ => none
def storeX (ti : TI) (hp : Tr B) (a x : X) : Rs :=
  match a with
  | .ptr b o => match hp.get b with
    | some blk => match rowOf blk, cellsX x with
      | some (_, l, fz), some ns => bif Nat.beq (lenL ns) ti.sz then (bif thaw fz o ti.sz then (match put l o ns with
          | some l' => some ⟨u0, [(b, some (withRow blk l'))], [b]⟩
          | none => none) else none) else none
      | _, _ => none
    | none => none
  | _ => none
def allocX (id : Nat) (T : TypeId) (ti : TI) : Rs := some ⟨.ptr id 0, [(id, some (.row T (mapV ti.zero) (0, 0)))], []⟩
def boxX (id : Nat) (T : TypeId) (x : X) : Rs := match cellsX x with
  | some ns => some ⟨.ptr id 0, [(id, some (.row T ns (0, 0)))], []⟩
  | none => none
/-- Parts filled in, each at its place, of its size. -/
def fillX (pl : Nat → Option (Nat × Nat)) : List X → List (Nat × X) → Option (List X)
  | cs, [] => some cs
  | cs, (i, x) :: r => match pl i, cellsX x with
    | some (o, n), some ns => bif Nat.beq (lenL ns) n then (match put cs o ns with
      | some cs' => fillX pl cs' r
      | none => none) else none
    | _, _ => none
def fldOf (ti : TI) (i : Nat) : Option (Nat × Nat × Bool) := match ti.sh with
  | .struct fs => nth fs i
  | _ => none
def plOf (fs : List (Nat × Nat × Bool)) (i : Nat) : Option (Nat × Nat) := match nth fs i with
  | some (o, n, _) => some (o, n)
  | none => none
def buildX (ti : TI) (ps : List (Nat × X)) : Rs :=
  match ti.sh with
  | .struct fs => match fillX (plOf fs) (mapV ti.zero) ps with
    | some cs => pX (.agg cs)
    | none => none
  | _ => none
def repL {α : Type} : Nat → List α → List α
  | 0, _ => []
  | n + 1, l => l ++ repL n l
def buildSX (id : Nat) (e : TypeId) (te : TI) (n : Nat) (ps : List (Nat × X)) : Rs :=
  bif Nat.ble (Nat.mul n te.sz) 16777216 && Nat.beq (lenL te.zero) te.sz then (match fillX (fun i => some (Nat.mul i te.sz, te.sz)) (repL n (mapV te.zero)) ps with
    | some cs => some ⟨.slc id 0 n n, [(id, some (.row e cs (0, 0)))], []⟩
    | none => none) else none
def natOf : X → Option Nat
  | .v (.int _ (.ofNat n)) => some n
  | _ => none
def makeSX (id : Nat) (e : TypeId) (te : TI) (l c : X) : Rs := match natOf l, natOf c with
  | some l, some c => bif Nat.ble l c && Nat.ble (Nat.mul c (Nat.succ te.bytes)) 16777216 && Nat.beq (lenL te.zero) te.sz then some ⟨.slc id 0 l c, [(id, some (.row e (repL c (mapV te.zero)) (0, 0)))], []⟩ else none
  | _, _ => none
def fieldX (ti : TI) (i : Nat) : X → Rs
  | .agg l => match fldOf ti i with
    | some (o, n, ag) => bif ag then (match piece l o n with | some r => pX (.agg r) | none => none) else match nth l o with
      | some x => pX x
      | none => none
    | none => none
  | _ => none
def fieldAddrX (ti : TI) (i : Nat) (x : X) : Rs := match fldOf ti i with
  | some (o, n, _) => bif Nat.beq n 0 then none else match x with
    | .ptr b p => pX (.ptr b (Nat.add p o))
    | .v (.pointer (some ⟨g, p, none⟩)) => pX (.v (.pointer (some ⟨g, Nat.add p o, none⟩)))
    | _ => none
  | none => none
/-- Of a slice: esz the size of an element. -/
def indexAddrX (esz : Nat) (x i : X) : Rs := match natOf i with
  | some n => match x with
    | .slc b o len _ => bif Nat.blt n len then pX (.ptr b (Nat.add o (Nat.mul n esz))) else none
    | .gsl b r len sz => bif Nat.blt n len && Nat.beq sz esz then pX (.ptr b (Nat.mul (Nat.add r n) esz)) else none
    | _ => none
  | none => none
/-- Of a pointer to an array of n. -/
def indexArrX (n esz : Nat) (x i : X) : Rs := match natOf i with
  | some k => bif Nat.blt k n && !Nat.beq esz 0 then (match x with
    | .ptr b o => pX (.ptr b (Nat.add o (Nat.mul k esz)))
    | .v (.pointer (some ⟨g, p, none⟩)) => pX (.v (.pointer (some ⟨g, Nat.add p (Nat.mul k esz), none⟩)))
    | _ => none) else none
  | none => none
def strL (s : ByteArray) : List UInt8 := s.data.toList
def indexX (x i : X) : Rs := match natOf i with
  | some n => match x with
    | .v (.string s) => match nth (strL s) n with
      | some c => pX (.v (.int .u8 (.ofNat c.toNat)))
      | none => none
    | _ => none
  | none => none
def bndX (d : Nat) : Option X → Option Nat
  | none => some d
  | some x => natOf x
def strSliceX (x : X) (lo hi : Option X) : Rs :=
  match x with
  | .v (.string s) => match bndX 0 lo, bndX (lenL (strL s)) hi with
    | some l, some r => bif Nat.ble l r then (match piece (strL s) l (Nat.sub r l) with | some q => pX (.v (.string ⟨q.toArray⟩)) | none => none) else none
    | _, _ => none
  | _ => none
def sliceX (hp : Tr B) (esz : Nat) (x : X) (lo hi : Option X) : Rs :=
  match x with
  | .slc b o len cap => match bndX 0 lo, bndX len hi with
    | some l, some r => bif Nat.ble l r && Nat.ble r cap && Nat.ble len cap && (Nat.blt l cap || Nat.beq l 0) then pX (.slc b (Nat.add o (Nat.mul l esz)) (Nat.sub r l) (Nat.sub cap l)) else none
    | _, _ => none
  | .gsl b i len sz => match bndX 0 lo, bndX len hi, hp.get b with
    | some l, some r, some (.grow _ cs sz' _) => bif Nat.ble l r && Nat.ble r len && (Nat.blt l len || Nat.beq l 0) && Nat.beq sz esz && Nat.beq sz' esz && Nat.blt 0 esz && Nat.ble (Nat.mul (Nat.add i len) esz) (lenL cs) then some ⟨.gsl b (Nat.add i l) (Nat.sub r l) sz, [], [b]⟩ else none
    | _, _, _ => none
  | .v (.slice none 0 0) => match bndX 0 lo, bndX 0 hi with
    | some l, some r => bif Nat.beq l 0 && Nat.beq r 0 then pX x else none
    | _, _ => none
  | _ => none
def arrSliceX (n esz : Nat) (x : X) (lo hi : Option X) : Rs :=
  match x with
  | .ptr b o => match bndX 0 lo, bndX n hi with
    | some l, some r => bif Nat.ble l r && Nat.ble r n && Nat.blt l n then pX (.slc b (Nat.add o (Nat.mul l esz)) (Nat.sub r l) (Nat.sub n l)) else none
    | _, _ => none
  | _ => none
/-- The cells of a slice, and where they lie. -/
def sliceCells (hp : Tr B) (esz : Nat) : X → Option (List X × List Nat × Nat)
  | .slc b o len _ => match hp.get b with
    | some blk => match rowOf blk with
      | some (_, l, _) => match piece l o (Nat.mul len esz) with | some r => some (r, [b], len) | none => none
      | none => none
    | none => none
  | .gsl b i len sz => bif Nat.beq sz esz then (match hp.get b with
    | some blk => match rowOf blk with
      | some (_, l, _) => match piece l (Nat.mul i esz) (Nat.mul len esz) with | some r => some (r, [b], len) | none => none
      | none => none
    | none => none) else none
  | .v (.slice none 0 0) => some ([], [], 0)
  | _ => none
def appendX (id : Nat) (hp : Tr B) (e : TypeId) (te : TI) (s x : X) : Rs :=
  match sliceCells hp te.sz x, sliceCells hp te.sz s with
  | some (ns, rd, n), some (os, rd', len) =>
    bif Nat.blt 0 te.sz && Nat.beq (lenL te.zero) te.sz && Nat.ble (Nat.mul (Nat.add len n) (Nat.succ te.bytes)) 1073741824 && allOne ns then (match s with
    | .v (.slice none 0 0) => bif Nat.beq n 0 then some ⟨s, [], rd⟩ else some ⟨.gsl id 0 n te.sz, [(id, some (.grow e ns te.sz (0, 0)))], rd⟩
    | .slc b o len cap => match hp.get b with
      | some blk => match rowOf blk with
        | some (_, l, fz) =>
          bif Nat.ble (Nat.add len n) cap then (bif thaw fz (Nat.add o (Nat.mul len te.sz)) (Nat.mul n te.sz) then (match put l (Nat.add o (Nat.mul len te.sz)) ns with
            | some l' => some ⟨.slc b o (Nat.add len n) cap, [(b, some (withRow blk l'))], b :: rd⟩
            | none => none) else none)
          else bif Nat.ble len cap then some ⟨.gsl id 0 (Nat.add len n) te.sz, [(id, some (.grow e (os ++ ns) te.sz (0, 0)))], rd' ++ rd⟩ else none
        | none => none
      | none => none
    | .gsl b 0 len sz => bif Nat.beq sz te.sz then (match hp.get b with
      | some (.grow T l sz' fz) => bif Nat.beq sz' te.sz then (
          bif Nat.ble (Nat.mul (Nat.add len n) te.sz) (lenL l) then (bif thaw fz (Nat.mul len te.sz) (Nat.mul n te.sz) then (match put l (Nat.mul len te.sz) ns with
            | some l' => some ⟨.gsl b 0 (Nat.add len n) te.sz, [(b, some (.grow T l' sz' fz))], b :: rd⟩
            | none => none) else none)
          else bif Nat.ble fz.2 (Nat.mul len te.sz) && Nat.beq fz.2 0 && Nat.beq fz.1 0 && Nat.beq T e then some ⟨.gsl id 0 (Nat.add len n) te.sz, [(id, some (.grow T (os ++ ns) sz' (0, 0))), (b, none)], b :: (rd' ++ rd)⟩ else none) else none
      | _ => none) else none
    | _ => none) else none
  | _, _ => none
def copyX (hp : Tr B) (esz : Nat) (d s : X) : Rs :=
  match sliceCells hp esz s with
  | some (ns, rd, n) => match d with
    | .slc b o len _ => match takeN (Nat.mul (Nat.min n len) esz) ns, hp.get b with
      | some cs, some blk => match rowOf blk with
        | some (_, l, fz) => bif thaw fz o (Nat.mul (Nat.min n len) esz) then (match put l o cs with
          | some l' => some ⟨.v (.int .i64 (.ofNat (Nat.min n len))), [(b, some (withRow blk l'))], b :: rd⟩
          | none => none) else none
        | none => none
      | _, _ => none
    | .gsl b i len sz => bif Nat.beq sz esz then (match takeN (Nat.mul (Nat.min n len) esz) ns, hp.get b with
      | some cs, some blk => match rowOf blk with
        | some (_, l, fz) => bif thaw fz (Nat.mul i esz) (Nat.mul (Nat.min n len) esz) then (match put l (Nat.mul i esz) cs with
          | some l' => some ⟨.v (.int .i64 (.ofNat (Nat.min n len))), [(b, some (withRow blk l'))], b :: rd⟩
          | none => none) else none
        | none => none
      | _, _ => none) else none
    | .v (.slice none 0 0) => some ⟨.v (.int .i64 0), [], rd⟩
    | _ => none
  | none => none
def intOf : X → Option (IntKind × Int)
  | .v (.int k n) => some (k, n)
  | _ => none
def lenX (sh : Sh) (hp : Tr B) (x : X) : Rs :=
  match sh with
  | .slice _ => (match x with
    | .slc _ _ len _ => pX (.v (.int .i64 (.ofNat len)))
    | .gsl _ _ len _ => pX (.v (.int .i64 (.ofNat len)))
    | .v (.slice none 0 0) => pX (.v (.int .i64 0))
    | _ => none)
  | .str => (match x with
    | .v (.string s) => pX (.v (.int .i64 (.ofNat (lenL (strL s)))))
    | _ => none)
  | .map _ _ => (match x with
    | .v (.map none) => pX (.v (.int .i64 0))
    | .mp b => (match hp.get b with
      | some (.map es _) => some ⟨.v (.int .i64 (.ofNat (lenL es))), [], [b]⟩
      | _ => none)
    | _ => none)
  | _ => none
def capX (sh : Sh) (x : X) : Rs :=
  match sh with
  | .slice _ => (match x with
    | .slc _ _ _ cap => pX (.v (.int .i64 (.ofNat cap)))
    | .v (.slice none 0 0) => pX (.v (.int .i64 0))
    | _ => none)
  | _ => none

def ilt : Int → Int → Bool
  | .ofNat a, .ofNat b => Nat.blt a b
  | .ofNat _, .negSucc _ => false
  | .negSucc _, .ofNat _ => true
  | .negSucc a, .negSucc b => Nat.blt b a
def ieq : Int → Int → Bool
  | .ofNat a, .ofNat b => Nat.beq a b
  | .negSucc a, .negSucc b => Nat.beq a b
  | _, _ => false
def wrapX (k : IntKind) (n : Int) : Int := bif ilt n (Go.Ab.imin k) || ilt (Go.Ab.imax k) n then k.wrap n else n
def kEq : IntKind → IntKind → Bool
  | .i8, .i8 => true | .i16, .i16 => true | .i32, .i32 => true | .i64, .i64 => true
  | .u8, .u8 => true | .u16, .u16 => true | .u32, .u32 => true | .u64, .u64 => true
  | _, _ => false
def bX (b : Bool) : X := .v (.bool b)
def iX (k : IntKind) (n : Int) : X := .v (.int k n)
def intX (op : BinOp) (k : IntKind) (a : Int) (k' : IntKind) (b : Int) : Option X :=
  match op with
  | .shl => (match b with | .ofNat s => some (iX k (k.wrap (a * 2 ^ (Nat.min s k.bits)))) | _ => none)
  | .shr => (match b with | .ofNat s => some (iX k (a.fdiv (2 ^ (Nat.min s k.bits)))) | _ => none)
  | op => bif kEq k k' then (match op with
    | .add => some (iX k (wrapX k (a + b)))
    | .sub => some (iX k (wrapX k (a - b)))
    | .mul => some (iX k (wrapX k (a * b)))
    | .quo => bif ieq b 0 then none else some (iX k (k.wrap (a.tdiv b)))
    | .rem => bif ieq b 0 then none else some (iX k (a.tmod b))
    | .eql => some (bX (ieq a b))
    | .neq => some (bX (!(ieq a b)))
    | .lss => some (bX (ilt a b))
    | .leq => some (bX (!(ilt b a)))
    | .gtr => some (bX (ilt b a))
    | .geq => some (bX (!(ilt a b)))
    | .and => some (iX k (k.wrap (BitVec.ofInt k.bits a &&& BitVec.ofInt k.bits b).toNat))
    | .or => some (iX k (k.wrap (BitVec.ofInt k.bits a ||| BitVec.ofInt k.bits b).toNat))
    | .xor => some (iX k (k.wrap (BitVec.ofInt k.bits a ^^^ BitVec.ofInt k.bits b).toNat))
    | _ => none) else none
def beqL : List UInt8 → List UInt8 → Bool
  | [], [] => true
  | x :: a, y :: b => bif Nat.beq x.toNat y.toNat then beqL a b else false
  | _, _ => false
def ltL : List UInt8 → List UInt8 → Bool
  | _, [] => false
  | [], _ :: _ => true
  | x :: a, y :: b => bif Nat.blt x.toNat y.toNat then true else bif Nat.beq x.toNat y.toNat then ltL a b else false
def strX (op : BinOp) (a b : List UInt8) : Option X :=
  match op with
  | .add => bif Nat.ble (lenL a + lenL b) 1099511627776 then some (.v (.string ⟨(a ++ b).toArray⟩)) else none
  | .eql => some (bX (beqL a b))
  | .neq => some (bX (!(beqL a b)))
  | .lss => some (bX (ltL a b))
  | .leq => some (bX (!(ltL b a)))
  | .gtr => some (bX (ltL b a))
  | .geq => some (bX (!(ltL a b)))
  | _ => none
/-- Tests against nil, by the kind of the type; lit: one side is written out. -/
def eqX (sh : Sh) (lit : Bool) (x y : X) : Option Bool :=
  match sh with
  | .bool => (match x, y with
    | .v (.bool a), .v (.bool b) => some (bif a then b else !b)
    | _, _ => none)
  | .ptr _ => (match x, y with
    | .v (.pointer none), .v (.pointer q) => some q.isNone
    | .v (.pointer none), .ptr _ _ => some false
    | .ptr _ _, .v (.pointer none) => some false
    | .v (.pointer (some _)), .v (.pointer none) => some false
    | _, _ => none)
  | .slice _ => (match x, y with
    | .v (.slice none 0 0), .v (.slice none 0 0) => some true
    | .slc _ _ _ _, .v (.slice none 0 0) => some false
    | .gsl _ _ _ _, .v (.slice none 0 0) => some false
    | _, _ => none)
  | .map _ _ => (match x, y with
    | .v (.map none), .v (.map none) => some true
    | .mp _, .v (.map none) => some false
    | _, _ => none)
  | .func => (match x, y with
    | .v .nilFunc, .v .nilFunc => some true
    | .fn _ _ _, .v .nilFunc => some false
    | _, _ => none)
  | .iface => (match x, y with
    | .v .nilIface, .v .nilIface => bif lit then some true else none
    | .iface _ _, .v .nilIface => some false
    | _, _ => none)
  | _ => none
def cmpX (op : BinOp) (r : Option Bool) : Option X := match r with
  | some b => (match op with
    | .eql => some (bX b)
    | .neq => some (bX (!b))
    | _ => none)
  | none => none
def binX (op : BinOp) (sh : Sh) (lit : Bool) (x y : X) : Option X :=
  match x, y with
  | .v (.int k a), .v (.int k' b) => intX op k a k' b
  | .v (.string a), .v (.string b) => strX op (strL a) (strL b)
  | x, y => cmpX op (eqX sh lit x y)
def isLit : Operand → Bool
  | .const _ => true
  | _ => false
def unX (op : UnOp) : X → Option X
  | .v (.bool b) => match op with
    | .not => some (bX (!b))
    | _ => none
  | .v (.int k n) => match op with
    | .neg => some (iX k (wrapX k (0 - n)))
    | _ => none
  | _ => none
def convX (ts td : TI) (hp : Tr B) : X → Rs
  | .v (.int k n) => match td.sh with
    | .int k' => pX (iX k' (wrapX k' n))
    | _ => none
  | .v (.string s) => match td.sh with
    | .str => pX (.v (.string s))
    | _ => none
  | _ => none
def optS (o : Option X) : Rs := match o with | some x => pX x | none => none

def keyEq : Value → Value → Option Bool
  | .string a, .string b => some (beqL (strL a) (strL b))
  | .int k a, .int k' b => bif kEq k k' then some (ieq a b) else none
  | _, _ => none
def keyOk (sh : Sh) : X → Option Value
  | .v (.string s) => match sh with | .str => some (.string s) | _ => none
  | .v (.int k n) => match sh with | .int k' => bif kEq k k' then some (.int k n) else none | _ => none
  | _ => none
def findK (k : Value) : List (Value × X × Nat) → Option (Option X)
  | [] => some none
  | (k', x, _) :: r => match keyEq k k' with
    | some true => some (some x)
    | some false => findK k r
    | none => none
def setK (k : Value) (x : X) : List (Value × X × Nat) → List (Value × X × Nat)
  | [] => []
  | (k', y, n) :: r => match keyEq k k' with
    | some true => (k, x, n) :: r
    | _ => (k', y, n) :: setK k x r
def delK (k : Value) : List (Value × X × Nat) → List (Value × X × Nat)
  | [] => []
  | (k', y, n) :: r => match keyEq k k' with
    | some true => r
    | _ => (k', y, n) :: delK k r
def zeroX (z : Value) : X := match z with | .agg cs => .agg (mapV cs.toList) | v => .v v
def lookupX (ks : Sh) (te : Value) (hp : Tr B) (m k : X) (ok : Bool) : Rs := match keyOk ks k with
  | some k => match m with
    | .v (.map none) => pX (bif ok then .tup [zeroX te, bX false] else zeroX te)
    | .mp b => match hp.get b with
      | some (.map es _) => match findK k es with
        | some (some x) => some ⟨bif ok then .tup [x, bX true] else x, [], [b]⟩
        | some none => some ⟨bif ok then .tup [zeroX te, bX false] else zeroX te, [], [b]⟩
        | none => none
      | _ => none
    | _ => none
  | none => none
def updateX (ks : Sh) (hp : Tr B) (m k x : X) : Rs := match keyOk ks k, m with
  | some k, .mp b => match hp.get b with
    | some (.map es c) => match findK k es with
      | some (some _) => some ⟨u0, [(b, some (.map (setK k x es) c))], [b]⟩
      | some none => some ⟨u0, [(b, some (.map (es ++ [(k, x, c)]) (Nat.succ c)))], [b]⟩
      | none => none
    | _ => none
  | _, _ => none
def deleteX (ks : Sh) (hp : Tr B) (m k : X) : Rs := match keyOk ks k, m with
  | some k, .mp b => match hp.get b with
    | some (.map es c) => match findK k es with
      | some (some _) => some ⟨.tup [], [(b, some (.map (delK k es) c))], [b]⟩
      | some none => some ⟨.tup [], [(b, some (.map es c))], [b]⟩
      | none => none
    | _ => none
  | some _, .v (.map none) => pX (.tup [])
  | _, _ => none
def rangeX (id : Nat) (hp : Tr B) : X → Rs
  | .v (.map none) => some ⟨.it id, [(id, some (.iter none 0 [] 0))], []⟩
  | .mp b => match hp.get b with
    | some (.map _ c) => some ⟨.it id, [(id, some (.iter (some b) c [] c))], [b]⟩
    | _ => none
  | _ => none
def seenIn (n : Nat) : List Nat → Bool
  | [] => false
  | k :: l => bif Nat.beq n k then true else seenIn n l
def leftK (seen : List Nat) : List (Value × X × Nat) → List (Value × X × Nat)
  | [] => []
  | (k, x, n) :: r => bif seenIn n seen then leftK seen r else (k, x, n) :: leftK seen r
def allGe (n : Nat) : List (Value × X × Nat) → Bool
  | [] => true
  | (_, _, k) :: r => bif Nat.ble n k then allGe n r else false
def badIter (seen : List Nat) (es : List (Value × X × Nat)) (last : Nat) : Bool := match seen, es with
  | [], _ => false
  | _, [] => false
  | _, es => allGe last es
def nextX (hp : Tr B) : X → Rs
  | .it i => match hp.get i with
    | some (.iter none _ _ _) => some ⟨.tup [bX false], [], [i]⟩
    | some (.iter (some b) since seen last) => match hp.get b with
      | some (.map es c) => bif badIter seen es last then none else match leftK seen es with
        | [] => some ⟨.tup [bX false], [], [i, b]⟩
        | [(k, x, n)] => bif Nat.blt n since then some ⟨.tup [bX true, .v k, x], [(i, some (.iter (some b) since (seen ++ [n]) c))], [i, b]⟩ else none
        | _ => none
      | _ => none
    | _ => none
  | _ => none
def findN (n : Nat) : List (Value × X × Nat) → Option (Value × X)
  | [] => none
  | (k, x, m) :: r => bif Nat.beq m n then some (k, x) else findN n r
def lastN : List Nat → Option Nat
  | [] => none
  | [n] => some n
  | _ :: l => lastN l
def entryX (hp : Tr B) : X → Rs
  | .it i => match hp.get i with
    | some (.iter (some b) _ seen stepped) => match hp.get b, lastN seen with
      | some (.map es c), some n => bif Nat.beq c stepped then (match findN n es with
        | some (k, x) => some ⟨.tup [.v k, x], [], [i, b]⟩
        | none => none) else none
      | _, _ => none
    | _ => none
  | _ => none
def assertX (t : TypeId) (te : Value) (ok : Bool) : X → Rs
  | .iface u x => bif Nat.beq u t then pX (bif ok then .tup [x, bX true] else x) else bif ok then pX (.tup [zeroX te, bX false]) else none
  | .v .nilIface => bif ok then pX (.tup [zeroX te, bX false]) else none
  | _ => none
def minX (x y : X) : Rs := match intOf x, intOf y with
  | some (k, a), some (k', b) => bif kEq k k' then pX (iX k (bif ilt b a then b else a)) else none
  | _, _ => none
def maxX (x y : X) : Rs := match intOf x, intOf y with
  | some (k, a), some (k', b) => bif kEq k k' then pX (iX k (bif ilt a b then b else a)) else none
  | _, _ => none

/-- The element's type of a slice's type. -/
def elemT (ti : TI) : Option TypeId := match ti.sh with
  | .slice e => some e
  | _ => none
def tyq (c : Cx) (t : TypeId) (k : TI → Rs) : Rs := match c.ti.get t with
  | some ti => k ti
  | none => none
def elq (c : Cx) (t : TypeId) (k : TypeId → TI → Rs) : Rs := tyq c t fun ti => match ti.sh with
  | .slice e => tyq c e fun te => k e te
  | _ => none
def mpq (c : Cx) (t : TypeId) (k : Sh → TypeId → Rs) : Rs := tyq c t fun ti => match ti.sh with
  | .map a e => tyq c a fun tk => k tk.sh e
  | _ => none
def zq (c : Cx) (t : TypeId) (k : Value → Rs) : Rs := match c.P.info? t with
  | some i => (match i.zero with
    | some z => k z
    | none => none)
  | none => none
def optM (ev : Operand → X) : Option Operand → Option X
  | none => none
  | some x => some (ev x)
def builtX (c : Cx) (id : Nat) (ev : Operand → X) (hp : Tr B) (b : Builtin) (args : List Operand) (ts : List TypeId) : Rs :=
  match b, args, ts with
  | .len, [x], [t] => tyq c t fun ti => lenX ti.sh hp (ev x)
  | .cap, [x], [t] => tyq c t fun ti => capX ti.sh (ev x)
  | .min, [x, y], _ => minX (ev x) (ev y)
  | .max, [x, y], _ => maxX (ev x) (ev y)
  | .append, [x, y], [t, t'] => bif Nat.beq t t' then elq c t fun e te => appendX id hp e te (ev x) (ev y) else none
  | .delete, [x, y], [t, _] => mpq c t fun ks _ => deleteX ks hp (ev x) (ev y)
  | _, _, _ => none
def psX (ev : Operand → X) : List (Nat × Operand) → List (Nat × X)
  | [] => []
  | (i, o) :: r => (i, ev o) :: psX ev r
def evs (ev : Operand → X) : List Operand → List X
  | [] => []
  | o :: r => ev o :: evs ev r
def stepX (c : Cx) (id : Nat) (ev : Operand → X) (hp : Tr B) (op : Op) : Rs :=
  match op with
  | .move x => pX (ev x)
  | .assign x => pX (ev x)
  | .pick b x y => (match ev b with | .v (.bool true) => pX (ev x) | .v (.bool false) => pX (ev y) | _ => none)
  | .alloc t => tyq c t fun ti => allocX id t ti
  | .box t x => boxX id t (ev x)
  | .build t ps => tyq c t fun ti => buildX ti (psX ev ps.toList)
  | .buildSlice t n ps => elq c t fun e te => buildSX id e te n (psX ev ps.toList)
  | .load t a => tyq c t fun ti => loadX ti c.gl hp (ev a)
  | .store t a x => tyq c t fun ti => storeX ti hp (ev a) (ev x)
  | .nilCheck x => (match ev x with
    | .ptr b o => pX (.ptr b o)
    | .fn f fs cs => pX (.fn f fs cs)
    | .v (.pointer (some a)) => pX (.v (.pointer (some a)))
    | _ => none)
  | .binOp op T x y _ => tyq c T fun ti => optS (binX op ti.sh (isLit x || isLit y) (ev x) (ev y))
  | .unOp op _ x => optS (unX op (ev x))
  | .convert s d x => tyq c s fun ts => tyq c d fun td => convX ts td hp (ev x)
  | .field t x i => tyq c t fun ti => fieldX ti i (ev x)
  | .fieldAddr t x i => tyq c t fun ti => fieldAddrX ti i (ev x)
  | .indexAddr t x i => tyq c t fun ti => (match ti.sh with
    | .slice e => tyq c e fun te => indexAddrX te.sz (ev x) (ev i)
    | .arr n e => tyq c e fun te => indexArrX n te.sz (ev x) (ev i)
    | _ => none)
  | .index t x i => tyq c t fun ti => (match ti.sh with
    | .str => indexX (ev x) (ev i)
    | _ => none)
  | .slice t x lo hi none => tyq c t fun ti => (match ti.sh with
    | .str => strSliceX (ev x) (optM ev lo) (optM ev hi)
    | .slice e => tyq c e fun te => sliceX hp te.sz (ev x) (optM ev lo) (optM ev hi)
    | .arr n e => tyq c e fun te => arrSliceX n te.sz (ev x) (optM ev lo) (optM ev hi)
    | _ => none)
  | .extract x i => (match ev x with | .tup l => (match nth l i with | some y => pX y | none => none) | _ => none)
  | .makeSlice t l n => elq c t fun e te => makeSX id e te (ev l) (ev n)
  | .makeFunc (.func f) fs cs => pX (.fn f (evs ev fs.toList) (evs ev cs.toList))
  | .makeInterface t x => bif c.P.concrete t then pX (.iface t (ev x)) else none
  | .makeMap _ none => some ⟨.mp id, [(id, some (.map [] 0))], []⟩
  | .lookup t m k ok => mpq c t fun ks e => zq c e fun z => lookupX ks z hp (ev m) (ev k) ok
  | .mapUpdate t m k x => mpq c t fun ks _ => updateX ks hp (ev m) (ev k) (ev x)
  | .insert t m k x => mpq c t fun ks _ => updateX ks hp (ev m) (ev k) (ev x)
  | .range t x => tyq c t fun ti => (match ti.sh with
    | .map _ _ => rangeX id hp (ev x)
    | _ => none)
  | .next i false => nextX hp (ev i)
  | .entry i => entryX hp (ev i)
  | .typeAssert x _ t ok => tyq c t fun ti => (match ti.sh with
    | .iface => none
    | _ => zq c t fun z => assertX t z ok (ev x))
  | .call k => (match k.callee with
    | .builtin b => builtX c id ev hp b k.args.toList k.argTypes.toList
    | _ => none)
  | _ => none
end Go.Ex
