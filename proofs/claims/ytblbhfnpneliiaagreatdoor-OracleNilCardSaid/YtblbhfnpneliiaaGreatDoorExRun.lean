/- The exact evaluator, part 2: code, calls, rounds. -/
import Derived.Test.YtblbhfnpneliiaaGreatDoorExDef
import Derived.Test.YtblbhfnpneliiaaGreatDoorAbRegion
namespace Go.Ex
open Go.Ab (TI Sh setL reach opsIn)

inductive Xt where
  | normal
  | exit (id : Nat)
  | goto (l : Nat)
  | ret
inductive Df where
  | fn (f : FuncId) (args : List X)
  | mark (b : Nat)
/-- Slots (so many), blocks, the first free name, deferred calls; the names below bs that were written. -/
structure S where
  nt : Nat
  env : Tr X
  hp : Tr B
  nx : Nat
  df : List Df
  bs : Nat
  wr : List Nat
/-- What an operation writes (names; the new ones from lo to hi), and looks at (names; all below lo). -/
structure Sk where
  w : List Nat
  lo : Nat
  hi : Nat
  r : List Nat
  ra : Bool
/-- What a run comes to, or where it stands still. -/
inductive O (α : Type) where
  | ok (a : α)
  | no (e : List Nat)
/-- What a call comes to. -/
structure Cr where
  x : X
  hp : Tr B
  nx : Nat
  wr : List Nat
structure Rec where
  code : Bool → Code → S → O (Xt × S)
  call : X → List X → Tr B → Nat → O Cr

def setAll : Tr B → List (Nat × Option B) → Tr B
  | h, [] => h
  | h, (b, x) :: r => setAll (h.set b x) r
def setDst (env : Tr X) (d : Option Nat) (x : X) : Tr X := match d with
  | some t => env.set t (some x)
  | none => env
def namesU : List (Nat × Option B) → List Nat
  | [] => []
  | (b, _) :: r => b :: namesU r
def allLe (n : Nat) : List Nat → Bool
  | [] => true
  | b :: r => bif Nat.ble b n then allLe n r else false
def keepLt (n : Nat) : List Nat → List Nat
  | [] => []
  | b :: r => bif Nat.blt b n then b :: keepLt n r else keepLt n r
def inL (b : Nat) : List Nat → Bool
  | [] => false
  | c :: r => bif Nat.beq b c then true else inL b r
def dstAt (ops : List Oper) (j : Nat) : Option Nat := match nth ops j with
  | some o => o.dst
  | none => none
/-- Is an operation carried out? -/
def wantX (ops : List Oper) (env : Tr X) (o : Oper) : Option Bool := match o.guard with
  | none => some true
  | some (j, want) => match dstAt ops j with
    | some t => match env.get t with
      | some (.v (.bool b)) => some (bif want then b else !b)
      | some (.v (.tuple ⟨[]⟩)) => some false
      | _ => none
    | none => none
/-- One operation. -/
def opX (c : Cx) (r : Rec) (o : Oper) (s : S) : O (S × Sk) :=
  match o.op with
  | .call ⟨.value f, args, _⟩ => match r.call (evX s.env f) (evs (evX s.env) args.toList) s.hp s.nx with
    | .ok q => .ok (⟨s.nt, setDst s.env o.dst q.x, q.hp, q.nx, s.df, s.bs, keepLt s.bs q.wr ++ s.wr⟩, ⟨q.wr, s.nx, q.nx, [], true⟩)
    | .no e => .no e
  | op => match stepX c s.nx (evX s.env) s.hp op with
    | some e => bif allLe s.nx (namesU e.up) then .ok (⟨s.nt, setDst s.env o.dst e.x, setAll s.hp e.up, Nat.succ s.nx, s.df, s.bs, keepLt s.bs (namesU e.up) ++ s.wr⟩, ⟨namesU e.up, s.nx, s.nx, e.rd, false⟩) else .no [4]
    | none => .no [3]
/-- Operations in the order of the text. -/
def opsX (c : Cx) (r : Rec) (rnd : Bool) (ops : List Oper) : Nat → List Oper → S → O S
  | _, [], s => .ok s
  | i, o :: l, s => match wantX ops s.env o with
    | some true => match o.op with
      | .defer ⟨.value f, args, _⟩ => bif rnd then .no [i, 1] else (match evX s.env f with
        | .fn g fs cs => opsX c r rnd ops (Nat.succ i) l ⟨s.nt, setDst s.env o.dst u0, s.hp, s.nx, .fn g (fs ++ evs (evX s.env) args.toList ++ cs) :: s.df, s.bs, s.wr⟩
        | _ => .no [i, 2])
      | _ => match opX c r o s with
        | .ok q => opsX c r rnd ops (Nat.succ i) l q.1
        | .no e => .no (i :: e)
    | some false => opsX c r rnd ops (Nat.succ i) l ⟨s.nt, setDst s.env o.dst u0, s.hp, s.nx, s.df, s.bs, s.wr⟩
    | none => .no [i, 5]
/-- Operations of a region that draws its order: what they do is noted. -/
def opsD (c : Cx) (r : Rec) (ops : List Oper) : Nat → List Oper → S → List Sk → O (S × List Sk)
  | _, [], s, a => .ok (s, a)
  | i, o :: l, s, a => match wantX ops s.env o with
    | some true => match opX c r o s with
      | .ok q => opsD c r ops (Nat.succ i) l q.1 (q.2 :: a)
      | .no e => .no (i :: e)
    | some false => opsD c r ops (Nat.succ i) l ⟨s.nt, setDst s.env o.dst u0, s.hp, s.nx, s.df, s.bs, s.wr⟩ (⟨[], s.nx, s.nx, [], false⟩ :: a)
    | none => .no [i, 5]
def within (k : Sk) (b : Nat) : Bool := Nat.ble k.lo b && Nat.blt b k.hi
/-- Does what k reads or writes hold b? -/
def touches (k : Sk) (b : Nat) : Bool := inL b k.w || inL b k.r || within k b || (k.ra && Nat.blt b k.lo)
def anyT (k : Sk) : List Nat → Bool
  | [] => false
  | b :: l => touches k b || anyT k l
def anyW (k : Sk) : List Nat → Bool
  | [] => false
  | b :: l => within k b || inL b k.w || anyW k l
/-- Do two (i ahead of j) get in each other's way? -/
def cfS (i j : Sk) : Bool := anyT j i.w || anyT i j.w || anyW j i.r || anyW i j.r || (Nat.blt i.lo i.hi && (j.ra || (Nat.blt j.lo j.hi && !(Nat.ble i.hi j.lo)))) || (i.ra && Nat.blt j.lo j.hi && Nat.blt j.lo i.lo)
def noSk : Sk := ⟨[], 0, 0, [], false⟩
def skAt (sks : List Sk) (i : Nat) : Sk := match nth sks i with
  | some k => k
  | none => noSk
def cfX (ops : Array Oper) (sks : List Sk) (i j : Nat) : Bool := match nth ops.toList i, nth ops.toList j with
  | some x, some y => !(Oper.apart ops x y) || cfS (skAt sks i) (skAt sks j)
  | _, _ => false
def ordJ (ops : Array Oper) (sks : List Sk) (n j : Nat) : Nat → Bool
  | 0 => true
  | i + 1 => bif (bif reach ops n j i then true else !(cfX ops sks i j)) then ordJ ops sks n j i else false
def fwdJ (j : Nat) : List Edge → Bool
  | [] => true
  | e :: l => bif (bif Region.binds .any e then Nat.blt e.on j else true) then fwdJ j l else false
def ordX (ops : Array Oper) (sks : List Sk) (n : Nat) : Nat → Bool
  | 0 => true
  | j + 1 => bif (match nth ops.toList j with | some o => fwdJ j o.after.toList | none => true) && ordJ ops sks n j j then ordX ops sks n j else false
def isFn : X → Bool
  | .fn _ _ _ => true
  | _ => false
def codeX (c : Cx) (r : Rec) (rnd : Bool) : Code → S → O (Xt × S)
  | .skip, s => .ok (.normal, s)
  | .label _, s => .ok (.normal, s)
  | .ret, s => .ok (.ret, s)
  | .exit id, s => .ok (.exit id, s)
  | .goto l, s => .ok (.goto l, s)
  | .seq a b, s => match codeX c r rnd a s with
    | .ok (.normal, s) => codeX c r rnd b s
    | .ok (x, s) => .ok (x, s)
    | .no e => .no e
  | .cond x a b, s => match evX s.env x with
    | .v (.bool true) => codeX c r rnd a s
    | .v (.bool false) => codeX c r rnd b s
    | _ => .no [6]
  | .block id a, s => match codeX c r rnd a s with
    | .ok (.exit j, s) => bif Nat.beq j id then .ok (.normal, s) else .ok (.exit j, s)
    | .ok (x, s) => .ok (x, s)
    | .no e => .no e
  | .scope a, s => match codeX c r rnd a s with
    | .ok (.goto _, _) => .no [7]
    | .ok (x, s) => .ok (x, s)
    | .no e => .no e
  | .region id ops draw, s => bif draw then (match opsD c r ops.toList 0 ops.toList s [] with
      | .ok (s, sks) => bif ordX ops sks.reverse ops.size ops.size then .ok (.normal, s) else .no [id, 8]
      | .no e => .no (id :: e))
    else match opsX c r rnd ops.toList 0 ops.toList s with
      | .ok s => .ok (.normal, s)
      | .no e => .no (id :: e)
  | .loop a, s => match codeX c r rnd a s with
    | .ok (.normal, s) => r.code rnd (.loop a) s
    | .ok (x, s) => .ok (x, s)
    | .no e => .no e
  | .rangeFunc f ps a b, s => bif rnd || !(isFn (evX s.env f)) then .no [9] else match r.call (evX s.env f) [.yld s.nx] ((s.hp.set s.nx (some (.loop .ready none 0 s.nt s.env ps.toList a b (Nat.succ s.nx)))).set (Nat.succ s.nx) (some (.defd true))) (Nat.succ (Nat.succ s.nx)) with
    | .ok q => match q.hp.get s.nx with
      | some (.loop .busy _ _ _ _ _ _ _ _) => .no [10]
      | some (.loop _ pd g k env ps a b d) => match pd with
        | none => .ok (.normal, ⟨s.nt, s.env, q.hp.set s.nx (some (.loop .exhausted none g k env ps a b d)), q.nx, .mark (Nat.succ s.nx) :: s.df, s.bs, keepLt s.bs q.wr ++ s.wr⟩)
        | some .ret => .ok (.ret, ⟨s.nt, s.env, q.hp.set s.nx (some (.loop .exhausted (some .ret) g k env ps a b d)), q.nx, .mark (Nat.succ s.nx) :: s.df, s.bs, keepLt s.bs q.wr ++ s.wr⟩)
        | some (.exit id) => .ok (.exit id, ⟨s.nt, s.env, q.hp.set s.nx (some (.loop .exhausted (some (.exit id)) g k env ps a b d)), q.nx, .mark (Nat.succ s.nx) :: s.df, s.bs, keepLt s.bs q.wr ++ s.wr⟩)
        | _ => .no [11]
      | _ => .no [12]
    | .no e => .no e
  | .refuse _, _ => .no [13]

def argsE : Nat → List X → Tr X → Tr X
  | _, [], e => e
  | k, x :: l, e => argsE (Nat.succ k) l (e.set k (some x))
/-- Code that writes but slots that there are. -/
def psIn (nt : Nat) : List Tmp → Bool
  | [] => true
  | t :: l => bif Nat.blt t nt then psIn nt l else false
def inC (nt : Nat) : Code → Bool
  | .seq a b => inC nt a && inC nt b
  | .block _ a => inC nt a
  | .scope a => inC nt a
  | .loop a => inC nt a
  | .cond _ a b => inC nt a && inC nt b
  | .region _ ops _ => opsIn nt ops.toList
  | .rangeFunc _ ps a b => inC nt a && inC nt b && psIn nt ps.toList
  | _ => true
def bodyX (c : Cx) (r : Rec) (fn : Func) (args : List X) (hp : Tr B) (nx : Nat) : O (Xt × S) := match fn.body with
  | some code => bif inC fn.ntmps code && Nat.ble (lenL args) fn.ntmps && !(fn.name == "runtime.NumGoroutine") then codeX c r false code ⟨fn.ntmps, argsE 0 args .nil, hp, nx, [], nx, []⟩ else .no [14]
  | none => .no [15]
/-- The deferred calls of a function that returns; rc: the function that recovers. -/
def defX (c : Cx) (rc : FuncId) (r : Rec) : List Df → Tr B → Nat → Nat → List Nat → O (Tr B × Nat × List Nat)
  | [], hp, nx, _, wr => .ok (hp, nx, wr)
  | .mark b :: l, hp, nx, bs, wr => match hp.get b with
    | some (.defd true) => defX c rc r l (hp.set b (some (.defd false))) nx bs (keepLt bs [b] ++ wr)
    | _ => .no [16]
  | .fn f args :: l, hp, nx, bs, wr => bif Nat.beq f rc then defX c rc r l hp nx bs wr else match c.fn.get f with
    | some fn => match fn.results.toList with
      | [] => match bodyX c r fn args hp nx with
        | .ok (.normal, s) => (match s.df with
          | [] => defX c rc r l s.hp s.nx bs (keepLt bs s.wr ++ wr)
          | _ => .no [17])
        | .ok (.ret, s) => (match s.df with
          | [] => defX c rc r l s.hp s.nx bs (keepLt bs s.wr ++ wr)
          | _ => .no [17])
        | .ok _ => .no [18]
        | .no e => .no (f :: 1000 :: e)
      | _ => .no [19]
    | none => .no [20]
def resX1 (c : Cx) (env : Tr X) (hp : Tr B) : ResultVar → Option X
  | .tmp t => some (evX env (.tmp t))
  | .cell a t => match c.ti.get t with
    | some ti => match loadX ti c.gl hp (evX env (.tmp a)) with
      | some e => some e.x
      | none => none
    | none => none
def resXs (c : Cx) (env : Tr X) (hp : Tr B) : List ResultVar → Option (List X)
  | [] => some []
  | x :: l => match resX1 c env hp x, resXs c env hp l with
    | some y, some r => some (y :: r)
    | _, _ => none
def resX (c : Cx) (env : Tr X) (hp : Tr B) (l : List ResultVar) : Option X := match resXs c env hp l with
  | some [x] => some x
  | some r => some (.tup r)
  | none => none
def endX (c : Cx) (rc : FuncId) (r : Rec) (fn : Func) (s : S) : O Cr := match defX c rc r s.df s.hp s.nx s.bs s.wr with
  | .ok (hp, nx, wr) => match resX c s.env hp fn.results.toList with
    | some x => .ok ⟨x, hp, nx, wr⟩
    | none => .no [21]
  | .no e => .no e
def setPs : List (Tmp × X) → Tr X → Tr X
  | [], e => e
  | (t, x) :: l, e => setPs l (e.set t (some x))
def endRound (b : Nat) (x : Xt) (s : S) : O Cr := match s.hp.get b with
  | some (.loop _ _ g k env ps a bd d) => match x with
    | .normal => .ok ⟨bX true, s.hp.set b (some (.loop .ready none g k env ps a bd d)), s.nx, b :: s.wr⟩
    | .ret => .ok ⟨bX false, s.hp.set b (some (.loop .done (some .ret) g k env ps a bd d)), s.nx, b :: s.wr⟩
    | .exit id => .ok ⟨bX false, s.hp.set b (some (.loop .done (some (.exit id)) g k env ps a bd d)), s.nx, b :: s.wr⟩
    | .goto _ => .no [22]
  | _ => .no [23]
def callX (c : Cx) (rc : FuncId) (r : Rec) (f : X) (args : List X) (hp : Tr B) (nx : Nat) : O Cr :=
  match f with
  | .fn g fs cs => match c.fn.get g with
    | some fn => match bodyX c r fn (fs ++ args ++ cs) hp nx with
      | .ok (.normal, s) => endX c rc r fn s
      | .ok (.ret, s) => endX c rc r fn s
      | .ok _ => .no [g, 1000, 24]
      | .no e => .no (g :: 1000 :: e)
    | none => .no [g, 1000, 25]
  | .yld b => match hp.get b with
    | some (.loop .ready pd g k env ps a bd d) => bif Nat.blt b nx && Nat.beq (lenL ps) (lenL args) && psIn k ps && inC k a && inC k bd then (match codeX c r true a ⟨k, setPs (ps.zip args) env, hp, nx, [], nx, []⟩ with
      | .ok (.normal, s) => (match s.hp.get b with
        | some (.loop .ready pd g k' env ps a' bd' d) => (match codeX c r true bd ⟨s.nt, s.env, s.hp.set b (some (.loop .busy pd g k' env ps a' bd' d)), s.nx, s.df, nx, b :: s.wr⟩ with
          | .ok (x, s) => endRound b x s
          | .no e => .no e)
        | _ => .no [26])
      | .ok _ => .no [27]
      | .no e => .no e) else .no [28]
    | _ => .no [29]
  | _ => .no [30]
/-- The evaluator. -/
def run (c : Cx) (rc : FuncId) : Nat → Rec
  | 0 => ⟨fun _ _ _ => .no [0], fun _ _ _ _ => .no [0]⟩
  | n + 1 => ⟨codeX c (run c rc n), callX c rc (run c rc n)⟩
/-- A finite map of a list. -/
def ofL {α : Type} : Nat → List (Option α) → Tr α → Tr α
  | _, [], t => t
  | k, x :: l, t => ofL (Nat.succ k) l (t.set k x)
end Go.Ex
