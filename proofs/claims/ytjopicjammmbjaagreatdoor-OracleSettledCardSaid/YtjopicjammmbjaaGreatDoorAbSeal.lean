/- The abstract layer: what the kernel is not to unfold: the evaluator behind a choice, told by its equations. -/
import Derived.Test.YtjopicjammmbjaaGreatDoorAbCall
set_option maxHeartbeats 4000000
set_option maxRecDepth 20000
set_option linter.unusedVariables false
set_option linter.unusedSimpArgs false
namespace Go.Ab
open Go.RowKit
noncomputable section
universe u
theorem seal_ex {α : Sort u} (x : α) : ∃ y : α, y = x := ⟨x, rfl⟩
/-- The same thing, told by its equation alone. -/
def sealed {α : Sort u} (x : α) : α := Classical.choose (seal_ex x)
theorem sealed_eq {α : Sort u} (x : α) : sealed x = x := Classical.choose_spec (seal_ex x)

def GoS : Program → Array Oper → Nat → List Oper → Nat → List Eff → St → (List Eff → St → Prop) → Prop := sealed Go
theorem GoS_eq : GoS = Go := sealed_eq Go
def RunXS : Program → Array Oper → Nat → List Oper → Nat → List Eff → St → (List Eff → St → Prop) → Prop := sealed RunX
theorem RunXS_eq : RunXS = RunX := sealed_eq RunX

theorem GoS_nil (P : Program) (ops : Array Oper) (nx pos : Nat) (acc : List Eff) (s : St) (K : List Eff → St → Prop) : GoS P ops nx [] pos acc s K = K acc.reverse s := by rw [GoS_eq]; rfl
/-- What comes of an operation that is evaluated, or stuck. -/
def goOn (r : Option (Eff × Prop)) (go : Eff → Prop) (stuck : Prop) : Prop :=
  match r with
  | some (e, c) => c ∧ go e
  | none => stuck
theorem goOn_some (e : Eff) (c : Prop) (go : Eff → Prop) (stuck : Prop) : goOn (some (e, c)) go stuck = (c ∧ go e) := by unfold goOn; exact tick0 _
where tick0 (p : Prop) : p = p := congrArg (fun x => x) rfl
theorem goOn_none (go : Eff → Prop) (stuck : Prop) : goOn none go stuck = stuck := by unfold goOn; exact congrArg (fun x => x) rfl
theorem GoS_cons (P : Program) (ops : Array Oper) (nx : Nat) (o : Oper) (r : List Oper) (pos : Nat) (acc : List Eff) (s : St) (K : List Eff → St → Prop) : GoS P ops nx (o :: r) pos acc s K =
    gsplit ops o.guard s
      (fun s => goOn (rawE P (nx + pos) s.env.get (look s.hp) o.op) (fun e => GoS P ops nx r (pos + 1) (e :: acc) (s.app o.dst e) K) (RunXS P ops nx (o :: r) pos acc s K))
      (fun s => GoS P ops nx r (pos + 1) (⟨.any, [], []⟩ :: acc) (s.app o.dst ⟨.any, [], []⟩) K)
      (RunXS P ops nx (o :: r) pos acc s K) := by
  rw [GoS_eq, RunXS_eq]
  show Go P ops nx (o :: r) pos acc s K = _
  simp only [Go]
  congr 1

/-- A slot, of which the rest is looked at only where it lies there. -/
def dpick (b : Bool) (d : D) (r : Env) (t : Nat) : D := bif b then d else Env.get r t
theorem dpick_true (d : D) (r : Env) (t : Nat) : dpick true d r t = d := by unfold dpick; exact congrArg (fun x => x) rfl
theorem dpick_false (d : D) (r : Env) (t : Nat) : dpick false d r t = Env.get r t := by unfold dpick; exact congrArg (fun x => x) rfl
theorem Env_get_nil (t : Nat) : Env.get [] t = .any := congrArg (fun x => x) rfl
theorem Env_get_cons (k : Nat) (d : D) (r : Env) (t : Nat) : Env.get ((k, d) :: r) t = dpick (k == t) d r t := congrArg (fun x => x) rfl
/-- One of two, of which the other is not looked at. -/
def gpick (want : Bool) (go skip : St → Prop) (s : St) : Prop := cond want (go s) (skip s)
theorem gpick_true (go skip : St → Prop) (s : St) : gpick true go skip s = go s := by unfold gpick; exact congrArg (fun x => x) rfl
theorem gpick_false (go skip : St → Prop) (s : St) : gpick false go skip s = skip s := by unfold gpick; exact congrArg (fun x => x) rfl
/-- A guard that is known, or parts the way. -/
def gwork (x : Option (Nat × D)) (want : Bool) (s : St) (go skip : St → Prop) (stuck : Prop) : Prop :=
  match x with
  | some (t, .val (.bool b)) => bsplit b (gpick want go skip ⟨(t, .val (.bool true)) :: s.env, s.hp, s.nx⟩) (gpick (!want) go skip ⟨(t, .val (.bool false)) :: s.env, s.hp, s.nx⟩)
  | _ => stuck
theorem gwork_val (t : Nat) (b want : Bool) (s : St) (go skip : St → Prop) (stuck : Prop) : gwork (some (t, .val (.bool b))) want s go skip stuck =
    bsplit b (gpick want go skip ⟨(t, .val (.bool true)) :: s.env, s.hp, s.nx⟩) (gpick (!want) go skip ⟨(t, .val (.bool false)) :: s.env, s.hp, s.nx⟩) := by unfold gwork; exact congrArg (fun x => x) rfl
def gD (ops : Array Oper) (s : St) (j : Nat) : Option (Nat × D) := (guardT ops j).map fun t => (t, s.env.get t)
theorem gsplit_some (ops : Array Oper) (j : Nat) (want : Bool) (s : St) (go skip : St → Prop) (stuck : Prop) : gsplit ops (some (j, want)) s go skip stuck = gwork (gD ops s j) want s go skip stuck := by
  unfold gsplit gwork gD
  rcases h : guardT ops j with _ | t
  · simp only [h, Option.map_none]
  · simp only [h, Option.map_some]
    rcases h' : s.env.get t with _ | v
    · rfl
    · cases v <;> first | rfl | (cases want <;> rfl)
    all_goals rfl
theorem gsplit_none (ops : Array Oper) (s : St) (go skip : St → Prop) (stuck : Prop) : gsplit ops none s go skip stuck = go s := by unfold gsplit; exact congrArg (fun x => x) rfl

section
variable (P : Program) (ops : Array Oper) (nx : Nat) (dst : Option Tmp) (op : Op) (T : TypeId) (ps : String) (af : Array Edge) (r : List Oper) (pos : Nat) (acc : List Eff) (s : St) (K : List Eff → St → Prop)
theorem GoS_none : GoS P ops nx (⟨dst, op, T, ps, af, none⟩ :: r) pos acc s K =
    goOn (rawE P (nx + pos) s.env.get (look s.hp) op) (fun e => GoS P ops nx r (pos + 1) (e :: acc) (s.app dst e) K) (RunXS P ops nx (⟨dst, op, T, ps, af, none⟩ :: r) pos acc s K) := by
  rw [GoS_cons, gsplit_none]
theorem GoS_some (j : Nat) (want : Bool) : GoS P ops nx (⟨dst, op, T, ps, af, some (j, want)⟩ :: r) pos acc s K =
    gwork (gD ops s j) want s (fun s => goOn (rawE P (nx + pos) s.env.get (look s.hp) op) (fun e => GoS P ops nx r (pos + 1) (e :: acc) (s.app dst e) K) (RunXS P ops nx (⟨dst, op, T, ps, af, some (j, want)⟩ :: r) pos acc s K))
      (fun s => GoS P ops nx r (pos + 1) (⟨.any, [], []⟩ :: acc) (s.app dst ⟨.any, [], []⟩) K)
      (RunXS P ops nx (⟨dst, op, T, ps, af, some (j, want)⟩ :: r) pos acc s K) := by
  rw [GoS_cons, gsplit_some]
end

section
variable {P : Program} {ops : Array Oper} {nx : Nat} {dst : Option Tmp} {T : TypeId} {ps : String} {af : Array Edge} {gd : Option (Nat × Bool)} {f : FuncId} {x : Operand} {args : Array Operand} {ts : Array TypeId} {fs cs ds : List D} {r : D} {l : List Oper} {pos : Nat} {acc : List Eff} {s : St} {K : List Eff → St → Prop}
theorem RunXS.go (h : GoS P ops nx l pos acc s K) : RunXS P ops nx l pos acc s K := by rw [GoS_eq] at h; rw [RunXS_eq]; exact RunX.go h
theorem RunXS.call (hc : PCall P f ds r) (hg : gd = none ∨ ∃ j want t, gd = some (j, want) ∧ guardT ops j = some t ∧ gOf (s.env.get t) want = some true) (ha : args.toList.map (evO s.env.get) = ds) (hpu : pureL ds = true)
    (hk : GoS P ops nx l (pos + 1) (⟨r, [], []⟩ :: acc) (s.app dst ⟨r, [], []⟩) K) : RunXS P ops nx (⟨dst, .call { callee := .value (.func f), args := args, argTypes := ts }, T, ps, af, gd⟩ :: l) pos acc s K := by
  rw [GoS_eq] at hk; rw [RunXS_eq]; exact RunX.call hc hg ha hpu hk
theorem RunXS.callV (hx : evO s.env.get x = .func (.func f) fs cs) (hc : PCall P f ds r) (hg : gd = none ∨ ∃ j want t, gd = some (j, want) ∧ guardT ops j = some t ∧ gOf (s.env.get t) want = some true) (ha : fs ++ args.toList.map (evO s.env.get) ++ cs = ds) (hpu : pureL ds = true)
    (hk : GoS P ops nx l (pos + 1) (⟨r, [], []⟩ :: acc) (s.app dst ⟨r, [], []⟩) K) : RunXS P ops nx (⟨dst, .call { callee := .value x, args := args, argTypes := ts }, T, ps, af, gd⟩ :: l) pos acc s K := by
  rw [GoS_eq] at hk; rw [RunXS_eq]; exact RunX.callV hx hc hg ha hpu hk
theorem RunXS.ext (hc : Pext P f ds r) (hg : gd = none ∨ ∃ j want t, gd = some (j, want) ∧ guardT ops j = some t ∧ gOf (s.env.get t) want = some true) (ha : args.toList.map (evO s.env.get) = ds)
    (hk : GoS P ops nx l (pos + 1) (⟨r, [], []⟩ :: acc) (s.app dst ⟨r, [], []⟩) K) : RunXS P ops nx (⟨dst, .call { callee := .value (.func f), args := args, argTypes := ts }, T, ps, af, gd⟩ :: l) pos acc s K := by
  rw [GoS_eq] at hk; rw [RunXS_eq]; exact RunX.ext hc hg ha hk
end
end
end Go.Ab
