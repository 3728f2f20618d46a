/- Values that stand for others: operations, calls. -/
import Derived.Test.YtalejkbicihgnaaGreatDoorEvA
import Derived.WalkSpells
set_option maxHeartbeats 4000000
set_option maxRecDepth 20000
set_option linter.unusedVariables false
set_option linter.unusedSimpArgs false
/- The abstract layer, part 8: lengths, slicing, numbers, tests. -/
namespace Go.Ab
open Go.RowKit
section
variable {P : Program} {w0 : World} {M0 I0 fr I : Nat → Prop} {mu : Nat → Option Value} {h : Nat → Option Blk} {w : World}

/-! tests and numbers -/
def nilD : D → Option Bool
  | .val (.pointer none) => some true
  | .ptr _ _ => some false
  | .ref _ _ _ _ => some false
  | _ => none
/-- Is it surely a pointer that leads somewhere, or surely nil? -/
theorem nilD_spec {d : D} {b : Bool} (hd : nilD d = some b) {v : Value} (hv : Rep w I mu d v) : ∃ a : Option Addr, v = .pointer a ∧ a.isNone = b := by
  unfold nilD at hd
  split at hd
  · simp only [Option.some.injEq] at hd; subst hd; exact ⟨none, hv.val_inv, rfl⟩
  · simp only [Option.some.injEq] at hd; subst hd; cases hv; exact ⟨_, rfl, rfl⟩
  · simp only [Option.some.injEq] at hd; subst hd; cases hv; exact ⟨_, rfl, rfl⟩
  · cases hd

def binE (P : Program) (op : BinOp) (T : TypeId) (x y : D) : Res :=
  match x, y with
  | .val (.int k a), .val (.int k' b) => match intBin op k a k' b with
    | some (r, c) => pvc (.val r) c
    | none => none
  | .val (.string a), .val (.string b) => match strBin op a b with
    | some (r, c) => pvc (.val r) c
    | none => none
  | .val (.bool a), .val (.bool b) => match tiOf P T with
    | some ti => match ti.sh, op with
      | .bool, .eql => pv (.val (.bool (a == b)))
      | .bool, .neq => pv (.val (.bool (!(a == b))))
      | _, _ => none
    | none => none
  | x, y => match nilD x, nilD y, tiOf P T with
    | some a, some b, some ti => match ti.sh, op with
      | .ptr _, .eql => bif a then pv (.val (.bool b)) else bif b then pv (.val (.bool false)) else none
      | .ptr _, .neq => bif a then pv (.val (.bool (!b))) else bif b then pv (.val (.bool true)) else none
      | _, _ => none
    | _, _, _ => none

theorem run_eqGuard (op : BinOp) (t : TypeId) (x y : Operand) (a b : Value) (h1 : ∀ z, a ≠ .agg z) (h2 : a ≠ .nilIface) : (eqGuard op t x y a b).run P w = .ok () w := by
  unfold eqGuard
  cases op <;> simp <;> (cases a <;> simp at h1 h2 ⊢)

theorem run_equalIn_ptr (d : Nat) {T e : TypeId} (hu : P.underlying T = some (.pointer e)) (p q : Option Addr) (hpq : p.isNone = true ∨ q.isNone = true) : (Op.equalIn (d + 1) T (.pointer p) (.pointer q)).run P w = .ok (p.isNone && q.isNone) w := by
  cases p <;> cases q <;> simp at hpq <;> simp [Op.equalIn, run_underlying hu]
theorem run_equal_ptr {T e : TypeId} (hu : P.underlying T = some (.pointer e)) (p q : Option Addr) (hpq : p.isNone = true ∨ q.isNone = true) : (Op.equal T (.pointer p) (.pointer q)).run P w = .ok (p.isNone && q.isNone) w := run_equalIn_ptr 9999 hu p q hpq
theorem runs_bin {op : BinOp} {T : TypeId} {dx dy : D} {e : Eff} {c : Prop} (he : binE P op T dx dy = some (e, c)) (hc : c) (hr : WRel w0 M0 I0 fr I mu h w) {ox oy : Operand} {x y : Value} (hx : Rep w I mu dx x) (hy : Rep w I mu dy y) (id : Nat) :
    Runs P (fun w => (do eqGuard op T ox oy x y; binOp op T x y : Sem Value).run P w) id e.d e.up w0 M0 I0 fr I mu h w := by
  unfold binE at he
  split at he
  · rename_i k a k' b
    split at he
    · rename_i r c' hb
      simp only [pvc, Option.some.injEq, Prod.mk.injEq] at he
      obtain ⟨rfl, rfl⟩ := he
      have := hx.val_inv; have := hy.val_inv; subst x y
      exact Runs.same hr r (by simp [run_eqGuard, run_intBin hb hc]) (.val _ (intBin_ok hb hc hx.val_ok))
    · cases he
  · rename_i a b
    split at he
    · rename_i r c' hb
      simp only [pvc, Option.some.injEq, Prod.mk.injEq] at he
      obtain ⟨rfl, rfl⟩ := he
      have := hx.val_inv; have := hy.val_inv; subst x y
      exact Runs.same hr r (by simp [run_eqGuard, run_strBin hb hc]) (.val _ (strBin_ok hb hc))
    · cases he
  · rename_i a b
    have := hx.val_inv; have := hy.val_inv; subst x y
    split at he
    · rename_i ti ht
      split at he
      · rename_i hsh
        simp only [pv, Option.some.injEq, Prod.mk.injEq] at he
        obtain ⟨rfl, rfl⟩ := he
        exact Runs.same hr _ (by simp [run_eqGuard, run_eql_bool w T a b (ti_bool ht hsh)]) (.val _ trivial)
      · rename_i hsh
        simp only [pv, Option.some.injEq, Prod.mk.injEq] at he
        obtain ⟨rfl, rfl⟩ := he
        exact Runs.same hr _ (by simp [run_eqGuard, run_neq_bool w T a b (ti_bool ht hsh)]) (.val _ trivial)
      · cases he
    · cases he
  · split at he
    · rename_i a b ti ha hb ht
      obtain ⟨p, rfl, hp⟩ := nilD_spec ha hx
      obtain ⟨q, rfl, hq⟩ := nilD_spec hb hy
      split at he
      · rename_i e' hsh
        have hu := ti_ptr ht hsh
        have run : (p.isNone = true ∨ q.isNone = true) → (binOp .eql T (.pointer p) (.pointer q)).run P w = .ok (.bool (p.isNone && q.isNone)) w := by
          intro hpq
          simp only [binOp, Sem.run_bind, run_equal_ptr hu p q hpq, Result.andThen, Sem.run_pure]
        cases a <;> cases b <;> simp only [cond_true, cond_false, pv, Option.some.injEq, Prod.mk.injEq, reduceCtorEq] at he <;> obtain ⟨rfl, rfl⟩ := he <;>
          exact Runs.same hr _ (by simp [run_eqGuard]; rw [run (by simp [hp, hq]), hp, hq] <;> rfl) (.val _ trivial)
      · rename_i e' hsh
        have hu := ti_ptr ht hsh
        have run : (p.isNone = true ∨ q.isNone = true) → (binOp .neq T (.pointer p) (.pointer q)).run P w = .ok (.bool (!(p.isNone && q.isNone))) w := by
          intro hpq
          simp only [binOp, Sem.run_bind, run_equal_ptr hu p q hpq, Result.andThen, Sem.run_pure]
        cases a <;> cases b <;> simp only [cond_true, cond_false, pv, Option.some.injEq, Prod.mk.injEq, reduceCtorEq] at he <;> obtain ⟨rfl, rfl⟩ := he <;>
          exact Runs.same hr _ (by simp [run_eqGuard]; rw [run (by simp [hp, hq]), hp, hq] <;> rfl) (.val _ trivial)
      · cases he
    · cases he

/-- A slice held against nil: which of both is not told. -/
def nilSE (P : Program) (op : BinOp) (T : TypeId) : D → Res
  | .slice es _ => match tiOf P T with
    | some ti => match ti.sh, op with
      | .slice _, .eql => pv (.abool es.length true)
      | .slice _, .neq => pv (.abool es.length false)
      | _, _ => none
    | none => none
  | _ => none
def binX (P : Program) (op : BinOp) (T : TypeId) (dx : D) (y : Operand) (dy : D) : Res :=
  match y with
  | .const (.slice none 0 0) => nilSE P op T dx
  | _ => binE P op T dx dy
theorem runs_nilS {op : BinOp} {T : TypeId} {dx : D} {e : Eff} {c : Prop} (he : nilSE P op T dx = some (e, c)) (hr : WRel w0 M0 I0 fr I mu h w) {ox oy : Operand} {x : Value} (hx : Rep w I mu dx x) (id : Nat) :
    Runs P (fun w => (do eqGuard op T ox oy x (.slice none 0 0); binOp op T x (.slice none 0 0) : Sem Value).run P w) id e.d e.up w0 M0 I0 fr I mu h w := by
  unfold nilSE at he
  split at he
  · rename_i es t
    split at he
    · rename_i ti ht
      have key : ∃ A n cap, x = .slice A n cap ∧ (A.isNone = true → es.length = 0) := by
        cases hx with
        | slice _ _ A k o sz cap u hA =>
          refine ⟨_, _, _, rfl, fun h => ?_⟩
          rcases Nat.eq_zero_or_pos es.length with h0 | h0
          · exact h0
          · rw [(hA h0).1] at h; cases h
      obtain ⟨A, n, cap, rfl, hn⟩ := key
      split at he
      · rename_i e' hsh
        simp only [pv, Option.some.injEq, Prod.mk.injEq] at he
        obtain ⟨rfl, rfl⟩ := he
        exact Runs.same hr (.bool A.isNone) (by simp [run_eqGuard]; exact Lib.run_eql_slice_nil _ _ _ _ _ _ _ _ (ti_slice ht hsh)) (.abool _ _ _ hn)
      · rename_i e' hsh
        simp only [pv, Option.some.injEq, Prod.mk.injEq] at he
        obtain ⟨rfl, rfl⟩ := he
        exact Runs.same hr (.bool (!A.isNone)) (by have h5 := run_neq_slice_nil_any (P := P) w T e' A n cap 0 0 (ti_slice ht hsh); simp only [Option.not_isNone] at h5; simp [run_eqGuard]; exact h5) (.abool _ _ _ fun h => hn (by simpa using h))
      · cases he
    · cases he
  · cases he
def unE (op : UnOp) : D → Res
  | .val (.bool b) => match op with
    | .not => pv (.val (.bool (!b)))
    | _ => none
  | .val (.int k n) => match op with
    | .neg => pv (.val (.int k (k.wrap (0 - n))))
    | _ => none
  | .abool n pos => match op with
    | .not => pv (.abool n (!pos))
    | _ => none
  | _ => none
theorem runs_un {op : UnOp} {d : D} {e : Eff} {c : Prop} (he : unE op d = some (e, c)) (hr : WRel w0 M0 I0 fr I mu h w) {v : Value} (hv : Rep w I mu d v) (id : Nat) : Runs P (fun w => (Op.unary op v).run P w) id e.d e.up w0 M0 I0 fr I mu h w := by
  unfold unE at he
  split at he
  · have := hv.val_inv; subst v
    split at he
    · simp only [pv, Option.some.injEq, Prod.mk.injEq] at he
      obtain ⟨rfl, rfl⟩ := he
      exact Runs.same hr _ (by simp [Op.unary]) (.val _ trivial)
    · cases he
  · have := hv.val_inv; subst v
    split at he
    · simp only [pv, Option.some.injEq, Prod.mk.injEq] at he
      obtain ⟨rfl, rfl⟩ := he
      exact Runs.same hr _ (by simp [Op.unary, Op.intArith]) (.val _ (wrap_ok _ _))
    · cases he
  · cases hv with
    | abool _ _ b hb =>
    split at he
    · simp only [pv, Option.some.injEq, Prod.mk.injEq] at he
      obtain ⟨rfl, rfl⟩ := he
      exact Runs.same hr (.bool (!b)) (by simp [Op.unary]) (.abool _ _ _ fun h => hb (by simpa using h))
    · cases he
  · cases he

def convE (ts td : TI) : D → Res
  | .val (.int k n) => match td.sh with
    | .int k' => pv (.val (.int k' (k'.wrap n)))
    | _ => none
  | .val (.string s) => match td.sh with
    | .str => pv (.val (.string s))
    | _ => none
  | _ => none
theorem runs_conv {src dst : TypeId} {ts td : TI} (hs : tiOf P src = some ts) (ht : tiOf P dst = some td) {d : D} {e : Eff} {c : Prop} (he : convE ts td d = some (e, c)) (hr : WRel w0 M0 I0 fr I mu h w) {v : Value} (hv : Rep w I mu d v) (id : Nat) :
    Runs P (fun w => (convert src dst v).run P w) id e.d e.up w0 M0 I0 fr I mu h w := by
  obtain ⟨i, ds, z, _, hsu, _⟩ := tiOf_spec hs
  unfold convE at he
  split at he
  · have := hv.val_inv; subst v
    split at he
    · rename_i hsh
      simp only [pv, Option.some.injEq, Prod.mk.injEq] at he
      obtain ⟨rfl, rfl⟩ := he
      exact Runs.same hr _ (by simp [convert, run_underlying hsu, run_underlying (ti_int ht hsh), Conv.intToInt]) (.val _ (wrap_ok _ _))
    · cases he
  · have := hv.val_inv; subst v
    split at he
    · rename_i hsh
      simp only [pv, Option.some.injEq, Prod.mk.injEq] at he
      obtain ⟨rfl, rfl⟩ := he
      exact Runs.same hr _ (by simp [convert, run_underlying hsu, run_underlying (ti_str ht hsh)]) (.val _ hv.val_ok)
    · cases he
  · cases he

def extractE (i : Nat) : D → Res
  | .tup cs => pvc (nd cs i) (i < cs.length)
  | _ => none
theorem runs_extract {i : Nat} {d : D} {e : Eff} {c : Prop} (he : extractE i d = some (e, c)) (hc : c) (hr : WRel w0 M0 I0 fr I mu h w) {v : Value} (hv : Rep w I mu d v) (id : Nat) : Runs P (fun w => (Instr.extract v i).run P w) id e.d e.up w0 M0 I0 fr I mu h w := by
  cases d with
  | tup cs =>
    simp only [extractE, pvc, Option.some.injEq, Prod.mk.injEq] at he
    obtain ⟨rfl, rfl⟩ := he
    obtain ⟨us, rfl, hl, hrep⟩ := hv.tup_inv
    refine Runs.same hr (nv us i) ?_ (hrep i hc)
    simp [Instr.extract, nv, List.getD_eq_getElem?_getD, show i < us.length by omega]
  | _ => simp [extractE] at he

/-! lengths -/
def lenE (hp : Nat → Option Blk) (ti : TI) : D → Res
  | .slice es _ => match ti.sh with
    | .slice _ => pv (.val (.int .i64 es.length))
    | _ => none
  | .sref _ _ len _ _ => match ti.sh with
    | .slice _ => pvc (.val (.int .i64 len)) (len ≤ 9223372036854775807)
    | _ => none
  | .gref _ len => match ti.sh with
    | .slice _ => pvc (.val (.int .i64 len)) (len ≤ 9223372036854775807)
    | _ => none
  | .val (.string s) => match ti.sh with
    | .str => pv (.val (.int .i64 s.size))
    | _ => none
  | .mref b => match ti.sh, hp b with
    | .map _ _, some (.map es) => some (⟨.val (.int .i64 es.length), [], [b]⟩, es.length ≤ 9223372036854775807)
    | _, _ => none
  | .val (.map none) => match ti.sh with
    | .map _ _ => pv (.val (.int .i64 0))
    | _ => none
  | _ => none
theorem runs_len {t ty : TypeId} {ti : TI} (ht : tiOf P t = some ti) {hp : Nat → Option Blk} {d : D} {e : Eff} {c : Prop} (he : lenE hp ti d = some (e, c)) (hc : c) (hr : WRel w0 M0 I0 fr I mu h w) {v : Value} (hv : Rep w I mu d v) (hb : ∀ b ∈ e.rd, h b = hp b) (id : Nat) :
    Runs P (fun w => (Builtin.len_ #[t] ty #[v]).run P w) id e.d e.up w0 M0 I0 fr I mu h w := by
  unfold lenE at he
  split at he
  · split at he
    · rename_i hsh
      simp only [pv, Option.some.injEq, Prod.mk.injEq] at he
      obtain ⟨rfl, rfl⟩ := he
      cases hv with
      | slice es _ A k o sz cap u hA hcp _ hmx => exact Runs.same hr _ (by simp [Builtin.len_, run_underlying (run_slice_elem ht hsh), goInt]) (.val _ (by simp only [okP, imin, imax]; simp only [maxLen] at hmx; omega))
    · cases he
  · split at he
    · rename_i hsh
      simp only [pvc, Option.some.injEq, Prod.mk.injEq] at he
      obtain ⟨rfl, rfl⟩ := he
      cases hv with
      | sref _ _ _ _ _ k hk => exact Runs.same hr _ (by simp [Builtin.len_, run_underlying (run_slice_elem ht hsh), goInt]) (.val _ (by simp only [okP, imin, imax]; omega))
    · cases he
  · split at he
    · rename_i hsh
      simp only [pvc, Option.some.injEq, Prod.mk.injEq] at he
      obtain ⟨rfl, rfl⟩ := he
      cases hv with
      | gref _ _ A cap hk => exact Runs.same hr _ (by simp [Builtin.len_, run_underlying (run_slice_elem ht hsh), goInt]) (.val _ (by simp only [okP, imin, imax]; omega))
    · cases he
  · split at he
    · rename_i hsh
      simp only [pv, Option.some.injEq, Prod.mk.injEq] at he
      obtain ⟨rfl, rfl⟩ := he
      have hok := hv.val_ok; have := hv.val_inv; subst v
      exact Runs.same hr _ (by simp [Builtin.len_, run_underlying (ti_str ht hsh), goInt]) (.val _ (by simp only [okP, imin, imax] at hok ⊢; omega))
    · cases he
  · rename_i b
    split at he
    · rename_i k e' es hsh hx
      simp only [Option.some.injEq, Prod.mk.injEq] at he
      obtain ⟨rfl, rfl⟩ := he
      have hhb := (hb b (by simp)).trans hx
      obtain ⟨k, l, clock, h1, h2, h3, h4⟩ := hr.blk b _ hhb
      cases hv with
      | mref _ k' hk =>
        rw [h1] at hk
        simp only [Option.some.injEq, Value.map.injEq] at hk
        subst hk
        have hl : l.length = es.length := by have := congrArg List.length h3; simpa using this
        exact Runs.same hr _ (by
          simp [Builtin.len_, run_underlying (ti_map ht hsh), goInt, getObj, Sem.run, h2, hl]) (.val _ (by simp only [okP, imin, imax]; omega))
    · cases he
  · split at he
    · rename_i hsh
      simp only [pv, Option.some.injEq, Prod.mk.injEq] at he
      obtain ⟨rfl, rfl⟩ := he
      have := hv.val_inv; subst v
      exact Runs.same hr _ (by simp [Builtin.len_, run_underlying (ti_map ht hsh), goInt]) (.val _ (by simp [okP, imin, imax]))
    · cases he
  · cases he

def minE : D → D → Res
  | .val (.int k x), .val (.int k' y) => if k' = k then pv (.val (.int k (if y < x then y else x))) else none
  | _, _ => none
def maxE : D → D → Res
  | .val (.int k x), .val (.int k' y) => if k' = k then pv (.val (.int k (if y > x then y else x))) else none
  | _, _ => none
theorem runs_min {ts : Array TypeId} {t : TypeId} {dx dy : D} {e : Eff} {c : Prop} (he : minE dx dy = some (e, c)) (hr : WRel w0 M0 I0 fr I mu h w) {x y : Value} (hx : Rep w I mu dx x) (hy : Rep w I mu dy y) (id : Nat) : Runs P (fun w => (Builtin.min_ ts t #[x, y]).run P w) id e.d e.up w0 M0 I0 fr I mu h w := by
  unfold minE at he
  split at he
  · split at he
    case isFalse => cases he
    rename_i hk
    subst hk
    simp only [pv, Option.some.injEq, Prod.mk.injEq] at he
    obtain ⟨rfl, rfl⟩ := he
    have := hx.val_inv; have := hy.val_inv; subst x y
    exact Runs.same hr _ (run_min_int2 w ts t _ _ _ _) (.val _ (by have h1 := hx.val_ok; have h2 := hy.val_ok; simp only [okP] at h1 h2 ⊢; split <;> assumption))
  · cases he
theorem runs_max {ts : Array TypeId} {t : TypeId} {dx dy : D} {e : Eff} {c : Prop} (he : maxE dx dy = some (e, c)) (hr : WRel w0 M0 I0 fr I mu h w) {x y : Value} (hx : Rep w I mu dx x) (hy : Rep w I mu dy y) (id : Nat) : Runs P (fun w => (Builtin.max_ ts t #[x, y]).run P w) id e.d e.up w0 M0 I0 fr I mu h w := by
  unfold maxE at he
  split at he
  · split at he
    case isFalse => cases he
    rename_i hk
    subst hk
    simp only [pv, Option.some.injEq, Prod.mk.injEq] at he
    obtain ⟨rfl, rfl⟩ := he
    have := hx.val_inv; have := hy.val_inv; subst x y
    exact Runs.same hr _ (run_max_int2 w ts t _ _ _ _) (.val _ (by have h1 := hx.val_ok; have h2 := hy.val_ok; simp only [okP] at h1 h2 ⊢; split <;> assumption))
  · cases he
end
end Go.Ab
/- The abstract layer, part 9: slices that are cut, made, written out, and appended to. -/
namespace Go.Ab
open Go.RowKit
section
variable {P : Program} {w0 : World} {M0 I0 fr I : Nat → Prop} {mu : Nat → Option Value} {h : Nat → Option Blk} {w : World}

/-! cutting -/
def bnd : Option D → Int → Option Int
  | none, d => some d
  | some (.val (.int _ n)), _ => some n
  | some _, _ => none
def OptRep (w : World) (I : Nat → Prop) (mu : Nat → Option Value) : Option D → Option Value → Prop
  | none, none => True
  | some x, some y => Rep w I mu x y
  | _, _ => False
def sliceE (ti : TI) (te : TI) (x : D) (lo hi : Option D) : Res :=
  match x with
  | .val (.string s) => match ti.sh with
    | .str => match bnd lo 0, bnd hi s.size with
      | some l, some r => pvc (.val (.string (s.extract l.toNat r.toNat))) (0 ≤ l ∧ l ≤ r ∧ r ≤ s.size)
      | _, _ => none
    | _ => none
  | .slice es t => match ti.sh with
    | .slice _ => match bnd lo 0, bnd hi es.length with
      | some l, some r => pvc (.slice ((es.drop l.toNat).take (r.toNat - l.toNat)) (t && hi.isNone)) (0 ≤ l ∧ l ≤ r ∧ r ≤ es.length ∧ ∀ x ∈ es, x.length = te.sz)
      | _, _ => none
    | _ => none
  | .sref b i len cap sz => match ti.sh with
    | .slice _ => match bnd lo 0, bnd hi len with
      | some l, some r => pvc (.sref b (i + l.toNat) (r.toNat - l.toNat) (cap - l.toNat) sz) (0 ≤ l ∧ l ≤ r ∧ r ≤ cap ∧ (l = 0 ∨ l < cap) ∧ sz = te.sz ∧ len ≤ cap)
      | _, _ => none
    | _ => none
  | _ => none

theorem bnd_rep {o : Option D} {v : Option Value} {d n : Int} (hb : bnd o d = some n) (hv : OptRep w I mu o v) :
    (o = none ∧ v = none ∧ n = d) ∨ (∃ k, v = some (.int k n) ∧ o.isNone = false) := by
  cases o with
  | none => cases v with
    | none => simp only [bnd, Option.some.injEq] at hb; exact .inl ⟨rfl, rfl, hb.symm⟩
    | some y => exact hv.elim
  | some x => cases v with
    | none => exact hv.elim
    | some y =>
      have hr : Rep w I mu x y := hv
      cases x <;> simp only [bnd] at hb <;> try (cases hb; done)
      rename_i z
      cases z <;> simp only [reduceCtorEq, Option.some.injEq] at hb
      subst hb
      exact .inr ⟨_, by rw [hr.val_inv], rfl⟩

theorem sliced_run {t e' : TypeId} {te : TI} (hu : P.underlying t = some (.slice e')) (hte : tiOf P e' = some te) (A : Option Addr) (len cap : Nat) (lo hi : Option Value) (l r : Int) (h0 : 0 ≤ l) (h1 : l ≤ r) (h2 : r ≤ cap)
    (hl : (lo = none ∧ l = 0) ∨ ∃ k, lo = some (.int k l)) (hr : (hi = none ∧ r = len) ∨ ∃ k, hi = some (.int k r)) (hlc : len ≤ cap) :
    (Instr.sliceAt t (.slice A len cap) lo hi none).run P w = .ok (.slice (if cap = l.toNat then A else A.map (·.add (l.toNat * te.sz))) (r.toNat - l.toNat) (cap - l.toNat)) w := by
  have he : P.elem t = e' := by simp [Program.elem, hu]
  have hu' : P.underlying t = some (.slice (P.elem t)) := by rw [he]; exact hu
  rw [run_sliceAt_slice w t _ _ _ _ hu']
  have hs : (sizeOf (P.elem t)).run P w = .ok te.sz w := by rw [he]; exact run_sizeOf' hte w
  rcases hl with ⟨rfl, rfl⟩ | ⟨k, rfl⟩ <;> rcases hr with ⟨rfl, rfl⟩ | ⟨k', rfl⟩
  · rw [run_slice_all w t A len cap hu', hs]; simp [sliced]
  · rw [run_slice_h w t A len cap hu' k' r h1 h2, hs]; simp [sliced]
  · rw [run_slice_l w t A len cap hu' k l h0 h1, hs]; simp [sliced]
  · rw [run_slice_lh w t A len cap hu' k k' l r h0 h1 h2, hs]; simp [sliced]

theorem runs_slice {t e' : TypeId} {ti te : TI} (ht : tiOf P t = some ti) (hte : (∃ s, ti.sh = s ∧ s = .str) ∨ (ti.sh = .slice e' ∧ tiOf P e' = some te)) {x : D} {lo hi : Option D} {e : Eff} {c : Prop} (he : sliceE ti te x lo hi = some (e, c)) (hc : c) (hr : WRel w0 M0 I0 fr I mu h w) {v : Value} {vl vh : Option Value}
    (hv : Rep w I mu x v) (hl : OptRep w I mu lo vl) (hh : OptRep w I mu hi vh) (id : Nat) :
    Runs P (fun w => (Instr.sliceAt t v vl vh none).run P w) id e.d e.up w0 M0 I0 fr I mu h w := by
  unfold sliceE at he
  split at he
  · rename_i s
    split at he
    case h_2 => cases he
    rename_i hsh
    split at he
    · rename_i l r hbl hbr
      simp only [pvc, Option.some.injEq, Prod.mk.injEq] at he
      obtain ⟨rfl, rfl⟩ := he
      obtain ⟨h0, h1, h2⟩ := hc
      have hv0 := hv.val_ok; have hvv := hv.val_inv; subst hvv
      have hu := ti_str ht hsh
      refine Runs.same hr (.string (s.extract l.toNat r.toNat)) ?_ (.val _ (by have := hv0; simp only [okP, ByteArray.size_extract] at this ⊢; omega))
      show (Instr.sliceAt t (.string s) vl vh none).run P w = _
      rw [run_sliceAt_string w t _ _ _ _ hu]
      rcases bnd_rep hbl hl with ⟨rfl, rfl, rfl⟩ | ⟨k, rfl, hkn⟩ <;> rcases bnd_rep hbr hh with ⟨rfl, rfl, rfl⟩ | ⟨k', rfl, hkn'⟩
      · have := run_slice_string_all w t s hu; simpa using this
      · exact run_slice_string_h w t s hu k' r h1 h2
      · have := run_slice_string_l w t s hu k l h0 h1; simpa using this
      · have eh : (r.toNat : Int) = r := Int.toNat_of_nonneg (by omega)
        simp [Instr.slice, run_underlying hu, Instr.sliceBounds, run_sliceBound, h0, h1, h2, (by omega : 0 ≤ r), eh]
    · cases he
  · rename_i es tg
    split at he
    case h_2 => cases he
    rename_i e'' hsh
    rcases hte with ⟨s, hs1, hs2⟩ | ⟨hs1, hte⟩
    · rw [hs2] at hs1; rw [hs1] at hsh; cases hsh
    have hu := run_slice_elem ht hs1
    split at he
    · rename_i l r hbl hbr
      simp only [pvc, Option.some.injEq, Prod.mk.injEq] at he
      obtain ⟨rfl, rfl⟩ := he
      obtain ⟨h0, h1, h2, hsz⟩ := hc
      cases hv with
      | slice _ _ A k o sz cap u hA hcp htg hm hlen hcell hrep =>
        have run := sliced_run (P := P) (w := w) hu hte A es.length cap vl vh l r h0 h1 (by omega) (by
            rcases bnd_rep hbl hl with ⟨rfl, rfl, rfl⟩ | ⟨k, rfl, _⟩
            · exact .inl ⟨rfl, rfl⟩
            · exact .inr ⟨k, rfl⟩) (by
            rcases bnd_rep hbr hh with ⟨rfl, rfl, rfl⟩ | ⟨k, rfl, _⟩
            · exact .inl ⟨rfl, rfl⟩
            · exact .inr ⟨k, rfl⟩) hcp
        refine Runs.same hr _ run ?_
        have hlen' : ((es.drop l.toNat).take (r.toNat - l.toNat)).length = r.toNat - l.toNat := by simp; omega
        have hnr : ∀ i, i < r.toNat - l.toNat → nr ((es.drop l.toNat).take (r.toNat - l.toNat)) i = nr es (l.toNat + i) := by
          intro i hi
          simp only [nr, List.getD_eq_getElem?_getD]
          rw [List.getElem?_take_of_lt hi, List.getElem?_drop]
        have key : Rep w I mu (.slice ((es.drop l.toNat).take (r.toNat - l.toNat)) (tg && hi.isNone)) (.slice (if cap = l.toNat then A else A.map (·.add (l.toNat * te.sz))) ((es.drop l.toNat).take (r.toNat - l.toNat)).length (cap - l.toNat)) := ?_
        · rw [hlen'] at key; exact key
        refine .slice _ _ _ k (o + l.toNat * sz) sz (cap - l.toNat) (fun i j => u (l.toNat + i) j) (fun hpos => ?_) (by rw [hlen']; omega) (fun htt => ?_) (by omega) (fun i hi => ?_) (fun i j hi hj => ?_) (fun i j hi hj => ?_)
        · rw [hlen'] at hpos
          obtain ⟨rfl, hI⟩ := hA (by omega)
          have hsz' : sz = te.sz := by rw [← hlen 0 (by omega)]; exact hsz _ (by simp [nr, List.getD_eq_getElem?_getD, show 0 < es.length by omega])
          rw [if_neg (by omega), hsz']
          exact ⟨by simp [addr_add], hI⟩
        · rw [hlen']
          simp only [Bool.and_eq_true] at htt
          have := htg htt.1
          rcases bnd_rep hbr hh with ⟨_, _, rfl⟩ | ⟨k, _, hkn⟩
          · omega
          · rw [htt.2] at hkn; cases hkn
        · rw [hlen'] at hi; rw [hnr i hi]; exact hlen _ (by omega)
        · rw [hlen'] at hi
          have := hcell (l.toNat + i) j (by omega) hj
          rw [← this]
          congr 2
          rw [Nat.add_mul]; omega
        · rw [hlen'] at hi; rw [hnr i hi]; exact hrep _ j (by omega) hj
    · cases he
  · rename_i b i len cap sz
    split at he
    case h_2 => cases he
    rename_i e'' hsh
    rcases hte with ⟨s, hs1, hs2⟩ | ⟨hs1, hte⟩
    · rw [hs2] at hs1; rw [hs1] at hsh; cases hsh
    have hu := run_slice_elem ht hs1
    split at he
    · rename_i l r hbl hbr
      simp only [pvc, Option.some.injEq, Prod.mk.injEq] at he
      obtain ⟨rfl, rfl⟩ := he
      obtain ⟨h0, h1, h2, h3, hsz, hlc⟩ := hc
      cases hv with
      | sref _ _ _ _ _ k hk =>
        have run := sliced_run (P := P) (w := w) hu hte (some ⟨k, i * sz, none⟩) len cap vl vh l r h0 h1 h2 (by
            rcases bnd_rep hbl hl with ⟨rfl, rfl, rfl⟩ | ⟨k, rfl, _⟩
            · exact .inl ⟨rfl, rfl⟩
            · exact .inr ⟨k, rfl⟩) (by
            rcases bnd_rep hbr hh with ⟨rfl, rfl, rfl⟩ | ⟨k, rfl, _⟩
            · exact .inl ⟨rfl, rfl⟩
            · exact .inr ⟨k, rfl⟩) hlc
        refine Runs.same hr _ run ?_
        have := Rep.sref (w := w) (I := I) b (i + l.toNat) (r.toNat - l.toNat) (cap - l.toNat) sz k hk
        subst hsz
        have ha : (if cap = l.toNat then some (⟨k, i * te.sz, none⟩ : Addr) else (some (⟨k, i * te.sz, none⟩ : Addr)).map (·.add (l.toNat * te.sz))) = some ⟨k, (i + l.toNat) * te.sz, none⟩ := by
          rw [Nat.add_mul]
          split
          · have : l.toNat = 0 := by omega
            rw [this]; simp
          · simp [addr_add]
        rw [ha]
        exact this
    · cases he
  · cases he

/-! rows of cells -/
/-- The cells us are the rows es, one behind the other. -/
def RowsRep (w : World) (I : Nat → Prop) (mu : Nat → Option Value) (es : List (List D)) (sz : Nat) (us : List Value) : Prop :=
  us.length = es.length * sz ∧ (∀ i, i < es.length → (nr es i).length = sz) ∧ ∀ i j, i < es.length → j < sz → Rep w I mu (nd (nr es i) j) (nv us (i * sz + j))
theorem RowsRep.mono {w w' : World} {I I' : Nat → Prop} {mu mu' : Nat → Option Value} {es : List (List D)} {sz : Nat} {us : List Value} (h : RowsRep w I mu es sz us) (e : Ext I mu w I' mu' w') : RowsRep w' I' mu' es sz us :=
  ⟨h.1, h.2.1, fun i j hi hj => (h.2.2 i j hi hj).ext e⟩
theorem RowsRep.append {es fs : List (List D)} {sz : Nat} {us vs : List Value} (h : RowsRep w I mu es sz us) (k : RowsRep w I mu fs sz vs) : RowsRep w I mu (es ++ fs) sz (us ++ vs) := by
  refine ⟨by rw [List.length_append, h.1, k.1, List.length_append, Nat.add_mul], fun i hi => ?_, fun i j hi hj => ?_⟩
  · rw [List.length_append] at hi
    by_cases g : i < es.length
    · have : nr (es ++ fs) i = nr es i := by simp [nr, List.getD_eq_getElem?_getD, List.getElem?_append_left g]
      rw [this]; exact h.2.1 i g
    · have : nr (es ++ fs) i = nr fs (i - es.length) := by simp [nr, List.getD_eq_getElem?_getD, List.getElem?_append_right (Nat.le_of_not_lt g)]
      rw [this]; exact k.2.1 _ (by omega)
  · rw [List.length_append] at hi
    by_cases g : i < es.length
    · have e1 : nr (es ++ fs) i = nr es i := by simp [nr, List.getD_eq_getElem?_getD, List.getElem?_append_left g]
      have hb : i * sz + j < us.length := by
        rw [h.1]
        have : i * sz + sz ≤ es.length * sz := by rw [← Nat.succ_mul]; exact Nat.mul_le_mul_right _ g
        omega
      have e2 : nv (us ++ vs) (i * sz + j) = nv us (i * sz + j) := by simp [nv, List.getD_eq_getElem?_getD, List.getElem?_append_left hb]
      rw [e1, e2]; exact h.2.2 i j g hj
    · have e1 : nr (es ++ fs) i = nr fs (i - es.length) := by simp [nr, List.getD_eq_getElem?_getD, List.getElem?_append_right (Nat.le_of_not_lt g)]
      have e3 : i * sz + j - us.length = (i - es.length) * sz + j := by
        rw [h.1, Nat.sub_mul]
        have : es.length * sz ≤ i * sz := Nat.mul_le_mul_right _ (Nat.le_of_not_lt g)
        omega
      have hb : us.length ≤ i * sz + j := by
        rw [h.1]
        have : es.length * sz ≤ i * sz := Nat.mul_le_mul_right _ (Nat.le_of_not_lt g)
        omega
      have e2 : nv (us ++ vs) (i * sz + j) = nv vs ((i - es.length) * sz + j) := by simp only [nv, List.getD_eq_getElem?_getD]; rw [List.getElem?_append_right hb, e3]
      rw [e1, e2]; exact k.2.2 _ j (by omega) hj
theorem RowsRep.set {es : List (List D)} {sz : Nat} {us vs : List Value} {ns : List D} (h : RowsRep w I mu es sz us) {i : Nat} (hi : i < es.length) (hl : vs.length = ns.length) (hz : ns.length = sz) (hr : ∀ j, j < ns.length → Rep w I mu (nd ns j) (nv vs j)) :
    RowsRep w I mu (es.set i ns) sz (setL us (i * sz) vs) := by
  have hmul : i * sz + sz ≤ es.length * sz := by rw [← Nat.succ_mul]; exact Nat.mul_le_mul_right _ hi
  have h1 := h.1
  refine ⟨by rw [setL_length (by omega), List.length_set]; exact h1, fun j hj => ?_, fun j l hj hlz => ?_⟩
  · rw [List.length_set] at hj
    rw [nr_set hi]
    split
    · exact hz
    · exact h.2.1 j hj
  · rw [List.length_set] at hj
    rw [nr_set hi, nv_setL (by omega)]
    by_cases hij : i = j
    · subst hij
      have e1 : i * sz + l - i * sz = l := by omega
      rw [if_pos rfl, if_neg (by omega), if_pos (by omega), e1]
      exact hr l (by omega)
    · rw [if_neg hij]
      have hne : ¬ (i * sz ≤ j * sz + l ∧ j * sz + l < i * sz + vs.length) := by
        rintro ⟨g1, g2⟩
        rcases Nat.lt_or_gt_of_ne hij with h6 | h6
        · have : i * sz + sz ≤ j * sz := by rw [← Nat.succ_mul]; exact Nat.mul_le_mul_right _ h6
          omega
        · have : j * sz + sz ≤ i * sz := by rw [← Nat.succ_mul]; exact Nat.mul_le_mul_right _ h6
          omega
      by_cases g1 : j * sz + l < i * sz
      · rw [if_pos g1]; exact h.2.2 j l hj hlz
      · rw [if_neg g1, if_neg (by omega)]; exact h.2.2 j l hj hlz

/-- A new block of rows. -/
theorem new_rows {T : TypeId} {es : List (List D)} {sz : Nat} {us : List Value} (hrows : RowsRep w I mu es sz us) (hr : WRel w0 M0 I0 fr I mu h w) {id : Nat} (hid : fr id) :
    ∃ mu', Ext I mu w I mu' (w.alloc (.cells us.toArray T)) ∧ WRel w0 M0 I0 (fun b => fr b ∧ b ≠ id) I mu' (fun b => upAt b (h b) [(id, some (.rows es sz))]) (w.alloc (.cells us.toArray T)) ∧ mu' id = some (.pointer (some ⟨w.heap.size, 0, none⟩)) := by
  have hnone := hr.fresh id hid
  have := hr.new hid (.cells us.toArray T) (.pointer (some ⟨w.heap.size, 0, none⟩)) rfl (.rows es sz) ⟨w.heap.size, T, us, by simp [mset], heap_alloc_new w _, hrows.1, hrows.2.1, fun i j hi hj =>
      (hrows.2.2 i j hi hj).mono (fun k hk => heap_alloc_lt w _ (hr.lt k hk)) (fun _ h => h) (mset_ext hnone)⟩
  exact ⟨_, this.2, this.1, by simp [mset]⟩

/-! making -/
def makeE (id : Nat) (te : TI) : D → D → Res
  | .val (.int _ l), .val (.int _ c) => some (⟨.sref id 0 l.toNat c.toNat te.sz, [(id, some (.rows (List.replicate c.toNat (te.zero.map ofV)) te.sz))], []⟩, 0 ≤ l ∧ l ≤ c ∧ (te.bytes : Int) * c ≤ 281474976710656 ∧ c ≤ 9223372036854775807 ∧ te.zero.length = te.sz)
  | _, _ => none
theorem runs_make {t e' : TypeId} {ti te : TI} (ht : tiOf P t = some ti) (hs : ti.sh = .slice e') (hte : tiOf P e' = some te) {id : Nat} {dl dc : D} {e : Eff} {c : Prop} (he : makeE id te dl dc = some (e, c)) (hc : c) (hr : WRel w0 M0 I0 fr I mu h w) (hid : fr id) {vl vc : Value} (hl : Rep w I mu dl vl) (hcv : Rep w I mu dc vc) :
    Runs P (fun w => (Instr.makeSlice t vl vc).run P w) id e.d e.up w0 M0 I0 fr I mu h w := by
  unfold makeE at he
  split at he
  · rename_i kl l kc c
    simp only [Option.some.injEq, Prod.mk.injEq] at he
    obtain ⟨rfl, rfl⟩ := he
    obtain ⟨h0, h1, h2, h3, h4⟩ := hc
    have := hl.val_inv; have := hcv.val_inv; subst vl vc
    obtain ⟨i, d, z, g1, g2, g3, g4, g5, g6, g7, g8⟩ := tiOf_spec hte
    have hu := run_slice_elem ht hs
    have run := run_make (P := P) w t e' i z hu g1 g3 kl kc l c h0 h1 (by rw [g7]; exact h2) h3
    have hzs : z.cells = te.zero.toArray := by rw [← g6]
    have hmc : madeCells z.cells (c.toNat * i.size) = ((List.range (c.toNat * te.sz)).map fun n => nv te.zero (n % te.sz)).toArray := by
      rw [g4, hzs]
      apply Array.ext'
      simp only [madeCells, Array.toList_map, Array.toList_range]
      refine List.map_congr_left fun n hn => ?_
      have hn' := List.mem_range.1 hn
      have hpos : 0 < te.sz := Nat.pos_of_ne_zero fun h0 => by rw [h0] at hn'; simp at hn'
      have hlt : n % te.sz < te.zero.length := by rw [h4]; exact Nat.mod_lt _ hpos
      simp only [List.size_toArray, h4, nv, List.getD_eq_getElem?_getD]
      rw [getElem!_pos _ _ (by simpa using hlt)]
      simp [hlt]
    rw [hmc] at run
    have hrows : RowsRep w I mu (List.replicate c.toNat (te.zero.map ofV)) te.sz ((List.range (c.toNat * te.sz)).map fun n => nv te.zero (n % te.sz)) := by
      refine ⟨by simp, fun i hi => ?_, fun i j hi hj => ?_⟩
      · simp only [List.length_replicate] at hi
        have : nr (List.replicate c.toNat (te.zero.map ofV)) i = te.zero.map ofV := by simp [nr, List.getD_eq_getElem?_getD, hi]
        rw [this]; simpa using h4
      · simp only [List.length_replicate] at hi
        have e1 : nr (List.replicate c.toNat (te.zero.map ofV)) i = te.zero.map ofV := by simp [nr, List.getD_eq_getElem?_getD, hi]
        have hlt : i * te.sz + j < c.toNat * te.sz := by
          have : i * te.sz + te.sz ≤ c.toNat * te.sz := by rw [← Nat.succ_mul]; exact Nat.mul_le_mul_right _ hi
          omega
        have e2 : nv ((List.range (c.toNat * te.sz)).map fun n => nv te.zero (n % te.sz)) (i * te.sz + j) = nv te.zero j := by
          have e3 : (i * te.sz + j) % te.sz = j := by rw [Nat.add_comm, Nat.add_mul_mod_self_right, Nat.mod_eq_of_lt hj]
          have e4 : ∀ (f : Nat → Value) n m, m < n → nv ((List.range n).map f) m = f m := by intro f n m hm; simp [nv, List.getD_eq_getElem?_getD, hm]
          rw [e4 _ _ _ hlt, e3]
        have e5 : nd (te.zero.map ofV) j = ofV (nv te.zero j) := by simp [nd, nv, List.getD_eq_getElem?_getD, show j < te.zero.length by omega]
        rw [e1, e2, e5]
        exact rep_ofV _ _ _ _
    obtain ⟨mu', x1, x2, x3⟩ := new_rows (T := e') hrows hr hid
    exact ⟨_, _, I, mu', run, x1, x2, by simpa using Rep.sref (w := w.alloc (.cells ((List.range (c.toNat * te.sz)).map fun n => nv te.zero (n % te.sz)).toArray e')) (I := I) id 0 l.toNat c.toNat te.sz _ x3⟩
  · cases he
end
end Go.Ab
/- The abstract layer, part 10: slices written out, append, functions as values. -/
namespace Go.Ab
open Go.RowKit
section
variable {P : Program} {w0 : World} {M0 I0 fr I : Nat → Prop} {mu : Nat → Option Value} {h : Nat → Option Blk} {w : World}

/-! a slice written out -/
def buildSL (sz : Nat) : List (List D) → List (Nat × D) → Option (List (List D) × Prop)
  | es, [] => some (es, True)
  | es, (i, d) :: r => match cellsD d with
    | some ns => match buildSL sz (es.set i ns) r with
      | some (x, c) => some (x, ns.length = sz ∧ i < es.length ∧ c)
      | none => none
    | none => none
def buildSE (id : Nat) (te : TI) (n : Nat) (ps : List (Nat × D)) : Res :=
  match buildSL te.sz (List.replicate n (te.zero.map ofV)) ps with
  | some (es, c) => some (⟨.sref id 0 n n te.sz, [(id, some (.rows es te.sz))], []⟩, c ∧ n * te.sz ≤ 16777216 ∧ te.zero.length = te.sz)
  | none => none

theorem run_fillS (sz : Nat) : ∀ (ds : List (Nat × D)) (vs : List (Nat × Value)) (es : List (List D)) (us : List Value) (x : List (List D)) (c : Prop), buildSL sz es ds = some (x, c) → c → vs.length = ds.length →
    (∀ (i : Nat) (p : Nat × D) (q : Nat × Value), ds[i]? = some p → vs[i]? = some q → p.1 = q.1 ∧ Rep w I mu p.2 q.2) → RowsRep w I mu es sz us →
    ∃ us', Instr.fill (fun i => some (i * sz, sz)) us.toArray vs = some us'.toArray ∧ RowsRep w I mu x sz us' ∧ x.length = es.length
  | [], [], es, us, x, c, hb, _, _, _, hr => by
    simp only [buildSL, Option.some.injEq, Prod.mk.injEq] at hb
    obtain ⟨rfl, _⟩ := hb
    exact ⟨us, by simp [Instr.fill], hr, rfl⟩
  | [], _ :: _, _, _, _, _, _, _, hv, _, _ => by simp at hv
  | _ :: _, [], _, _, _, _, _, _, hv, _, _ => by simp at hv
  | (i, d) :: ds, (i', v) :: vs, es, us, x, c, hb, hc, hv, hp, hr => by
    simp only [buildSL] at hb
    split at hb
    · rename_i ns hns
      split at hb
      · rename_i y c' hb'
        simp only [Option.some.injEq, Prod.mk.injEq] at hb
        obtain ⟨rfl, rfl⟩ := hb
        obtain ⟨hsz, hi, hc'⟩ := hc
        obtain ⟨he, hrep⟩ := hp 0 (i, d) (i', v) rfl rfl
        simp only at he hrep
        subst he
        obtain ⟨vs', hcs, hl', hrep', _⟩ := hrep.cells hns
        have hcz : v.cells.size = sz := by
          have : v.cells.toList.length = vs'.length := by rw [hcs]
          simp only [Array.length_toList] at this
          omega
        obtain ⟨us', h1, h2, h3⟩ := run_fillS sz ds vs (es.set i ns) (setL us (i * sz) vs') y c' hb' hc' (by simpa using hv) (fun j p q hp' hq' => hp (j + 1) p q (by simpa using hp') (by simpa using hq')) (hr.set hi hl' hsz hrep')
        refine ⟨us', ?_, h2, by rw [h3, List.length_set]⟩
        have hmul : i * sz + sz ≤ es.length * sz := by rw [← Nat.succ_mul]; exact Nat.mul_le_mul_right _ hi
        have hul := hr.1
        simp only [Instr.fill, hcz, ne_eq, not_true_eq_false, decide_false, Bool.false_or, List.size_toArray]
        rw [if_neg (by simp; omega)]
        have hz : (v.cells.zipIdx.foldl (fun (cs : Array Value) (p : Value × Nat) => cs.setIfInBounds (i * sz + p.2) p.1) us.toArray) = (setL us (i * sz) vs').toArray := by
          rw [← Array.foldl_toList, Array.toList_zipIdx, hcs]
          have := fill_step (i * sz) vs' 0 us (by omega)
          simpa using this
        exact (congrArg (fun z => Instr.fill (fun i => some (i * sz, sz)) z vs) hz).trans h1
      · cases hb
    · cases hb

theorem zero_cells {te : TI} (h4 : te.zero.length = te.sz) (n : Nat) (z : Array Value) (hzs : z = te.zero.toArray) : ((Array.range (n * te.sz)).map (z[· % z.size]!)) = ((List.range (n * te.sz)).map fun m => nv te.zero (m % te.sz)).toArray := by
  subst hzs
  apply Array.ext'
  simp only [Array.toList_map, Array.toList_range]
  refine List.map_congr_left fun m hn => ?_
  have hn' := List.mem_range.1 hn
  have hpos : 0 < te.sz := Nat.pos_of_ne_zero fun h0 => by rw [h0] at hn'; simp at hn'
  have hlt : m % te.sz < te.zero.length := by rw [h4]; exact Nat.mod_lt _ hpos
  simp only [List.size_toArray, h4, nv, List.getD_eq_getElem?_getD]
  rw [getElem!_pos _ _ (by simpa using hlt)]
  simp [hlt]
theorem zero_rows {te : TI} (h4 : te.zero.length = te.sz) (n : Nat) : RowsRep w I mu (List.replicate n (te.zero.map ofV)) te.sz ((List.range (n * te.sz)).map fun m => nv te.zero (m % te.sz)) := by
  refine ⟨by simp, fun i hi => ?_, fun i j hi hj => ?_⟩
  · simp only [List.length_replicate] at hi
    have : nr (List.replicate n (te.zero.map ofV)) i = te.zero.map ofV := by simp [nr, List.getD_eq_getElem?_getD, hi]
    rw [this]; simpa using h4
  · simp only [List.length_replicate] at hi
    have e1 : nr (List.replicate n (te.zero.map ofV)) i = te.zero.map ofV := by simp [nr, List.getD_eq_getElem?_getD, hi]
    have hlt : i * te.sz + j < n * te.sz := by
      have : i * te.sz + te.sz ≤ n * te.sz := by rw [← Nat.succ_mul]; exact Nat.mul_le_mul_right _ hi
      omega
    have e2 : nv ((List.range (n * te.sz)).map fun m => nv te.zero (m % te.sz)) (i * te.sz + j) = nv te.zero j := by
      have e3 : (i * te.sz + j) % te.sz = j := by rw [Nat.add_comm, Nat.add_mul_mod_self_right, Nat.mod_eq_of_lt hj]
      have e4 : ∀ (f : Nat → Value) n m, m < n → nv ((List.range n).map f) m = f m := by intro f n m hm; simp [nv, List.getD_eq_getElem?_getD, hm]
      rw [e4 _ _ _ hlt, e3]
    have e5 : nd (te.zero.map ofV) j = ofV (nv te.zero j) := by simp [nd, nv, List.getD_eq_getElem?_getD, show j < te.zero.length by omega]
    rw [e1, e2, e5]
    exact rep_ofV _ _ _ _

theorem runs_buildS {t e' : TypeId} {ti te : TI} (ht : tiOf P t = some ti) (hs : ti.sh = .slice e') (hte : tiOf P e' = some te) {id n : Nat} {ds : List (Nat × D)} {e : Eff} {c : Prop} (he : buildSE id te n ds = some (e, c)) (hc : c) (hr : WRel w0 M0 I0 fr I mu h w) (hid : fr id) (vs : List (Nat × Value)) (hv : vs.length = ds.length)
    (hp : ∀ (i : Nat) (p : Nat × D) (q : Nat × Value), ds[i]? = some p → vs[i]? = some q → p.1 = q.1 ∧ Rep w I mu p.2 q.2) :
    Runs P (fun w => (Instr.buildSlice t n vs.toArray).run P w) id e.d e.up w0 M0 I0 fr I mu h w := by
  unfold buildSE at he
  split at he
  · rename_i es c' hb
    simp only [Option.some.injEq, Prod.mk.injEq] at he
    obtain ⟨rfl, rfl⟩ := he
    obtain ⟨hc', hle, hz⟩ := hc
    obtain ⟨i, d, z, g1, g2, g3, g4, g5, g6, g7, g8⟩ := tiOf_spec hte
    have hu := run_slice_elem ht hs
    have hzs : z.cells = te.zero.toArray := by rw [← g6]
    obtain ⟨us', f1, f2, f3⟩ := run_fillS (w := w) (I := I) (mu := mu) te.sz ds vs _ _ es c' hb hc' hv hp (zero_rows hz n)
    simp only [List.length_replicate] at f3
    obtain ⟨mu', x1, x2, x3⟩ := new_rows (T := e') f2 hr hid
    refine ⟨.slice (some ⟨w.heap.size, 0, none⟩) n n, _, I, mu', ?_, x1, x2, by simpa using Rep.sref (w := w.alloc (.cells us'.toArray e')) (I := I) id 0 n n te.sz _ x3⟩
    have hn : ¬ (16777216 < n * te.sz) := by omega
    by_cases h0 : n * te.sz = 0
    · have hr0 : Array.range 0 = #[] := rfl
      have hempty : (List.range (n * te.sz)).map (fun m => nv te.zero (m % te.sz)) = [] := by rw [h0]; rfl
      rw [hempty] at f1
      simp [Instr.buildSlice, run_underlying hu, sizeOf, typeInfo, g1, g4, h0, hr0, f1, newRow]
    · have hcells := zero_cells hz n z.cells hzs
      simp only [Instr.buildSlice, Sem.run_bind, run_underlying hu, Result.andThen, run_sizeOf' hte, gt_iff_lt]
      have f1' : Instr.fill (fun i => some (i * te.sz, te.sz)) (Array.map (fun x => z.cells[x % z.cells.size]!) (Array.range (n * te.sz))) vs = some us'.toArray := by rw [hcells]; exact f1
      simp [hn, h0, zeroValue, typeInfo, g1, g3, f1', newRow]
  · cases he

/-! append -/
/-- The rows of what is appended. -/
def newsD (hp : Nat → Option Blk) : D → Option (List (List D) × List Nat × Prop)
  | .slice es _ => some (es, [], True)
  | .sref b i len _ sz => match hp b with
    | some (.rows es sz') => some ((es.drop i).take len, [b], sz = sz' ∧ i + len ≤ es.length)
    | _ => none
  | .gref b len => match hp b with
    | some (.grow es _) => some (es, [b], len = es.length)
    | _ => none
  | _ => none
/-- The cells that a slice's value leads to. -/
def Holds' (w : World) (A : Option Addr) (us : List Value) : Prop := us = [] ∨ ∃ k o, A = some ⟨k, o, none⟩ ∧ ∀ j u, us[j]? = some u → w.cell? ⟨k, o + j, none⟩ = some u
theorem flat_cells {es : List (List D)} {sz : Nat} {u : Nat → Nat → Value} {k o : Nat} (hsz : 0 < sz) (hcell : ∀ i j, i < es.length → j < sz → w.cell? ⟨k, o + (i * sz + j), none⟩ = some (u i j)) :
    ∀ m, m < es.length * sz → w.cell? ⟨k, o + m, none⟩ = some (u (m / sz) (m % sz)) := by
  intro m hm
  have h1 : m / sz < es.length := (Nat.div_lt_iff_lt_mul hsz).2 hm
  have h2 : m % sz < sz := Nat.mod_lt _ hsz
  have := hcell (m / sz) (m % sz) h1 h2
  have e : m / sz * sz + m % sz = m := by rw [Nat.mul_comm]; exact Nat.div_add_mod m sz
  rw [e] at this
  exact this

theorem newsD_spec {hp : Nat → Option Blk} {d : D} {es : List (List D)} {rd : List Nat} {c : Prop} (hn : newsD hp d = some (es, rd, c)) (hc : c) (hr : WRel w0 M0 I0 fr I mu h w) {v : Value} (hv : Rep w I mu d v) (hb : ∀ b ∈ rd, h b = hp b) {sz : Nat} (hsz : 0 < sz) (hall : ∀ x ∈ es, x.length = sz) :
    ∃ A cap us, v = .slice A es.length cap ∧ RowsRep w I mu es sz us ∧ Holds' w A us := by
  have hnr : ∀ i, i < es.length → (nr es i).length = sz := fun i hi => hall _ (by simp [nr, List.getD_eq_getElem?_getD, hi])
  unfold newsD at hn
  split at hn
  · rename_i es0 tg0
    simp only [Option.some.injEq, Prod.mk.injEq] at hn
    obtain ⟨rfl, rfl, rfl⟩ := hn
    cases hv with
    | slice _ _ A k o sz' cap u hA hcp htg hm hlen hcell hrep =>
      by_cases h0 : es0.length = 0
      · have : es0 = [] := List.eq_nil_of_length_eq_zero h0
        subst this
        exact ⟨A, cap, [], rfl, ⟨by simp, fun i hi => by simp at hi, fun i j hi => by simp at hi⟩, .inl rfl⟩
      · have hs : sz' = sz := by rw [← hlen 0 (by omega)]; exact hnr 0 (by omega)
        subst hs
        obtain ⟨rfl, hI⟩ := hA (by omega)
        refine ⟨_, cap, (List.range (es0.length * sz')).map fun m => u (m / sz') (m % sz'), rfl, ⟨by simp, hlen, fun i j hi hj => ?_⟩, .inr ⟨k, o, rfl, fun j x hx => ?_⟩⟩
        · have hlt : i * sz' + j < es0.length * sz' := by
            have : i * sz' + sz' ≤ es0.length * sz' := by rw [← Nat.succ_mul]; exact Nat.mul_le_mul_right _ hi
            omega
          have e1 : (i * sz' + j) / sz' = i := by rw [Nat.add_comm, Nat.add_mul_div_right _ _ hsz, Nat.div_eq_of_lt hj]; omega
          have e2 : (i * sz' + j) % sz' = j := by rw [Nat.add_comm, Nat.add_mul_mod_self_right, Nat.mod_eq_of_lt hj]
          have e3 : nv ((List.range (es0.length * sz')).map fun m => u (m / sz') (m % sz')) (i * sz' + j) = u i j := by simp [nv, List.getD_eq_getElem?_getD, hlt, e1, e2]
          rw [e3]; exact hrep i j hi hj
        · simp only [List.getElem?_map, Option.map_eq_some_iff] at hx
          obtain ⟨m, hm', rfl⟩ := hx
          obtain ⟨hlt, rfl⟩ := List.getElem?_eq_some_iff.1 hm'
          simp only [List.length_range] at hlt
          simp only [List.getElem_range]
          exact flat_cells hsz hcell j hlt
  · rename_i b i len cap szb
    split at hn
    · rename_i es' sz' hx
      simp only [Option.some.injEq, Prod.mk.injEq] at hn
      obtain ⟨rfl, rfl, rfl⟩ := hn
      obtain ⟨rfl, hle⟩ := hc
      obtain ⟨k, T, us, h1, h2, h3, h4, h5⟩ := hr.blk b _ ((hb b (by simp)).trans hx)
      cases hv with
      | sref _ _ _ _ _ k' hk =>
        rw [h1] at hk
        simp only [Option.some.injEq, Value.pointer.injEq, Addr.mk.injEq, and_true] at hk
        subst hk
        have hlen' : ((es'.drop i).take len).length = len := by simp; omega
        have hnr' : ∀ j, j < len → nr ((es'.drop i).take len) j = nr es' (i + j) := by
          intro j hj
          simp only [nr, List.getD_eq_getElem?_getD]
          rw [List.getElem?_take_of_lt hj, List.getElem?_drop]
        have hz : 0 < len → szb = sz := fun hpos => by
          have := hnr 0 (by omega)
          rw [hnr' 0 hpos] at this
          rw [← this]; exact (h4 (i + 0) (by omega)).symm
        have key : Value.slice (some ⟨k, i * szb, none⟩) len cap = .slice (some ⟨k, i * szb, none⟩) ((es'.drop i).take len).length cap := by rw [hlen']
        refine ⟨_, cap, (us.drop (i * szb)).take (len * szb), key, ⟨?_, hnr, fun j l hj hl => ?_⟩, .inr ⟨k, i * szb, rfl, fun j x hx => ?_⟩⟩
        · rw [hlen']
          by_cases hpos : 0 < len
          · rw [← hz hpos]
            have : (i + len) * szb ≤ es'.length * szb := Nat.mul_le_mul_right _ hle
            rw [Nat.add_mul] at this
            simp only [List.length_take, List.length_drop]; omega
          · have : len = 0 := by omega
            subst this; simp
        · rw [hlen'] at hj
          have hs := hz (by omega)
          subst hs
          rw [hnr' j hj]
          have hlt : j * szb + l < len * szb := by
            have : j * szb + szb ≤ len * szb := by rw [← Nat.succ_mul]; exact Nat.mul_le_mul_right _ hj
            omega
          have e : nv ((us.drop (i * szb)).take (len * szb)) (j * szb + l) = nv us ((i + j) * szb + l) := by
            simp only [nv, List.getD_eq_getElem?_getD]
            rw [List.getElem?_take_of_lt hlt, List.getElem?_drop]
            congr 2
            rw [Nat.add_mul]; omega
          rw [e]
          exact h5 (i + j) l (by omega) hl
        · rw [List.getElem?_take] at hx
          split at hx
          · rw [List.getElem?_drop] at hx
            simp [World.cell?, h2, hx]
          · cases hx
    · cases hn
  · rename_i b len
    split at hn
    · rename_i es' szb hx
      simp only [Option.some.injEq, Prod.mk.injEq] at hn
      obtain ⟨rfl, rfl, rfl⟩ := hn
      subst hc
      obtain ⟨A, cap, T, us, h1, h2, h3, h4⟩ := hr.blk b _ ((hb b (by simp)).trans hx)
      cases hv with
      | gref _ _ A' cap' hk =>
        rw [h1] at hk
        simp only [Option.some.injEq, Value.slice.injEq, true_and] at hk
        obtain ⟨rfl, rfl⟩ := hk
        rcases h4 with ⟨rfl, rfl⟩ | ⟨k, g0, rfl, g1, g2, g3, g4⟩
        · exact ⟨A, 0, [], rfl, ⟨by simp, fun i hi => by simp at hi, fun i j hi => by simp at hi⟩, .inl rfl⟩
        · by_cases h0 : es'.length = 0
          · have : es' = [] := List.eq_nil_of_length_eq_zero h0
            subst this
            exact ⟨_, cap, [], rfl, ⟨by simp, fun i hi => by simp at hi, fun i j hi => by simp at hi⟩, .inl rfl⟩
          · have hs : szb = sz := by rw [← h2 0 (by omega)]; exact hnr 0 (by omega)
            subst hs
            have hmul : es'.length * szb ≤ cap * szb := Nat.mul_le_mul_right _ g2
            refine ⟨_, cap, us.take (es'.length * szb), rfl, ⟨by simp; omega, h2, fun i j hi hj => ?_⟩, .inr ⟨k, 0, rfl, fun j x hx => ?_⟩⟩
            · have hlt : i * szb + j < es'.length * szb := by
                have : i * szb + szb ≤ es'.length * szb := by rw [← Nat.succ_mul]; exact Nat.mul_le_mul_right _ hi
                omega
              have e : nv (us.take (es'.length * szb)) (i * szb + j) = nv us (i * szb + j) := by
                simp only [nv, List.getD_eq_getElem?_getD]; rw [List.getElem?_take_of_lt hlt]
              rw [e]; exact g4 i j hi hj
            · rw [List.getElem?_take] at hx
              split at hx
              · simp [World.cell?, g1, hx]
              · cases hx
    · cases hn
  · cases hn

/-- A block is named anew: in new memory, or where another one lay that is given up. -/
theorem WRel.put {b0 : Option Nat} {id : Nat} (hr : WRel w0 M0 I0 fr I mu h w) (hid : fr id) (w' : World) (v : Value) (x : Blk)
    (hk : ∀ k, locBlk v = some k → (w.heap.size ≤ k ∧ k < w'.heap.size) ∨ ∃ b x0 v0, b0 = some b ∧ h b = some x0 ∧ mu b = some v0 ∧ locBlk v0 = some k)
    (hsize : w.heap.size ≤ w'.heap.size) (hsame : ∀ j, j < w.heap.size → (∀ b x0 v0, b0 = some b → h b = some x0 → mu b = some v0 → locBlk v0 ≠ some j) → w'.heap[j]? = w.heap[j]?)
    (hos : w'.os = w.os) (htape : w'.tape = w.tape) (hout : w'.output = w.output) (hb : BRep w' I (mset mu id v) id x) :
    WRel w0 M0 I0 (fun b => fr b ∧ b ≠ id) I (mset mu id v) (fun c => if c = id then some x else if b0 = some c then none else h c) w' ∧ Ext I mu w I (mset mu id v) w' := by
  have hnone := hr.fresh id hid
  have hm := mset_ext (v := v) hnone
  have hIw : ∀ k, I k → w'.heap[k]? = w.heap[k]? := fun k hk => hsame k (hr.lt k hk) fun b x0 v0 _ hx0 hv0 hl => (hr.loc b x0 v0 k hx0 hv0 hl).2.1 hk
  have hext : Ext I mu w I (mset mu id v) w' := ⟨fun _ h => h, hm, hIw⟩
  have hold : ∀ c y, c ≠ id → (if c = id then some x else if b0 = some c then none else h c) = some y → h c = some y ∧ b0 ≠ some c := by
    intro c y hc hy
    rw [if_neg hc] at hy
    by_cases hb0 : b0 = some c
    · rw [if_pos hb0] at hy; cases hy
    · rw [if_neg hb0] at hy; exact ⟨hy, hb0⟩
  have hmu : ∀ c, c ≠ id → mset mu id v c = mu c := fun c hc => by simp [mset, hc]
  have hne : ∀ c y u k b x0 v0, b0 ≠ some c → h c = some y → mu c = some u → locBlk u = some k → b0 = some b → h b = some x0 → mu b = some v0 → locBlk v0 ≠ some k := by
    intro c y u k b x0 v0 hbc hy hu hk' hb0 hx0 hv0 hl
    have := hr.inj c b y x0 u v0 k hy hx0 hu hv0 hk' hl
    subst this
    exact hbc hb0
  refine ⟨⟨fun c y hy => ?_, fun c y u k hy hu hk' => ?_, fun c c' y z u u' k hy hz hu hu' hk' hk'' => ?_, fun b hb => ?_, fun k hk' => Nat.lt_of_lt_of_le (hr.lt k hk') hsize, hos.trans hr.os, htape.trans hr.tape, hout.trans hr.output, Nat.le_trans hr.grown hsize, fun j hj hnm => ?_, hr.iold, hr.inew⟩, hext⟩
  · by_cases hc : c = id
    · subst hc; rw [if_pos rfl] at hy; cases hy; exact hb
    · obtain ⟨hy', hbc⟩ := hold c y hc hy
      exact (hr.blk c y hy').mono hIw (fun _ h => h) hm fun u k hu hk' => hsame k (hr.loc c y u k hy' hu hk').2.2 fun b x0 v0 hb0 hx0 hv0 => hne c y u k b x0 v0 hbc hy' hu hk' hb0 hx0 hv0
  · by_cases hc : c = id
    · subst hc
      simp only [mset, if_pos, Option.some.injEq] at hu
      subst hu
      rcases hk k hk' with ⟨g1, g2⟩ | ⟨b, x0, v0, _, hx0, hv0, hl⟩
      · exact ⟨.inr (Nat.le_trans hr.grown g1), fun hI => by have := hr.lt k hI; omega, g2⟩
      · have := hr.loc b x0 v0 k hx0 hv0 hl
        exact ⟨this.1, this.2.1, Nat.lt_of_lt_of_le this.2.2 hsize⟩
    · obtain ⟨hy', hbc⟩ := hold c y hc hy
      rw [hmu c hc] at hu
      have := hr.loc c y u k hy' hu hk'
      exact ⟨this.1, this.2.1, Nat.lt_of_lt_of_le this.2.2 hsize⟩
  · have one : ∀ c y u, c ≠ id → (if c = id then some x else if b0 = some c then none else h c) = some y → mset mu id v c = some u → locBlk u = some k → locBlk v = some k → False := by
      intro c y u hc hy hu hku hkv
      obtain ⟨hy', hbc⟩ := hold c y hc hy
      rw [hmu c hc] at hu
      rcases hk k hkv with ⟨g1, g2⟩ | ⟨b, x0, v0, hb0, hx0, hv0, hl⟩
      · have := (hr.loc c y u k hy' hu hku).2.2
        omega
      · exact hne c y u k b x0 v0 hbc hy' hu hku hb0 hx0 hv0 hl
    by_cases hc : c = id <;> by_cases hc' : c' = id
    · rw [hc, hc']
    · exfalso
      have hu2 : v = u := by simpa [mset, hc] using hu
      exact one c' z u' hc' hz hu' hk'' (hu2 ▸ hk')
    · exfalso
      have hu2 : v = u' := by simpa [mset, hc'] using hu'
      exact one c y u hc hy hu hk' (hu2 ▸ hk'')
    · obtain ⟨hy', _⟩ := hold c y hc hy
      obtain ⟨hz', _⟩ := hold c' z hc' hz
      rw [hmu c hc] at hu
      rw [hmu c' hc'] at hu'
      exact hr.inj c c' y z u u' k hy' hz' hu hu' hk' hk''
  · rw [hmu b hb.2]; exact hr.fresh b hb.1
  · rw [hsame j (by have := hr.grown; omega) fun b x0 v0 hb0 hx0 hv0 hl => ?_]
    · exact hr.old j hj hnm
    · rcases (hr.loc b x0 v0 j hx0 hv0 hl).1 with h1 | h1
      · exact hnm h1
      · omega

theorem run_firstCells' {size n : Nat} {A : Option Addr} {cap : Nat} {us : List Value} (hl : us.length = n * size) (hh : Holds' w A us) : (Builtin.firstCells size n (.slice A n cap)).run P w = .ok us.toArray w := by
  rcases hh with rfl | ⟨k, o, rfl, hc⟩
  · cases A with
    | none => simp [Builtin.firstCells]
    | some a => exact run_firstCells_some w size n a n cap [] hl (fun j v hj => by simp at hj)
  · exact run_firstCells_some w size n _ n cap us hl fun j v hj => by rw [addr_add]; exact hc j v hj

/-- Append, whatever the base and the source are. -/
theorem run_append_any {t ty e' : TypeId} {i : TypeInfo} {z : Value} (hu : P.underlying t = some (.slice e')) (hi : P.info? e' = some i) (hz : i.zero = some z) {A B : Option Addr} {n m cap cap' : Nat} {us vs : List Value}
    (hus : us.length = n * i.size) (hvs : vs.length = m * i.size) (hA : Holds' w A us) (hB : Holds' w B vs) (hncap : n ≤ cap) (hle : n + m ≤ 9223372036854775807) (hbytes : (n + m) * i.bytes ≤ 140737488355328) :
    (n + m ≤ cap → (Builtin.append_ #[t, t] ty #[.slice A n cap, .slice B m cap']).run P w = ((match A with | some a => (storeCells (a.add (n * i.size)) vs).run P w | none => .ok () w)).andThen fun _ w' => .ok (.slice A (n + m) cap) w') ∧
    (cap < n + m → (Builtin.append_ #[t, t] ty #[.slice A n cap, .slice B m cap']).run P w = .ok (.slice (some ⟨w.heap.size, 0, none⟩) (n + m) (grownCap w (n + m) cap e'))
      (w.drew.alloc (.cells (us.toArray ++ vs.toArray ++ Builtin.zeroCells z.cells (grownCap w (n + m) cap e' - (n + m))) e'))) := by
  have hfB := run_firstCells' (P := P) (size := i.size) (n := m) (A := B) (cap := cap') hvs hB
  constructor
  · intro hroom
    cases A with
    | none => simp [Builtin.append_, run_underlying hu, sizeOf, typeInfo, hi, Builtin.lenOf, hroom, hfB]
    | some a => simp [Builtin.append_, run_underlying hu, sizeOf, typeInfo, hi, Builtin.lenOf, hroom, hfB]
  · intro hg
    have hA' : Holds' w.drew A us := by
      rcases hA with rfl | ⟨k, o, rfl, hc⟩
      · exact .inl rfl
      · exact .inr ⟨k, o, rfl, fun j u hj => by simpa using hc j u hj⟩
    have hB' : Holds' w.drew B vs := by
      rcases hB with rfl | ⟨k, o, rfl, hc⟩
      · exact .inl rfl
      · exact .inr ⟨k, o, rfl, fun j u hj => by simpa using hc j u hj⟩
    have hfA := run_firstCells' (P := P) (w := w.drew) (size := i.size) (n := n) (A := A) (cap := cap) hus hA'
    have hfB' := run_firstCells' (P := P) (w := w.drew) (size := i.size) (n := m) (A := B) (cap := cap') hvs hB'
    have hn : ¬ (n + m ≤ cap) := by omega
    have h63 : ¬ (9223372036854775807 < ((n : Int) + (m : Int))) := by omega
    have hfit := growslice_fits (need := n + m) (old := cap) (bytes := i.bytes) hg hbytes
    have h48 : ¬ (281474976710656 < Builtin.nextslicecap (n + m) cap * i.bytes) := by omega
    simp [Builtin.append_, run_underlying hu, sizeOf, typeInfo, zeroValue, hi, hz, Builtin.lenOf, hn, h63, h48, Question.forced, hfA, hfB', newRow, grownCap]
    have hx : ∀ X : Array Value, us.toArray ++ (vs.toArray ++ X) = (us ++ vs).toArray ++ X := fun X => by rw [← Array.append_assoc, List.append_toArray us vs]
    rw [hx]
end
end Go.Ab
/- The abstract layer, part 11: append's effect; nil checks; functions and interface values made. -/
namespace Go.Ab
open Go.RowKit
section
variable {P : Program} {w0 : World} {M0 I0 fr I : Nat → Prop} {mu : Nat → Option Value} {h : Nat → Option Blk} {w : World}

def appendE (id : Nat) (hp : Nat → Option Blk) (te : TI) (b x : D) : Res :=
  match newsD hp x with
  | none => none
  | some (news, rd, c) => match b with
    | .slice es true => some (⟨.gref id (es.length + news.length), [(id, some (.grow (es ++ news) te.sz))], rd⟩,
        c ∧ (es = [] ∨ news.length ≠ 0) ∧ (es.length + news.length) * te.bytes ≤ 140737488355328 ∧ es.length + news.length ≤ 1073741824 ∧ 0 < te.sz ∧ te.zero.length = te.sz ∧ (∀ y ∈ es, y.length = te.sz) ∧ ∀ y ∈ news, y.length = te.sz)
    | .gref g len => match hp g with
      | some (.grow es sz) => some (⟨.gref id (es.length + news.length), [(g, none), (id, some (.grow (es ++ news) sz))], g :: rd⟩,
          c ∧ len = es.length ∧ sz = te.sz ∧ g ≠ id ∧ (es.length + news.length) * te.bytes ≤ 140737488355328 ∧ es.length + news.length ≤ 1073741824 ∧ 0 < te.sz ∧ te.zero.length = te.sz ∧ (∀ y ∈ news, y.length = te.sz) ∧ ∀ y ∈ news, ∀ d ∈ y, oneD d = true)
      | _ => none
    | _ => none

theorem grow_new {T : TypeId} {es : List (List D)} {sz : Nat} {us vs : List Value} {A : Option Addr} {mu' : Nat → Option Value} {id cap k : Nat} {w' : World} (hmu : mu' id = some (.slice (some ⟨k, 0, none⟩) es.length cap)) (hpos : 0 < cap) (hcm : cap ≤ maxLen) (hle : es.length ≤ cap)
    (hheap : w'.heap[k]? = some (.cells (us ++ vs).toArray T (0, 0))) (hlen : us.length + vs.length = cap * sz) (hrows : RowsRep w' I mu' es sz us) : BRep w' I mu' id (.grow es sz) := by
  refine ⟨some ⟨k, 0, none⟩, cap, T, us ++ vs, hmu, hrows.2.1, hcm, .inr ⟨k, hpos, rfl, hheap, hle, by rw [List.length_append]; exact hlen, fun i j hi hj => ?_⟩⟩
  have hlt : i * sz + j < us.length := by
    rw [hrows.1]
    have : i * sz + sz ≤ es.length * sz := by rw [← Nat.succ_mul]; exact Nat.mul_le_mul_right _ hi
    omega
  have : nv (us ++ vs) (i * sz + j) = nv us (i * sz + j) := by simp only [nv, List.getD_eq_getElem?_getD]; rw [List.getElem?_append_left hlt]
  rw [this]
  exact hrows.2.2 i j hi hj

theorem runs_append {t ty e' : TypeId} {ti te : TI} (ht : tiOf P t = some ti) (hs : ti.sh = .slice e') (hte : tiOf P e' = some te) {id : Nat} {hp : Nat → Option Blk} {db dx : D} {e : Eff} {c : Prop} (he : appendE id hp te db dx = some (e, c)) (hc : c)
    (hr : WRel w0 M0 I0 fr I mu h w) (hid : fr id) {vb vx : Value} (hvb : Rep w I mu db vb) (hvx : Rep w I mu dx vx) (hb : ∀ b ∈ e.rd, h b = hp b) : Runs P (fun w => (Builtin.append_ #[t, t] ty #[vb, vx]).run P w) id e.d e.up w0 M0 I0 fr I mu h w := by
  obtain ⟨inf, d, z, g1, g2, g3, g4, g5, g6, g7, g8⟩ := tiOf_spec hte
  have hu := run_slice_elem ht hs
  have hzs : z.cells.size = te.zero.length := by rw [← g6]; simp
  unfold appendE at he
  split at he
  · cases he
  · rename_i news rd c' hnews
    split at he
    · rename_i es
      simp only [Option.some.injEq, Prod.mk.injEq] at he
      obtain ⟨rfl, rfl⟩ := he
      obtain ⟨hc', hne, hby, hln, hsz, hzl, hes, hnw⟩ := hc
      obtain ⟨B, capB, vs, rfl, hrv, hB⟩ := newsD_spec hnews hc' hr hvx hb hsz hnw
      have hself : newsD hp (.slice es true) = some (es, [], True) := rfl
      obtain ⟨A, cap, us, rfl, hru, hA⟩ := newsD_spec (hp := hp) hself trivial hr hvb (fun b hb => by simp at hb) hsz hes
      have hcap : cap = es.length := by cases hvb with | slice _ _ _ k o sz cap u hA hcp htg hm hlen hcell hrep => exact htg rfl
      subst hcap
      have run := run_append_any (P := P) (w := w) (ty := ty) (cap := es.length) (cap' := capB) hu g1 g3 (us := us) (vs := vs) (n := es.length) (m := news.length) (by rw [g4]; exact hru.1) (by rw [g4]; exact hrv.1) hA hB (Nat.le_refl _) (by omega) (by rw [g7]; exact hby)
      by_cases h0 : news.length = 0
      · have hes0 : es = [] := hne.resolve_right (by simp [h0])
        have hnews0 : news = [] := List.eq_nil_of_length_eq_zero h0
        subst hes0 hnews0
        have hvs0 : vs = [] := List.eq_nil_of_length_eq_zero (by simpa using hrv.1)
        subst hvs0
        have r1 := run.1 (by simp)
        have hid0 := hr.fresh id hid
        have := hr.put (b0 := none) hid w (.slice A 0 0) (.grow [] te.sz) (fun k hk => by cases A <;> simp [locBlk] at hk) (Nat.le_refl _) (fun _ _ _ => rfl) rfl rfl rfl ⟨A, 0, e', [], by simp [mset], fun i hi => by simp at hi, Nat.zero_le _, .inl ⟨rfl, rfl⟩⟩
        refine ⟨.slice A 0 0, w, I, mset mu id (.slice A 0 0), ?_, this.2, ?_, .gref id 0 A 0 (by simp [mset])⟩
        · simp only [List.length_nil] at r1 ⊢
          rw [r1]
          cases A <;> simp [storeCells]
        · have h2 := this.1
          have e1 : (fun c => if c = id then some (Blk.grow [] te.sz) else if (none : Option Nat) = some c then none else h c) = fun b => upAt b (h b) [(id, some (.grow ([] ++ []) te.sz))] := by
            funext b; simp only [upAt, List.foldl_cons, List.foldl_nil, List.append_nil]
            by_cases hbi : b = id
            · subst hbi; simp
            · have : ¬ id = b := fun h => hbi h.symm
              simp [hbi, this]
          rw [e1] at h2
          exact h2
      · have r1 := run.2 (by omega)
        generalize hcg : grownCap w (es.length + news.length) es.length e' = gc at r1
        have hge : es.length + news.length ≤ gc := by rw [← hcg]; exact grownCap_ge w _ _ _
        have hgm : gc ≤ maxLen := by rw [← hcg]; exact grownCap_le_maxLen w _ _ _ (by simp only [maxLen]; omega)
        have hcells : (us ++ vs).toArray ++ Builtin.zeroCells z.cells (gc - (es.length + news.length)) = ((us ++ vs) ++ (Builtin.zeroCells z.cells (gc - (es.length + news.length))).toList).toArray := by
          apply Array.ext'; simp
        have r2 : (Builtin.append_ #[t, t] ty #[.slice A es.length es.length, .slice B news.length capB]).run P w = .ok (.slice (some ⟨w.heap.size, 0, none⟩) (es.length + news.length) gc) (w.drew.alloc (.cells ((us ++ vs) ++ (Builtin.zeroCells z.cells (gc - (es.length + news.length))).toList).toArray e')) := by
          rw [← hcells, ← List.append_toArray us vs]; exact r1
        generalize hw' : w.drew.alloc (.cells ((us ++ vs) ++ (Builtin.zeroCells z.cells (gc - (es.length + news.length))).toList).toArray e') = w' at r2
        have hsame : ∀ j, j < w.heap.size → w'.heap[j]? = w.heap[j]? := fun j hj => by rw [← hw']; exact heap_alloc_lt w.drew _ hj
        have hws : w'.heap.size = w.heap.size + 1 := by rw [← hw']; simp
        have hid0 := hr.fresh id hid
        have hm := mset_ext (v := .slice (some ⟨w.heap.size, 0, none⟩) (es.length + news.length) gc) hid0
        have hll : (es ++ news).length = es.length + news.length := List.length_append
        have := hr.put (b0 := none) hid w' (.slice (some ⟨w.heap.size, 0, none⟩) (es.length + news.length) gc) (.grow (es ++ news) te.sz) (fun k hk => by
            simp only [locBlk] at hk
            rw [if_neg (by omega)] at hk
            cases hk; exact .inl ⟨Nat.le_refl _, by omega⟩) (by omega) (fun j hj _ => hsame j hj) (by rw [← hw']; rfl) (by rw [← hw']; rfl) (by rw [← hw']; rfl)
          (grow_new (A := none) (us := us ++ vs) (T := e') (k := w.heap.size) (cap := gc) (by simp [mset, hll]) (by omega) hgm (by omega) (by rw [← hw']; exact heap_alloc_new w.drew _) (by
              have q3 : (Builtin.zeroCells z.cells (gc - (es.length + news.length))).toList.length = (gc - (es.length + news.length)) * te.sz := by rw [Array.length_toList, size_zeroCells, hzs, hzl]
              rw [List.length_append, hru.1, hrv.1, q3, ← Nat.add_mul, ← Nat.add_mul]
              exact congrArg (· * te.sz) (by omega))
            ((hru.append hrv).mono ⟨fun _ h => h, hm, fun k hk => hsame k (hr.lt k hk)⟩))
        refine ⟨_, w', I, _, r2, this.2, ?_, .gref id _ _ gc (by simp [mset])⟩
        have h2 := this.1
        have e1 : (fun c => if c = id then some (Blk.grow (es ++ news) te.sz) else if (none : Option Nat) = some c then none else h c) = fun b => upAt b (h b) [(id, some (.grow (es ++ news) te.sz))] := by
          funext b; simp only [upAt, List.foldl_cons, List.foldl_nil]
          by_cases hbi : b = id
          · subst hbi; simp
          · have : ¬ id = b := fun h => hbi h.symm
            simp [hbi, this]
        rw [e1] at h2
        exact h2
    · rename_i g len
      split at he
      · rename_i es sz hx
        simp only [Option.some.injEq, Prod.mk.injEq] at he
        obtain ⟨rfl, rfl⟩ := he
        obtain ⟨hc', rfl, rfl, hgid, hby, hln, hsz, hzl, hnw, hnone⟩ := hc
        have hg : h g = some (.grow es te.sz) := (hb g (by simp)).trans hx
        obtain ⟨B, capB, vs, rfl, hrv, hB⟩ := newsD_spec hnews hc' hr hvx (fun b hb' => hb b (by simp [hb'])) hsz hnw
        obtain ⟨A, cap, T, us0, h1, h2, h3, h4⟩ := hr.blk g _ hg
        have hes : ∀ y ∈ es, y.length = te.sz := by
          intro y hy
          obtain ⟨i, hi, rfl⟩ := List.mem_iff_getElem.1 hy
          have := h2 i hi
          simpa [nr, List.getD_eq_getElem?_getD, hi] using this
        have hself : newsD h (.gref g es.length) = some (es, [g], es.length = es.length) := by simp [newsD, hg]
        obtain ⟨A', cap', us, hveq, hru, hA⟩ := newsD_spec hself rfl hr hvb (fun b hb' => rfl) hsz hes
        have hvb' : vb = .slice A es.length cap := by
          cases hvb with
          | gref _ _ A'' cap'' hk =>
            rw [h1] at hk
            simp only [Option.some.injEq, Value.slice.injEq, true_and] at hk
            rw [hk.1, hk.2]
        rw [hvb'] at hveq
        simp only [Value.slice.injEq, true_and] at hveq
        obtain ⟨rfl, rfl⟩ := hveq
        subst hvb'
        have hncap : es.length ≤ cap := by
          rcases h4 with ⟨rfl, rfl⟩ | ⟨k, _, _, _, h5, _⟩
          · simp
          · exact h5
        have run := run_append_any (P := P) (w := w) (ty := ty) (cap := cap) (cap' := capB) hu g1 g3 (us := us) (vs := vs) (n := es.length) (m := news.length) (by rw [g4]; exact hru.1) (by rw [g4]; exact hrv.1) hA hB hncap (by omega) (by rw [g7]; exact hby)
        have hid0 := hr.fresh id hid
        have hll : (es ++ news).length = es.length + news.length := List.length_append
        have e1 : (fun c => if c = id then some (Blk.grow (es ++ news) te.sz) else if (some g : Option Nat) = some c then none else h c) = fun b => upAt b (h b) [(g, none), (id, some (.grow (es ++ news) te.sz))] := by
          funext b; simp only [upAt, List.foldl_cons, List.foldl_nil, Option.some.injEq]
          by_cases hbi : b = id
          · subst hbi; simp
          · have : ¬ id = b := fun h => hbi h.symm
            simp [hbi, this]
        by_cases hroom : es.length + news.length ≤ cap
        · have r1 := run.1 hroom
          rcases h4 with ⟨rfl, rfl⟩ | ⟨k, hpos, rfl, h5, h6, h7, h8⟩
          · -- nothing, and nothing appended
            have hnews0 : news = [] := List.eq_nil_of_length_eq_zero (by simpa using hroom)
            subst hnews0
            have hvs0 : vs = [] := List.eq_nil_of_length_eq_zero (by simpa using hrv.1)
            subst hvs0
            have := hr.put (b0 := some g) hid w (.slice A 0 0) (.grow ([] ++ []) te.sz) (fun k hk => by cases A <;> simp [locBlk] at hk) (Nat.le_refl _) (fun _ _ _ => rfl) rfl rfl rfl ⟨A, 0, e', [], by simp [mset], fun i hi => by simp at hi, Nat.zero_le _, .inl ⟨rfl, rfl⟩⟩
            refine ⟨.slice A 0 0, w, I, mset mu id (.slice A 0 0), ?_, this.2, by rw [← e1]; exact this.1, .gref id 0 A 0 (by simp [mset])⟩
            · simp only [List.length_nil] at r1 ⊢
              rw [r1]
              cases A <;> simp [storeCells]
          · -- in place
            have hloc : locBlk (.slice (some ⟨k, 0, none⟩) es.length cap) = some k := by simp [locBlk]; omega
            have hlg := hr.loc g _ _ k hg h1 hloc
            have hmul : (es.length + news.length) * te.sz ≤ cap * te.sz := Nat.mul_le_mul_right _ hroom
            rw [Nat.add_mul] at hmul
            have hone : ∀ u ∈ vs, u.oneCell' = true := by
              intro u hu
              obtain ⟨m, hm, rfl⟩ := List.mem_iff_getElem.1 hu
              have hm' : m < news.length * te.sz := by rw [← hrv.1]; exact hm
              have q1 : m / te.sz < news.length := (Nat.div_lt_iff_lt_mul hsz).2 hm'
              have q2 : m % te.sz < te.sz := Nat.mod_lt _ hsz
              have q3 := hrv.2.2 _ _ q1 q2
              have q4 : m / te.sz * te.sz + m % te.sz = m := by rw [Nat.mul_comm]; exact Nat.div_add_mod m te.sz
              rw [q4] at q3
              have q5 : nv vs m = vs[m] := by simp [nv, List.getD_eq_getElem?_getD, hm]
              rw [q5] at q3
              refine q3.one ?_
              have q6 : nr news (m / te.sz) = news[m / te.sz] := by simp [nr, List.getD_eq_getElem?_getD, q1]
              have q7 := hnw _ (List.getElem_mem q1)
              rw [q6]
              have q8 : nd news[m / te.sz] (m % te.sz) = news[m / te.sz][m % te.sz]'(by omega) := by simp [nd, List.getD_eq_getElem?_getD, show m % te.sz < news[m / te.sz].length by omega]
              rw [q8]
              exact hnone _ (List.getElem_mem q1) _ (List.getElem_mem _)
            obtain ⟨w', hrun, hheap, hwrote⟩ := run_storeCells (P := P) (T := T) vs 0 (es.length * te.sz) us0 w h5 (by rw [hrv.1]; omega) hone
            simp only [Nat.add_zero] at hheap
            have hm := mset_ext (v := .slice (some ⟨k, 0, none⟩) (es.length + news.length) cap) hid0
            have hIw : ∀ j, I j → w'.heap[j]? = w.heap[j]? := fun j hj => hwrote.other j (by rintro rfl; exact hlg.2.1 hj)
            have hsplit : setL us0 (es.length * te.sz) vs = (us0.take (es.length * te.sz) ++ vs) ++ us0.drop (es.length * te.sz + vs.length) := by simp [setL]
            have hrows0 : RowsRep w I mu es te.sz (us0.take (es.length * te.sz)) := by
              refine ⟨by simp; omega, h2, fun i j hi hj => ?_⟩
              have hlt : i * te.sz + j < es.length * te.sz := by
                have : i * te.sz + te.sz ≤ es.length * te.sz := by rw [← Nat.succ_mul]; exact Nat.mul_le_mul_right _ hi
                omega
              have : nv (us0.take (es.length * te.sz)) (i * te.sz + j) = nv us0 (i * te.sz + j) := by simp only [nv, List.getD_eq_getElem?_getD]; rw [List.getElem?_take_of_lt hlt]
              rw [this]; exact h8 i j hi hj
            have := hr.put (b0 := some g) hid w' (.slice (some ⟨k, 0, none⟩) (es.length + news.length) cap) (.grow (es ++ news) te.sz) (fun j hj => by
                simp only [locBlk] at hj
                rw [if_neg (by omega)] at hj
                cases hj
                exact .inr ⟨g, _, _, rfl, hg, h1, hloc⟩) (by rw [hwrote.size]; exact Nat.le_refl _) (fun j _ hj => hwrote.other j (fun hjk => hj g _ _ rfl hg h1 (by rw [hjk]; exact hloc))) hwrote.os hwrote.tape hwrote.output
              (grow_new (A := none) (T := T) (k := k) (cap := cap) (us := us0.take (es.length * te.sz) ++ vs) (vs := us0.drop (es.length * te.sz + vs.length)) (by simp [mset, hll]) hpos h3 (by omega) (by rw [← hsplit]; exact hheap) (by
                  have := hrv.1
                  simp only [List.length_append, List.length_take, List.length_drop]; omega)
                ((hrows0.append hrv).mono ⟨fun _ h => h, hm, hIw⟩))
            refine ⟨.slice (some ⟨k, 0, none⟩) (es.length + news.length) cap, w', I, _, ?_, this.2, by rw [← e1]; exact this.1, .gref id _ _ cap (by simp [mset])⟩
            have r2 := r1
            simp only [addr_add, Nat.zero_add, g4] at r2
            show (Builtin.append_ #[t, t] ty #[_, _]).run P w = _
            rw [r2, hrun]; rfl
        · have r1 := run.2 (by omega)
          generalize hcg : grownCap w (es.length + news.length) cap e' = gc at r1
          have hge : es.length + news.length ≤ gc := by rw [← hcg]; exact grownCap_ge w _ _ _
          have hgm : gc ≤ maxLen := by rw [← hcg]; exact grownCap_le_maxLen w _ _ _ (by simp only [maxLen]; omega)
          have hcells : (us ++ vs).toArray ++ Builtin.zeroCells z.cells (gc - (es.length + news.length)) = ((us ++ vs) ++ (Builtin.zeroCells z.cells (gc - (es.length + news.length))).toList).toArray := by
            apply Array.ext'; simp
          have r2 : (Builtin.append_ #[t, t] ty #[.slice A es.length cap, .slice B news.length capB]).run P w = .ok (.slice (some ⟨w.heap.size, 0, none⟩) (es.length + news.length) gc) (w.drew.alloc (.cells ((us ++ vs) ++ (Builtin.zeroCells z.cells (gc - (es.length + news.length))).toList).toArray e')) := by
            rw [← hcells, ← List.append_toArray us vs]; exact r1
          generalize hw' : w.drew.alloc (.cells ((us ++ vs) ++ (Builtin.zeroCells z.cells (gc - (es.length + news.length))).toList).toArray e') = w' at r2
          have hsame : ∀ j, j < w.heap.size → w'.heap[j]? = w.heap[j]? := fun j hj => by rw [← hw']; exact heap_alloc_lt w.drew _ hj
          have hws : w'.heap.size = w.heap.size + 1 := by rw [← hw']; simp
          have hm := mset_ext (v := .slice (some ⟨w.heap.size, 0, none⟩) (es.length + news.length) gc) hid0
          have := hr.put (b0 := some g) hid w' (.slice (some ⟨w.heap.size, 0, none⟩) (es.length + news.length) gc) (.grow (es ++ news) te.sz) (fun k hk => by
              simp only [locBlk] at hk
              rw [if_neg (by omega)] at hk
              cases hk; exact .inl ⟨Nat.le_refl _, by omega⟩) (by omega) (fun j hj _ => hsame j hj) (by rw [← hw']; rfl) (by rw [← hw']; rfl) (by rw [← hw']; rfl)
            (grow_new (A := none) (us := us ++ vs) (T := e') (k := w.heap.size) (cap := gc) (by simp [mset, hll]) (by omega) hgm (by omega) (by rw [← hw']; exact heap_alloc_new w.drew _) (by
                have q3 : (Builtin.zeroCells z.cells (gc - (es.length + news.length))).toList.length = (gc - (es.length + news.length)) * te.sz := by rw [Array.length_toList, size_zeroCells, hzs, hzl]
                rw [List.length_append, hru.1, hrv.1, q3, ← Nat.add_mul, ← Nat.add_mul]
                exact congrArg (· * te.sz) (by omega))
              ((hru.append hrv).mono ⟨fun _ h => h, hm, fun k hk => hsame k (hr.lt k hk)⟩))
          exact ⟨_, w', I, _, r2, this.2, by rw [← e1]; exact this.1, .gref id _ _ gc (by simp [mset])⟩
      · cases he
    · cases he

end
end Go.Ab
/- The abstract layer, part 12: the evaluator of regions. -/
namespace Go.Ab
open Go.RowKit

def nilE : D → Res
  | .ptr cs off => pv (.ptr cs off)
  | .ref b i off sz => pv (.ref b i off sz)
  | .func (.func f) fs cs => pv (.func (.func f) fs cs)
  | _ => none

def tq (P : Program) (t : TypeId) (k : TI → Res) : Res :=
  match tiOf P t with
  | some ti => k ti
  | none => none
def elemQ (P : Program) (t : TypeId) (k : TI → TI → Res) : Res := tq P t fun ti => match ti.sh with
  | .slice e => tq P e fun te => k ti te
  | _ => none
theorem tq_spec {P : Program} {t : TypeId} {k : TI → Res} {e : Eff} {c : Prop} (h : tq P t k = some (e, c)) : ∃ ti, tiOf P t = some ti ∧ k ti = some (e, c) := by
  unfold tq at h
  split at h
  · rename_i ti ht; exact ⟨ti, ht, h⟩
  · cases h
theorem elemQ_spec {P : Program} {t : TypeId} {k : TI → TI → Res} {e : Eff} {c : Prop} (h : elemQ P t k = some (e, c)) : ∃ ti te e', tiOf P t = some ti ∧ ti.sh = .slice e' ∧ tiOf P e' = some te ∧ k ti te = some (e, c) := by
  obtain ⟨ti, h1, h2⟩ := tq_spec h
  split at h2
  · rename_i e' hs
    obtain ⟨te, h3, h4⟩ := tq_spec h2
    exact ⟨ti, te, e', h1, hs, h3, h4⟩
  · cases h2

def callE (P : Program) (id : Nat) (ev : Operand → D) (hp : Nat → Option Blk) (b : Builtin) (args : List Operand) (ts : List TypeId) : Res :=
  match b, args, ts with
  | .len, [x], [t] => tq P t fun ti => lenE hp ti (ev x)
  | .min, [x, y], _ => minE (ev x) (ev y)
  | .max, [x, y], _ => maxE (ev x) (ev y)
  | .append, [x, y], [t, t'] => if t = t' then elemQ P t fun _ te => appendE id hp te (ev x) (ev y) else none
  | _, _, _ => none

def stepE (P : Program) (id : Nat) (ev : Operand → D) (hp : Nat → Option Blk) (op : Op) : Res :=
  match op with
  | .move x => pv (ev x)
  | .assign x => pv (ev x)
  | .alloc t => tq P t fun ti => allocE id ti
  | .box _ x => boxE id (ev x)
  | .build t ps => tq P t fun ti => buildE ti (ps.toList.map fun p => (p.1, ev p.2))
  | .buildSlice t n ps => elemQ P t fun _ te => buildSE id te n (ps.toList.map fun p => (p.1, ev p.2))
  | .load t a => tq P t fun ti => loadE ti hp (ev a)
  | .store t a x => tq P t fun ti => storeE ti hp (ev a) (ev x)
  | .nilCheck x => nilE (ev x)
  | .binOp op T x y _ => binX P op T (ev x) y (ev y)
  | .unOp op _ x => unE op (ev x)
  | .convert s d x => tq P s fun ts => tq P d fun td => convE ts td (ev x)
  | .field t x i => tq P t fun ti => fieldE ti i (ev x)
  | .fieldAddr t x i => tq P t fun ti => fieldAddrE ti i (ev x)
  | .indexAddr t x i => elemQ P t fun _ te => indexAddrE ti0 te (ev x) (ev i)
  | .index t x i => tq P t fun ti => indexE ti (ev x) (ev i)
  | .slice t x lo hi none => tq P t fun ti => match ti.sh with
    | .str => sliceE ti ti (ev x) (lo.map ev) (hi.map ev)
    | .slice e => tq P e fun te => sliceE ti te (ev x) (lo.map ev) (hi.map ev)
    | _ => none
  | .extract x i => extractE i (ev x)
  | .makeSlice t l c => elemQ P t fun _ te => makeE id te (ev l) (ev c)
  | .makeFunc fn fs cs => pv (.func fn (fs.toList.map ev) (cs.toList.map ev))
  | .makeInterface t x => pvc (.iface t (ev x)) (P.concrete t = true)
  | .call c => match c.callee with
    | .builtin b => callE P id ev hp b c.args.toList c.argTypes.toList
    | _ => none
  | _ => none
where ti0 : TI := ⟨0, false, [], 0, .other⟩

theorem run_v {P : Program} (s : Sem Value) (w : World) : (do pure (Next.value (← s)) : Sem Next).run P w = (s.run P w).andThen fun v w' => .ok (.value v) w' := by simp
theorem run_u {P : Program} (s : Sem Unit) (w : World) : (do s; pure Next.skip : Sem Next).run P w = (s.run P w).andThen fun _ w' => .ok .skip w' := by simp

section
variable {P : Program} {id : Nat} {ev : Operand → D} {hp : Nat → Option Blk} {dst : Option Tmp} {T : TypeId} {pos : String} {af : Array Edge} {gd : Option (Nat × Bool)} {e : Eff} {c : Prop}

theorem pairs_rep {w : World} {I : Nat → Prop} {mu : Nat → Option Value} {ps : Array (Nat × Operand)} {a : Act} (hx : ∀ x, x ∈ (ps.toList.map (·.2)).toArray → Rep w I mu (ev x) (a.eval x)) :
    (ps.toList.map fun p => (p.1, a.eval p.2)).length = (ps.toList.map fun p => (p.1, ev p.2)).length ∧
    ∀ (i : Nat) (p : Nat × D) (q : Nat × Value), (ps.toList.map fun p => (p.1, ev p.2))[i]? = some p → (ps.toList.map fun p => (p.1, a.eval p.2))[i]? = some q → p.1 = q.1 ∧ Rep w I mu p.2 q.2 := by
  refine ⟨by simp, fun i p q hp hq => ?_⟩
  simp only [List.getElem?_map, Option.map_eq_some_iff] at hp hq
  obtain ⟨x, hx1, rfl⟩ := hp
  obtain ⟨y, hy1, rfl⟩ := hq
  rw [hx1] at hy1
  cases hy1
  have hm := List.mem_of_getElem? hx1
  exact ⟨rfl, hx x.2 (by simp; exact ⟨x.1, by simpa using hm⟩)⟩

theorem call_does {b : Builtin} {args : Array Operand} {ts : Array TypeId} (he : callE P id ev hp b args.toList ts.toList = some (e, c)) (hc : c) : Does P ⟨dst, .call { callee := .builtin b, args := args, argTypes := ts }, T, pos, af, gd⟩ id ev hp e := by
  have hops : ∀ x, x ∈ args.toList → x ∈ (Op.call { callee := .builtin b, args := args, argTypes := ts }).operands := fun x hx => by simpa [Op.operands, Call.operands] using hx
  have hex : ∀ (a : Act) (w : World) (F : Array Value → Sem Value), (∀ cs, builtin b ts T cs (args.map a.eval) = do pure (.value (← F (args.map a.eval)))) →
      (execOp a.eval ⟨dst, .call { callee := .builtin b, args := args, argTypes := ts }, T, pos, af, gd⟩).run P w = ((F (args.map a.eval)).run P w).andThen fun v w' => .ok (.value v) w' := by
    intro a w F hF
    simp only [execOp, resolve, Sem.run_bind, Sem.run_pure, Result.andThen, invoke]
    rw [hF]
    exact run_v _ w
  unfold callE at he
  split at he
  · rename_i x t ha hts
    obtain ⟨ti, ht, he⟩ := tq_spec he
    refine Does.of_runs (fun ρ => Builtin.len_ ts T (args.map ρ)) (fun a w => hex a w (fun vs => Builtin.len_ ts T vs) fun _ => rfl) ?_
    intro w0 M0 I0 fr I mu h a w hw _ hx hb
    have e1 : args.map a.eval = #[a.eval x] := by apply Array.ext'; simp [ha]
    have e2 : ts = #[t] := by apply Array.ext'; simpa using hts
    rw [e1, e2]
    exact runs_len ht he hc hw (hx x (hops x (by simp [ha]))) hb id
  · rename_i x y ha
    refine Does.of_runs (fun ρ => Builtin.min_ ts T (args.map ρ)) (fun a w => hex a w (fun vs => Builtin.min_ ts T vs) fun _ => rfl) ?_
    intro w0 M0 I0 fr I mu h a w hw _ hx hb
    have e1 : args.map a.eval = #[a.eval x, a.eval y] := by apply Array.ext'; simp [ha]
    rw [e1]
    exact runs_min he hw (hx x (hops x (by simp [ha]))) (hx y (hops y (by simp [ha]))) id
  · rename_i x y ha
    refine Does.of_runs (fun ρ => Builtin.max_ ts T (args.map ρ)) (fun a w => hex a w (fun vs => Builtin.max_ ts T vs) fun _ => rfl) ?_
    intro w0 M0 I0 fr I mu h a w hw _ hx hb
    have e1 : args.map a.eval = #[a.eval x, a.eval y] := by apply Array.ext'; simp [ha]
    rw [e1]
    exact runs_max he hw (hx x (hops x (by simp [ha]))) (hx y (hops y (by simp [ha]))) id
  · rename_i x y t t' ha hts
    split at he
    · rename_i htt
      subst htt
      obtain ⟨ti, te, e', ht, hs, hte, he⟩ := elemQ_spec he
      refine Does.of_runs (fun ρ => Builtin.append_ ts T (args.map ρ)) (fun a w => hex a w (fun vs => Builtin.append_ ts T vs) fun _ => rfl) ?_
      intro w0 M0 I0 fr I mu h a w hw hid hx hb
      have e1 : args.map a.eval = #[a.eval x, a.eval y] := by apply Array.ext'; simp [ha]
      have e2 : ts = #[t, t] := by apply Array.ext'; simpa using hts
      rw [e1, e2]
      exact runs_append ht hs hte he hc hw hid (hx x (hops x (by simp [ha]))) (hx y (hops y (by simp [ha]))) hb
    · cases he
  · cases he

theorem optRep_map {w : World} {I : Nat → Prop} {mu : Nat → Option Value} {o : Option Operand} {a : Act} (h : ∀ x, o = some x → Rep w I mu (ev x) (a.eval x)) : OptRep w I mu (o.map ev) (o.map a.eval) := by
  cases o with
  | none => trivial
  | some x => exact h x rfl

theorem stepE_does {op : Op} (he : stepE P id ev hp op = some (e, c)) (hc : c) : Does P ⟨dst, op, T, pos, af, gd⟩ id ev hp e := by
  cases op <;> simp only [stepE] at he <;> try (cases he; done)
  case move x => simp only [pv, Option.some.injEq, Prod.mk.injEq] at he; obtain ⟨rfl, rfl⟩ := he; exact does_move x
  case assign x => simp only [pv, Option.some.injEq, Prod.mk.injEq] at he; obtain ⟨rfl, rfl⟩ := he; exact does_assign x
  case alloc t =>
    obtain ⟨ti, ht, he⟩ := tq_spec he
    exact Does.of_runs (fun _ => Instr.alloc t true (.tuple #[])) (fun a w => run_v _ w) fun w0 M0 I0 fr I mu h a w hw hid hx hb => runs_alloc ht he hc hw hid
  case box t x =>
    exact Does.of_runs (fun ρ => Instr.box t (ρ x)) (fun a w => run_v _ w) fun w0 M0 I0 fr I mu h a w hw hid hx hb => runs_box he hw hid (hx x (by simp [Op.operands]))
  case build t ps =>
    obtain ⟨ti, ht, he⟩ := tq_spec he
    refine Does.of_runs (fun ρ => Instr.build t (ps.toList.map fun p => (p.1, ρ p.2)).toArray) (fun a w => ?_) fun w0 M0 I0 fr I mu h a w hw hid hx hb => ?_
    · have : (ps.map fun (i, x) => (i, a.eval x)) = (ps.toList.map fun p => (p.1, a.eval p.2)).toArray := by apply Array.ext'; simp
      simp only [execOp]
      rw [this]
      exact run_v _ w
    · have := pairs_rep (ev := ev) (ps := ps) (a := a) (fun x hx' => hx x (by simpa [Op.operands] using hx'))
      exact runs_build ht he hc hw _ this.1 this.2 id
  case buildSlice t n ps =>
    obtain ⟨ti, te, e', ht, hs, hte, he⟩ := elemQ_spec he
    refine Does.of_runs (fun ρ => Instr.buildSlice t n (ps.toList.map fun p => (p.1, ρ p.2)).toArray) (fun a w => ?_) fun w0 M0 I0 fr I mu h a w hw hid hx hb => ?_
    · have : (ps.map fun (i, x) => (i, a.eval x)) = (ps.toList.map fun p => (p.1, a.eval p.2)).toArray := by apply Array.ext'; simp
      simp only [execOp]
      rw [this]
      exact run_v _ w
    · have := pairs_rep (ev := ev) (ps := ps) (a := a) (fun x hx' => hx x (by simpa [Op.operands] using hx'))
      exact runs_buildS ht hs hte he hc hw hid _ this.1 this.2
  case load t x =>
    obtain ⟨ti, ht, he⟩ := tq_spec he
    exact Does.of_runs (fun ρ => Instr.loadAt t (ρ x)) (fun a w => run_v _ w) fun w0 M0 I0 fr I mu h a w hw hid hx hb => runs_load ht he hc hw (hx x (by simp [Op.operands])) hb id
  case store t x y =>
    obtain ⟨ti, ht, he⟩ := tq_spec he
    have hd : e.d = .any := by
      unfold storeE at he
      split at he
      · split at he
        · split at he
          · simp only [Option.some.injEq, Prod.mk.injEq] at he; obtain ⟨rfl, _⟩ := he; rfl
          · cases he
        · cases he
      · cases he
    have he' : e = ⟨.any, e.up, e.rd⟩ := by cases e; simp at hd; simp [hd]
    rw [he']
    exact Does.of_runs_u (fun ρ => Instr.storeAt t (ρ x) (ρ y)) (fun a w => run_u _ w) fun w0 M0 I0 fr I mu h a w hw hid hx hb => (runs_store ht he hc hw (hx x (by simp [Op.operands])) (hx y (by simp [Op.operands])) hb id).2
  case nilCheck x =>
    unfold nilE at he
    split at he <;> first | (cases he; done) | skip
    all_goals
      rename_i hd
      simp only [pv, Option.some.injEq, Prod.mk.injEq] at he
      obtain ⟨rfl, rfl⟩ := he
      refine Does.quiet fun _ _ _ _ I mu _ a w _ hx _ => ⟨a.eval x, ?_, ?_⟩
      · have hx' := hx x (by simp [Op.operands])
        rw [hd] at hx'
        simp only [execOp]
        generalize a.eval x = v at hx' ⊢
        cases hx' <;> rfl
      · have hx' := hx x (by simp [Op.operands])
        rw [hd] at hx'
        exact hx'
  case binOp op t x y t' =>
    unfold binX at he
    split at he
    · exact Does.of_runs (fun ρ => do eqGuard op t x (.const (.slice none 0 0)) (ρ x) (.slice none 0 0); binOp op t (ρ x) (.slice none 0 0)) (fun a w => run_v _ w) fun w0 M0 I0 fr I mu h a w hw hid hx hb => runs_nilS he hw (hx x (by simp [Op.operands])) id
    · exact Does.of_runs (fun ρ => do eqGuard op t x y (ρ x) (ρ y); binOp op t (ρ x) (ρ y)) (fun a w => run_v _ w) fun w0 M0 I0 fr I mu h a w hw hid hx hb => runs_bin he hc hw (hx x (by simp [Op.operands])) (hx y (by simp [Op.operands])) id
  case unOp op t x =>
    exact Does.of_runs (fun ρ => Op.unary op (ρ x)) (fun a w => run_v _ w) fun w0 M0 I0 fr I mu h a w hw hid hx hb => runs_un he hw (hx x (by simp [Op.operands])) id
  case convert s d x =>
    obtain ⟨ts, hts, he⟩ := tq_spec he
    obtain ⟨td, htd, he⟩ := tq_spec he
    exact Does.of_runs (fun ρ => convert s d (ρ x)) (fun a w => run_v _ w) fun w0 M0 I0 fr I mu h a w hw hid hx hb => runs_conv hts htd he hw (hx x (by simp [Op.operands])) id
  case field t x i =>
    obtain ⟨ti, ht, he⟩ := tq_spec he
    exact Does.of_runs (fun ρ => Instr.field t (ρ x) i) (fun a w => run_v _ w) fun w0 M0 I0 fr I mu h a w hw hid hx hb => runs_field ht he hc hw (hx x (by simp [Op.operands])) id
  case fieldAddr t x i =>
    obtain ⟨ti, ht, he⟩ := tq_spec he
    exact Does.of_runs (fun ρ => Instr.fieldAt t (ρ x) i) (fun a w => run_v _ w) fun w0 M0 I0 fr I mu h a w hw hid hx hb => runs_fieldAddr ht he hc hw (hx x (by simp [Op.operands])) id
  case indexAddr t x i =>
    obtain ⟨ti, te, e', ht, hs, hte, he⟩ := elemQ_spec he
    exact Does.of_runs (fun ρ => Instr.indexAt t (ρ x) (ρ i)) (fun a w => run_v _ w) fun w0 M0 I0 fr I mu h a w hw hid hx hb => runs_indexAddr (ti := ti) ht hs hte he hc hw (hx x (by simp [Op.operands])) (hx i (by simp [Op.operands])) id
  case index t x i =>
    obtain ⟨ti, ht, he⟩ := tq_spec he
    exact Does.of_runs (fun ρ => Instr.index t (ρ x) (ρ i)) (fun a w => run_v _ w) fun w0 M0 I0 fr I mu h a w hw hid hx hb => runs_index ht he hc hw (hx x (by simp [Op.operands])) (hx i (by simp [Op.operands])) id
  case slice t x lo hi mx =>
    cases mx with
    | some m => cases he
    | none =>
      simp only at he
      obtain ⟨ti, ht, he⟩ := tq_spec he
      refine Does.of_runs (fun ρ => Instr.sliceAt t (ρ x) (lo.map ρ) (hi.map ρ) none) (fun a w => run_v _ w) fun w0 M0 I0 fr I mu h a w hw hid hx hb => ?_
      have hlo : OptRep w I mu (lo.map ev) (lo.map a.eval) := optRep_map fun y hy => hx y (by simp [Op.operands, hy])
      have hhi : OptRep w I mu (hi.map ev) (hi.map a.eval) := optRep_map fun y hy => hx y (by simp [Op.operands, hy])
      split at he
      · rename_i hsh
        exact runs_slice (e' := 0) ht (.inl ⟨_, rfl, hsh⟩) he hc hw (hx x (by simp [Op.operands])) hlo hhi id
      · rename_i e' hsh
        obtain ⟨te, hte, he⟩ := tq_spec he
        exact runs_slice ht (.inr ⟨hsh, hte⟩) he hc hw (hx x (by simp [Op.operands])) hlo hhi id
      · cases he
  case extract x i =>
    exact Does.of_runs (fun ρ => Instr.extract (ρ x) i) (fun a w => run_v _ w) fun w0 M0 I0 fr I mu h a w hw hid hx hb => runs_extract he hc hw (hx x (by simp [Op.operands])) id
  case makeSlice t l n =>
    obtain ⟨ti, te, e', ht, hs, hte, he⟩ := elemQ_spec he
    exact Does.of_runs (fun ρ => Instr.makeSlice t (ρ l) (ρ n)) (fun a w => run_v _ w) fun w0 M0 I0 fr I mu h a w hw hid hx hb => runs_make ht hs hte he hc hw hid (hx l (by simp [Op.operands])) (hx n (by simp [Op.operands]))
  case makeFunc fn fs cs =>
    simp only [pv, Option.some.injEq, Prod.mk.injEq] at he
    obtain ⟨rfl, rfl⟩ := he
    refine Does.quiet fun _ _ _ _ I mu _ a w _ hx _ => ⟨.func fn (fs.map a.eval) (cs.map a.eval), by simp [execOp, Instr.makeFunc], ?_⟩
    have e1 : fs.map a.eval = (fs.toList.map a.eval).toArray := by apply Array.ext'; simp
    have e2 : cs.map a.eval = (cs.toList.map a.eval).toArray := by apply Array.ext'; simp
    rw [e1, e2]
    refine .func fn _ _ _ _ (by simp) (by simp) (fun i hi => ?_) fun i hi => ?_
    · simp only [List.length_map, Array.length_toList] at hi
      have h1 : nd (fs.toList.map ev) i = ev fs[i] := by simp [nd, List.getD_eq_getElem?_getD, hi]
      have h2 : nv (fs.toList.map a.eval) i = a.eval fs[i] := by simp [nv, List.getD_eq_getElem?_getD, hi]
      rw [h1, h2]; exact hx _ (by simp [Op.operands])
    · simp only [List.length_map, Array.length_toList] at hi
      have h1 : nd (cs.toList.map ev) i = ev cs[i] := by simp [nd, List.getD_eq_getElem?_getD, hi]
      have h2 : nv (cs.toList.map a.eval) i = a.eval cs[i] := by simp [nv, List.getD_eq_getElem?_getD, hi]
      rw [h1, h2]; exact hx _ (by simp [Op.operands])
  case makeInterface t x =>
    simp only [pvc, Option.some.injEq, Prod.mk.injEq] at he
    obtain ⟨rfl, rfl⟩ := he
    exact Does.quiet fun _ _ _ _ I mu _ a w _ hx _ => ⟨.iface t (a.eval x), by simp [execOp, run_makeInterface w t (a.eval x) hc], .iface t _ _ (hx x (by simp [Op.operands]))⟩
  case call k =>
    obtain ⟨callee, args, ts⟩ := k
    cases callee with
    | builtin b => exact call_does he hc
    | _ => cases he
end
end Go.Ab
/- The abstract layer, part 13: running a region by the evaluator; functions and calls. -/
namespace Go.Ab
open Go.RowKit

/-! one operation -/
def pickL (P : Program) (env : Nat → D) (c x y : Operand) : Res :=
  match evO P env c with
  | .val (.bool true) => pv (evO P env x)
  | .val (.bool false) => pv (evO P env y)
  | _ => none
def rawE (P : Program) (id : Nat) (env : Nat → D) (hp : Nat → Option Blk) (op : Op) : Res :=
  match op with
  | .pick c x y => pickL P env c x y
  | op => stepE P id (evO P env) hp op
def guardT (ops : Array Oper) (j : Nat) : Option Nat := (ops[j]?).bind (·.dst)
section
variable {P : Program} {ops : Array Oper} {id : Nat} {s0 : FSt} {e : Eff} {c : Prop}

theorem rawE_does {env : Nat → D} {hp : Nat → Option Blk} {dst : Option Tmp} {op : Op} {T : TypeId} {pos : String} {af : Array Edge} {gd : Option (Nat × Bool)} (he : rawE P id env hp op = some (e, c)) (hc : c) : Does P ⟨dst, op, T, pos, af, gd⟩ id (evO P env) hp e := by
  unfold rawE at he
  split at he
  · rename_i x y z
    unfold pickL at he
    split at he
    · rename_i hx
      simp only [pv, Option.some.injEq, Prod.mk.injEq] at he; obtain ⟨rfl, rfl⟩ := he
      have := does_pick_lit (P := P) (id := id) (hp := hp) (dst := dst) (T := T) (pos := pos) (af := af) (gd := gd) x y z true hx
      simpa using this
    · rename_i hx
      simp only [pv, Option.some.injEq, Prod.mk.injEq] at he; obtain ⟨rfl, rfl⟩ := he
      have := does_pick_lit (P := P) (id := id) (hp := hp) (dst := dst) (T := T) (pos := pos) (af := af) (gd := gd) x y z false hx
      simpa using this
    · cases he
  · exact stepE_does he hc

end

/-- To run on, in a state that says the same. -/
def RunX (P : Program) (ops : Array Oper) (nx : Nat) (l : List Oper) (pos : Nat) (acc : List Eff) (s : St) (K : List Eff → St → Prop) : Prop := Run P ops nx l pos acc s (fun E s => ∃ s', s'.fs = s.fs ∧ K E s')
/-- Both ways, or the one that is known. -/
def bsplit (b : Bool) (x y : Prop) : Prop := (b = true → x) ∧ (b = false → y)
/-- What a guard tells: go, skip, or both with what is known then. -/
def gsplit (ops : Array Oper) (g : Option (Nat × Bool)) (s : St) (go skip : St → Prop) (stuck : Prop) : Prop :=
  match g with
  | none => go s
  | some (j, want) => match guardT ops j with
    | none => stuck
    | some t => match s.env.get t with
      | .val (.bool b) => bsplit b (bif want then go ⟨(t, .val (.bool true)) :: s.env, s.hp, s.nx⟩ else skip ⟨(t, .val (.bool true)) :: s.env, s.hp, s.nx⟩) (bif want then skip ⟨(t, .val (.bool false)) :: s.env, s.hp, s.nx⟩ else go ⟨(t, .val (.bool false)) :: s.env, s.hp, s.nx⟩)
      | _ => stuck
/-- The evaluator goes on as far as it can; what it takes for granted stands ahead. -/
def Go (P : Program) (ops : Array Oper) (nx : Nat) : List Oper → Nat → List Eff → St → (List Eff → St → Prop) → Prop
  | [], _, acc, s, K => K acc.reverse s
  | o :: r, pos, acc, s, K => gsplit ops o.guard s
      (fun s => match rawE P (nx + 4 * pos) s.env.get (look s.hp) o.op with
        | some (e, c) => c ∧ Go P ops nx r (pos + 1) (e :: acc) (s.app o.dst e) K
        | none => RunX P ops nx (o :: r) pos acc s K)
      (fun s => Go P ops nx r (pos + 1) (⟨.any, [], []⟩ :: acc) (s.app o.dst ⟨.any, [], []⟩) K)
      (RunX P ops nx (o :: r) pos acc s K)

theorem FSt.app_eq {s s' : St} (h : s'.fs = s.fs) (dst : Option Nat) (e : Eff) : (s'.app dst e).fs = (s.app dst e).fs := by
  rw [St.app_fs, St.app_fs, h]
theorem Run.same {P : Program} {ops : Array Oper} {nx : Nat} {K : List Eff → St → Prop} : ∀ {l : List Oper} {pos : Nat} {acc : List Eff} {s s' : St}, s'.fs = s.fs → RunX P ops nx l pos acc s' K → RunX P ops nx l pos acc s K
  | [], _, _, _, _, h, ⟨s'', h1, h2⟩ => ⟨s'', h1.trans h, h2⟩
  | o :: _, _, _, _, _, h, ⟨e, h1, h2⟩ => ⟨e, h ▸ h1, Run.same (FSt.app_eq h o.dst e) h2⟩
theorem push_same {s : St} {t : Nat} {d : D} (h : s.env.get t = d) : (⟨(t, d) :: s.env, s.hp, s.nx⟩ : St).fs = s.fs := by
  unfold St.fs
  congr 1
  funext u
  simp only [Env.get]
  by_cases hu : t = u
  · subst hu; simp [h]
  · have : (t == u) = false := by simp [hu]
    simp [this]
/-- What a guard decides. -/
theorem gsplit_spec {ops : Array Oper} {o : Oper} {s : St} {go skip : St → Prop} {stuck : Prop} (h : gsplit ops o.guard s go skip stuck) :
    stuck ∨ (∃ s', s'.fs = s.fs ∧ (o.guard = none ∨ ∃ j want t, o.guard = some (j, want) ∧ guardT ops j = some t ∧ gOf (s'.env.get t) want = some true) ∧ go s') ∨
    (∃ s', s'.fs = s.fs ∧ (∃ j want t, o.guard = some (j, want) ∧ guardT ops j = some t ∧ gOf (s'.env.get t) want = some false) ∧ skip s') := by
  unfold gsplit at h
  split at h
  · rename_i hg
    exact .inr (.inl ⟨s, rfl, .inl hg, h⟩)
  · rename_i j want hg
    split at h
    · exact .inl h
    · rename_i t ht
      split at h
      · rename_i b hb
        cases want <;> cases b
        · exact .inr (.inl ⟨_, push_same hb, .inr ⟨j, _, t, hg, ht, by simp [Env.get, gOf]⟩, h.2 rfl⟩)
        · exact .inr (.inr ⟨_, push_same hb, ⟨j, _, t, hg, ht, by simp [Env.get, gOf]⟩, h.1 rfl⟩)
        · exact .inr (.inr ⟨_, push_same hb, ⟨j, _, t, hg, ht, by simp [Env.get, gOf]⟩, h.2 rfl⟩)
        · exact .inr (.inl ⟨_, push_same hb, .inr ⟨j, _, t, hg, ht, by simp [Env.get, gOf]⟩, h.1 rfl⟩)
      · exact .inl h
theorem Go.run {P : Program} {ops : Array Oper} {nx : Nat} : ∀ {l : List Oper} {pos : Nat} {acc : List Eff} {s : St} {K : List Eff → St → Prop}, Go P ops nx l pos acc s K → RunX P ops nx l pos acc s K
  | [], _, _, s, _, h => ⟨s, rfl, h⟩
  | ⟨dst, op, T, ps, af, gd⟩ :: r, pos, acc, s, K, h => by
    simp only [Go] at h
    have h' := gsplit_spec (o := ⟨dst, op, T, ps, af, gd⟩) h
    rcases h' with h | ⟨s', hs, hg, h⟩ | ⟨s', hs, ⟨j, want, t, hg, ht, hf⟩, h⟩
    · exact h
    · split at h
      · rename_i e c he
        refine Run.same hs ⟨e, ?_, Go.run h.2⟩
        have hd := rawE_does (dst := dst) (T := T) (pos := ps) (af := af) (gd := gd) he h.1
        rcases hg with hg | ⟨j, want, t, hg, ht, hf⟩
        · exact Sound.plain hg hd
        · exact Sound.guard_true hg ht hf hd
      · exact Run.same hs h
    · exact Run.same hs ⟨_, Sound.guard_false hg ht hf, Go.run h⟩

/-! calls -/
def entersB (P : Program) (f : FuncId) : Bool :=
  match P.funcs[f]? with
  | some fn => !(fn.name == "runtime.NumGoroutine") && !fn.body.isNone
  | none => false

/-- Called with what represents ds, f returns what represents r, and leaves all that was there. -/
def PCall (P : Program) (f : FuncId) (ds : List D) (r : D) : Prop :=
  entersB P f = true ∧ ∀ (w : World) (I : Nat → Prop) (vs : List Value), GIn P w I → (∀ k, I k → k < w.heap.size) → vs.length = ds.length → (∀ i, i < ds.length → Rep w I (fun _ => none) (nd ds i) (nv vs i)) →
    Calls P f vs.toArray w fun e w' => ∃ v I', e = .returned v ∧ Rep w' I' (fun _ => none) r v ∧ (∀ k, I k → I' k) ∧ (∀ k, I' k → I k ∨ w.heap.size ≤ k) ∧ (∀ k, I' k → k < w'.heap.size) ∧ Below w.heap.size w w'

theorem run_callFunc {P : Program} {f : FuncId} (hf : entersB P f = true) (args : Array Value) (w : World) : (callFunc f args).run P w = .ok (.enter f args) w := by
  unfold entersB at hf
  split at hf
  · rename_i fn hfn
    simp only [Bool.and_eq_true, Bool.not_eq_true'] at hf
    simp only [callFunc, Sem.run_bind, run_program, Result.andThen, hfn, hf.1, hf.2, Bool.false_eq_true, if_false, Sem.run_pure]
  · cases hf

theorem does_call {P : Program} {id : Nat} {ev : Operand → D} {hp : Nat → Option Blk} {dst : Option Tmp} {T : TypeId} {pos : String} {af : Array Edge} {gd : Option (Nat × Bool)} {f : FuncId} {args : Array Operand} {ts : Array TypeId} {ds : List D} {r : D}
    (ha : args.toList.map ev = ds) (hpu : pureL ds = true) (hc : PCall P f ds r) : Does P ⟨dst, .call { callee := .value (.func f), args := args, argTypes := ts }, T, pos, af, gd⟩ id ev hp ⟨r, [], []⟩ := by
  intro w0 M0 I0 fr I mu h a w hga hw hid hx hb K Q hK
  subst ha
  have hargs : ∀ i, i < (args.toList.map ev).length → Rep w I (fun _ => none) (nd (args.toList.map ev) i) (nv (args.toList.map a.eval) i) := by
    intro i hi
    simp only [List.length_map, Array.length_toList] at hi
    have h1 : nd (args.toList.map ev) i = ev args[i] := by simp [nd, List.getD_eq_getElem?_getD, hi]
    have h2 : nv (args.toList.map a.eval) i = a.eval args[i] := by simp [nv, List.getD_eq_getElem?_getD, hi]
    have h3 := hx args[i] (by simp [Op.operands, Call.operands])
    have h4 := pureL_nd hpu i
    rw [h1] at h4
    rw [h1, h2]
    exact h3.unmu h4
  have hcall := hc.2 w I (args.toList.map a.eval) (hga.at hw) hw.lt (by simp) hargs
  unfold Oper.wp
  have hrun : (execOp a.eval ⟨dst, .call { callee := .value (.func f), args := args, argTypes := ts }, T, pos, af, gd⟩).run P w = .ok (.enter f (args.toList.map a.eval).toArray) w := by
    have e1 : args.map a.eval = (args.toList.map a.eval).toArray := by apply Array.ext'; simp
    simp only [execOp, resolve, Act.eval, Deferred.ofValue, Sem.run_bind, Sem.run_pure, Result.andThen, invoke]
    have e2 : #[] ++ args.map a.eval ++ #[] = (args.toList.map a.eval).toArray := by rw [e1]; simp
    exact (congrArg (fun z => (callFunc f z).run P w) e2).trans (run_callFunc hc.1 _ w)
  rw [hrun, Oper.upon_enter]
  refine hcall.mono fun e w' ⟨v, I', he, hv, h1, h2, h3, h4⟩ => ?_
  subst he
  have hbl : ∀ k, k < w.heap.size → w'.heap[k]? = w.heap[k]? := fun k hk => h4.block k hk
  have hext : Ext I mu w I' mu w' := ⟨h1, fun _ _ h => h, fun k hk => hbl k (hw.lt k hk)⟩
  refine hK v w' I' mu hext ⟨fun b x hx => (hw.blk b x hx).mono hext.w hext.i hext.m fun u k hu hk => hbl k (hw.loc b x u k hx hu hk).2.2, fun b x u k hx hu hk => ?_, hw.inj, fun b hb => hw.fresh b hb.1, h3, h4.os.trans hw.os, h4.tape.trans hw.tape, h4.output.trans hw.output, Nat.le_trans hw.grown h4.size, fun k hk hnm => (hbl k (by have := hw.grown; omega)).trans (hw.old k hk hnm), fun k hk => h1 k (hw.iold k hk), fun k hk => ?_⟩ (hv.mono (fun _ _ => rfl) (fun _ h => h) (fun _ _ h => by cases h))
  · have := hw.loc b x u k hx hu hk
    exact ⟨this.1, fun hI => by rcases h2 k hI with h5 | h5; exact this.2.1 h5; omega, Nat.lt_of_lt_of_le this.2.2 h4.size⟩
  · rcases h2 k hk with h5 | h5
    · exact hw.inew k h5
    · exact .inr (.inr (Nat.le_trans hw.grown h5))

theorem RunX.call {P : Program} {ops : Array Oper} {nx : Nat} {dst : Option Tmp} {T : TypeId} {ps : String} {af : Array Edge} {gd : Option (Nat × Bool)} {f : FuncId} {args : Array Operand} {ts : Array TypeId} {ds : List D} {r : D} {l : List Oper} {pos : Nat} {acc : List Eff} {s : St} {K : List Eff → St → Prop}
    (hc : PCall P f ds r) (hg : gd = none ∨ ∃ j want t, gd = some (j, want) ∧ guardT ops j = some t ∧ gOf (s.env.get t) want = some true) (ha : args.toList.map (evO P s.env.get) = ds) (hpu : pureL ds = true)
    (hk : Go P ops nx l (pos + 1) (⟨r, [], []⟩ :: acc) (s.app dst ⟨r, [], []⟩) K) : RunX P ops nx (⟨dst, .call { callee := .value (.func f), args := args, argTypes := ts }, T, ps, af, gd⟩ :: l) pos acc s K := by
  refine ⟨_, ?_, Go.run hk⟩
  rcases hg with rfl | ⟨j, want, t, rfl, ht, hg⟩
  · exact Sound.plain rfl (does_call ha hpu hc)
  · exact Sound.guard_true rfl ht hg (does_call ha hpu hc)
/-- A stuck operation of which more is known now. -/
theorem RunX.go {P : Program} {ops : Array Oper} {nx : Nat} {l : List Oper} {pos : Nat} {acc : List Eff} {s : St} {K : List Eff → St → Prop} (h : Go P ops nx l pos acc s K) : RunX P ops nx l pos acc s K := Go.run h

theorem RunX.out {P : Program} {ops : Array Oper} {nx : Nat} {l : List Oper} {pos : Nat} {acc : List Eff} {s : St} {K : List Eff → St → Prop} (h : RunX P ops nx l pos acc s K) : Run P ops nx l pos acc s (fun E s => ∃ s', s'.fs = s.fs ∧ K E s') := h
attribute [irreducible] RunX
/-! the end of a call: what is handed back stays as it is -/
/-- References taken for what they lead to. -/
def frz (hp : Nat → Option Blk) : Nat → D → D
  | 0, d => d
  | n + 1, .ref b i off sz => match hp b with
    | some (.rows es sz') => if sz = sz' ∧ i < es.length then .ptr ((nr es i).map (frz hp n)) off else .ref b i off sz
    | _ => .ref b i off sz
  | n + 1, .sref b i len cap sz => match hp b with
    | some (.rows es sz') => if sz = sz' ∧ i + len ≤ es.length ∧ len ≤ cap ∧ cap ≤ 9223372036854775807 then .slice (bif pureLL es then (es.drop i).take len else ((es.drop i).take len).map fun r => r.map (frz hp n)) (decide (cap = len)) else .sref b i len cap sz
    | _ => .sref b i len cap sz
  | _ + 1, .gref b len => match hp b with
    | some (.grow es _) => if len = es.length ∧ pureLL es = true then .slice es false else .gref b len
    | _ => .gref b len
  | n + 1, .agg cs => .agg (cs.map (frz hp n))
  | n + 1, .tup cs => .tup (cs.map (frz hp n))
  | n + 1, .iface t d => .iface t (frz hp n d)
  | n + 1, .func fn fs cs => .func fn (fs.map (frz hp n)) (cs.map (frz hp n))
  | _ + 1, d => d

theorem nd_map {cs : List D} {f : D → D} {i : Nat} (hi : i < cs.length) : nd (cs.map f) i = f (nd cs i) := by simp [nd, List.getD_eq_getElem?_getD, hi]

theorem Rep.frz {w0 : World} {M0 I0 fr I J : Nat → Prop} {mu : Nat → Option Value} {hp : Nat → Option Blk} {w : World} (hr : WRel w0 M0 I0 fr I mu hp w) (hIJ : ∀ k, I k → J k) (hJ : ∀ b x v k, hp b = some x → mu b = some v → locBlk v = some k → J k) :
    ∀ (n : Nat) (d : D) (v : Value), Rep w I mu d v → Rep w J mu (frz hp n d) v := by
  have mono : ∀ d v, Rep w I mu d v → Rep w J mu d v := fun d v h => h.mono (fun _ _ => rfl) hIJ (fun _ _ h => h)
  intro n
  induction n with
  | zero => intro d v h; exact mono d v h
  | succ n ih =>
    intro d v h
    cases d with
    | any => exact mono _ _ h
    | abool n pos => exact mono _ _ h
    | val x => exact mono _ _ h
    | cond g d => exact mono _ _ h
    | slice es t => exact mono _ _ h
    | ptr cs off => exact mono _ _ h
    | mref b => exact mono _ _ h
    | func fn fs cs =>
      cases h with
      | func _ _ _ us vs hl hk h1 h2 =>
      refine .func fn _ _ us vs (by simpa using hl) (by simpa using hk) (fun i hi => ?_) fun i hi => ?_
      · simp only [List.length_map] at hi
        rw [nd_map hi]; exact ih _ _ (h1 i hi)
      · simp only [List.length_map] at hi
        rw [nd_map hi]; exact ih _ _ (h2 i hi)
    | agg cs =>
      obtain ⟨us, rfl, hl, hrep⟩ := h.agg_inv
      refine .agg _ us (by simpa using hl) fun i hi => ?_
      simp only [List.length_map] at hi
      rw [nd_map hi]; exact ih _ _ (hrep i hi)
    | tup cs =>
      obtain ⟨us, rfl, hl, hrep⟩ := h.tup_inv
      refine .tup _ us (by simpa using hl) fun i hi => ?_
      simp only [List.length_map] at hi
      rw [nd_map hi]; exact ih _ _ (hrep i hi)
    | iface t d =>
      cases h with
      | iface _ _ u hu => exact .iface t _ u (ih _ _ hu)
    | ref b i off sz =>
      simp only [Go.Ab.frz]
      split
      · rename_i es sz' hx
        split
        · rename_i hcond
          obtain ⟨rfl, hi⟩ := hcond
          obtain ⟨k, T, us, h1, h2, h3, h4, h5⟩ := hr.blk b _ hx
          cases h with
          | ref _ _ _ _ k' hk =>
            rw [h1] at hk
            simp only [Option.some.injEq, Value.pointer.injEq, Addr.mk.injEq, and_true] at hk
            subst hk
            have hmul : i * sz + sz ≤ es.length * sz := by rw [← Nat.succ_mul]; exact Nat.mul_le_mul_right _ hi
            refine .ptr _ off k (i * sz) (fun j => nv us (i * sz + j)) (hJ b _ _ k hx h1 rfl) (fun j hj => ?_) fun j hj => ?_
            · simp only [List.length_map, h4 i hi] at hj
              simp only [World.cell?, h2, Option.isSome_none, nv]
              rw [if_neg (by simp)]
              simp [List.getD_eq_getElem?_getD, show i * sz + j < us.length by omega]
            · simp only [List.length_map, h4 i hi] at hj
              rw [nd_map (by rw [h4 i hi]; exact hj)]
              exact ih _ _ (h5 i j hi hj)
        · exact mono _ _ h
      · exact mono _ _ h
    | sref b i len cap sz =>
      simp only [Go.Ab.frz]
      split
      · rename_i es sz' hx
        split
        · rename_i hcond
          obtain ⟨rfl, hi, hlc, hcap⟩ := hcond
          obtain ⟨k, T, us, h1, h2, h3, h4, h5⟩ := hr.blk b _ hx
          cases h with
          | sref _ _ _ _ _ k' hk =>
            rw [h1] at hk
            simp only [Option.some.injEq, Value.pointer.injEq, Addr.mk.injEq, and_true] at hk
            subst hk
            have hlen' : ((es.drop i).take len).length = len := by simp; omega
            have hnr' : ∀ j, j < len → nr ((es.drop i).take len) j = nr es (i + j) := by
              intro j hj
              simp only [nr, List.getD_eq_getElem?_getD]
              rw [List.getElem?_take_of_lt hj, List.getElem?_drop]
            have core : ∀ L : List (List D), L.length = len → (∀ j, j < len → (nr L j).length = sz) → (∀ j l, j < len → l < sz → Rep w J mu (nd (nr L j) l) (nv us ((i + j) * sz + l))) → Rep w J mu (.slice L (decide (cap = len))) (.slice (some ⟨k, i * sz, none⟩) len cap) := by
              intro L hL hz hrep
              have : Rep w J mu (.slice L (decide (cap = len))) (.slice (some ⟨k, i * sz, none⟩) L.length cap) := by
                refine .slice L _ _ k (i * sz) sz cap (fun j l => nv us ((i + j) * sz + l)) (fun _ => ⟨rfl, hJ b _ _ k hx h1 rfl⟩) (by omega) (fun h => by rw [hL]; exact of_decide_eq_true h) (by simp only [maxLen]; omega) (fun j hj => hz j (by omega)) (fun j l hj hl => ?_) fun j l hj hl => hrep j l (by omega) hl
                have hlt : (i + j) * sz + l < us.length := by
                  rw [h3]
                  have : (i + j) * sz + sz ≤ es.length * sz := by rw [← Nat.succ_mul]; exact Nat.mul_le_mul_right _ (by omega)
                  omega
                have e : i * sz + (j * sz + l) = (i + j) * sz + l := by rw [Nat.add_mul]; omega
                rw [e]
                simp only [World.cell?, h2, Option.isSome_none, nv]
                rw [if_neg (by simp)]
                simp [List.getD_eq_getElem?_getD, hlt]
              rw [hL] at this
              exact this
            cases hpu : pureLL es with
            | true =>
              simp only [cond_true]
              exact core _ hlen' (fun j hj => by rw [hnr' j hj]; exact h4 _ (by omega)) fun j l hj hl => by rw [hnr' j hj]; exact mono _ _ (h5 (i + j) l (by omega) hl)
            | false =>
              simp only [cond_false]
              have hnm : ∀ j, j < len → nr (((es.drop i).take len).map fun r => r.map (Go.Ab.frz hp n)) j = (nr es (i + j)).map (Go.Ab.frz hp n) := by
                intro j hj
                rw [← hnr' j hj]
                simp [nr, List.getD_eq_getElem?_getD, show j < len from hj, show i + j < es.length by omega]
              refine core _ (by simp; omega) (fun j hj => by rw [hnm j hj, List.length_map]; exact h4 _ (by omega)) fun j l hj hl => ?_
              rw [hnm j hj, nd_map (by rw [h4 _ (by omega)]; exact hl)]
              exact ih _ _ (h5 (i + j) l (by omega) hl)
        · exact mono _ _ h
      · exact mono _ _ h
    | gref b len =>
      simp only [Go.Ab.frz]
      split
      · rename_i es szb hx
        split
        · rename_i hcond
          obtain ⟨rfl, hpu⟩ := hcond
          obtain ⟨A, cap, T, us, h1, h2, h3, h4⟩ := hr.blk b _ hx
          cases h with
          | gref _ _ A' cap' hk =>
            rw [h1] at hk
            simp only [Option.some.injEq, Value.slice.injEq, true_and] at hk
            obtain ⟨rfl, rfl⟩ := hk
            rcases h4 with ⟨rfl, rfl⟩ | ⟨k, g0, rfl, g1, g2, g3, g4⟩
            · exact .slice [] false A 0 0 0 0 (fun _ _ => .nilFunc) (fun h => absurd h (by simp)) (Nat.le_refl _) (fun h => by cases h) h3 (fun i h => absurd h (by simp)) (fun i j h => absurd h (by simp)) (fun i j h => absurd h (by simp))
            · refine .slice es false _ k 0 szb cap (fun i j => nv us (i * szb + j)) (fun _ => ⟨rfl, hJ b _ _ k hx h1 (by simp [locBlk]; omega)⟩) g2 (fun h => by cases h) h3 h2 (fun i j hi hj => ?_) fun i j hi hj => mono _ _ (g4 i j hi hj)
              have hlt : i * szb + j < us.length := by
                rw [g3]
                have : i * szb + szb ≤ cap * szb := by rw [← Nat.succ_mul]; exact Nat.mul_le_mul_right _ (by omega)
                omega
              rw [Nat.zero_add]
              simp only [World.cell?, g1, Option.isSome_none, nv]
              rw [if_neg (by simp)]
              simp [List.getD_eq_getElem?_getD, hlt]
        · exact mono _ _ h
      · exact mono _ _ h


/-- The results of a function, by its slots; a struct result lies in memory. -/
def resOne (P : Program) (s : St) : ResultVar → Option D
  | .tmp t => some (s.env.get t)
  | .cell a T => match tiOf P T with
    | some ti => match s.env.get a, loadE ti (look s.hp) (s.env.get a) with
      | .ref b i off sz, some (e, _) => match look s.hp b with
        | some (.rows es sz') => if sz = sz' ∧ i < es.length ∧ off + ti.sz ≤ sz ∧ 0 < ti.sz then some e.d else none
        | _ => none
      | _, _ => none
    | none => none
def resD (P : Program) (s : St) : List ResultVar → Option D
  | [x] => resOne P s x
  | l => match l.mapM (resOne P s) with
    | some ds => some (.tup ds)
    | none => none
def argEnv : Nat → List D → Env
  | _, [] => []
  | k, d :: r => (k, d) :: argEnv (k + 1) r
/-! what tells less -/
mutual
def lo : D → D → Prop
  | .slice es t, .slice es' t' => loLL es es' ∧ (t' = true → t = true)
  | .agg cs, .agg cs' => loL cs cs'
  | .tup cs, .tup cs' => loL cs cs'
  | .iface t d, .iface t' d' => t = t' ∧ lo d d'
  | .ptr cs o, .ptr cs' o' => o = o' ∧ loL cs cs'
  | d, r => r = .any ∨ d = r
def loL : List D → List D → Prop
  | [], [] => True
  | d :: l, d' :: l' => lo d d' ∧ loL l l'
  | [], _ :: _ => False
  | _ :: _, [] => False
def loLL : List (List D) → List (List D) → Prop
  | [], [] => True
  | d :: l, d' :: l' => loL d d' ∧ loLL l l'
  | [], _ :: _ => False
  | _ :: _, [] => False
end
mutual
theorem lo_refl : ∀ d : D, lo d d
  | .slice es t => by simp only [lo]; exact ⟨loLL_refl es, id⟩
  | .agg cs => by simp only [lo]; exact loL_refl cs
  | .tup cs => by simp only [lo]; exact loL_refl cs
  | .iface t d => by simp only [lo]; exact ⟨trivial, lo_refl d⟩
  | .ptr cs o => by simp only [lo]; exact ⟨trivial, loL_refl cs⟩
  | .any => by simp [lo]
  | .val _ => by simp [lo]
  | .cond _ _ => by simp [lo]
  | .func _ _ _ => by simp [lo]
  | .ref _ _ _ _ => by simp [lo]
  | .sref _ _ _ _ _ => by simp [lo]
  | .gref _ _ => by simp [lo]
  | .mref _ => by simp [lo]
  | .abool _ _ => by simp [lo]
theorem loL_refl : ∀ l : List D, loL l l
  | [] => by simp [loL]
  | d :: l => by simp only [loL]; exact ⟨lo_refl d, loL_refl l⟩
theorem loLL_refl : ∀ l : List (List D), loLL l l
  | [] => by simp [loLL]
  | d :: l => by simp only [loLL]; exact ⟨loL_refl d, loLL_refl l⟩
end
theorem loL_spec : ∀ {l l' : List D}, loL l l' → l.length = l'.length ∧ ∀ i, i < l.length → lo (nd l i) (nd l' i)
  | [], [], _ => by simp
  | [], _ :: _, h => by simp [loL] at h
  | _ :: _, [], h => by simp [loL] at h
  | d :: l, d' :: l', h => by
    simp only [loL] at h
    obtain ⟨h1, h2⟩ := loL_spec h.2
    refine ⟨by simp [h1], fun i hi => ?_⟩
    cases i with
    | zero => simpa [nd] using h.1
    | succ i => have := h2 i (by simpa using hi); simpa [nd] using this
theorem loLL_spec : ∀ {l l' : List (List D)}, loLL l l' → l.length = l'.length ∧ ∀ i, i < l.length → loL (nr l i) (nr l' i)
  | [], [], _ => by simp
  | [], _ :: _, h => by simp [loLL] at h
  | _ :: _, [], h => by simp [loLL] at h
  | d :: l, d' :: l', h => by
    simp only [loLL] at h
    obtain ⟨h1, h2⟩ := loLL_spec h.2
    refine ⟨by simp [h1], fun i hi => ?_⟩
    cases i with
    | zero => simpa [nr] using h.1
    | succ i => have := h2 i (by simpa using hi); simpa [nr] using this

theorem Rep.lo {w : World} {I : Nat → Prop} {mu : Nat → Option Value} {d : D} {v : Value} (h : Rep w I mu d v) : ∀ {r : D}, lo d r → Rep w I mu r v := by
  induction h with
  | any v => intro r h; cases r <;> simp [Go.Ab.lo] at h; exact .any v
  | val v ok => intro r h; cases r <;> simp [Go.Ab.lo] at h; exact .any v; subst h; exact .val v ok
  | cond g d v h1 h2 ih => intro r h; cases r <;> simp [Go.Ab.lo] at h; exact .any v; obtain ⟨rfl, rfl⟩ := h; exact .cond _ _ v h1 h2
  | agg cs us hl h1 ih =>
    intro r h; cases r <;> simp [Go.Ab.lo] at h; exact .any _
    obtain ⟨h2, h3⟩ := loL_spec h
    exact .agg _ us (by omega) fun i hi => ih i (by omega) (h3 i (by omega))
  | tup cs us hl h1 ih =>
    intro r h; cases r <;> simp [Go.Ab.lo] at h; exact .any _
    obtain ⟨h2, h3⟩ := loL_spec h
    exact .tup _ us (by omega) fun i hi => ih i (by omega) (h3 i (by omega))
  | slice es tight A k o sz cap u hA hc ht hm hlen hcell h1 ih =>
    intro r h; cases r <;> simp [Go.Ab.lo] at h; exact .any _
    obtain ⟨h, hti⟩ := h
    obtain ⟨h2, h3⟩ := loLL_spec h
    rename_i es' t'
    have := Rep.slice (w := w) (I := I) (mu := mu) es' t' A k o sz cap u (fun h => hA (by omega)) (by omega) (fun h => by rw [ht (hti h)]; exact h2) hm (fun i hi => by rw [← (loL_spec (h3 i (by omega))).1]; exact hlen i (by omega)) (fun i j hi hj => hcell i j (by omega) hj) (fun i j hi hj => ih i j (by omega) hj ((loL_spec (h3 i (by omega))).2 j (by rw [hlen i (by omega)]; exact hj)))
    rw [h2]; exact this
  | ptr cs off k o u hk hcell h1 ih =>
    intro r h; cases r <;> simp [Go.Ab.lo] at h; exact .any _
    obtain ⟨rfl, h⟩ := h
    obtain ⟨h2, h3⟩ := loL_spec h
    exact .ptr _ _ k o u hk (fun j hj => hcell j (by omega)) fun j hj => ih j (by omega) (h3 j (by omega))
  | ref b i off sz k h1 => intro r h; cases r <;> simp [Go.Ab.lo] at h; exact .any _; obtain ⟨rfl, rfl, rfl, rfl⟩ := h; exact .ref _ _ _ _ k h1
  | sref b i len cap sz k h1 => intro r h; cases r <;> simp [Go.Ab.lo] at h; exact .any _; obtain ⟨rfl, rfl, rfl, rfl, rfl⟩ := h; exact .sref _ _ _ _ _ k h1
  | gref b len A cap h1 => intro r h; cases r <;> simp [Go.Ab.lo] at h; exact .any _; obtain ⟨rfl, rfl⟩ := h; exact .gref _ _ A cap h1
  | mref b k h1 => intro r h; cases r <;> simp [Go.Ab.lo] at h; exact .any _; subst h; exact .mref _ k h1
  | abool n pos b h1 => intro r h; cases r <;> simp [Go.Ab.lo] at h; exact .any _; obtain ⟨rfl, rfl⟩ := h; exact .abool _ _ b h1
  | func fn fs cs us vs hl hk h1 h2 ih1 ih2 => intro r h; cases r <;> simp [Go.Ab.lo] at h; exact .any _; obtain ⟨rfl, rfl, rfl⟩ := h; exact .func _ _ _ us vs hl hk h1 h2
  | iface t d v h1 ih =>
    intro r h; cases r <;> simp [Go.Ab.lo] at h; exact .any _
    obtain ⟨rfl, h⟩ := h
    exact .iface _ _ v (ih h)

def loB : Blk → Blk → Prop
  | .rows es sz, .rows es' sz' => loLL es es' ∧ sz = sz'
  | .grow es sz, .grow es' sz' => loLL es es' ∧ sz = sz'
  | x, y => x = y
theorem loB_refl (x : Blk) : loB x x := by cases x <;> simp [loB, loLL_refl]
theorem BRep.lo {w : World} {I : Nat → Prop} {mu : Nat → Option Value} {b : Nat} {x y : Blk} (h : BRep w I mu b x) (hl : loB x y) : BRep w I mu b y := by
  cases x with
  | rows es sz =>
    cases y <;> simp [loB] at hl
    obtain ⟨hl, rfl⟩ := hl
    obtain ⟨k, T, us, h1, h2, h3, h4, h5⟩ := h
    obtain ⟨g1, g2⟩ := loLL_spec hl
    exact ⟨k, T, us, h1, h2, by rw [← g1]; exact h3, fun i hi => by rw [← (loL_spec (g2 i (by omega))).1]; exact h4 i (by omega), fun i j hi hj => (h5 i j (by omega) hj).lo ((loL_spec (g2 i (by omega))).2 j (by rw [h4 i (by omega)]; exact hj))⟩
  | grow es sz =>
    cases y <;> simp [loB] at hl
    obtain ⟨hl, rfl⟩ := hl
    obtain ⟨A, cap, T, us, h1, h2, h3, h4⟩ := h
    obtain ⟨g1, g2⟩ := loLL_spec hl
    refine ⟨A, cap, T, us, by rw [← g1]; exact h1, fun i hi => by rw [← (loL_spec (g2 i (by omega))).1]; exact h2 i (by omega), h3, ?_⟩
    rcases h4 with ⟨h5, h6⟩ | ⟨k, q0, q1, q2, q3, q4, q5⟩
    · refine .inl ⟨h5, ?_⟩
      subst h6
      exact List.length_eq_zero_iff.1 g1.symm
    · exact .inr ⟨k, q0, q1, q2, by rw [← g1]; exact q3, q4, fun i j hi hj => (q5 i j (by omega) hj).lo ((loL_spec (g2 i (by omega))).2 j (by rw [h2 i (by omega)]; exact hj))⟩
  | map es =>
    cases y <;> simp [loB] at hl
    subst hl; exact h

/-- A function returns with the results r. -/
def RetQ (P : Program) (rs : List ResultVar) (r : D) : AE → St → Prop
  | .ret, s | .normal, s => ∃ d, resD P s rs = some d ∧ lo (frz (look s.hp) 6 d) r ∧ r.pure = true
  | _, _ => False

theorem argEnv_get : ∀ (ds : List D) (k t : Nat), (argEnv k ds).get t = if k ≤ t ∧ t < k + ds.length then nd ds (t - k) else .any
  | [], k, t => by simp [argEnv, Env.get]; intro h1 h2; omega
  | d :: ds, k, t => by
    simp only [argEnv, Env.get, argEnv_get ds (k + 1) t, List.length_cons]
    by_cases h : k = t
    · subst h; simp [nd]
    · have : (k == t) = false := by simp [h]
      simp only [this, cond_false]
      by_cases h1 : k + 1 ≤ t ∧ t < k + 1 + ds.length
      · rw [if_pos h1, if_pos (by omega)]
        have e : t - k = (t - (k + 1)) + 1 := by omega
        rw [e]; simp [nd]
      · rw [if_neg h1, if_neg (by omega)]

/-- A result, read off the slots. -/
def resSem (tmps : Array Value) (x : ResultVar) : Sem Value :=
  match x with
  | .tmp t => pure (tmps.getD t undef)
  | .cell b t => do loadVar t (← asAddr (tmps.getD b undef))

section
variable {P : Program} {w0 : World} {M0 I0 fr I : Nat → Prop} {mu : Nat → Option Value} {w : World} {s : St} {a : Act} {nt : Nat}

theorem load_ref {T : TypeId} {ti : TI} (ht : tiOf P T = some ti) {hp : Nat → Option Blk} (hr : WRel w0 M0 I0 fr I mu hp w) {b i off sz : Nat} {av : Value} (hv : Rep w I mu (.ref b i off sz) av) {es : List (List D)} (hx : hp b = some (.rows es sz)) (hi : i < es.length) (hle : off + ti.sz ≤ sz) (hpos : 0 < ti.sz) {e : Eff} {c : Prop} (he : loadE ti hp (.ref b i off sz) = some (e, c)) :
    ∃ v k o, av = .pointer (some ⟨k, o, none⟩) ∧ (loadVar T ⟨k, o, none⟩).run P w = .ok v w ∧ Rep w I mu e.d v := by
  cases hv with
  | ref _ _ _ _ k hk =>
    obtain ⟨k', T', us, h1, h2, h3, h4, h5⟩ := hr.blk b _ hx
    rw [hk] at h1
    simp only [Option.some.injEq, Value.pointer.injEq, Addr.mk.injEq, and_true] at h1
    subst h1
    have hlen := h4 i hi
    have hmul : i * sz + sz ≤ es.length * sz := by rw [← Nat.succ_mul]; exact Nat.mul_le_mul_right _ hi
    have hl := run_loadVar_cells (P := P) (I := I) (mu := mu) ht w k (i * sz) (nr es i) (fun j => nv us (i * sz + j)) (fun j hj => by
        rw [hlen] at hj
        simp only [World.cell?, h2, Option.isSome_none, nv]
        rw [if_neg (by simp)]
        simp [List.getD_eq_getElem?_getD, show i * sz + j < us.length by omega])
      (fun j hj => h5 i j hi (by omega)) off
    rw [hlen] at hl
    simp only [loadE, hx] at he
    cases hag : ti.ag <;> simp only [hag, cond_true, cond_false, Option.some.injEq, Prod.mk.injEq] at he <;> obtain ⟨rfl, _⟩ := he
    · obtain ⟨v', q1, q2⟩ := hl.2 hag (by omega)
      exact ⟨v', k, _, rfl, q1, q2⟩
    · obtain ⟨v', q1, q2⟩ := hl.1 hag hle
      exact ⟨v', k, _, rfl, q1, q2⟩

theorem resOne_rep (r : Rel w0 M0 I0 nt fr I mu s.fs a w) {x : ResultVar} {d : D} (h : resOne P s x = some d) :
    ∃ v, (resSem a.tmps x).run P w = .ok v w ∧ Rep w I mu d v := by
  cases x with
  | tmp t =>
    simp only [resOne, Option.some.injEq] at h
    subst h
    exact ⟨_, rfl, r.env t⟩
  | cell b T =>
    simp only [resOne] at h
    split at h
    · rename_i ti ht
      split at h
      · rename_i b' i off sz e c henv he
        split at h
        · rename_i es sz' hx
          split at h
          · rename_i hcond
            obtain ⟨rfl, hi, hle, hpos⟩ := hcond
            simp only [Option.some.injEq] at h
            subst h
            have hv := r.env b
            have hv' : Rep w I mu (.ref b' i off sz) (a.tmps.getD b undef) := by
              have : s.fs.env b = s.env.get b := rfl
              rw [this, henv] at hv; exact hv
            obtain ⟨v, k, o, h1, h2, h3⟩ := load_ref ht r.w hv' hx hi hle hpos (by rw [← henv]; exact he)
            refine ⟨v, ?_, h3⟩
            show (do loadVar T (← asAddr (a.tmps.getD b undef)) : Sem Value).run P w = _
            rw [h1]
            simpa [asAddr] using h2
          · cases h
        · cases h
      · cases h
    · cases h

theorem results_run (fn : Func) (tmps : Array Value) : ∀ (rs : List ResultVar) (vs : List Value), rs.length = vs.length → (∀ (i : Nat) x v, rs[i]? = some x → vs[i]? = some v → (resSem tmps x).run P w = .ok v w) →
    (rs.mapM (resSem tmps)).run P w = .ok vs w
  | [], [], _, _ => by simp
  | [], _ :: _, h, _ => by simp at h
  | _ :: _, [], h, _ => by simp at h
  | x :: rs, v :: vs, hl, h => by
    have h0 := h 0 x v rfl rfl
    have ih := results_run fn tmps rs vs (by simpa using hl) fun i y u hy hu => h (i + 1) y u (by simpa using hy) (by simpa using hu)
    simp only [List.mapM_cons, Sem.run_bind, h0, Result.andThen, ih, Sem.run_pure]

theorem mapM_list {α β : Type} {g : α → Option β} : ∀ {l : List α} {r : List β}, l.mapM g = some r → r.length = l.length ∧ ∀ (i : Nat) (x : α), l[i]? = some x → ∃ y, r[i]? = some y ∧ g x = some y
  | [], r, h => by simp at h; subst h; simp
  | a :: l, r, h => by
    simp only [List.mapM_cons, Option.bind_eq_bind, Option.pure_def, Option.bind_eq_some_iff] at h
    obtain ⟨b, hb, r', hr', h⟩ := h
    simp only [Option.some.injEq] at h
    subst h
    obtain ⟨h1, h2⟩ := mapM_list hr'
    refine ⟨by simp [h1], fun i x hx => ?_⟩
    cases i with
    | zero => simp at hx; subst hx; exact ⟨b, by simp, hb⟩
    | succ i => simpa using h2 i x (by simpa using hx)

theorem resD_rep (r : Rel w0 M0 I0 nt fr I mu s.fs a w) (fn : Func) {d : D} (h : resD P s fn.results.toList = some d) : ∃ v, (results fn a.tmps).run P w = .ok v w ∧ Rep w I mu d v := by
  have hrun : ∀ vs : List Value, (fn.results.toList.mapM (resSem a.tmps)).run P w = .ok vs w →
      (results fn a.tmps).run P w = .ok (if h : vs.toArray.size = 1 then vs.toArray[0] else .tuple vs.toArray) w := by
    intro vs hvs
    have gen : ∀ F : ResultVar → Sem Value, (∀ x, F x = resSem a.tmps x) → (do let vs ← fn.results.mapM F; pure (if h : vs.size = 1 then vs[0] else .tuple vs) : Sem Value).run P w = .ok (if h : vs.toArray.size = 1 then vs.toArray[0] else .tuple vs.toArray) w := by
      intro F hF
      obtain rfl : F = resSem a.tmps := funext hF
      rw [Array.mapM_eq_mapM_toList]
      simp only [Sem.run_bind, Sem.run_map, hvs, Result.andThen, Sem.run_pure]
    exact gen _ fun x => by cases x <;> rfl
  unfold resD at h
  split at h
  · rename_i x hx
    obtain ⟨v, h1, h2⟩ := resOne_rep (P := P) r h
    refine ⟨v, ?_, h2⟩
    have := hrun [v] (by
      rw [hx]
      exact results_run fn a.tmps [x] [v] rfl fun i y u hy hu => by
        cases i with
        | zero => simp at hy hu; subst hy hu; exact h1
        | succ i => simp at hy)
    simpa using this
  · rename_i l hne
    split at h
    · rename_i ds hds
      simp only [Option.some.injEq] at h
      subst h
      obtain ⟨hl, hg⟩ := mapM_list hds
      have hex : ∃ vs : List Value, vs.length = fn.results.toList.length ∧ ∀ (i : Nat) x, fn.results.toList[i]? = some x → (resSem a.tmps x).run P w = .ok (nv vs i) w ∧ Rep w I mu (nd ds i) (nv vs i) := by
        have : ∀ (i : Nat), ∃ v, ∀ x, fn.results.toList[i]? = some x → (resSem a.tmps x).run P w = .ok v w ∧ Rep w I mu (nd ds i) v := by
          intro i
          cases hx : fn.results.toList[i]? with
          | none => exact ⟨undef, fun x h => by cases h⟩
          | some x =>
            obtain ⟨y, hy1, hy2⟩ := hg i x hx
            obtain ⟨v, h1, h2⟩ := resOne_rep (P := P) r hy2
            refine ⟨v, fun x' hx' => ?_⟩
            cases hx'
            have : nd ds i = y := by simp [nd, List.getD_eq_getElem?_getD, hy1]
            rw [this]; exact ⟨h1, h2⟩
        refine ⟨(List.range fn.results.toList.length).map fun i => Classical.choose (this i), by simp, fun i x hx => ?_⟩
        have hlt := (List.getElem?_eq_some_iff.1 hx).1
        have e : nv ((List.range fn.results.toList.length).map fun i => Classical.choose (this i)) i = Classical.choose (this i) := by
          simp only [nv, List.getD_eq_getElem?_getD, List.getElem?_map, List.getElem?_range hlt, Option.map_some, Option.getD_some]
        rw [e]
        exact Classical.choose_spec (this i) x hx
      obtain ⟨vs, hvl, hv⟩ := hex
      have := hrun vs (results_run fn a.tmps _ vs hvl.symm fun i x u hx hu => by
        have := (hv i x hx).1
        have e : nv vs i = u := by simp [nv, List.getD_eq_getElem?_getD, hu]
        rw [e] at this; exact this)
      have hsz : ¬ vs.toArray.size = 1 := by
        intro h1
        rw [List.size_toArray, hvl] at h1
        match hll : fn.results.toList, h1 with
        | [x], _ => exact hne x hll
      rw [dif_neg hsz] at this
      refine ⟨_, this, .tup ds vs (by omega) fun i hi => ?_⟩
      obtain ⟨x, hx⟩ : ∃ x, fn.results.toList[i]? = some x := ⟨fn.results.toList[i]'(by omega), List.getElem?_eq_getElem (by omega)⟩
      exact (hv i x hx).2
    · cases h

/-- A function's contract, by its code. -/
theorem PCall.of_awp {f : FuncId} {fn : Func} {c : Code} {ds : List D} {r : D} (hf : P.funcs[f]? = some fn) (hb : fn.body = some c) (hn : fn.ntmps = nt) (hent : entersB P f = true) (hlen : ds.length ≤ nt) {rs : List ResultVar} (hrs : fn.results.toList = rs)
    (h : AWp P nt c (RetQ P rs r) ⟨argEnv 0 ds, [], 0⟩) : PCall P f ds r := by
  subst hrs
  refine ⟨hent, fun w I vs hgi hI hl hrep => ?_⟩
  refine calls_of_wp hf hb (wp_mono (h w (fun _ => False) I (fun g l hl => ⟨(hgi g l hl).1, hI g (hgi g l hl).1, fun h => h, (hgi g l hl).2⟩) I (fun _ => none) _ w ⟨?_, rfl, fun t => ?_, ⟨fun b x hx => by simp [St.fs, look] at hx, fun b x v k hx => by simp [St.fs, look] at hx, fun b c x y v u k hx => by simp [St.fs, look] at hx, fun _ _ => rfl, hI, rfl, rfl, rfl, Nat.le_refl _, fun _ _ _ => rfl, fun _ h => h, fun _ h => .inl h⟩⟩) ?_)
  · simp [hl, hn]; omega
  · have hget := argEnv_get ds 0 t
    simp only [Nat.zero_le, true_and, Nat.zero_add, Nat.sub_zero] at hget
    show Rep w I (fun _ => none) ((argEnv 0 ds).get t) _
    rw [hget]
    by_cases ht : t < ds.length
    · rw [if_pos ht]
      have e : (vs.toArray ++ Array.replicate (fn.ntmps - vs.toArray.size) undef).getD t undef = nv vs t := by
        simp only [nv, List.getD_eq_getElem?_getD, Array.getD_eq_getD_getElem?]
        rw [Array.getElem?_append_left (by simp; omega)]
        simp
      rw [e]; exact hrep t ht
    · rw [if_neg ht]; exact .any _
  · rintro e a' w' ⟨x, s', I', mu', hq, he, r'⟩
    have fin : ∀ d, resD P s' fn.results.toList = some d → lo (frz (look s'.hp) 6 d) r → r.pure = true → (a'.defers = [] ∧ ∃ v, (results fn a'.tmps).run P w' = .ok v w' ∧ ∃ v' I', Ending.returned v = .returned v' ∧ Rep w' I' (fun _ => none) r v' ∧ (∀ k, I k → I' k) ∧ (∀ k, I' k → I k ∨ w.heap.size ≤ k) ∧ (∀ k, I' k → k < w'.heap.size) ∧ Below w.heap.size w w') := by
      intro d hd hfr hpu
      obtain ⟨v, h1, h2⟩ := resD_rep r' fn hd
      have hfz := Rep.frz (J := fun k => I' k ∨ (w.heap.size ≤ k ∧ k < w'.heap.size)) r'.w (fun k hk => .inl hk) (fun b x v k hx hv hk => .inr (by
          have := r'.w.loc b x v k hx hv hk
          rcases this.1 with h3 | h3
          · exact h3.elim
          · exact ⟨h3, this.2.2⟩)) 6 d v h2
      have hfr' : Go.Ab.lo (Go.Ab.frz s'.fs.hp 6 d) r := hfr
      have hfz := hfz.lo hfr'
      refine ⟨r'.defers, v, h1, v, _, rfl, hfz.unmu hpu, fun k hk => .inl (r'.w.iold k hk), fun k hk => ?_, fun k hk => ?_, ⟨r'.w.os, r'.w.tape, r'.w.output, r'.w.grown, fun k hk => r'.w.old k hk (fun h => h)⟩⟩
      · rcases hk with hk | hk
        · rcases r'.w.inew k hk with h3 | h3 | h3
          · exact .inl h3
          · exact h3.elim
          · exact .inr h3
        · exact .inr hk.1
      · rcases hk with hk | hk
        · exact r'.w.lt k hk
        · exact hk.2
    cases x <;> cases e <;> simp only [ERep] at he <;> simp only [RetQ] at hq
    case normal.normal =>
      obtain ⟨d, hd, hfr, hpu⟩ := hq
      exact fin d hd hfr hpu
    case ret.ret =>
      obtain ⟨d, hd, hfr, hpu⟩ := hq
      exact fin d hd hfr hpu
end
attribute [irreducible] PCall
end Go.Ab
