/- The abstract layer, part 8: lengths, slicing, numbers, tests. -/
import Derived.Test.YtblbhfnpneliiaaGreatDoorAbOps4
namespace Go.Ab
open Go.RowKit
section
variable {P : Program} {w0 : World} {M0 I0 fr I : Nat → Prop} {mu : Nat → Option Value} {h : Nat → Option Blk} {w : World}

/-! tests and numbers -/
def nilD : D → Option Bool
  | .val (.pointer none) => some true
  | .ptr _ _ => some false
  | .ref _ _ _ _ => some false
  | _ => none
/-- Is it surely a pointer that leads somewhere, or surely nil? -/
theorem nilD_spec {d : D} {b : Bool} (hd : nilD d = some b) {v : Value} (hv : Rep w I mu d v) : ∃ a : Option Addr, v = .pointer a ∧ a.isNone = b := by
  unfold nilD at hd
  split at hd
  · simp only [Option.some.injEq] at hd; subst hd; exact ⟨none, hv.val_inv, rfl⟩
  · simp only [Option.some.injEq] at hd; subst hd; cases hv; exact ⟨_, rfl, rfl⟩
  · simp only [Option.some.injEq] at hd; subst hd; cases hv; exact ⟨_, rfl, rfl⟩
  · cases hd

def binE (P : Program) (op : BinOp) (T : TypeId) (x y : D) : Res :=
  match x, y with
  | .val (.int k a), .val (.int k' b) => match intBin op k a k' b with
    | some (r, c) => pvc (.val r) c
    | none => none
  | .val (.string a), .val (.string b) => match strBin op a b with
    | some (r, c) => pvc (.val r) c
    | none => none
  | .val (.bool a), .val (.bool b) => match tiOf P T with
    | some ti => match ti.sh, op with
      | .bool, .eql => pv (.val (.bool (a == b)))
      | .bool, .neq => pv (.val (.bool (!(a == b))))
      | _, _ => none
    | none => none
  | x, y => match nilD x, nilD y, tiOf P T with
    | some a, some b, some ti => match ti.sh, op with
      | .ptr _, .eql => bif a then pv (.val (.bool b)) else bif b then pv (.val (.bool false)) else none
      | .ptr _, .neq => bif a then pv (.val (.bool (!b))) else bif b then pv (.val (.bool true)) else none
      | _, _ => none
    | _, _, _ => none

theorem run_eqGuard (op : BinOp) (t : TypeId) (x y : Operand) (a b : Value) (h1 : ∀ z, a ≠ .agg z) (h2 : a ≠ .nilIface) : (eqGuard op t x y a b).run P w = .ok () w := by
  unfold eqGuard
  cases op <;> simp <;> (cases a <;> simp at h1 h2 ⊢)

theorem run_equalIn_ptr (d : Nat) {T e : TypeId} (hu : P.underlying T = some (.pointer e)) (p q : Option Addr) (hpq : p.isNone = true ∨ q.isNone = true) : (Op.equalIn (d + 1) T (.pointer p) (.pointer q)).run P w = .ok (p.isNone && q.isNone) w := by
  cases p <;> cases q <;> simp at hpq <;> simp [Op.equalIn, run_underlying hu]
theorem run_equal_ptr {T e : TypeId} (hu : P.underlying T = some (.pointer e)) (p q : Option Addr) (hpq : p.isNone = true ∨ q.isNone = true) : (Op.equal T (.pointer p) (.pointer q)).run P w = .ok (p.isNone && q.isNone) w := run_equalIn_ptr 9999 hu p q hpq
theorem runs_bin {op : BinOp} {T : TypeId} {dx dy : D} {e : Eff} {c : Prop} (he : binE P op T dx dy = some (e, c)) (hc : c) (hr : WRel w0 M0 I0 fr I mu h w) {ox oy : Operand} {x y : Value} (hx : Rep w I mu dx x) (hy : Rep w I mu dy y) (id : Nat) :
    Runs P (fun w => (do eqGuard op T ox oy x y; binOp op T x y : Sem Value).run P w) id e.d e.up w0 M0 I0 fr I mu h w := by
  unfold binE at he
  split at he
  · rename_i k a k' b
    split at he
    · rename_i r c' hb
      simp only [pvc, Option.some.injEq, Prod.mk.injEq] at he
      obtain ⟨rfl, rfl⟩ := he
      have := hx.val_inv; have := hy.val_inv; subst x y
      exact Runs.same hr r (by simp [run_eqGuard, run_intBin hb hc]) (.val _ (intBin_ok hb hc hx.val_ok))
    · cases he
  · rename_i a b
    split at he
    · rename_i r c' hb
      simp only [pvc, Option.some.injEq, Prod.mk.injEq] at he
      obtain ⟨rfl, rfl⟩ := he
      have := hx.val_inv; have := hy.val_inv; subst x y
      exact Runs.same hr r (by simp [run_eqGuard, run_strBin hb hc]) (.val _ (strBin_ok hb hc))
    · cases he
  · rename_i a b
    have := hx.val_inv; have := hy.val_inv; subst x y
    split at he
    · rename_i ti ht
      split at he
      · rename_i hsh
        simp only [pv, Option.some.injEq, Prod.mk.injEq] at he
        obtain ⟨rfl, rfl⟩ := he
        exact Runs.same hr _ (by simp [run_eqGuard, run_eql_bool w T a b (ti_bool ht hsh)]) (.val _ trivial)
      · rename_i hsh
        simp only [pv, Option.some.injEq, Prod.mk.injEq] at he
        obtain ⟨rfl, rfl⟩ := he
        exact Runs.same hr _ (by simp [run_eqGuard, run_neq_bool w T a b (ti_bool ht hsh)]) (.val _ trivial)
      · cases he
    · cases he
  · split at he
    · rename_i a b ti ha hb ht
      obtain ⟨p, rfl, hp⟩ := nilD_spec ha hx
      obtain ⟨q, rfl, hq⟩ := nilD_spec hb hy
      split at he
      · rename_i e' hsh
        have hu := ti_ptr ht hsh
        have run : (p.isNone = true ∨ q.isNone = true) → (binOp .eql T (.pointer p) (.pointer q)).run P w = .ok (.bool (p.isNone && q.isNone)) w := by
          intro hpq
          simp only [binOp, Sem.run_bind, run_equal_ptr hu p q hpq, Result.andThen, Sem.run_pure]
        cases a <;> cases b <;> simp only [cond_true, cond_false, pv, Option.some.injEq, Prod.mk.injEq, reduceCtorEq] at he <;> obtain ⟨rfl, rfl⟩ := he <;>
          exact Runs.same hr _ (by simp [run_eqGuard]; rw [run (by simp [hp, hq]), hp, hq] <;> rfl) (.val _ trivial)
      · rename_i e' hsh
        have hu := ti_ptr ht hsh
        have run : (p.isNone = true ∨ q.isNone = true) → (binOp .neq T (.pointer p) (.pointer q)).run P w = .ok (.bool (!(p.isNone && q.isNone))) w := by
          intro hpq
          simp only [binOp, Sem.run_bind, run_equal_ptr hu p q hpq, Result.andThen, Sem.run_pure]
        cases a <;> cases b <;> simp only [cond_true, cond_false, pv, Option.some.injEq, Prod.mk.injEq, reduceCtorEq] at he <;> obtain ⟨rfl, rfl⟩ := he <;>
          exact Runs.same hr _ (by simp [run_eqGuard]; rw [run (by simp [hp, hq]), hp, hq] <;> rfl) (.val _ trivial)
      · cases he
    · cases he

def unE (op : UnOp) : D → Res
  | .val (.bool b) => match op with
    | .not => pv (.val (.bool (!b)))
    | _ => none
  | .val (.int k n) => match op with
    | .neg => pv (.val (.int k (k.wrap (0 - n))))
    | _ => none
  | _ => none
theorem runs_un {op : UnOp} {d : D} {e : Eff} {c : Prop} (he : unE op d = some (e, c)) (hr : WRel w0 M0 I0 fr I mu h w) {v : Value} (hv : Rep w I mu d v) (id : Nat) : Runs P (fun w => (Op.unary op v).run P w) id e.d e.up w0 M0 I0 fr I mu h w := by
  unfold unE at he
  split at he
  · have := hv.val_inv; subst v
    split at he
    · simp only [pv, Option.some.injEq, Prod.mk.injEq] at he
      obtain ⟨rfl, rfl⟩ := he
      exact Runs.same hr _ (by simp [Op.unary]) (.val _ trivial)
    · cases he
  · have := hv.val_inv; subst v
    split at he
    · simp only [pv, Option.some.injEq, Prod.mk.injEq] at he
      obtain ⟨rfl, rfl⟩ := he
      exact Runs.same hr _ (by simp [Op.unary, Op.intArith]) (.val _ (wrap_ok _ _))
    · cases he
  · cases he

def convE (ts td : TI) : D → Res
  | .val (.int k n) => match td.sh with
    | .int k' => pv (.val (.int k' (k'.wrap n)))
    | _ => none
  | .val (.string s) => match td.sh with
    | .str => pv (.val (.string s))
    | _ => none
  | _ => none
theorem runs_conv {src dst : TypeId} {ts td : TI} (hs : tiOf P src = some ts) (ht : tiOf P dst = some td) {d : D} {e : Eff} {c : Prop} (he : convE ts td d = some (e, c)) (hr : WRel w0 M0 I0 fr I mu h w) {v : Value} (hv : Rep w I mu d v) (id : Nat) :
    Runs P (fun w => (convert src dst v).run P w) id e.d e.up w0 M0 I0 fr I mu h w := by
  obtain ⟨i, ds, z, _, hsu, _⟩ := tiOf_spec hs
  unfold convE at he
  split at he
  · have := hv.val_inv; subst v
    split at he
    · rename_i hsh
      simp only [pv, Option.some.injEq, Prod.mk.injEq] at he
      obtain ⟨rfl, rfl⟩ := he
      exact Runs.same hr _ (by simp [convert, run_underlying hsu, run_underlying (ti_int ht hsh), Conv.intToInt]) (.val _ (wrap_ok _ _))
    · cases he
  · have := hv.val_inv; subst v
    split at he
    · rename_i hsh
      simp only [pv, Option.some.injEq, Prod.mk.injEq] at he
      obtain ⟨rfl, rfl⟩ := he
      exact Runs.same hr _ (by simp [convert, run_underlying hsu, run_underlying (ti_str ht hsh)]) (.val _ hv.val_ok)
    · cases he
  · cases he

def extractE (i : Nat) : D → Res
  | .tup cs => pvc (nd cs i) (i < cs.length)
  | _ => none
theorem runs_extract {i : Nat} {d : D} {e : Eff} {c : Prop} (he : extractE i d = some (e, c)) (hc : c) (hr : WRel w0 M0 I0 fr I mu h w) {v : Value} (hv : Rep w I mu d v) (id : Nat) : Runs P (fun w => (Instr.extract v i).run P w) id e.d e.up w0 M0 I0 fr I mu h w := by
  cases d with
  | tup cs =>
    simp only [extractE, pvc, Option.some.injEq, Prod.mk.injEq] at he
    obtain ⟨rfl, rfl⟩ := he
    obtain ⟨us, rfl, hl, hrep⟩ := hv.tup_inv
    refine Runs.same hr (nv us i) ?_ (hrep i hc)
    simp [Instr.extract, nv, List.getD_eq_getElem?_getD, show i < us.length by omega]
  | _ => simp [extractE] at he

/-! lengths -/
def lenE (hp : Nat → Option Blk) (ti : TI) : D → Res
  | .slice es _ => match ti.sh with
    | .slice _ => pv (.val (.int .i64 es.length))
    | _ => none
  | .sref _ _ len _ _ => match ti.sh with
    | .slice _ => pvc (.val (.int .i64 len)) (len ≤ 9223372036854775807)
    | _ => none
  | .gref _ len => match ti.sh with
    | .slice _ => pvc (.val (.int .i64 len)) (len ≤ 9223372036854775807)
    | _ => none
  | .val (.string s) => match ti.sh with
    | .str => pv (.val (.int .i64 s.size))
    | _ => none
  | .mref b => match ti.sh, hp b with
    | .map _ _, some (.map es) => some (⟨.val (.int .i64 es.length), [], [b]⟩, es.length ≤ 9223372036854775807)
    | _, _ => none
  | .val (.map none) => match ti.sh with
    | .map _ _ => pv (.val (.int .i64 0))
    | _ => none
  | _ => none
theorem runs_len {t ty : TypeId} {ti : TI} (ht : tiOf P t = some ti) {hp : Nat → Option Blk} {d : D} {e : Eff} {c : Prop} (he : lenE hp ti d = some (e, c)) (hc : c) (hr : WRel w0 M0 I0 fr I mu h w) {v : Value} (hv : Rep w I mu d v) (hb : ∀ b ∈ e.rd, h b = hp b) (id : Nat) :
    Runs P (fun w => (Builtin.len_ #[t] ty #[v]).run P w) id e.d e.up w0 M0 I0 fr I mu h w := by
  unfold lenE at he
  split at he
  · split at he
    · rename_i hsh
      simp only [pv, Option.some.injEq, Prod.mk.injEq] at he
      obtain ⟨rfl, rfl⟩ := he
      cases hv with
      | slice es _ A k o sz cap u hA hcp _ hmx => exact Runs.same hr _ (by simp [Builtin.len_, run_underlying (run_slice_elem ht hsh), goInt]) (.val _ (by simp only [okP, imin, imax]; simp only [maxLen] at hmx; omega))
    · cases he
  · split at he
    · rename_i hsh
      simp only [pvc, Option.some.injEq, Prod.mk.injEq] at he
      obtain ⟨rfl, rfl⟩ := he
      cases hv with
      | sref _ _ _ _ _ k hk => exact Runs.same hr _ (by simp [Builtin.len_, run_underlying (run_slice_elem ht hsh), goInt]) (.val _ (by simp only [okP, imin, imax]; omega))
    · cases he
  · split at he
    · rename_i hsh
      simp only [pvc, Option.some.injEq, Prod.mk.injEq] at he
      obtain ⟨rfl, rfl⟩ := he
      cases hv with
      | gref _ _ A cap hk => exact Runs.same hr _ (by simp [Builtin.len_, run_underlying (run_slice_elem ht hsh), goInt]) (.val _ (by simp only [okP, imin, imax]; omega))
    · cases he
  · split at he
    · rename_i hsh
      simp only [pv, Option.some.injEq, Prod.mk.injEq] at he
      obtain ⟨rfl, rfl⟩ := he
      have hok := hv.val_ok; have := hv.val_inv; subst v
      exact Runs.same hr _ (by simp [Builtin.len_, run_underlying (ti_str ht hsh), goInt]) (.val _ (by simp only [okP, imin, imax] at hok ⊢; omega))
    · cases he
  · rename_i b
    split at he
    · rename_i k e' es hsh hx
      simp only [Option.some.injEq, Prod.mk.injEq] at he
      obtain ⟨rfl, rfl⟩ := he
      have hhb := (hb b (by simp)).trans hx
      obtain ⟨k, l, clock, h1, h2, h3, h4⟩ := hr.blk b _ hhb
      cases hv with
      | mref _ k' hk =>
        rw [h1] at hk
        simp only [Option.some.injEq, Value.map.injEq] at hk
        subst hk
        have hl : l.length = es.length := by have := congrArg List.length h3; simpa using this
        exact Runs.same hr _ (by
          simp [Builtin.len_, run_underlying (ti_map ht hsh), goInt, getObj, Sem.run, h2, hl]) (.val _ (by simp only [okP, imin, imax]; omega))
    · cases he
  · split at he
    · rename_i hsh
      simp only [pv, Option.some.injEq, Prod.mk.injEq] at he
      obtain ⟨rfl, rfl⟩ := he
      have := hv.val_inv; subst v
      exact Runs.same hr _ (by simp [Builtin.len_, run_underlying (ti_map ht hsh), goInt]) (.val _ (by simp [okP, imin, imax]))
    · cases he
  · cases he

def minE : D → D → Res
  | .val (.int k x), .val (.int k' y) => if k' = k then pv (.val (.int k (if y < x then y else x))) else none
  | _, _ => none
def maxE : D → D → Res
  | .val (.int k x), .val (.int k' y) => if k' = k then pv (.val (.int k (if y > x then y else x))) else none
  | _, _ => none
theorem runs_min {ts : Array TypeId} {t : TypeId} {dx dy : D} {e : Eff} {c : Prop} (he : minE dx dy = some (e, c)) (hr : WRel w0 M0 I0 fr I mu h w) {x y : Value} (hx : Rep w I mu dx x) (hy : Rep w I mu dy y) (id : Nat) : Runs P (fun w => (Builtin.min_ ts t #[x, y]).run P w) id e.d e.up w0 M0 I0 fr I mu h w := by
  unfold minE at he
  split at he
  · split at he
    case isFalse => cases he
    rename_i hk
    subst hk
    simp only [pv, Option.some.injEq, Prod.mk.injEq] at he
    obtain ⟨rfl, rfl⟩ := he
    have := hx.val_inv; have := hy.val_inv; subst x y
    exact Runs.same hr _ (run_min_int2 w ts t _ _ _ _) (.val _ (by have h1 := hx.val_ok; have h2 := hy.val_ok; simp only [okP] at h1 h2 ⊢; split <;> assumption))
  · cases he
theorem runs_max {ts : Array TypeId} {t : TypeId} {dx dy : D} {e : Eff} {c : Prop} (he : maxE dx dy = some (e, c)) (hr : WRel w0 M0 I0 fr I mu h w) {x y : Value} (hx : Rep w I mu dx x) (hy : Rep w I mu dy y) (id : Nat) : Runs P (fun w => (Builtin.max_ ts t #[x, y]).run P w) id e.d e.up w0 M0 I0 fr I mu h w := by
  unfold maxE at he
  split at he
  · split at he
    case isFalse => cases he
    rename_i hk
    subst hk
    simp only [pv, Option.some.injEq, Prod.mk.injEq] at he
    obtain ⟨rfl, rfl⟩ := he
    have := hx.val_inv; have := hy.val_inv; subst x y
    exact Runs.same hr _ (run_max_int2 w ts t _ _ _ _) (.val _ (by have h1 := hx.val_ok; have h2 := hy.val_ok; simp only [okP] at h1 h2 ⊢; split <;> assumption))
  · cases he
end
end Go.Ab
