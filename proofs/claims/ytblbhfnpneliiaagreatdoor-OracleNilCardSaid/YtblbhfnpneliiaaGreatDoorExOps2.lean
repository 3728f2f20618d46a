/- The exact evaluator, part 5: numbers, texts, tests, parts of things. -/
import Derived.Test.YtblbhfnpneliiaaGreatDoorExOps1
namespace Go.Ex
open Go.RowKit
open Go.Ab (TI Sh setL tiOf Wrote tiOf_spec ti_bool ti_str ti_int ti_ptr ti_map ti_arr ti_struct run_slice_elem run_isAgg' run_sizeOf' run_zeroValue' addr_add)
section
variable {P : Program} {G : Tr (List Value)} {id : Nat} {ev : Operand → X} {hp : Tr B} {dst : Option Tmp} {T : TypeId} {pos : String} {af : Array Edge} {gd : Option (Nat × Bool)} {e : Ef} {c : Cx}
variable {w0 : World} {M0 fr : Nat → Prop} {m : Mu} {h : Nat → Option B} {w : World}

theorem bX_conc (m : Mu) (b : Bool) : conc m (bX b) = some (.bool b) := conc_vv m _
theorem run_intX {op : BinOp} {k k' : IntKind} {a b : Int} {x : X} (h : intX op k a k' b = some x) (T : TypeId) (w : World) : ∃ v, x = .v v ∧ (binOp op T (.int k a) (.int k' b)).run P w = .ok v w := by
  have hk : ∀ {x y : X} {o : Option X}, (bif kEq k k' then o else none) = some x → k = k' ∧ o = some x := by
    intro x y o hh
    rw [kEq_eq] at hh
    by_cases e : k = k'
    · simp only [e, decide_true, cond_true] at hh; exact ⟨e, hh⟩
    · simp only [e, decide_false, cond_false] at hh; cases hh
  cases op <;> simp only [intX] at h
  case shl =>
    split at h
    · rename_i s
      simp only [Option.some.injEq] at h
      subst h
      have hs : ¬ ((s : Int) < 0) := by omega
      exact ⟨_, rfl, by simp [binOp, Op.shift, hs]⟩
    · cases h
  case shr =>
    split at h
    · rename_i s
      simp only [Option.some.injEq] at h
      subst h
      have hs : ¬ ((s : Int) < 0) := by omega
      exact ⟨_, rfl, by simp [binOp, Op.shift, hs]⟩
    · cases h
  all_goals
    obtain ⟨e1, h2⟩ := hk (y := x) h
    clear h hk
    subst e1
    have h := h2
    clear h2
  case quo =>
    rw [ieq_eq] at h
    by_cases e : b = 0
    · simp [e] at h
    · simp only [e, decide_false, cond_false, Option.some.injEq] at h
      subst h
      exact ⟨_, rfl, by simp [binOp, Op.intDiv, e]⟩
  case rem =>
    rw [ieq_eq] at h
    by_cases e : b = 0
    · simp [e] at h
    · simp only [e, decide_false, cond_false, Option.some.injEq] at h
      subst h
      exact ⟨_, rfl, by simp [binOp, Op.intDiv, e]⟩
  all_goals first | (cases h; done) | skip
  all_goals
    simp only [Option.some.injEq] at h
    subst h
    refine ⟨_, rfl, ?_⟩
    first
      | (simp [binOp, Op.intArith, wrapX_eq]; done)
      | (simp [binOp, Op.intCmp, ieq_eq, ilt_eq, bX]; done)
      | (simp [binOp, Op.intBits]; done)
      | (simp only [binOp, Op.intCmp, ieq_eq, ilt_eq, Sem.run_pure, if_false, ne_eq, not_true_eq_false, bne]; congr 2 <;> (by_cases e : a = b <;> simp [e]); done)
      | (simp only [binOp, Op.intCmp, ieq_eq, ilt_eq, Sem.run_pure, if_false, ne_eq, not_true_eq_false, ← decide_not, Int.not_lt, ge_iff_le, gt_iff_lt, bX]; done)

theorem beqL_eq : ∀ (a b : List UInt8), beqL a b = (a == b)
  | [], [] => rfl
  | [], _ :: _ => rfl
  | _ :: _, [] => rfl
  | x :: a, y :: b => by
    simp only [beqL, beq_eq, beqL_eq a b]
    by_cases e : x = y
    · subst e; simp
    · have : ¬ x.toNat = y.toNat := fun h => e (UInt8.toNat_inj.1 h)
      simp [this, e]
theorem ltL_eq : ∀ (a b : List UInt8), ltL a b = Op.bytesLess a b
  | [], [] => rfl
  | _ :: _, [] => rfl
  | [], _ :: _ => rfl
  | x :: a, y :: b => by
    simp only [ltL, blt_eq, beq_eq, ltL_eq a b, Op.bytesLess, UInt8.lt_iff_toNat_lt]
    by_cases e : x = y
    · subst e; simp
    · have h1 : ¬ x.toNat = y.toNat := fun h => e (UInt8.toNat_inj.1 h)
      by_cases hl : x.toNat < y.toNat <;> simp [hl, h1, e]
theorem bytesLess_total : ∀ (a b : List UInt8), (Op.bytesLess a b || a == b) = !(Op.bytesLess b a)
  | [], [] => rfl
  | _ :: _, [] => rfl
  | [], _ :: _ => rfl
  | x :: a, y :: b => by
    have ih := bytesLess_total a b
    simp only [Op.bytesLess, UInt8.lt_iff_toNat_lt]
    by_cases e : x = y
    · subst e; simpa using ih
    · have h1 : ¬ x.toNat = y.toNat := fun h => e (UInt8.toNat_inj.1 h)
      by_cases hl : x.toNat < y.toNat
      · have : ¬ y.toNat < x.toNat := by omega
        have e' : ¬ y = x := fun h => e h.symm
        simp [hl, this, e, e']
      · have : y.toNat < x.toNat := by omega
        have e' : ¬ y = x := fun h => e h.symm
        simp [hl, this, e, e']
theorem size_strL (s : ByteArray) : (strL s).length = s.size := rfl
theorem run_strX {op : BinOp} {a b : ByteArray} {x : X} (h : strX op (strL a) (strL b) = some x) (T : TypeId) (w : World) : ∃ v, x = .v v ∧ (binOp op T (.string a) (.string b)).run P w = .ok v w := by
  cases op <;> simp only [strX] at h
  case add =>
    rw [ble_eq] at h
    by_cases hl : lenL (strL a) + lenL (strL b) ≤ 1099511627776
    · simp only [hl, decide_true, cond_true, Option.some.injEq] at h
      subst h
      simp only [lenL_eq, size_strL] at hl
      have e : (⟨(strL a ++ strL b).toArray⟩ : ByteArray) = a ++ b := by
        apply ByteArray.ext
        apply Array.ext'
        simp [strL]
      refine ⟨_, rfl, ?_⟩
      rw [e]
      have : ¬ ((a.size + b.size : Nat) : Int) > IntKind.i64.max := by
        have : IntKind.i64.max = 9223372036854775807 := rfl
        rw [this]; omega
      simp only [binOp, Op.stringOp, if_neg this, Sem.run_pure]
    · simp only [hl, decide_false, cond_false] at h; cases h
  all_goals first | (cases h; done) | skip
  all_goals
    simp only [Option.some.injEq] at h
    subst h
    refine ⟨_, rfl, ?_⟩
    simp only [binOp, Op.stringOp, Sem.run_pure, ByteArray.toList_eq, beqL_eq, ltL_eq, bytesLess_total, Bool.not_not, strL]

theorem run_eqGuard (op : BinOp) (t : TypeId) (x y : Operand) (a b : Value) (h1 : ∀ z, a ≠ .agg z) (h2 : a = .nilIface → b = .nilIface → (isLit x || isLit y) = true) : (eqGuard op t x y a b).run P w = .ok () w := by
  unfold eqGuard
  cases op <;> simp <;> (cases a <;> simp at h1 h2 ⊢) <;> (cases b <;> simp at h2 ⊢) <;> (cases x <;> cases y <;> simp [isLit] at h2 ⊢)
theorem ti_func {t : TypeId} {ti : TI} (h : tiOf P t = some ti) (he : ti.sh = .func) : ∃ a b c, P.underlying t = some (.func a b c) := by
  obtain ⟨i, d, z, h1, h2, h3, h4, h5, h6, h7, h8⟩ := tiOf_spec h
  rw [he] at h8
  cases d <;> simp only [Go.Ab.shOf] at h8 <;> first | exact ⟨_, _, _, h2⟩ | (cases h8; done) | (split at h8 <;> cases h8)
theorem ti_iface {t : TypeId} {ti : TI} (h : tiOf P t = some ti) (he : ti.sh = .iface) : ∃ a, P.underlying t = some (.interface a) := by
  obtain ⟨i, d, z, h1, h2, h3, h4, h5, h6, h7, h8⟩ := tiOf_spec h
  rw [he] at h8
  cases d <;> simp only [Go.Ab.shOf] at h8 <;> first | exact ⟨_, h2⟩ | (cases h8; done) | (split at h8 <;> cases h8)
theorem run_eqXd (d : Nat) {T : TypeId} {ti : TI} (ht : tiOf P T = some ti) {lit : Bool} {dx dy : X} {b : Bool} (he : eqX ti.sh lit dx dy = some b) {x y : Value} (hx : conc m dx = some x) (hy : conc m dy = some y) :
    (Op.equalIn (d + 1) T x y).run P w = .ok b w ∧ (∀ z, x ≠ .agg z) ∧ (x = .nilIface → y = .nilIface → lit = true) ∧ (∀ k n, x ≠ .int k n) ∧ (∀ s, x ≠ .string s) ∧ (∀ k n, x ≠ .float k n) ∧ (∀ k n l, x ≠ .complex k n l) := by
  have red : ∀ r, (Op.equalIn (d + 1) T x y).run P w = r → (Op.equalIn (d + 1) T x y).run P w = r := fun r h => h
  unfold eqX at he
  split at he
  · rename_i hsh
    have hu := ti_bool ht hsh
    split at he
    · rename_i p q
      have := conc_v hx; have := conc_v hy; subst x y
      simp only [Option.some.injEq] at he
      subst he
      exact ⟨red _ (by simp [Op.equalIn, run_underlying hu]; cases p <;> cases q <;> rfl), by simp, by simp, by simp, by simp, by simp, by simp⟩
    · cases he
  · rename_i e hsh
    have hu := ti_ptr ht hsh
    split at he
    · have := conc_v hx; have := conc_v hy; subst x y
      simp only [Option.some.injEq] at he; subst he
      exact ⟨red _ (by simp [Op.equalIn, run_underlying hu]), by simp, by simp, by simp, by simp, by simp, by simp⟩
    · have := conc_v hx; obtain ⟨p, _, rfl⟩ := conc_ptr hy; subst x
      simp only [Option.some.injEq] at he; subst he
      exact ⟨red _ (by simp [Op.equalIn, run_underlying hu]), by simp, by simp, by simp, by simp, by simp, by simp⟩
    · have := conc_v hy; obtain ⟨p, _, rfl⟩ := conc_ptr hx; subst y
      simp only [Option.some.injEq] at he; subst he
      exact ⟨red _ (by simp [Op.equalIn, run_underlying hu]), by simp, by simp, by simp, by simp, by simp, by simp⟩
    · have := conc_v hx; have := conc_v hy; subst x y
      simp only [Option.some.injEq] at he; subst he
      exact ⟨red _ (by simp [Op.equalIn, run_underlying hu]), by simp, by simp, by simp, by simp, by simp, by simp⟩
    · cases he
  · rename_i e hsh
    have hu := run_slice_elem ht hsh
    split at he
    · have := conc_v hx; have := conc_v hy; subst x y
      simp only [Option.some.injEq] at he; subst he
      exact ⟨red _ (by simp [Op.equalIn, run_underlying hu]), by simp, by simp, by simp, by simp, by simp, by simp⟩
    · have := conc_v hy; obtain ⟨p, _, rfl⟩ := conc_slc hx; subst y
      simp only [Option.some.injEq] at he; subst he
      exact ⟨red _ (by simp [Op.equalIn, run_underlying hu]), by simp, by simp, by simp, by simp, by simp, by simp⟩
    · have := conc_v hy; obtain ⟨p, _, rfl⟩ := conc_gsl hx; subst y
      simp only [Option.some.injEq] at he; subst he
      exact ⟨red _ (by simp [Op.equalIn, run_underlying hu]), by simp, by simp, by simp, by simp, by simp, by simp⟩
    · cases he
  · rename_i k e hsh
    have hu := ti_map ht hsh
    split at he
    · have := conc_v hx; have := conc_v hy; subst x y
      simp only [Option.some.injEq] at he; subst he
      exact ⟨red _ (by simp [Op.equalIn, run_underlying hu]), by simp, by simp, by simp, by simp, by simp, by simp⟩
    · have := conc_v hy; obtain ⟨p, _, rfl⟩ := conc_mp hx; subst y
      simp only [Option.some.injEq] at he; subst he
      exact ⟨red _ (by simp [Op.equalIn, run_underlying hu]), by simp, by simp, by simp, by simp, by simp, by simp⟩
    · cases he
  · rename_i hsh
    obtain ⟨_, _, _, hu⟩ := ti_func ht hsh
    split at he
    · have := conc_v hx; have := conc_v hy; subst x y
      simp only [Option.some.injEq] at he; subst he
      exact ⟨red _ (by simp [Op.equalIn, run_underlying hu]), by simp, by simp, by simp, by simp, by simp, by simp⟩
    · have := conc_v hy; obtain ⟨p, q, _, _, rfl⟩ := conc_fn hx; subst y
      simp only [Option.some.injEq] at he; subst he
      exact ⟨red _ (by simp [Op.equalIn, run_underlying hu]), by simp, by simp, by simp, by simp, by simp, by simp⟩
    · cases he
  · rename_i hsh
    obtain ⟨_, hu⟩ := ti_iface ht hsh
    split at he
    · have := conc_v hx; have := conc_v hy; subst x y
      cases lit <;> simp only [cond_true, cond_false, Option.some.injEq, reduceCtorEq] at he
      subst he
      exact ⟨red _ (by simp [Op.equalIn, run_underlying hu]), by simp, by simp, by simp, by simp, by simp, by simp⟩
    · have := conc_v hy; obtain ⟨p, _, rfl⟩ := conc_iface hx; subst y
      simp only [Option.some.injEq] at he; subst he
      exact ⟨red _ (by simp [Op.equalIn, run_underlying hu]), by simp, by simp, by simp, by simp, by simp, by simp⟩
    · cases he
  · cases he

theorem run_eqX {T : TypeId} {ti : TI} (ht : tiOf P T = some ti) {lit : Bool} {dx dy : X} {b : Bool} (he : eqX ti.sh lit dx dy = some b) {x y : Value} (hx : conc m dx = some x) (hy : conc m dy = some y) :
    (Op.equal T x y).run P w = .ok b w ∧ (∀ z, x ≠ .agg z) ∧ (x = .nilIface → y = .nilIface → lit = true) ∧ (∀ k n, x ≠ .int k n) ∧ (∀ s, x ≠ .string s) ∧ (∀ k n, x ≠ .float k n) ∧ (∀ k n l, x ≠ .complex k n l) := run_eqXd 9999 ht he hx hy
theorem run_bin_eql {T : TypeId} {x y : Value} {b : Bool} (h : (Op.equal T x y).run P w = .ok b w) (h1 : ∀ k n, x ≠ .int k n) (h2 : ∀ s, x ≠ .string s) (h3 : ∀ k n, x ≠ .float k n) (h4 : ∀ k n l, x ≠ .complex k n l) :
    (binOp .eql T x y).run P w = .ok (.bool b) w ∧ (binOp .neq T x y).run P w = .ok (.bool (!b)) w := by
  constructor
  · cases x <;> simp at h1 h2 h3 h4 <;> simp [binOp, h]
  · cases x <;> simp at h1 h2 h3 h4 <;> simp [binOp, h]

theorem bin_ok {op : BinOp} {T : TypeId} {ti : TI} (ht : tiOf P T = some ti) {ox oy : Operand} {dx dy r : X} (he : binX op ti.sh (isLit ox || isLit oy) dx dy = some r) {x y : Value} (hx : conc m dx = some x) (hy : conc m dy = some y) :
    ∃ v, (do eqGuard op T ox oy x y; binOp op T x y : Sem Value).run P w = .ok v w ∧ conc m r = some v := by
  have rest : cmpX op (eqX ti.sh (isLit ox || isLit oy) dx dy) = some r → ∃ v, (do eqGuard op T ox oy x y; binOp op T x y : Sem Value).run P w = .ok v w ∧ conc m r = some v := by
    intro he
    unfold cmpX at he
    split at he
    · rename_i b hb
      obtain ⟨h1, h2, h3, h4, h5, h6, h7⟩ := run_eqX (w := w) ht hb hx hy
      split at he
      · simp only [Option.some.injEq] at he; subst he
        exact ⟨.bool b, by rw [Sem.run_bind, run_eqGuard _ _ _ _ _ _ h2 h3]; simp [Result.andThen, (run_bin_eql h1 h4 h5 h6 h7).1], bX_conc m b⟩
      · simp only [Option.some.injEq] at he; subst he
        exact ⟨.bool !b, by rw [Sem.run_bind, run_eqGuard _ _ _ _ _ _ h2 h3]; simp [Result.andThen, (run_bin_eql h1 h4 h5 h6 h7).2], bX_conc m _⟩
      · cases he
    · cases he
  unfold binX at he
  split at he
  · rename_i k a k' b
    have := conc_v hx; have := conc_v hy; subst x y
    obtain ⟨v, rfl, h1⟩ := run_intX he T w
    exact ⟨v, by rw [Sem.run_bind, run_eqGuard _ _ _ _ _ _ (by simp) (by simp)]; simpa [Result.andThen] using h1, conc_vv m v⟩
  · rename_i a b
    have := conc_v hx; have := conc_v hy; subst x y
    obtain ⟨v, rfl, h1⟩ := run_strX he T w
    exact ⟨v, by rw [Sem.run_bind, run_eqGuard _ _ _ _ _ _ (by simp) (by simp)]; simpa [Result.andThen] using h1, conc_vv m v⟩
  · exact rest he

theorem un_ok {op : UnOp} {d r : X} (he : unX op d = some r) {x : Value} (hx : conc m d = some x) : ∃ v, (Op.unary op x).run P w = .ok v w ∧ conc m r = some v := by
  unfold unX at he
  split at he
  · have := conc_v hx; subst x
    split at he
    · simp only [Option.some.injEq] at he; subst he
      exact ⟨_, by simp [Op.unary], bX_conc m _⟩
    · cases he
  · have := conc_v hx; subst x
    split at he
    · simp only [Option.some.injEq] at he; subst he
      exact ⟨_, by simp [Op.unary, Op.intArith]; rfl, by simp [iX, conc, wrapX_eq]⟩
    · cases he
  · cases he

theorem conv_ok {s d : TypeId} {ts td : TI} (hs : tiOf P s = some ts) (hd : tiOf P d = some td) {x : X} (he : convX ts td hp x = some e) {v : Value} (hx : conc m x = some v) : e.up = [] ∧ ∃ u, (convert s d v).run P w = .ok u w ∧ conc m e.x = some u := by
  obtain ⟨i, ds, z, g1, g2, g3, g4, g5, g6, g7, g8⟩ := tiOf_spec hs
  unfold convX at he
  split at he
  · have := conc_v hx; subst v
    split at he
    · rename_i k' hsh
      have := pX_inv he; subst this
      have hu := ti_int hd hsh
      exact ⟨rfl, _, by simp [convert, run_underlying g2, run_underlying hu, Conv.intToInt]; rfl, by simp [iX, conc, wrapX_eq]⟩
    · cases he
  · have := conc_v hx; subst v
    split at he
    · rename_i hsh
      have := pX_inv he; subst this
      have hu := ti_str hd hsh
      exact ⟨rfl, _, by simp [convert, run_underlying g2, run_underlying hu], conc_vv m _⟩
    · cases he
  · cases he

end
end Go.Ex
