/- The abstract layer, part 4: what operations do, first the plain ones. -/
import Derived.Test.YtblbhfnpneliiaaGreatDoorAbRegion
namespace Go.Ab
open Go.RowKit

/-- What an operation does, its operands being represented. -/
def Does (P : Program) (o : Oper) (id : Nat) (ev : Operand → D) (hp : Nat → Option Blk) (e : Eff) : Prop :=
  ∀ w0 M0 I0 fr I mu h (a : Act) w, WRel w0 M0 I0 fr I mu h w → fr id → (∀ x ∈ o.op.operands, Rep w I mu (ev x) (a.eval x)) → (∀ b ∈ e.rd, h b = hp b) →
    ∀ K Q, (∀ v w' I' mu', Ext I mu w I' mu' w' → WRel w0 M0 I0 (fun b => fr b ∧ b ≠ id) I' mu' (fun b => upAt b (h b) e.up) w' → Rep w' I' mu' e.d v → K (a.put o.dst v) w') → o.wp P a w K Q

theorem env_put {w : World} {I : Nat → Prop} {mu : Nat → Option Value} {env : Nat → D} {tmps : Array Value} {dst : Option Nat} {nt : Nat} {v : Value} {d : D} (hs : tmps.size = nt) (hd : ∀ t, dst = some t → t < nt)
    (h : ∀ t, Rep w I mu (env t) (tmps.getD t undef)) (hv : Rep w I mu d v) (a : Act) (ha : a.tmps = tmps) (t : Nat) : Rep w I mu (if dst = some t then d else env t) ((a.put dst v).tmps.getD t undef) := by
  subst ha
  cases dst with
  | none => simpa [Act.put] using h t
  | some k =>
    simp only [Act.put, Option.some.injEq]
    by_cases hk : k = t
    · subst hk
      have : k < a.tmps.size := by rw [hs]; exact hd k rfl
      simp only [if_true, Array.getD, Array.size_setIfInBounds, this, dite_true]
      simpa using hv
    · rw [if_neg hk]
      have := h t
      simp only [Array.getD_eq_getD_getElem?, Array.getElem?_setIfInBounds_ne hk] at this ⊢
      exact this

theorem put_size (a : Act) (dst : Option Nat) (v : Value) : (a.put dst v).tmps.size = a.tmps.size := by cases dst <;> simp [Act.put]
theorem put_defers (a : Act) (dst : Option Nat) (v : Value) : (a.put dst v).defers = a.defers := by cases dst <;> rfl

/-- The operands of an operation lie among what it looks at. -/
theorem evO_agree {ops : Array Oper} {o : Oper} {env env' : Nat → D} (h : ∀ t ∈ o.looksAt ops, env t = env' t) {x : Operand} (hx : x ∈ o.op.operands) : evO env x = evO env' x := by
  cases x with
  | tmp t => exact h t (List.mem_append_left _ (List.mem_filterMap.2 ⟨.tmp t, by simpa using hx, rfl⟩))
  | _ => rfl

theorem Sound.plain {P : Program} {ops : Array Oper} {o : Oper} {id : Nat} {s0 : FSt} {e : Eff} (hg : o.guard = none) (h : Does P o id (evO s0.env) s0.hp e) : Sound P ops o id s0 e := by
  intro w0 M0 I0 nt fr I mu s a w r hid hd ht hb K Q hK
  rw [if_pos (by simp [Region.wanted, hg])]
  refine .inl (h w0 M0 I0 fr I mu s.hp a w r.w hid (fun x hx => ?_) hb K Q fun v w' I' mu' hext hw hv => hK _ _ I' mu' ⟨?_, ?_, ?_, hw⟩)
  · rw [← evO_agree ht hx]; exact rep_evO r.env x
  · rw [put_size]; exact r.size
  · rw [put_defers]; exact r.defers
  · exact env_put r.size hd (fun t => (r.env t).ext hext) hv a rfl

/-- An abstract value that is looked into where its guard holds. -/
def unw : D → D
  | .cond _ d => d
  | d => d
def okD : D → Prop
  | .cond g _ => g = true
  | _ => True
theorem Rep.unw {w : World} {I : Nat → Prop} {mu : Nat → Option Value} {d : D} {v : Value} (h : Rep w I mu d v) (hk : okD d) : Rep w I mu (unw d) v := by
  cases h with
  | cond g d v h _ => exact h hk
  | _ => first | exact h | (constructor <;> assumption)

/-- Does the guard let the operation run, as far as the abstract value of the operation tells on which it hangs? -/
def gOf (d : D) (want : Bool) : Option Bool :=
  match d with
  | .val (.bool b) => some (b == want)
  | .cond g (.val (.bool b)) => some (g && (b == want))
  | _ => none

theorem wanted_gOf {w : World} {I : Nat → Prop} {mu : Nat → Option Value} {ops : Array Oper} {o : Oper} {a : Act} {j t : Nat} {want g : Bool} {d : D} (hg : o.guard = some (j, want)) (ht : (ops[j]?).bind (·.dst) = some t)
    (hr : Rep w I mu d (a.tmps.getD t undef)) (hgo : gOf d want = some g) : Region.wanted o (yielded ops a.tmps) = g := by
  have hy : ∀ x, a.tmps.getD t undef = x → yielded ops a.tmps j = match x with | .bool b => some b | _ => none := by
    intro x hx
    unfold yielded
    rw [ht]
    simp only [Option.bind_some]
    rcases Nat.lt_or_ge t a.tmps.size with hlt | hge
    · have : a.tmps[t]? = some x := by
        rw [← hx]
        simp [Array.getD, hlt]
      rw [this]
      cases x <;> rfl
    · have h1 : a.tmps[t]? = none := Array.getElem?_eq_none hge
      have h2 : x = undef := by
        rw [← hx]
        simp [Array.getD, Nat.not_lt.2 hge]
      rw [h1, h2]
      rfl
  unfold gOf at hgo
  split at hgo
  · rename_i b
    have hv := hr.val_inv
    have := hy _ hv
    simp only [Option.some.injEq] at hgo
    subst hgo
    simp only [Region.wanted, hg, this]
    cases b <;> cases want <;> rfl
  · rename_i g0 b
    simp only [Option.some.injEq] at hgo
    subst hgo
    cases hr with
    | cond _ _ _ h1 h2 =>
      cases g0 with
      | true =>
        have hv := (h1 rfl).val_inv
        have := hy _ hv
        simp only [Region.wanted, hg, this]
        cases b <;> cases want <;> rfl
      | false =>
        have hv := h2 rfl
        have := hy _ hv
        simp only [Region.wanted, hg, this, undef]
        rfl
  · cases hgo

/-- Under a guard: with the value told only where the guard holds. -/
theorem Sound.guarded {P : Program} {ops : Array Oper} {o : Oper} {id : Nat} {s0 : FSt} {e : Eff} {j t : Nat} {want g : Bool} (hg : o.guard = some (j, want)) (ht : (ops[j]?).bind (·.dst) = some t) (hgo : gOf (s0.env t) want = some g)
    (hok : g = true → ∀ x ∈ o.op.operands, okD (evO s0.env x)) (hup : e.up = []) (h : g = true → Does P o id (fun x => unw (evO s0.env x)) s0.hp e) : Sound P ops o id s0 ⟨.cond g e.d, [], e.rd⟩ := by
  intro w0 M0 I0 nt fr I mu s a w r hid hd hl hb K Q hK
  have htl : t ∈ o.looksAt ops := List.mem_append_right _ (by simp [hg, ht])
  have hw : Region.wanted o (yielded ops a.tmps) = g := wanted_gOf hg ht (r.env t) (by rw [hl t htl]; exact hgo)
  rw [hw]
  have fin : ∀ v w' I' mu', Ext I mu w I' mu' w' → WRel w0 M0 I0 (fun b => fr b ∧ b ≠ id) I' mu' s.hp w' → Rep w' I' mu' (.cond g e.d) v → K (a.put o.dst v) w' := fun v w' I' mu' hext hw' hv =>
    hK _ _ I' mu' ⟨by rw [put_size]; exact r.size, by rw [put_defers]; exact r.defers, env_put r.size hd (fun t => (r.env t).ext hext) hv a rfl, hw'⟩
  cases g with
  | true =>
    rw [if_pos rfl]
    refine .inl (h rfl w0 M0 I0 fr I mu s.hp a w r.w hid (fun x hx => ?_) hb K Q fun v w' I' mu' hext hw' hv => ?_)
    · have := rep_evO r.env x
      rw [evO_agree hl hx] at this
      exact this.unw (hok rfl x hx)
    · rw [hup] at hw'
      exact fin v w' I' mu' hext hw' (.cond _ _ _ (fun _ => hv) (fun h => by cases h))
  | false =>
    rw [if_neg (by simp)]
    refine fin undef w I mu (Ext.refl _ _ _) ⟨r.w.blk, r.w.loc, r.w.inj, fun b hb => r.w.fresh b hb.1, r.w.lt, r.w.os, r.w.tape, r.w.output, r.w.grown, r.w.old, r.w.iold, r.w.inew⟩ (.cond _ _ _ (fun h => by cases h) (fun _ => rfl))

/-- Under a guard that holds. -/
theorem Sound.guard_true {P : Program} {ops : Array Oper} {o : Oper} {id : Nat} {s0 : FSt} {e : Eff} {j t : Nat} {want : Bool} (hg : o.guard = some (j, want)) (ht : (ops[j]?).bind (·.dst) = some t) (hgo : gOf (s0.env t) want = some true)
    (h : Does P o id (evO s0.env) s0.hp e) : Sound P ops o id s0 e := by
  intro w0 M0 I0 nt fr I mu s a w r hid hd hl hb K Q hK
  have htl : t ∈ o.looksAt ops := List.mem_append_right _ (by simp [hg, ht])
  rw [wanted_gOf hg ht (r.env t) (by rw [hl t htl]; exact hgo), if_pos rfl]
  refine .inl (h w0 M0 I0 fr I mu s.hp a w r.w hid (fun x hx => ?_) hb K Q fun v w' I' mu' hext hw hv => hK _ _ I' mu' ⟨?_, ?_, ?_, hw⟩)
  · rw [← evO_agree hl hx]; exact rep_evO r.env x
  · rw [put_size]; exact r.size
  · rw [put_defers]; exact r.defers
  · exact env_put r.size hd (fun t => (r.env t).ext hext) hv a rfl

/-- Under a guard that does not hold. -/
theorem Sound.guard_false {P : Program} {ops : Array Oper} {o : Oper} {id : Nat} {s0 : FSt} {j t : Nat} {want : Bool} (hg : o.guard = some (j, want)) (ht : (ops[j]?).bind (·.dst) = some t) (hgo : gOf (s0.env t) want = some false) :
    Sound P ops o id s0 ⟨.any, [], []⟩ := by
  intro w0 M0 I0 nt fr I mu s a w r hid hd hl hb K Q hK
  have htl : t ∈ o.looksAt ops := List.mem_append_right _ (by simp [hg, ht])
  rw [wanted_gOf hg ht (r.env t) (by rw [hl t htl]; exact hgo), if_neg (by simp)]
  refine hK _ _ I mu ⟨by rw [put_size]; exact r.size, by rw [put_defers]; exact r.defers, env_put r.size hd r.env (.any _) a rfl, ⟨r.w.blk, r.w.loc, r.w.inj, fun b hb => r.w.fresh b hb.1, r.w.lt, r.w.os, r.w.tape, r.w.output, r.w.grown, r.w.old, r.w.iold, r.w.inew⟩⟩

/-! plain operations: they leave the world alone -/

/-- An operation that yields a value and leaves the world alone. -/
theorem Does.quiet {P : Program} {o : Oper} {id : Nat} {ev : Operand → D} {hp : Nat → Option Blk} {d : D} {rd : List Nat}
    (h : ∀ w0 M0 I0 fr I mu h (a : Act) w, WRel w0 M0 I0 fr I mu h w → (∀ x ∈ o.op.operands, Rep w I mu (ev x) (a.eval x)) → (∀ b ∈ rd, h b = hp b) → ∃ v, (execOp a.eval o).run P w = .ok (.value v) w ∧ Rep w I mu d v) : Does P o id ev hp ⟨d, [], rd⟩ := by
  intro w0 M0 I0 fr I mu hh a w hw hid hx hb K Q hK
  obtain ⟨v, hrun, hv⟩ := h w0 M0 I0 fr I mu hh a w hw hx hb
  unfold Oper.wp
  rw [hrun]
  exact hK v w I mu (Ext.refl _ _ _) ⟨hw.blk, hw.loc, hw.inj, fun b hb => hw.fresh b hb.1, hw.lt, hw.os, hw.tape, hw.output, hw.grown, hw.old, hw.iold, hw.inew⟩ hv

section plain
variable {P : Program} {id : Nat} {ev : Operand → D} {hp : Nat → Option Blk} {dst : Option Tmp} {T : TypeId} {pos : String} {af : Array Edge} {gd : Option (Nat × Bool)}

theorem does_move (x : Operand) : Does P ⟨dst, .move x, T, pos, af, gd⟩ id ev hp ⟨ev x, [], []⟩ :=
  Does.quiet fun _ _ _ _ I mu _ a w _ hx _ => ⟨a.eval x, by simp [execOp], hx x (by simp [Op.operands])⟩
theorem does_assign (x : Operand) : Does P ⟨dst, .assign x, T, pos, af, gd⟩ id ev hp ⟨ev x, [], []⟩ :=
  Does.quiet fun _ _ _ _ I mu _ a w _ hx _ => ⟨a.eval x, by simp [execOp], hx x (by simp [Op.operands])⟩

/-- The choice between two, told by the chosen one alone. -/
theorem does_pick_lit (c x y : Operand) (b : Bool) (hc : ev c = .val (.bool b)) : Does P ⟨dst, .pick c x y, T, pos, af, gd⟩ id ev hp ⟨if b = true then ev x else ev y, [], []⟩ :=
  Does.quiet fun _ _ _ _ I mu _ a w _ hx _ => by
    have h1 := hx c (by simp [Op.operands])
    rw [hc] at h1
    have := h1.val_inv
    refine ⟨if b = true then a.eval x else a.eval y, by simp [execOp, this, asBool], ?_⟩
    split
    · exact hx x (by simp [Op.operands])
    · exact hx y (by simp [Op.operands])

/-- The choice between two tests, one of which may be told under a guard alone. -/
def boolOf : D → Option (Bool × Bool)
  | .val (.bool b) => some (true, b)
  | .cond g (.val (.bool b)) => some (g, b)
  | _ => none
theorem does_pick_sym (c x y : Operand) (b gx gy p q : Bool) (hc : ev c = .val (.bool b)) (hx : boolOf (ev x) = some (gx, p)) (hy : boolOf (ev y) = some (gy, q)) (h1 : b = true → gx = true) (h2 : b = false → gy = true) :
    Does P ⟨dst, .pick c x y, T, pos, af, gd⟩ id ev hp ⟨.val (.bool (bif b then p else q)), [], []⟩ :=
  Does.quiet fun _ _ _ _ I mu _ a w _ hr _ => by
    have hb : ∀ z gz r, boolOf (ev z) = some (gz, r) → gz = true → z ∈ (Op.pick c x y).operands → a.eval z = .bool r := by
      intro z gz r hz hg hm
      have h3 := hr z hm
      unfold boolOf at hz
      split at hz
      · rename_i b' he
        simp only [Option.some.injEq, Prod.mk.injEq] at hz
        rw [he] at h3
        rw [h3.val_inv, hz.2]
      · rename_i g' b' he
        simp only [Option.some.injEq, Prod.mk.injEq] at hz
        rw [he] at h3
        cases h3 with
        | cond _ _ _ h4 _ => rw [(h4 (hz.1.trans hg)).val_inv, hz.2]
      · cases hz
    have h3 := hr c (by simp [Op.operands])
    rw [hc] at h3
    have hcv := h3.val_inv
    cases b with
    | true => exact ⟨.bool p, by simp [execOp, hcv, asBool, hb x gx p hx (h1 rfl) (by simp [Op.operands])], .val _ trivial⟩
    | false => exact ⟨.bool q, by simp [execOp, hcv, asBool, hb y gy q hy (h2 rfl) (by simp [Op.operands])], .val _ trivial⟩

/-! numbers, texts, tests -/
def intBin (op : BinOp) (k : IntKind) (a : Int) (k' : IntKind) (b : Int) : Option (Value × Prop) :=
  match op with
  | .add => if k = k' then some (.int k (k.wrap (a + b)), True) else none
  | .sub => if k = k' then some (.int k (k.wrap (a - b)), True) else none
  | .mul => if k = k' then some (.int k (k.wrap (a * b)), True) else none
  | .quo => if k = k' then some (.int k (k.wrap (a.tdiv b)), b ≠ 0) else none
  | .rem => if k = k' then some (.int k (a.tmod b), b ≠ 0) else none
  | .shl => some (.int k (k.wrap (a * 2 ^ (min b.toNat k.bits))), 0 ≤ b)
  | .shr => some (.int k (a.fdiv (2 ^ (min b.toNat k.bits))), 0 ≤ b)
  | .eql => if k = k' then some (.bool (a == b), True) else none
  | .neq => if k = k' then some (.bool (a != b), True) else none
  | .lss => if k = k' then some (.bool (decide (a < b)), True) else none
  | .leq => if k = k' then some (.bool (decide (a ≤ b)), True) else none
  | .gtr => if k = k' then some (.bool (decide (b < a)), True) else none
  | .geq => if k = k' then some (.bool (decide (b ≤ a)), True) else none
  | _ => none
theorem run_intBin {op : BinOp} {k k' : IntKind} {a b : Int} {r : Value} {c : Prop} (h : intBin op k a k' b = some (r, c)) (hc : c) (T : TypeId) (w : World) : (binOp op T (.int k a) (.int k' b)).run P w = .ok r w := by
  cases op <;> simp only [intBin] at h <;> first
    | (split at h
       · simp only [Option.some.injEq, Prod.mk.injEq] at h; obtain ⟨rfl, rfl⟩ := h; rename_i hk; subst hk
         simp [binOp, Op.intArith, Op.intCmp, Op.intDiv, hc]
       · cases h)
    | (simp only [Option.some.injEq, Prod.mk.injEq] at h; obtain ⟨rfl, rfl⟩ := h; simp [binOp, Op.shift, Int.not_lt.2 hc])
    | cases h

theorem intBin_ok {op : BinOp} {k k' : IntKind} {a b : Int} {r : Value} {c : Prop} (h : intBin op k a k' b = some (r, c)) (hc : c) (ha : okP (.int k a)) : okP r := by
  cases op <;> simp only [intBin] at h <;> first
    | (split at h
       · simp only [Option.some.injEq, Prod.mk.injEq] at h; obtain ⟨rfl, rfl⟩ := h; rename_i hk; subst hk
         first
           | exact trivial
           | exact wrap_ok _ _
           | (simp only [okP] at ha ⊢
              have h1 : (a.tmod b).natAbs ≤ a.natAbs := by rw [Int.natAbs_tmod]; exact Nat.mod_le _ _
              have h2 : 0 ≤ a → 0 ≤ a.tmod b := fun h => Int.tmod_nonneg b h
              have h3 : a ≤ 0 → a.tmod b ≤ 0 := fun h => by
                have := Int.tmod_nonneg b (show 0 ≤ -a by omega)
                rw [Int.neg_tmod] at this; omega
              have : imin k ≤ 0 := by cases k <;> simp [imin]
              have : 0 ≤ imax k := by cases k <;> simp [imax]
              omega)
       · cases h)
    | (simp only [Option.some.injEq, Prod.mk.injEq] at h; obtain ⟨rfl, rfl⟩ := h
       first
         | exact wrap_ok _ _
         | (simp only [okP] at ha ⊢
            have hp : (0 : Int) < 2 ^ (min b.toNat k.bits) := Int.pow_pos (by decide)
            have : imin k ≤ 0 := by cases k <;> simp [imin]
            have : 0 ≤ imax k := by cases k <;> simp [imax]
            rw [Int.fdiv_eq_ediv_of_nonneg _ (Int.le_of_lt hp)]
            by_cases h0 : 0 ≤ a
            · have h1 := Int.ediv_nonneg h0 (Int.le_of_lt hp)
              have h2 : a / 2 ^ (min b.toNat k.bits) ≤ a := Int.ediv_le_self _ h0
              omega
            · have h1 : a / 2 ^ (min b.toNat k.bits) < 0 := Int.ediv_neg_of_neg_of_pos (by omega) hp
              have h2 : a ≤ a / 2 ^ (min b.toNat k.bits) := by
                rw [Int.le_ediv_iff_mul_le hp]
                have : a * 2 ^ (min b.toNat k.bits) ≤ a * 1 := Int.mul_le_mul_of_nonpos_left (by omega) (by omega)
                omega
              omega))
    | cases h

def strBin (op : BinOp) (a b : ByteArray) : Option (Value × Prop) :=
  match op with
  | .add => some (.string (a ++ b), a.size + b.size ≤ 9223372036854775807)
  | .eql => some (.bool (a.toList == b.toList), True)
  | .neq => some (.bool (!(a.toList == b.toList)), True)
  | .lss => some (.bool (Op.bytesLess a.toList b.toList), True)
  | .leq => some (.bool (Op.bytesLess a.toList b.toList || a.toList == b.toList), True)
  | .gtr => some (.bool (!(Op.bytesLess a.toList b.toList || a.toList == b.toList)), True)
  | .geq => some (.bool (!Op.bytesLess a.toList b.toList), True)
  | _ => none
theorem run_strBin {op : BinOp} {a b : ByteArray} {r : Value} {c : Prop} (h : strBin op a b = some (r, c)) (hc : c) (T : TypeId) (w : World) : (binOp op T (.string a) (.string b)).run P w = .ok r w := by
  cases op <;> simp only [strBin] at h <;> first
    | (simp only [Option.some.injEq, Prod.mk.injEq] at h; obtain ⟨rfl, rfl⟩ := h; simp [binOp, Op.stringOp]; try omega)
    | cases h
theorem strBin_ok {op : BinOp} {a b : ByteArray} {r : Value} {c : Prop} (h : strBin op a b = some (r, c)) (hc : c) : okP r := by
  cases op <;> simp only [strBin] at h <;> first
    | (simp only [Option.some.injEq, Prod.mk.injEq] at h; obtain ⟨rfl, rfl⟩ := h
       first
         | exact trivial
         | (simp only [okP, ByteArray.size_append]; exact hc))
    | cases h
end plain
end Go.Ab
