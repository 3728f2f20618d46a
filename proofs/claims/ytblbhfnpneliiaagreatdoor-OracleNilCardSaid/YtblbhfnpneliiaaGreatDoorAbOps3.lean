/- The abstract layer, part 6: loads, stores, new variables, structs, indexing, slicing. -/
import Derived.Test.YtblbhfnpneliiaaGreatDoorAbOps2
namespace Go.Ab
open Go.RowKit

abbrev Res := Option (Eff × Prop)
def pv (d : D) : Res := some (⟨d, [], []⟩, True)
def pvc (d : D) (c : Prop) : Res := some (⟨d, [], []⟩, c)

/-- What a run of an operation must do for Does. -/
def Runs (P : Program) (s : World → Result Value) (id : Nat) (d : D) (up : List (Nat × Option Blk)) (w0 : World) (M0 I0 fr I : Nat → Prop) (mu : Nat → Option Value) (h : Nat → Option Blk) (w : World) : Prop :=
  ∃ v w' I' mu', s w = .ok v w' ∧ Ext I mu w I' mu' w' ∧ WRel w0 M0 I0 (fun b => fr b ∧ b ≠ id) I' mu' (fun b => upAt b (h b) up) w' ∧ Rep w' I' mu' d v

theorem WRel.less {w0 : World} {M0 I0 fr fr' I : Nat → Prop} {mu : Nat → Option Value} {h : Nat → Option Blk} {w : World} (r : WRel w0 M0 I0 fr I mu h w) (hf : ∀ b, fr' b → fr b) : WRel w0 M0 I0 fr' I mu h w :=
  ⟨r.blk, r.loc, r.inj, fun b hb => r.fresh b (hf b hb), r.lt, r.os, r.tape, r.output, r.grown, r.old, r.iold, r.inew⟩

theorem Runs.same {P : Program} {s : World → Result Value} {id : Nat} {d : D} {w0 : World} {M0 I0 fr I : Nat → Prop} {mu : Nat → Option Value} {h : Nat → Option Blk} {w : World} (r : WRel w0 M0 I0 fr I mu h w) (v : Value) (hs : s w = .ok v w) (hv : Rep w I mu d v) : Runs P s id d [] w0 M0 I0 fr I mu h w :=
  ⟨v, w, I, mu, hs, Ext.refl _ _ _, r.less fun b hb => hb.1, hv⟩

/-- Does, by the run of what the operation reckons. -/
theorem Does.of_runs {P : Program} {o : Oper} {id : Nat} {ev : Operand → D} {hp : Nat → Option Blk} {e : Eff} (s : (Operand → Value) → Sem Value)
    (hs : ∀ (a : Act) w, (execOp a.eval o).run P w = ((s a.eval).run P w).andThen fun v w' => .ok (.value v) w')
    (h : ∀ w0 M0 I0 fr I mu h (a : Act) w, WRel w0 M0 I0 fr I mu h w → fr id → (∀ x ∈ o.op.operands, Rep w I mu (ev x) (a.eval x)) → (∀ b ∈ e.rd, h b = hp b) → Runs P (fun w => (s a.eval).run P w) id e.d e.up w0 M0 I0 fr I mu h w) : Does P o id ev hp e := by
  intro w0 M0 I0 fr I mu hh a w hw hid hx hb K Q hK
  obtain ⟨v, w', I', mu', hrun, hext, hw', hv⟩ := h w0 M0 I0 fr I mu hh a w hw hid hx hb
  have hrun' : (s a.eval).run P w = .ok v w' := hrun
  unfold Oper.wp
  rw [hs, hrun']
  exact hK v w' I' mu' hext hw' hv
/-- Does, of an operation that yields nothing. -/
theorem Does.of_runs_u {P : Program} {o : Oper} {id : Nat} {ev : Operand → D} {hp : Nat → Option Blk} {up : List (Nat × Option Blk)} {rd : List Nat} (s : (Operand → Value) → Sem Unit)
    (hs : ∀ (a : Act) w, (execOp a.eval o).run P w = ((s a.eval).run P w).andThen fun _ w' => .ok .skip w')
    (h : ∀ w0 M0 I0 fr I mu h (a : Act) w, WRel w0 M0 I0 fr I mu h w → fr id → (∀ x ∈ o.op.operands, Rep w I mu (ev x) (a.eval x)) → (∀ b ∈ rd, h b = hp b) →
      ∃ w' I' mu', (s a.eval).run P w = .ok () w' ∧ Ext I mu w I' mu' w' ∧ WRel w0 M0 I0 (fun b => fr b ∧ b ≠ id) I' mu' (fun b => upAt b (h b) up) w') : Does P o id ev hp ⟨.any, up, rd⟩ := by
  intro w0 M0 I0 fr I mu hh a w hw hid hx hb K Q hK
  obtain ⟨w', I', mu', hrun, hext, hw'⟩ := h w0 M0 I0 fr I mu hh a w hw hid hx hb
  unfold Oper.wp
  rw [hs, hrun]
  exact hK undef w' I' mu' hext hw' (.any _)

section
variable {P : Program} {w0 : World} {M0 I0 fr I : Nat → Prop} {mu : Nat → Option Value} {h : Nat → Option Blk} {w : World}

/-! reading a variable -/
def loadE (ti : TI) (hp : Nat → Option Blk) : D → Res
  | .ptr cs off => bif ti.ag then pvc (.agg ((cs.drop off).take ti.sz)) (off + ti.sz ≤ cs.length) else pvc (nd cs off) (off < cs.length)
  | .ref b i off sz => match hp b with
    | some (.rows es sz') => bif ti.ag then some (⟨.agg (((nr es i).drop off).take ti.sz), [], [b]⟩, i < es.length ∧ sz = sz' ∧ off + ti.sz ≤ sz) else some (⟨nd (nr es i) off, [], [b]⟩, i < es.length ∧ sz = sz' ∧ off < sz)
    | _ => none
  | _ => none

/-- Cells that lie one behind the other, read as a variable. -/
theorem run_loadVar_cells {t : TypeId} {ti : TI} (ht : tiOf P t = some ti) (w : World) (k o : Nat) (cs : List D) (u : Nat → Value) (hcell : ∀ j, j < cs.length → w.cell? ⟨k, o + j, none⟩ = some (u j)) (hr : ∀ j, j < cs.length → Rep w I mu (nd cs j) (u j)) (off : Nat) :
    (ti.ag = true → off + ti.sz ≤ cs.length → ∃ v, (loadVar t ⟨k, o + off, none⟩).run P w = .ok v w ∧ Rep w I mu (.agg ((cs.drop off).take ti.sz)) v) ∧
    (ti.ag = false → off < cs.length → ∃ v, (loadVar t ⟨k, o + off, none⟩).run P w = .ok v w ∧ Rep w I mu (nd cs off) v) := by
  constructor
  · intro hag hle
    have hl := run_loadCells (P := P) w ⟨k, o + off, none⟩ ti.sz (fun j => u (off + j)) (fun j hj => by rw [addr_add, Nat.add_assoc]; exact hcell (off + j) (by omega))
    refine ⟨.agg ((List.range ti.sz).map fun j => u (off + j)).toArray, ?_, .agg _ _ (by simp; omega) fun i hi => ?_⟩
    · simp [loadVar, run_isAgg' ht, hag, run_sizeOf' ht, hl]
    · simp only [List.length_take, List.length_drop] at hi
      have h1 : nd ((cs.drop off).take ti.sz) i = nd cs (off + i) := by
        simp only [nd, List.getD_eq_getElem?_getD]
        rw [List.getElem?_take_of_lt (by omega), List.getElem?_drop]
      have h2 : nv ((List.range ti.sz).map fun j => u (off + j)) i = u (off + i) := by
        simp [nv, List.getD_eq_getElem?_getD, show i < ti.sz by omega]
      rw [h1, h2]
      exact hr (off + i) (by omega)
  · intro hag hlt
    refine ⟨u off, ?_, hr off hlt⟩
    simp [loadVar, run_isAgg' ht, hag, hcell off hlt]

theorem runs_load {t : TypeId} {ti : TI} (ht : tiOf P t = some ti) {hp : Nat → Option Blk} {d : D} {e : Eff} {c : Prop} (he : loadE ti hp d = some (e, c)) (hc : c) (hr : WRel w0 M0 I0 fr I mu h w) {v : Value} (hv : Rep w I mu d v) (hb : ∀ b ∈ e.rd, h b = hp b) (id : Nat) :
    Runs P (fun w => (Instr.loadAt t v).run P w) id e.d e.up w0 M0 I0 fr I mu h w := by
  cases d with
  | ptr cs off =>
    cases hv with
    | ptr _ _ k o u hI hcell hrep =>
      have hl := run_loadVar_cells (I := I) (mu := mu) ht w k o cs u hcell hrep off
      cases hag : ti.ag <;> simp only [loadE, hag, cond_true, cond_false, pvc, Option.some.injEq, Prod.mk.injEq] at he <;> obtain ⟨rfl, rfl⟩ := he
      · obtain ⟨v, h1, h2⟩ := hl.2 hag hc
        exact Runs.same hr v (by simp [Instr.loadAt, Instr.sureAddr, h1]) h2
      · obtain ⟨v, h1, h2⟩ := hl.1 hag hc
        exact Runs.same hr v (by simp [Instr.loadAt, Instr.sureAddr, h1]) h2
  | ref b i off sz =>
    simp only [loadE] at he
    split at he
    · rename_i es sz' hx
      cases hv with
      | ref _ _ _ _ k hk =>
        have hbb : ∀ e', e = e' → b ∈ e'.rd → h b = hp b := fun e' h1 h2 => hb b (h1 ▸ h2)
        have core : h b = some (.rows es sz') → i < es.length → sz = sz' → (∀ off, (ti.ag = true → off + ti.sz ≤ sz → ∃ v, (loadVar t ⟨k, i * sz + off, none⟩).run P w = .ok v w ∧ Rep w I mu (.agg (((nr es i).drop off).take ti.sz)) v) ∧
            (ti.ag = false → off < sz → ∃ v, (loadVar t ⟨k, i * sz + off, none⟩).run P w = .ok v w ∧ Rep w I mu (nd (nr es i) off) v)) := by
          intro hhb hi hsz off
          subst hsz
          obtain ⟨k', T, us, h1, h2, h3, h4, h5⟩ := hr.blk b _ hhb
          rw [hk] at h1
          simp only [Option.some.injEq, Value.pointer.injEq, Addr.mk.injEq, and_true] at h1
          subst h1
          have hlen := h4 i hi
          have hmul : i * sz + sz ≤ es.length * sz := by rw [← Nat.succ_mul]; exact Nat.mul_le_mul_right _ hi
          have := run_loadVar_cells (P := P) (I := I) (mu := mu) ht w k (i * sz) (nr es i) (fun j => nv us (i * sz + j)) (fun j hj => by
              rw [hlen] at hj
              simp only [World.cell?, h2, Option.isSome_none, nv]
              rw [if_neg (by simp)]
              simp [List.getD_eq_getElem?_getD, show i * sz + j < us.length by omega])
            (fun j hj => h5 i j hi (by omega)) off
          rw [hlen] at this
          exact this
        cases hag : ti.ag <;> simp only [hag, cond_true, cond_false, Option.some.injEq, Prod.mk.injEq] at he <;> obtain ⟨rfl, rfl⟩ := he
        · obtain ⟨v, h1, h2⟩ := (core ((hb b (by simp)).trans hx) hc.1 hc.2.1 off).2 hag hc.2.2
          exact Runs.same hr v (by simp [Instr.loadAt, Instr.sureAddr, h1]) h2
        · obtain ⟨v, h1, h2⟩ := (core ((hb b (by simp)).trans hx) hc.1 hc.2.1 off).1 hag hc.2.2
          exact Runs.same hr v (by simp [Instr.loadAt, Instr.sureAddr, h1]) h2
    · cases he
  | _ => simp [loadE] at he

/-! writing a variable -/
def storeE (ti : TI) (hp : Nat → Option Blk) (a d : D) : Res :=
  match a with
  | .ref b i off sz => match hp b with
    | some (.rows es sz') => match cellsD d with
      | some ns => some (⟨.any, [(b, some (.rows (es.set i (setL (nr es i) off ns)) sz'))], [b]⟩, i < es.length ∧ sz = sz' ∧ off + ns.length ≤ sz ∧ ns.length = ti.sz)
      | none => none
    | _ => none
  | _ => none

theorem nd_setL {xs ys : List D} {off : Nat} (h : off + ys.length ≤ xs.length) (i : Nat) : nd (setL xs off ys) i = if i < off then nd xs i else if i < off + ys.length then nd ys (i - off) else nd xs i := by
  simp only [nd, List.getD_eq_getElem?_getD, setL_get h]
  split
  · rfl
  · split <;> rfl
theorem nv_setL {xs ys : List Value} {off : Nat} (h : off + ys.length ≤ xs.length) (i : Nat) : nv (setL xs off ys) i = if i < off then nv xs i else if i < off + ys.length then nv ys (i - off) else nv xs i := by
  simp only [nv, List.getD_eq_getElem?_getD, setL_get h]
  split
  · rfl
  · split <;> rfl
theorem nr_set {es : List (List D)} {i : Nat} {r : List D} (hi : i < es.length) (j : Nat) : nr (es.set i r) j = if i = j then r else nr es j := by
  simp only [nr, List.getD_eq_getElem?_getD, List.getElem?_set]
  by_cases h : i = j
  · subst h; simp [hi]
  · simp [h]

theorem runs_store {t : TypeId} {ti : TI} (ht : tiOf P t = some ti) {hp : Nat → Option Blk} {a d : D} {e : Eff} {c : Prop} (he : storeE ti hp a d = some (e, c)) (hc : c) (hr : WRel w0 M0 I0 fr I mu h w) {v x : Value} (hv : Rep w I mu a v) (hx : Rep w I mu d x) (hb : ∀ b ∈ e.rd, h b = hp b) (id : Nat) :
    e.d = .any ∧ ∃ w' I' mu', (Instr.storeAt t v x).run P w = .ok () w' ∧ Ext I mu w I' mu' w' ∧ WRel w0 M0 I0 (fun b => fr b ∧ b ≠ id) I' mu' (fun b => upAt b (h b) e.up) w' := by
  cases a with
  | ref b i off sz =>
    simp only [storeE] at he
    split at he
    · rename_i es sz' hh
      split at he
      · rename_i ns hns
        simp only [Option.some.injEq, Prod.mk.injEq] at he
        obtain ⟨rfl, rfl⟩ := he
        obtain ⟨hi, rfl, hle, hsz⟩ := hc
        have hhb := (hb b (by simp)).trans hh
        refine ⟨rfl, ?_⟩
        obtain ⟨us', hcs, hl', hrep, hone⟩ := hx.cells hns
        obtain ⟨k, T, us, h1, h2, h3, h4, h5⟩ := hr.blk b _ hhb
        cases hv with
        | ref _ _ _ _ k' hk =>
          rw [h1] at hk
          simp only [Option.some.injEq, Value.pointer.injEq, Addr.mk.injEq, and_true] at hk
          subst hk
          have hlen := h4 i hi
          have hmul : i * sz + sz ≤ es.length * sz := by rw [← Nat.succ_mul]; exact Nat.mul_le_mul_right _ hi
          obtain ⟨w', hrun, hheap, hwrote⟩ := run_storeCells (P := P) (T := T) us' 0 (i * sz + off) us w h2 (by omega) hone
          simp only [Nat.add_zero] at hheap
          have hne : ∀ j, j < es.length → i ≠ j → ∀ l, l < sz → ¬ (i * sz + off ≤ j * sz + l ∧ j * sz + l < i * sz + off + us'.length) := by
            intro j hj hij l hl
            rintro ⟨g1, g2⟩
            rcases Nat.lt_or_gt_of_ne hij with h6 | h6
            · have : i * sz + sz ≤ j * sz := by rw [← Nat.succ_mul]; exact Nat.mul_le_mul_right _ h6
              omega
            · have : j * sz + sz ≤ i * sz := by rw [← Nat.succ_mul]; exact Nat.mul_le_mul_right _ h6
              omega
          have hnotI : ¬ I k := (hr.loc b _ _ k hhb h1 rfl).2.1
          have hIkeep : ∀ j, I j → w'.heap[j]? = w.heap[j]? := fun j hj => hwrote.other j (by rintro rfl; exact hnotI hj)
          have := hr.wrote (id := id) hhb h1 rfl hwrote (.rows (es.set i (setL (nr es i) off ns)) sz) ⟨k, T, setL us (i * sz + off) us', h1, hheap, by
              rw [setL_length (by omega), h3, List.length_set], fun j hj => by
              rw [List.length_set] at hj
              rw [nr_set hi]
              split
              · rw [setL_length (by omega)]; exact hlen
              · exact h4 j hj, fun j l hj hl => by
              rw [List.length_set] at hj
              rw [nr_set hi, nv_setL (by omega)]
              by_cases hij : i = j
              · subst hij
                rw [if_pos rfl, nd_setL (by omega)]
                have c1 : (i * sz + l < i * sz + off) ↔ l < off := by omega
                have c2 : (i * sz + l < i * sz + off + us'.length) ↔ l < off + ns.length := by omega
                have e1 : i * sz + l - (i * sz + off) = l - off := by omega
                simp only [c1, c2, e1]
                by_cases g1 : l < off
                · simp only [if_pos g1]
                  exact (h5 i l hj hl).mono hIkeep (fun _ h => h) (fun _ _ h => h)
                · simp only [if_neg g1]
                  by_cases g2 : l < off + ns.length
                  · simp only [if_pos g2]
                    exact (hrep (l - off) (by omega)).mono hIkeep (fun _ h => h) (fun _ _ h => h)
                  · simp only [if_neg g2]
                    exact (h5 i l hj hl).mono hIkeep (fun _ h => h) (fun _ _ h => h)
              · rw [if_neg hij]
                have := hne j hj hij l hl
                by_cases g1 : j * sz + l < i * sz + off
                · rw [if_pos g1]
                  exact (h5 j l hj hl).mono hIkeep (fun _ h => h) (fun _ _ h => h)
                · rw [if_neg g1, if_neg (by omega)]
                  exact (h5 j l hj hl).mono hIkeep (fun _ h => h) (fun _ _ h => h)⟩
          refine ⟨w', I, mu, ?_, this.2, this.1⟩
          have hcz : x.cells.size = ti.sz := by
            have : x.cells.toList.length = us'.length := by rw [hcs]
            simp only [Array.length_toList] at this
            omega
          simp [Instr.storeAt, Instr.sureAddr, storeVar, run_sizeOf' ht, hcz, hcs, hrun]
      · cases he
    · cases he
  | _ => simp [storeE] at he

/-! new variables -/
def rowsOf (cs : List D) (sz : Nat) : Blk := .rows [cs] sz
theorem runs_newRow {elem : TypeId} (us : List Value) (cs : List D) (hl : us.length = cs.length) (hrep : ∀ i, i < cs.length → Rep w I mu (nd cs i) (nv us i)) (hr : WRel w0 M0 I0 fr I mu h w) {id : Nat} (hid : fr id) (sz : Nat) (hsz : cs.length = sz) :
    ∃ mu', (newRow elem us.toArray).run P w = .ok ⟨w.heap.size, 0, none⟩ (w.alloc (.cells us.toArray elem)) ∧ Ext I mu w I mu' (w.alloc (.cells us.toArray elem)) ∧
      WRel w0 M0 I0 (fun b => fr b ∧ b ≠ id) I mu' (fun b => upAt b (h b) [(id, some (.rows [cs] sz))]) (w.alloc (.cells us.toArray elem)) ∧ mu' id = some (.pointer (some ⟨w.heap.size, 0, none⟩)) := by
  have hnone := hr.fresh id hid
  have := hr.new hid (.cells us.toArray elem) (.pointer (some ⟨w.heap.size, 0, none⟩)) rfl (.rows [cs] sz) ⟨w.heap.size, elem, us, by simp [mset], heap_alloc_new w _, by simp; omega, fun i hi => by
      simp only [List.length_singleton] at hi; obtain rfl : i = 0 := by omega
      simpa [nr] using hsz, fun i j hi hj => by
      simp only [List.length_singleton] at hi; obtain rfl : i = 0 := by omega
      simp only [Nat.zero_mul, Nat.zero_add]
      have : nr [cs] 0 = cs := rfl
      rw [this]
      exact (hrep j (by omega)).mono (fun k hk => heap_alloc_lt w _ (hr.lt k hk)) (fun _ h => h) (mset_ext hnone)⟩
  exact ⟨_, by simp [newRow], this.2, this.1, by simp [mset]⟩

def allocE (id : Nat) (ti : TI) : Res := some (⟨.ref id 0 0 ti.sz, [(id, some (.rows [ti.zero.map ofV] ti.sz))], []⟩, ti.zero.length = ti.sz)
theorem runs_alloc {t : TypeId} {ti : TI} (ht : tiOf P t = some ti) {id : Nat} {e : Eff} {c : Prop} (he : allocE id ti = some (e, c)) (hc : c) (hr : WRel w0 M0 I0 fr I mu h w) (hid : fr id) :
    Runs P (fun w => (Instr.alloc t true (.tuple #[])).run P w) id e.d e.up w0 M0 I0 fr I mu h w := by
  simp only [allocE, Option.some.injEq, Prod.mk.injEq] at he
  obtain ⟨rfl, rfl⟩ := he
  obtain ⟨z, hz, hzl⟩ := run_zeroValue' ht w
  obtain ⟨mu', h1, h2, h3, h4⟩ := runs_newRow (P := P) (elem := t) ti.zero (ti.zero.map ofV) (by simp) (fun i hi => by
      simp only [List.length_map] at hi
      have : nd (ti.zero.map ofV) i = ofV (nv ti.zero i) := by simp [nd, nv, List.getD_eq_getElem?_getD, hi]
      rw [this]; exact rep_ofV _ _ _ _) hr hid ti.sz (by simpa using hc)
  have hza : z.cells = ti.zero.toArray := by rw [← hzl]
  refine ⟨.pointer (some ⟨w.heap.size, 0, none⟩), _, I, mu', ?_, h2, h3, by simpa using Rep.ref (w := w.alloc (.cells ti.zero.toArray t)) (I := I) id 0 0 ti.sz _ h4⟩
  simp only [Instr.alloc, newVar, Sem.run_bind, hz, hza, h1, Result.andThen, Sem.run_pure]

def boxE (id : Nat) (d : D) : Res :=
  match cellsD d with
  | some ns => some (⟨.ref id 0 0 ns.length, [(id, some (.rows [ns] ns.length))], []⟩, True)
  | none => none
theorem runs_box {t : TypeId} {id : Nat} {d : D} {e : Eff} {c : Prop} (he : boxE id d = some (e, c)) (hr : WRel w0 M0 I0 fr I mu h w) (hid : fr id) {v : Value} (hv : Rep w I mu d v) :
    Runs P (fun w => (Instr.box t v).run P w) id e.d e.up w0 M0 I0 fr I mu h w := by
  unfold boxE at he
  split at he
  · rename_i ns hns
    simp only [Option.some.injEq, Prod.mk.injEq] at he
    obtain ⟨rfl, rfl⟩ := he
    obtain ⟨us, hcs, hl, hrep, hone⟩ := hv.cells hns
    obtain ⟨mu', h1, h2, h3, h4⟩ := runs_newRow (P := P) (elem := t) us ns hl hrep hr hid ns.length rfl
    have hza : v.cells = us.toArray := by rw [← hcs]
    refine ⟨.pointer (some ⟨w.heap.size, 0, none⟩), _, I, mu', ?_, h2, h3, by simpa using Rep.ref (w := w.alloc (.cells us.toArray t)) (I := I) id 0 0 ns.length _ h4⟩
    simp only [Instr.box, newVar, Sem.run_bind, hza, h1, Result.andThen, Sem.run_pure]
  · cases he

end
end Go.Ab
