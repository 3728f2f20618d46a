/- The abstract layer, part 5: types, memory, structs. -/
import Derived.Test.YtblbhfnpneliiaaGreatDoorAbOps1
namespace Go.Ab
open Go.RowKit

/-- What a type is. -/
inductive Sh where
  | bool | int (k : IntKind) | str | struct (fs : List (Nat × Nat × Bool)) | slice (e : TypeId) | ptr (e : TypeId) | map (k e : TypeId) | arr (n : Nat) (e : TypeId) | func | iface | other
structure TI where
  sz : Nat
  ag : Bool
  zero : List Value
  bytes : Nat
  sh : Sh
def aggOf : TypeDesc → Bool
  | .struct _ => true
  | .array _ _ => true
  | _ => false
def fieldOf (P : Program) (f : Field) : Option (Nat × Nat × Bool) :=
  match P.info? f.type, P.underlying f.type with
  | some i, some d => some (f.offset, i.size, aggOf d)
  | _, _ => none
def shOf (P : Program) : TypeDesc → Sh
  | .bool => .bool
  | .int k => .int k
  | .string => .str
  | .struct fs => match fs.toList.mapM (fieldOf P) with
    | some l => .struct l
    | none => .other
  | .slice e => .slice e
  | .pointer e => .ptr e
  | .map k e => .map k e
  | .array n e => .arr n e
  | .func _ _ _ => .func
  | .interface _ => .iface
  | _ => .other
def tiOf (P : Program) (t : TypeId) : Option TI :=
  match P.info? t, P.underlying t with
  | some i, some d => match i.zero with
    | some z => some ⟨i.size, aggOf d, z.cells.toList, i.bytes, shOf P d⟩
    | none => none
  | _, _ => none

theorem tiOf_spec {P : Program} {t : TypeId} {ti : TI} (h : tiOf P t = some ti) : ∃ i d z, P.info? t = some i ∧ P.underlying t = some d ∧ i.zero = some z ∧ i.size = ti.sz ∧ aggOf d = ti.ag ∧ z.cells.toList = ti.zero ∧ i.bytes = ti.bytes ∧ shOf P d = ti.sh := by
  unfold tiOf at h
  split at h
  · rename_i i d hi hd
    split at h
    · rename_i z hz
      simp only [Option.some.injEq] at h
      subst h
      exact ⟨i, d, z, hi, hd, hz, rfl, rfl, rfl, rfl, rfl⟩
    · cases h
  · cases h

theorem mapM_get {α β : Type} {g : α → Option β} : ∀ {l : List α} {r : List β}, l.mapM g = some r → ∀ (i : Nat) (y : β), r[i]? = some y → ∃ x, l[i]? = some x ∧ g x = some y
  | [], r, h, i, y, hy => by simp at h; subst h; simp at hy
  | a :: l, r, h, i, y, hy => by
    simp only [List.mapM_cons, Option.bind_eq_bind, Option.pure_def, Option.bind_eq_some_iff] at h
    obtain ⟨b, hb, r', hr', h⟩ := h
    simp only [Option.some.injEq] at h
    subst h
    cases i with
    | zero => simp at hy; subst hy; exact ⟨a, by simp, hb⟩
    | succ i => simp at hy; simpa using mapM_get hr' i y hy
theorem mapM_places {P : Program} : ∀ {l : List Field} {r : List (Nat × Nat × Bool)}, l.mapM (fieldOf P) = some r → l.mapM (fun f => (P.info? f.type).map fun i => (f.offset, i.size)) = some (r.map fun x => (x.1, x.2.1))
  | [], r, h => by simp at h; subst h; simp
  | a :: l, r, h => by
    simp only [List.mapM_cons, Option.bind_eq_bind, Option.pure_def, Option.bind_eq_some_iff] at h
    obtain ⟨b, hb, r', hr', h⟩ := h
    simp only [Option.some.injEq] at h
    subst h
    unfold fieldOf at hb
    split at hb
    · rename_i i d hi hd
      simp only [Option.some.injEq] at hb
      subst hb
      simp [List.mapM_cons, hi, mapM_places hr']
    · cases hb

section runs
variable {P : Program} {t : TypeId} {ti : TI} (h : tiOf P t = some ti) (w : World)
include h
theorem run_isAgg' : (isAgg t).run P w = .ok ti.ag w := by
  obtain ⟨i, d, z, h1, h2, h3, h4, h5, h6, h7, h8⟩ := tiOf_spec h
  rw [← h5]
  simp only [isAgg, Sem.run_bind, run_underlying h2, Result.andThen]
  cases d <;> rfl
theorem run_sizeOf' : (sizeOf t).run P w = .ok ti.sz w := by
  obtain ⟨i, d, z, h1, h2, h3, h4, h5, h6, h7, h8⟩ := tiOf_spec h
  simp [sizeOf, typeInfo, h1, h4]
theorem run_zeroValue' : ∃ z, (zeroValue t).run P w = .ok z w ∧ z.cells.toList = ti.zero := by
  obtain ⟨i, d, z, h1, h2, h3, h4, h5, h6, h7, h8⟩ := tiOf_spec h
  exact ⟨z, by simp [zeroValue, typeInfo, h1, h3], h6⟩
theorem run_slice_elem {e : TypeId} (he : ti.sh = .slice e) : P.underlying t = some (.slice e) := by
  obtain ⟨i, d, z, h1, h2, h3, h4, h5, h6, h7, h8⟩ := tiOf_spec h
  rw [he] at h8
  cases d <;> simp only [shOf] at h8 <;> first | (cases h8; exact h2) | (cases h8; done) | (split at h8 <;> cases h8)
theorem ti_ptr {e : TypeId} (he : ti.sh = .ptr e) : P.underlying t = some (.pointer e) := by
  obtain ⟨i, d, z, h1, h2, h3, h4, h5, h6, h7, h8⟩ := tiOf_spec h
  rw [he] at h8
  cases d <;> simp only [shOf] at h8 <;> first | (cases h8; exact h2) | (cases h8; done) | (split at h8 <;> cases h8)
theorem ti_map {k e : TypeId} (he : ti.sh = .map k e) : P.underlying t = some (.map k e) := by
  obtain ⟨i, d, z, h1, h2, h3, h4, h5, h6, h7, h8⟩ := tiOf_spec h
  rw [he] at h8
  cases d <;> simp only [shOf] at h8 <;> first | (cases h8; exact h2) | (cases h8; done) | (split at h8 <;> cases h8)
theorem ti_arr {n : Nat} {e : TypeId} (he : ti.sh = .arr n e) : P.underlying t = some (.array n e) := by
  obtain ⟨i, d, z, h1, h2, h3, h4, h5, h6, h7, h8⟩ := tiOf_spec h
  rw [he] at h8
  cases d <;> simp only [shOf] at h8 <;> first | (cases h8; exact h2) | (cases h8; done) | (split at h8 <;> cases h8)
theorem ti_bool (he : ti.sh = .bool) : P.underlying t = some .bool := by
  obtain ⟨i, d, z, h1, h2, h3, h4, h5, h6, h7, h8⟩ := tiOf_spec h
  rw [he] at h8
  cases d <;> simp only [shOf] at h8 <;> first | exact h2 | (cases h8; done) | (split at h8 <;> cases h8)
theorem ti_str (he : ti.sh = .str) : P.underlying t = some .string := by
  obtain ⟨i, d, z, h1, h2, h3, h4, h5, h6, h7, h8⟩ := tiOf_spec h
  rw [he] at h8
  cases d <;> simp only [shOf] at h8 <;> first | exact h2 | (cases h8; done) | (split at h8 <;> cases h8)
theorem ti_int {k : IntKind} (he : ti.sh = .int k) : P.underlying t = some (.int k) := by
  obtain ⟨i, d, z, h1, h2, h3, h4, h5, h6, h7, h8⟩ := tiOf_spec h
  rw [he] at h8
  cases d <;> simp only [shOf] at h8 <;> first | (cases h8; done) | (cases h8; exact h2) | (split at h8 <;> cases h8)
theorem ti_struct {fs : List (Nat × Nat × Bool)} (he : ti.sh = .struct fs) : ∃ l : Array Field, P.underlying t = some (.struct l) ∧ l.toList.mapM (fieldOf P) = some fs := by
  obtain ⟨i, d, z, h1, h2, h3, h4, h5, h6, h7, h8⟩ := tiOf_spec h
  rw [he] at h8
  cases d <;> simp only [shOf] at h8 <;> first
    | (cases h8; done)
    | (rename_i l
       split at h8
       · rename_i r hr
         injection h8 with h8
         subst h8
         exact ⟨l, h2, hr⟩
       · cases h8)
end runs

theorem addr_add (k o n : Nat) : (⟨k, o, none⟩ : Addr).add n = ⟨k, o + n, none⟩ := by
  unfold Addr.add
  split
  · rename_i h; subst h; rfl
  · rfl

/-- A piece of a list put in another's place. -/
def setL {α : Type} (xs : List α) (off : Nat) (ys : List α) : List α := xs.take off ++ (ys ++ xs.drop (off + ys.length))
theorem setL_length {α : Type} {xs : List α} {off : Nat} {ys : List α} (h : off + ys.length ≤ xs.length) : (setL xs off ys).length = xs.length := by
  simp only [setL, List.length_append, List.length_take, List.length_drop]; omega
theorem setL_get {α : Type} {xs : List α} {off : Nat} {ys : List α} (h : off + ys.length ≤ xs.length) (i : Nat) : (setL xs off ys)[i]? = if i < off then xs[i]? else if i < off + ys.length then ys[i - off]? else xs[i]? := by
  simp only [setL]
  by_cases h1 : i < off
  · rw [if_pos h1, List.getElem?_append_left (by simp; omega), List.getElem?_take_of_lt h1]
  · rw [if_neg h1, List.getElem?_append_right (by simp; omega)]
    simp only [List.length_take]
    have e : min off xs.length = off := by omega
    rw [e]
    by_cases h2 : i < off + ys.length
    · rw [if_pos h2, List.getElem?_append_left (by omega)]
    · rw [if_neg h2, List.getElem?_append_right (by omega), List.getElem?_drop]
      congr 1
      omega

/-- Is it surely one cell? -/
def oneD : D → Bool
  | .val v => v.oneCell'
  | .slice _ _ => true
  | .ptr _ _ => true
  | .ref _ _ _ _ => true
  | .sref _ _ _ _ _ => true
  | .gref _ _ => true
  | .mref _ => true
  | .func _ _ _ => true
  | .iface _ _ => true
  | _ => false
theorem Rep.one {w : World} {I : Nat → Prop} {mu : Nat → Option Value} {d : D} {v : Value} (h : Rep w I mu d v) (ho : oneD d = true) : v.oneCell' = true := by
  cases h <;> first | exact ho | rfl | (simp [oneD] at ho)
theorem cells_one {v : Value} (h : v.oneCell' = true) : v.cells = #[v] := by cases v <;> first | rfl | (simp [Value.oneCell'] at h)
/-- The cells of a value. -/
def cellsD : D → Option (List D)
  | .agg cs => if cs.all oneD then some cs else none
  | d => if oneD d then some [d] else none
theorem Rep.cells {w : World} {I : Nat → Prop} {mu : Nat → Option Value} {d : D} {v : Value} {cs : List D} (h : Rep w I mu d v) (hc : cellsD d = some cs) :
    ∃ us : List Value, v.cells.toList = us ∧ us.length = cs.length ∧ (∀ i, i < cs.length → Rep w I mu (nd cs i) (nv us i)) ∧ ∀ u ∈ us, u.oneCell' = true := by
  have single : oneD d = true → cs = [d] → ∃ us : List Value, v.cells.toList = us ∧ us.length = cs.length ∧ (∀ i, i < cs.length → Rep w I mu (nd cs i) (nv us i)) ∧ ∀ u ∈ us, u.oneCell' = true := by
    intro h1 h2
    subst h2
    have := h.one h1
    refine ⟨[v], by rw [cells_one this], rfl, fun i hi => ?_, fun u hu => ?_⟩
    · simp only [List.length_singleton] at hi
      obtain rfl : i = 0 := by omega
      exact h
    · simp only [List.mem_singleton] at hu; subst hu; exact this
  cases d with
  | agg l =>
    simp only [cellsD] at hc
    split at hc
    · rename_i hall
      simp only [Option.some.injEq] at hc
      subst hc
      obtain ⟨us, rfl, hl, hr⟩ := h.agg_inv
      refine ⟨us, by simp [Value.cells], hl, hr, fun u hu => ?_⟩
      obtain ⟨i, hi, rfl⟩ := List.mem_iff_getElem.1 hu
      have h1 := hr i (by omega)
      have h2 : nv us i = us[i] := by simp [nv, List.getD, hi]
      rw [h2] at h1
      refine h1.one ?_
      have h3 : nd l i = l[i]'(by omega) := by simp [nd, List.getD, show i < l.length by omega]
      rw [h3]
      exact List.all_eq_true.1 hall _ (List.getElem_mem _)
    · cases hc
  | _ =>
    simp only [cellsD] at hc
    split at hc
    · rename_i h1
      simp only [Option.some.injEq] at hc
      exact single h1 hc.symm
    · cases hc

/-! the world's part under new blocks and stores -/
def mset (mu : Nat → Option Value) (id : Nat) (v : Value) : Nat → Option Value := fun b => if b = id then some v else mu b
theorem mset_ext {mu : Nat → Option Value} {id : Nat} {v : Value} (h : mu id = none) : ∀ b x, mu b = some x → mset mu id v b = some x := by
  intro b x hb
  unfold mset
  rw [if_neg (by rintro rfl; rw [h] at hb; cases hb)]
  exact hb

section worlds
variable {w0 : World} {M0 I0 fr I : Nat → Prop} {mu : Nat → Option Value} {hp : Nat → Option Blk} {w : World}

theorem heap_alloc_lt (w : World) (o : Obj) {k : Nat} (h : k < w.heap.size) : (w.alloc o).heap[k]? = w.heap[k]? := Below.heap_alloc w o k h

theorem WRel.new (h : WRel w0 M0 I0 fr I mu hp w) {id : Nat} (hid : fr id) (o : Obj) (v : Value) (hv : locBlk v = some w.heap.size) (x : Blk) (hb : BRep (w.alloc o) I (mset mu id v) id x) :
    WRel w0 M0 I0 (fun b => fr b ∧ b ≠ id) I (mset mu id v) (fun b => upAt b (hp b) [(id, some x)]) (w.alloc o) ∧ Ext I mu w I (mset mu id v) (w.alloc o) := by
  have hnone := h.fresh id hid
  have hm := mset_ext (v := v) hnone
  have hup : ∀ b, upAt b (hp b) [(id, some x)] = if b = id then some x else hp b := by
    intro b; simp only [upAt, List.foldl_cons, List.foldl_nil]; by_cases hb : b = id
    · subst hb; simp
    · have : ¬ id = b := fun h => hb h.symm
      simp [hb, this]
  have hext : Ext I mu w I (mset mu id v) (w.alloc o) := ⟨fun _ h => h, hm, fun k hk => heap_alloc_lt w o (h.lt k hk)⟩
  refine ⟨⟨fun b y hy => ?_, fun b y u k hy hu hk => ?_, fun b c y z u u' k hy hz hu hu' hk hk' => ?_, fun b hb => ?_, fun k hk => ?_, h.os, h.tape, h.output, ?_, fun k hk hnm => ?_, h.iold, h.inew⟩, hext⟩
  · rw [hup] at hy
    by_cases hbi : b = id
    · rw [if_pos hbi] at hy; cases hy; subst hbi; exact hb
    · rw [if_neg hbi] at hy
      exact (h.blk b y hy).mono hext.w hext.i hm fun u k hu hk => heap_alloc_lt w o (h.loc b y u k hy hu hk).2.2
  · rw [hup] at hy
    by_cases hbi : b = id
    · rw [if_pos hbi] at hy
      simp only [mset, if_pos hbi, Option.some.injEq] at hu
      subst hu
      rw [hv] at hk
      cases hk
      exact ⟨.inr h.grown, fun hI => Nat.lt_irrefl _ (h.lt _ hI), by simp⟩
    · rw [if_neg hbi] at hy
      simp only [mset, if_neg hbi] at hu
      have := h.loc b y u k hy hu hk
      exact ⟨this.1, this.2.1, by simp; omega⟩
  · rw [hup] at hy hz
    by_cases hbi : b = id
    · by_cases hci : c = id
      · rw [hbi, hci]
      · exfalso
        rw [if_neg hci] at hz
        simp only [mset, if_pos hbi, if_neg hci, Option.some.injEq] at hu hu'
        subst hu
        rw [hv] at hk
        cases hk
        have := (h.loc c z u' _ hz hu' hk').2.2
        omega
    · by_cases hci : c = id
      · exfalso
        rw [if_neg hbi] at hy
        simp only [mset, if_pos hci, if_neg hbi, Option.some.injEq] at hu hu'
        subst hu'
        rw [hv] at hk'
        cases hk'
        have := (h.loc b y u _ hy hu hk).2.2
        omega
      · rw [if_neg hbi] at hy
        rw [if_neg hci] at hz
        simp only [mset, if_neg hci, if_neg hbi] at hu hu'
        exact h.inj b c y z u u' k hy hz hu hu' hk hk'
  · simp only [mset, if_neg hb.2]
    exact h.fresh b hb.1
  · have := h.lt k hk
    simp; omega
  · have := h.grown
    simp; omega
  · rw [heap_alloc_lt w o (by have := h.grown; omega)]
    exact h.old k hk hnm

/-- A world that differs from another at one block of cells. -/
structure Wrote (k : Nat) (w w' : World) : Prop where
  os : w'.os = w.os
  tape : w'.tape = w.tape
  output : w'.output = w.output
  size : w'.heap.size = w.heap.size
  other : ∀ j, j ≠ k → w'.heap[j]? = w.heap[j]?
theorem Wrote.refl (k : Nat) (w : World) : Wrote k w w := ⟨rfl, rfl, rfl, rfl, fun _ _ => rfl⟩
theorem Wrote.trans {k : Nat} {a b c : World} (h : Wrote k a b) (g : Wrote k b c) : Wrote k a c := ⟨g.os.trans h.os, g.tape.trans h.tape, g.output.trans h.output, g.size.trans h.size, fun j hj => (g.other j hj).trans (h.other j hj)⟩

theorem WRel.wrote (h : WRel w0 M0 I0 fr I mu hp w) {b : Nat} {x : Blk} {v : Value} {k : Nat} {id : Nat} (hx : hp b = some x) (hv : mu b = some v) (hk : locBlk v = some k) {w' : World} (hw : Wrote k w w') (x' : Blk) (hb : BRep w' I mu b x') :
    WRel w0 M0 I0 (fun b => fr b ∧ b ≠ id) I mu (fun c => upAt c (hp c) [(b, some x')]) w' ∧ Ext I mu w I mu w' := by
  have hl := h.loc b x v k hx hv hk
  have hup : ∀ c, upAt c (hp c) [(b, some x')] = if c = b then some x' else hp c := by
    intro c; simp only [upAt, List.foldl_cons, List.foldl_nil]; by_cases hc : c = b
    · subst hc; simp
    · have : ¬ b = c := fun h => hc h.symm
      simp [hc, this]
  have hext : Ext I mu w I mu w' := ⟨fun _ h => h, fun _ _ h => h, fun j hj => hw.other j (by rintro rfl; exact hl.2.1 hj)⟩
  refine ⟨⟨fun c y hy => ?_, fun c y u j hy hu hj => ?_, fun c c' y z u u' j hy hz hu hu' hj hj' => ?_, fun c hc => h.fresh c hc.1, fun j hj => by rw [hw.size]; exact h.lt j hj, hw.os.trans h.os, hw.tape.trans h.tape, hw.output.trans h.output, by rw [hw.size]; exact h.grown, fun j hj hnm => ?_, h.iold, h.inew⟩, hext⟩
  · rw [hup] at hy
    by_cases hc : c = b
    · rw [if_pos hc] at hy; cases hy; subst hc; exact hb
    · rw [if_neg hc] at hy
      refine (h.blk c y hy).mono hext.w hext.i hext.m fun u j hu hj => hw.other j ?_
      rintro rfl
      exact hc (h.inj c b y x u v j hy hx hu hv hj hk)
  · rw [hup] at hy
    rw [hw.size]
    by_cases hc : c = b
    · subst hc; exact h.loc c x u j hx hu hj
    · rw [if_neg hc] at hy; exact h.loc c y u j hy hu hj
  · rw [hup] at hy hz
    have key : ∀ c y, (if c = b then some x' else hp c) = some y → ∃ y', hp c = some y' := by
      intro c y hy
      by_cases hc : c = b
      · subst hc; exact ⟨x, hx⟩
      · rw [if_neg hc] at hy; exact ⟨y, hy⟩
    obtain ⟨y', hy'⟩ := key c y hy
    obtain ⟨z', hz'⟩ := key c' z hz
    exact h.inj c c' y' z' u u' j hy' hz' hu hu' hj hj'
  · rw [hw.other j ?_]
    · exact h.old j hj hnm
    · rintro rfl
      rcases hl.1 with h1 | h1
      · exact hnm h1
      · omega
end worlds

theorem run_storeCells {P : Program} {k : Nat} {T : TypeId} : ∀ (vs : List Value) (i o : Nat) (us : List Value) (w : World), w.heap[k]? = some (.cells us.toArray T (0, 0)) → o + i + vs.length ≤ us.length → (∀ v ∈ vs, v.oneCell' = true) →
    ∃ w', (storeCells ⟨k, o, none⟩ vs i).run P w = .ok () w' ∧ w'.heap[k]? = some (.cells (setL us (o + i) vs).toArray T (0, 0)) ∧ Wrote k w w'
  | [], i, o, us, w, h, _, _ => ⟨w, by simp [storeCells], by simpa [setL] using h, Wrote.refl k w⟩
  | v :: vs, i, o, us, w, h, hl, h1 => by
    simp only [List.length_cons] at hl
    have hcell : w.cell? ⟨k, o + i, none⟩ = some us[o + i] := by
      simp [World.cell?, h, show o + i < us.length by omega]
    have hfz : w.frozen? ⟨k, o + i, none⟩ = false := by simp [World.frozen?, h]
    have hw1 : (w.setCell ⟨k, o + i, none⟩ v).heap[k]? = some (.cells (us.set (o + i) v).toArray T (0, 0)) := by
      simp [World.setCell, Array.getElem?_modify, h]
    obtain ⟨w', hrun, hh, hw⟩ := run_storeCells (P := P) vs (i + 1) o (us.set (o + i) v) (w.setCell ⟨k, o + i, none⟩ v) hw1 (by simp; omega) fun x hx => h1 x (List.mem_cons_of_mem _ hx)
    refine ⟨w', ?_, ?_, Wrote.trans (b := w.setCell ⟨k, o + i, none⟩ v) ⟨rfl, rfl, rfl, by simp, fun j hj => Below.heap_setCell w ⟨k, o + i, none⟩ v j hj⟩ hw⟩
    · simp only [storeCells, addr_add, Sem.run_bind, run_store P w _ v .plain (h1 v List.mem_cons_self), hcell, hfz, Result.andThen]
      exact hrun
    · rw [hh]
      congr 3
      apply List.ext_getElem?
      intro j
      rw [setL_get (by simp; omega), setL_get (by simp; omega)]
      simp only [List.length_cons, List.getElem?_set]
      by_cases h2 : j < o + i
      · rw [if_pos (by omega), if_pos h2, if_neg (by omega)]
      · rw [if_neg h2]
        by_cases h3 : j = o + i
        · subst h3
          rw [if_pos (by omega), if_pos rfl, if_pos (by omega), if_pos (by omega)]
          simp
        · rw [if_neg (by omega)]
          by_cases h4 : j < o + (i + 1) + vs.length
          · rw [if_pos h4, if_pos (by omega)]
            have : j - (o + i) = (j - (o + (i + 1))) + 1 := by omega
            rw [this]; rfl
          · rw [if_neg h4, if_neg (by omega), if_neg (by omega)]
end Go.Ab
