/- The abstract layer, part 10: slices written out, append, functions as values. -/
import Derived.Test.YtblbhfnpneliiaaGreatDoorAbOps6
namespace Go.Ab
open Go.RowKit
section
variable {P : Program} {w0 : World} {M0 I0 fr I : Nat → Prop} {mu : Nat → Option Value} {h : Nat → Option Blk} {w : World}

/-! a slice written out -/
def buildSL (sz : Nat) : List (List D) → List (Nat × D) → Option (List (List D) × Prop)
  | es, [] => some (es, True)
  | es, (i, d) :: r => match cellsD d with
    | some ns => match buildSL sz (es.set i ns) r with
      | some (x, c) => some (x, ns.length = sz ∧ i < es.length ∧ c)
      | none => none
    | none => none
def buildSE (id : Nat) (te : TI) (n : Nat) (ps : List (Nat × D)) : Res :=
  match buildSL te.sz (List.replicate n (te.zero.map ofV)) ps with
  | some (es, c) => some (⟨.sref id 0 n n te.sz, [(id, some (.rows es te.sz))], []⟩, c ∧ n * te.sz ≤ 16777216 ∧ te.zero.length = te.sz)
  | none => none

theorem run_fillS (sz : Nat) : ∀ (ds : List (Nat × D)) (vs : List (Nat × Value)) (es : List (List D)) (us : List Value) (x : List (List D)) (c : Prop), buildSL sz es ds = some (x, c) → c → vs.length = ds.length →
    (∀ (i : Nat) (p : Nat × D) (q : Nat × Value), ds[i]? = some p → vs[i]? = some q → p.1 = q.1 ∧ Rep w I mu p.2 q.2) → RowsRep w I mu es sz us →
    ∃ us', Instr.fill (fun i => some (i * sz, sz)) us.toArray vs = some us'.toArray ∧ RowsRep w I mu x sz us' ∧ x.length = es.length
  | [], [], es, us, x, c, hb, _, _, _, hr => by
    simp only [buildSL, Option.some.injEq, Prod.mk.injEq] at hb
    obtain ⟨rfl, _⟩ := hb
    exact ⟨us, by simp [Instr.fill], hr, rfl⟩
  | [], _ :: _, _, _, _, _, _, _, hv, _, _ => by simp at hv
  | _ :: _, [], _, _, _, _, _, _, hv, _, _ => by simp at hv
  | (i, d) :: ds, (i', v) :: vs, es, us, x, c, hb, hc, hv, hp, hr => by
    simp only [buildSL] at hb
    split at hb
    · rename_i ns hns
      split at hb
      · rename_i y c' hb'
        simp only [Option.some.injEq, Prod.mk.injEq] at hb
        obtain ⟨rfl, rfl⟩ := hb
        obtain ⟨hsz, hi, hc'⟩ := hc
        obtain ⟨he, hrep⟩ := hp 0 (i, d) (i', v) rfl rfl
        simp only at he hrep
        subst he
        obtain ⟨vs', hcs, hl', hrep', _⟩ := hrep.cells hns
        have hcz : v.cells.size = sz := by
          have : v.cells.toList.length = vs'.length := by rw [hcs]
          simp only [Array.length_toList] at this
          omega
        obtain ⟨us', h1, h2, h3⟩ := run_fillS sz ds vs (es.set i ns) (setL us (i * sz) vs') y c' hb' hc' (by simpa using hv) (fun j p q hp' hq' => hp (j + 1) p q (by simpa using hp') (by simpa using hq')) (hr.set hi hl' hsz hrep')
        refine ⟨us', ?_, h2, by rw [h3, List.length_set]⟩
        have hmul : i * sz + sz ≤ es.length * sz := by rw [← Nat.succ_mul]; exact Nat.mul_le_mul_right _ hi
        have hul := hr.1
        simp only [Instr.fill, hcz, ne_eq, not_true_eq_false, decide_false, Bool.false_or, List.size_toArray]
        rw [if_neg (by simp; omega)]
        have hz : (v.cells.zipIdx.foldl (fun (cs : Array Value) (p : Value × Nat) => cs.setIfInBounds (i * sz + p.2) p.1) us.toArray) = (setL us (i * sz) vs').toArray := by
          rw [← Array.foldl_toList, Array.toList_zipIdx, hcs]
          have := fill_step (i * sz) vs' 0 us (by omega)
          simpa using this
        exact (congrArg (fun z => Instr.fill (fun i => some (i * sz, sz)) z vs) hz).trans h1
      · cases hb
    · cases hb

theorem zero_cells {te : TI} (h4 : te.zero.length = te.sz) (n : Nat) (z : Array Value) (hzs : z = te.zero.toArray) : ((Array.range (n * te.sz)).map (z[· % z.size]!)) = ((List.range (n * te.sz)).map fun m => nv te.zero (m % te.sz)).toArray := by
  subst hzs
  apply Array.ext'
  simp only [Array.toList_map, Array.toList_range]
  refine List.map_congr_left fun m hn => ?_
  have hn' := List.mem_range.1 hn
  have hpos : 0 < te.sz := Nat.pos_of_ne_zero fun h0 => by rw [h0] at hn'; simp at hn'
  have hlt : m % te.sz < te.zero.length := by rw [h4]; exact Nat.mod_lt _ hpos
  simp only [List.size_toArray, h4, nv, List.getD_eq_getElem?_getD]
  rw [getElem!_pos _ _ (by simpa using hlt)]
  simp [hlt]
theorem zero_rows {te : TI} (h4 : te.zero.length = te.sz) (n : Nat) : RowsRep w I mu (List.replicate n (te.zero.map ofV)) te.sz ((List.range (n * te.sz)).map fun m => nv te.zero (m % te.sz)) := by
  refine ⟨by simp, fun i hi => ?_, fun i j hi hj => ?_⟩
  · simp only [List.length_replicate] at hi
    have : nr (List.replicate n (te.zero.map ofV)) i = te.zero.map ofV := by simp [nr, List.getD_eq_getElem?_getD, hi]
    rw [this]; simpa using h4
  · simp only [List.length_replicate] at hi
    have e1 : nr (List.replicate n (te.zero.map ofV)) i = te.zero.map ofV := by simp [nr, List.getD_eq_getElem?_getD, hi]
    have hlt : i * te.sz + j < n * te.sz := by
      have : i * te.sz + te.sz ≤ n * te.sz := by rw [← Nat.succ_mul]; exact Nat.mul_le_mul_right _ hi
      omega
    have e2 : nv ((List.range (n * te.sz)).map fun m => nv te.zero (m % te.sz)) (i * te.sz + j) = nv te.zero j := by
      have e3 : (i * te.sz + j) % te.sz = j := by rw [Nat.add_comm, Nat.add_mul_mod_self_right, Nat.mod_eq_of_lt hj]
      have e4 : ∀ (f : Nat → Value) n m, m < n → nv ((List.range n).map f) m = f m := by intro f n m hm; simp [nv, List.getD_eq_getElem?_getD, hm]
      rw [e4 _ _ _ hlt, e3]
    have e5 : nd (te.zero.map ofV) j = ofV (nv te.zero j) := by simp [nd, nv, List.getD_eq_getElem?_getD, show j < te.zero.length by omega]
    rw [e1, e2, e5]
    exact rep_ofV _ _ _ _

theorem runs_buildS {t e' : TypeId} {ti te : TI} (ht : tiOf P t = some ti) (hs : ti.sh = .slice e') (hte : tiOf P e' = some te) {id n : Nat} {ds : List (Nat × D)} {e : Eff} {c : Prop} (he : buildSE id te n ds = some (e, c)) (hc : c) (hr : WRel w0 M0 I0 fr I mu h w) (hid : fr id) (vs : List (Nat × Value)) (hv : vs.length = ds.length)
    (hp : ∀ (i : Nat) (p : Nat × D) (q : Nat × Value), ds[i]? = some p → vs[i]? = some q → p.1 = q.1 ∧ Rep w I mu p.2 q.2) :
    Runs P (fun w => (Instr.buildSlice t n vs.toArray).run P w) id e.d e.up w0 M0 I0 fr I mu h w := by
  unfold buildSE at he
  split at he
  · rename_i es c' hb
    simp only [Option.some.injEq, Prod.mk.injEq] at he
    obtain ⟨rfl, rfl⟩ := he
    obtain ⟨hc', hle, hz⟩ := hc
    obtain ⟨i, d, z, g1, g2, g3, g4, g5, g6, g7, g8⟩ := tiOf_spec hte
    have hu := run_slice_elem ht hs
    have hzs : z.cells = te.zero.toArray := by rw [← g6]
    obtain ⟨us', f1, f2, f3⟩ := run_fillS (w := w) (I := I) (mu := mu) te.sz ds vs _ _ es c' hb hc' hv hp (zero_rows hz n)
    simp only [List.length_replicate] at f3
    obtain ⟨mu', x1, x2, x3⟩ := new_rows (T := e') f2 hr hid
    refine ⟨.slice (some ⟨w.heap.size, 0, none⟩) n n, _, I, mu', ?_, x1, x2, by simpa using Rep.sref (w := w.alloc (.cells us'.toArray e')) (I := I) id 0 n n te.sz _ x3⟩
    have hn : ¬ (16777216 < n * te.sz) := by omega
    by_cases h0 : n * te.sz = 0
    · have hr0 : Array.range 0 = #[] := rfl
      have hempty : (List.range (n * te.sz)).map (fun m => nv te.zero (m % te.sz)) = [] := by rw [h0]; rfl
      rw [hempty] at f1
      simp [Instr.buildSlice, run_underlying hu, sizeOf, typeInfo, g1, g4, h0, hr0, f1, newRow]
    · have hcells := zero_cells hz n z.cells hzs
      simp only [Instr.buildSlice, Sem.run_bind, run_underlying hu, Result.andThen, run_sizeOf' hte, gt_iff_lt]
      have f1' : Instr.fill (fun i => some (i * te.sz, te.sz)) (Array.map (fun x => z.cells[x % z.cells.size]!) (Array.range (n * te.sz))) vs = some us'.toArray := by rw [hcells]; exact f1
      simp [hn, h0, zeroValue, typeInfo, g1, g3, f1', newRow]
  · cases he

/-! append -/
/-- The rows of what is appended. -/
def newsD (hp : Nat → Option Blk) : D → Option (List (List D) × List Nat × Prop)
  | .slice es _ => some (es, [], True)
  | .sref b i len _ sz => match hp b with
    | some (.rows es sz') => some ((es.drop i).take len, [b], sz = sz' ∧ i + len ≤ es.length)
    | _ => none
  | .gref b len => match hp b with
    | some (.grow es _) => some (es, [b], len = es.length)
    | _ => none
  | _ => none
/-- The cells that a slice's value leads to. -/
def Holds' (w : World) (A : Option Addr) (us : List Value) : Prop := us = [] ∨ ∃ k o, A = some ⟨k, o, none⟩ ∧ ∀ j u, us[j]? = some u → w.cell? ⟨k, o + j, none⟩ = some u
theorem flat_cells {es : List (List D)} {sz : Nat} {u : Nat → Nat → Value} {k o : Nat} (hsz : 0 < sz) (hcell : ∀ i j, i < es.length → j < sz → w.cell? ⟨k, o + (i * sz + j), none⟩ = some (u i j)) :
    ∀ m, m < es.length * sz → w.cell? ⟨k, o + m, none⟩ = some (u (m / sz) (m % sz)) := by
  intro m hm
  have h1 : m / sz < es.length := (Nat.div_lt_iff_lt_mul hsz).2 hm
  have h2 : m % sz < sz := Nat.mod_lt _ hsz
  have := hcell (m / sz) (m % sz) h1 h2
  have e : m / sz * sz + m % sz = m := by rw [Nat.mul_comm]; exact Nat.div_add_mod m sz
  rw [e] at this
  exact this

theorem newsD_spec {hp : Nat → Option Blk} {d : D} {es : List (List D)} {rd : List Nat} {c : Prop} (hn : newsD hp d = some (es, rd, c)) (hc : c) (hr : WRel w0 M0 I0 fr I mu h w) {v : Value} (hv : Rep w I mu d v) (hb : ∀ b ∈ rd, h b = hp b) {sz : Nat} (hsz : 0 < sz) (hall : ∀ x ∈ es, x.length = sz) :
    ∃ A cap us, v = .slice A es.length cap ∧ RowsRep w I mu es sz us ∧ Holds' w A us := by
  have hnr : ∀ i, i < es.length → (nr es i).length = sz := fun i hi => hall _ (by simp [nr, List.getD_eq_getElem?_getD, hi])
  unfold newsD at hn
  split at hn
  · rename_i es0 tg0
    simp only [Option.some.injEq, Prod.mk.injEq] at hn
    obtain ⟨rfl, rfl, rfl⟩ := hn
    cases hv with
    | slice _ _ A k o sz' cap u hA hcp htg hm hlen hcell hrep =>
      by_cases h0 : es0.length = 0
      · have : es0 = [] := List.eq_nil_of_length_eq_zero h0
        subst this
        exact ⟨A, cap, [], rfl, ⟨by simp, fun i hi => by simp at hi, fun i j hi => by simp at hi⟩, .inl rfl⟩
      · have hs : sz' = sz := by rw [← hlen 0 (by omega)]; exact hnr 0 (by omega)
        subst hs
        obtain ⟨rfl, hI⟩ := hA (by omega)
        refine ⟨_, cap, (List.range (es0.length * sz')).map fun m => u (m / sz') (m % sz'), rfl, ⟨by simp, hlen, fun i j hi hj => ?_⟩, .inr ⟨k, o, rfl, fun j x hx => ?_⟩⟩
        · have hlt : i * sz' + j < es0.length * sz' := by
            have : i * sz' + sz' ≤ es0.length * sz' := by rw [← Nat.succ_mul]; exact Nat.mul_le_mul_right _ hi
            omega
          have e1 : (i * sz' + j) / sz' = i := by rw [Nat.add_comm, Nat.add_mul_div_right _ _ hsz, Nat.div_eq_of_lt hj]; omega
          have e2 : (i * sz' + j) % sz' = j := by rw [Nat.add_comm, Nat.add_mul_mod_self_right, Nat.mod_eq_of_lt hj]
          have e3 : nv ((List.range (es0.length * sz')).map fun m => u (m / sz') (m % sz')) (i * sz' + j) = u i j := by simp [nv, List.getD_eq_getElem?_getD, hlt, e1, e2]
          rw [e3]; exact hrep i j hi hj
        · simp only [List.getElem?_map, Option.map_eq_some_iff] at hx
          obtain ⟨m, hm', rfl⟩ := hx
          obtain ⟨hlt, rfl⟩ := List.getElem?_eq_some_iff.1 hm'
          simp only [List.length_range] at hlt
          simp only [List.getElem_range]
          exact flat_cells hsz hcell j hlt
  · rename_i b i len cap szb
    split at hn
    · rename_i es' sz' hx
      simp only [Option.some.injEq, Prod.mk.injEq] at hn
      obtain ⟨rfl, rfl, rfl⟩ := hn
      obtain ⟨rfl, hle⟩ := hc
      obtain ⟨k, T, us, h1, h2, h3, h4, h5⟩ := hr.blk b _ ((hb b (by simp)).trans hx)
      cases hv with
      | sref _ _ _ _ _ k' hk =>
        rw [h1] at hk
        simp only [Option.some.injEq, Value.pointer.injEq, Addr.mk.injEq, and_true] at hk
        subst hk
        have hlen' : ((es'.drop i).take len).length = len := by simp; omega
        have hnr' : ∀ j, j < len → nr ((es'.drop i).take len) j = nr es' (i + j) := by
          intro j hj
          simp only [nr, List.getD_eq_getElem?_getD]
          rw [List.getElem?_take_of_lt hj, List.getElem?_drop]
        have hz : 0 < len → szb = sz := fun hpos => by
          have := hnr 0 (by omega)
          rw [hnr' 0 hpos] at this
          rw [← this]; exact (h4 (i + 0) (by omega)).symm
        have key : Value.slice (some ⟨k, i * szb, none⟩) len cap = .slice (some ⟨k, i * szb, none⟩) ((es'.drop i).take len).length cap := by rw [hlen']
        refine ⟨_, cap, (us.drop (i * szb)).take (len * szb), key, ⟨?_, hnr, fun j l hj hl => ?_⟩, .inr ⟨k, i * szb, rfl, fun j x hx => ?_⟩⟩
        · rw [hlen']
          by_cases hpos : 0 < len
          · rw [← hz hpos]
            have : (i + len) * szb ≤ es'.length * szb := Nat.mul_le_mul_right _ hle
            rw [Nat.add_mul] at this
            simp only [List.length_take, List.length_drop]; omega
          · have : len = 0 := by omega
            subst this; simp
        · rw [hlen'] at hj
          have hs := hz (by omega)
          subst hs
          rw [hnr' j hj]
          have hlt : j * szb + l < len * szb := by
            have : j * szb + szb ≤ len * szb := by rw [← Nat.succ_mul]; exact Nat.mul_le_mul_right _ hj
            omega
          have e : nv ((us.drop (i * szb)).take (len * szb)) (j * szb + l) = nv us ((i + j) * szb + l) := by
            simp only [nv, List.getD_eq_getElem?_getD]
            rw [List.getElem?_take_of_lt hlt, List.getElem?_drop]
            congr 2
            rw [Nat.add_mul]; omega
          rw [e]
          exact h5 (i + j) l (by omega) hl
        · rw [List.getElem?_take] at hx
          split at hx
          · rw [List.getElem?_drop] at hx
            simp [World.cell?, h2, hx]
          · cases hx
    · cases hn
  · rename_i b len
    split at hn
    · rename_i es' szb hx
      simp only [Option.some.injEq, Prod.mk.injEq] at hn
      obtain ⟨rfl, rfl, rfl⟩ := hn
      subst hc
      obtain ⟨A, cap, T, us, h1, h2, h3, h4⟩ := hr.blk b _ ((hb b (by simp)).trans hx)
      cases hv with
      | gref _ _ A' cap' hk =>
        rw [h1] at hk
        simp only [Option.some.injEq, Value.slice.injEq, true_and] at hk
        obtain ⟨rfl, rfl⟩ := hk
        rcases h4 with ⟨rfl, rfl⟩ | ⟨k, g0, rfl, g1, g2, g3, g4⟩
        · exact ⟨A, 0, [], rfl, ⟨by simp, fun i hi => by simp at hi, fun i j hi => by simp at hi⟩, .inl rfl⟩
        · by_cases h0 : es'.length = 0
          · have : es' = [] := List.eq_nil_of_length_eq_zero h0
            subst this
            exact ⟨_, cap, [], rfl, ⟨by simp, fun i hi => by simp at hi, fun i j hi => by simp at hi⟩, .inl rfl⟩
          · have hs : szb = sz := by rw [← h2 0 (by omega)]; exact hnr 0 (by omega)
            subst hs
            have hmul : es'.length * szb ≤ cap * szb := Nat.mul_le_mul_right _ g2
            refine ⟨_, cap, us.take (es'.length * szb), rfl, ⟨by simp; omega, h2, fun i j hi hj => ?_⟩, .inr ⟨k, 0, rfl, fun j x hx => ?_⟩⟩
            · have hlt : i * szb + j < es'.length * szb := by
                have : i * szb + szb ≤ es'.length * szb := by rw [← Nat.succ_mul]; exact Nat.mul_le_mul_right _ hi
                omega
              have e : nv (us.take (es'.length * szb)) (i * szb + j) = nv us (i * szb + j) := by
                simp only [nv, List.getD_eq_getElem?_getD]; rw [List.getElem?_take_of_lt hlt]
              rw [e]; exact g4 i j hi hj
            · rw [List.getElem?_take] at hx
              split at hx
              · simp [World.cell?, g1, hx]
              · cases hx
    · cases hn
  · cases hn

/-- A block is named anew: in new memory, or where another one lay that is given up. -/
theorem WRel.put {b0 : Option Nat} {id : Nat} (hr : WRel w0 M0 I0 fr I mu h w) (hid : fr id) (w' : World) (v : Value) (x : Blk)
    (hk : ∀ k, locBlk v = some k → (w.heap.size ≤ k ∧ k < w'.heap.size) ∨ ∃ b x0 v0, b0 = some b ∧ h b = some x0 ∧ mu b = some v0 ∧ locBlk v0 = some k)
    (hsize : w.heap.size ≤ w'.heap.size) (hsame : ∀ j, j < w.heap.size → (∀ b x0 v0, b0 = some b → h b = some x0 → mu b = some v0 → locBlk v0 ≠ some j) → w'.heap[j]? = w.heap[j]?)
    (hos : w'.os = w.os) (htape : w'.tape = w.tape) (hout : w'.output = w.output) (hb : BRep w' I (mset mu id v) id x) :
    WRel w0 M0 I0 (fun b => fr b ∧ b ≠ id) I (mset mu id v) (fun c => if c = id then some x else if b0 = some c then none else h c) w' ∧ Ext I mu w I (mset mu id v) w' := by
  have hnone := hr.fresh id hid
  have hm := mset_ext (v := v) hnone
  have hIw : ∀ k, I k → w'.heap[k]? = w.heap[k]? := fun k hk => hsame k (hr.lt k hk) fun b x0 v0 _ hx0 hv0 hl => (hr.loc b x0 v0 k hx0 hv0 hl).2.1 hk
  have hext : Ext I mu w I (mset mu id v) w' := ⟨fun _ h => h, hm, hIw⟩
  have hold : ∀ c y, c ≠ id → (if c = id then some x else if b0 = some c then none else h c) = some y → h c = some y ∧ b0 ≠ some c := by
    intro c y hc hy
    rw [if_neg hc] at hy
    by_cases hb0 : b0 = some c
    · rw [if_pos hb0] at hy; cases hy
    · rw [if_neg hb0] at hy; exact ⟨hy, hb0⟩
  have hmu : ∀ c, c ≠ id → mset mu id v c = mu c := fun c hc => by simp [mset, hc]
  have hne : ∀ c y u k b x0 v0, b0 ≠ some c → h c = some y → mu c = some u → locBlk u = some k → b0 = some b → h b = some x0 → mu b = some v0 → locBlk v0 ≠ some k := by
    intro c y u k b x0 v0 hbc hy hu hk' hb0 hx0 hv0 hl
    have := hr.inj c b y x0 u v0 k hy hx0 hu hv0 hk' hl
    subst this
    exact hbc hb0
  refine ⟨⟨fun c y hy => ?_, fun c y u k hy hu hk' => ?_, fun c c' y z u u' k hy hz hu hu' hk' hk'' => ?_, fun b hb => ?_, fun k hk' => Nat.lt_of_lt_of_le (hr.lt k hk') hsize, hos.trans hr.os, htape.trans hr.tape, hout.trans hr.output, Nat.le_trans hr.grown hsize, fun j hj hnm => ?_, hr.iold, hr.inew⟩, hext⟩
  · by_cases hc : c = id
    · subst hc; rw [if_pos rfl] at hy; cases hy; exact hb
    · obtain ⟨hy', hbc⟩ := hold c y hc hy
      exact (hr.blk c y hy').mono hIw (fun _ h => h) hm fun u k hu hk' => hsame k (hr.loc c y u k hy' hu hk').2.2 fun b x0 v0 hb0 hx0 hv0 => hne c y u k b x0 v0 hbc hy' hu hk' hb0 hx0 hv0
  · by_cases hc : c = id
    · subst hc
      simp only [mset, if_pos, Option.some.injEq] at hu
      subst hu
      rcases hk k hk' with ⟨g1, g2⟩ | ⟨b, x0, v0, _, hx0, hv0, hl⟩
      · exact ⟨.inr (Nat.le_trans hr.grown g1), fun hI => by have := hr.lt k hI; omega, g2⟩
      · have := hr.loc b x0 v0 k hx0 hv0 hl
        exact ⟨this.1, this.2.1, Nat.lt_of_lt_of_le this.2.2 hsize⟩
    · obtain ⟨hy', hbc⟩ := hold c y hc hy
      rw [hmu c hc] at hu
      have := hr.loc c y u k hy' hu hk'
      exact ⟨this.1, this.2.1, Nat.lt_of_lt_of_le this.2.2 hsize⟩
  · have one : ∀ c y u, c ≠ id → (if c = id then some x else if b0 = some c then none else h c) = some y → mset mu id v c = some u → locBlk u = some k → locBlk v = some k → False := by
      intro c y u hc hy hu hku hkv
      obtain ⟨hy', hbc⟩ := hold c y hc hy
      rw [hmu c hc] at hu
      rcases hk k hkv with ⟨g1, g2⟩ | ⟨b, x0, v0, hb0, hx0, hv0, hl⟩
      · have := (hr.loc c y u k hy' hu hku).2.2
        omega
      · exact hne c y u k b x0 v0 hbc hy' hu hku hb0 hx0 hv0 hl
    by_cases hc : c = id <;> by_cases hc' : c' = id
    · rw [hc, hc']
    · exfalso
      have hu2 : v = u := by simpa [mset, hc] using hu
      exact one c' z u' hc' hz hu' hk'' (hu2 ▸ hk')
    · exfalso
      have hu2 : v = u' := by simpa [mset, hc'] using hu'
      exact one c y u hc hy hu hk' (hu2 ▸ hk'')
    · obtain ⟨hy', _⟩ := hold c y hc hy
      obtain ⟨hz', _⟩ := hold c' z hc' hz
      rw [hmu c hc] at hu
      rw [hmu c' hc'] at hu'
      exact hr.inj c c' y z u u' k hy' hz' hu hu' hk' hk''
  · rw [hmu b hb.2]; exact hr.fresh b hb.1
  · rw [hsame j (by have := hr.grown; omega) fun b x0 v0 hb0 hx0 hv0 hl => ?_]
    · exact hr.old j hj hnm
    · rcases (hr.loc b x0 v0 j hx0 hv0 hl).1 with h1 | h1
      · exact hnm h1
      · omega

theorem run_firstCells' {size n : Nat} {A : Option Addr} {cap : Nat} {us : List Value} (hl : us.length = n * size) (hh : Holds' w A us) : (Builtin.firstCells size n (.slice A n cap)).run P w = .ok us.toArray w := by
  rcases hh with rfl | ⟨k, o, rfl, hc⟩
  · cases A with
    | none => simp [Builtin.firstCells]
    | some a => exact run_firstCells_some w size n a n cap [] hl (fun j v hj => by simp at hj)
  · exact run_firstCells_some w size n _ n cap us hl fun j v hj => by rw [addr_add]; exact hc j v hj

/-- Append, whatever the base and the source are. -/
theorem run_append_any {t ty e' : TypeId} {i : TypeInfo} {z : Value} (hu : P.underlying t = some (.slice e')) (hi : P.info? e' = some i) (hz : i.zero = some z) {A B : Option Addr} {n m cap cap' : Nat} {us vs : List Value}
    (hus : us.length = n * i.size) (hvs : vs.length = m * i.size) (hA : Holds' w A us) (hB : Holds' w B vs) (hncap : n ≤ cap) (hle : n + m ≤ 9223372036854775807) (hbytes : (n + m) * i.bytes ≤ 140737488355328) :
    (n + m ≤ cap → (Builtin.append_ #[t, t] ty #[.slice A n cap, .slice B m cap']).run P w = ((match A with | some a => (storeCells (a.add (n * i.size)) vs).run P w | none => .ok () w)).andThen fun _ w' => .ok (.slice A (n + m) cap) w') ∧
    (cap < n + m → (Builtin.append_ #[t, t] ty #[.slice A n cap, .slice B m cap']).run P w = .ok (.slice (some ⟨w.heap.size, 0, none⟩) (n + m) (grownCap w (n + m) cap e'))
      (w.drew.alloc (.cells (us.toArray ++ vs.toArray ++ Builtin.zeroCells z.cells (grownCap w (n + m) cap e' - (n + m))) e'))) := by
  have hfB := run_firstCells' (P := P) (size := i.size) (n := m) (A := B) (cap := cap') hvs hB
  constructor
  · intro hroom
    cases A with
    | none => simp [Builtin.append_, run_underlying hu, sizeOf, typeInfo, hi, Builtin.lenOf, hroom, hfB]
    | some a => simp [Builtin.append_, run_underlying hu, sizeOf, typeInfo, hi, Builtin.lenOf, hroom, hfB]
  · intro hg
    have hA' : Holds' w.drew A us := by
      rcases hA with rfl | ⟨k, o, rfl, hc⟩
      · exact .inl rfl
      · exact .inr ⟨k, o, rfl, fun j u hj => by simpa using hc j u hj⟩
    have hB' : Holds' w.drew B vs := by
      rcases hB with rfl | ⟨k, o, rfl, hc⟩
      · exact .inl rfl
      · exact .inr ⟨k, o, rfl, fun j u hj => by simpa using hc j u hj⟩
    have hfA := run_firstCells' (P := P) (w := w.drew) (size := i.size) (n := n) (A := A) (cap := cap) hus hA'
    have hfB' := run_firstCells' (P := P) (w := w.drew) (size := i.size) (n := m) (A := B) (cap := cap') hvs hB'
    have hn : ¬ (n + m ≤ cap) := by omega
    have h63 : ¬ (9223372036854775807 < ((n : Int) + (m : Int))) := by omega
    have hfit := growslice_fits (need := n + m) (old := cap) (bytes := i.bytes) hg hbytes
    have h48 : ¬ (281474976710656 < Builtin.nextslicecap (n + m) cap * i.bytes) := by omega
    simp [Builtin.append_, run_underlying hu, sizeOf, typeInfo, zeroValue, hi, hz, Builtin.lenOf, hn, h63, h48, Question.forced, hfA, hfB', newRow, grownCap]
    have hx : ∀ X : Array Value, us.toArray ++ (vs.toArray ++ X) = (us ++ vs).toArray ++ X := fun X => by rw [← Array.append_assoc, List.append_toArray us vs]
    rw [hx]
end
end Go.Ab
