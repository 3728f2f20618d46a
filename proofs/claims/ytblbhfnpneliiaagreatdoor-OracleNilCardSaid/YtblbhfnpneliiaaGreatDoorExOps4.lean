/- The exact evaluator, part 7: stores, new variables, structs, slices, maps. -/
import Derived.Test.YtblbhfnpneliiaaGreatDoorExOps3
import Derived.Test.YtblbhfnpneliiaaGreatDoorAbOps7
import Derived.MapKept
namespace Go.Ex
open Go.RowKit
open Go.Ab (TI Sh setL setL_get setL_length tiOf Wrote tiOf_spec ti_bool ti_str ti_int ti_ptr ti_map ti_arr ti_struct run_slice_elem run_isAgg' run_sizeOf' run_zeroValue' addr_add fieldOf mapM_get mapM_places aggOf cells_one fill_step Holds' run_append_any zero_cells)
section
variable {P : Program} {G : Tr (List Value)} {id : Nat} {ev : Operand → X} {hp : Tr B} {dst : Option Tmp} {T : TypeId} {pos : String} {af : Array Edge} {gd : Option (Nat × Bool)} {e : Ef} {c : Cx}
variable {w0 : World} {M0 fr : Nat → Prop} {m : Mu} {h : Nat → Option B} {w : World}

/-- What a run leaves: a value, more names, the blocks that e tells. -/
def Left (w0 : World) (M0 fr : Nat → Prop) (m : Mu) (h : Nat → Option B) (id : Nat) (e : Ef) (v : Value) (w' : World) : Prop :=
  ∃ m', Le m m' ∧ conc m' e.x = some v ∧ WR w0 M0 (fun b => fr b ∧ b ≠ id) m' (upL e.up h) w'

theorem oneX_conc {x : X} {v : Value} (h1 : oneX x = true) (hv : conc m x = some v) : v.oneCell' = true := by
  cases x with
  | v u => have := conc_v hv; subst this; cases v <;> simp [oneX, oneV] at h1 <;> rfl
  | agg l => simp [oneX] at h1
  | tup l => simp [oneX] at h1
  | ptr b o => obtain ⟨_, _, rfl⟩ := conc_ptr hv; rfl
  | slc b o l c => obtain ⟨_, _, rfl⟩ := conc_slc hv; rfl
  | gsl b o l c => obtain ⟨_, _, rfl⟩ := conc_gsl hv; rfl
  | mp b => obtain ⟨_, _, rfl⟩ := conc_mp hv; rfl
  | it b => obtain ⟨_, _, rfl⟩ := conc_it hv; rfl
  | fn f fs cs => obtain ⟨_, _, _, _, rfl⟩ := conc_fn hv; rfl
  | yld b =>
    simp only [conc, Option.map_eq_some_iff] at hv
    obtain ⟨_, _, rfl⟩ := hv; rfl
  | iface t x => obtain ⟨_, _, rfl⟩ := conc_iface hv; rfl
theorem allOne_conc : ∀ {l : List X} {us : List Value}, allOne l = true → concL m l = some us → ∀ u ∈ us, u.oneCell' = true
  | [], us, _, h => by simp [concL] at h; subst h; simp
  | x :: l, us, h1, h => by
    obtain ⟨v, vs, h2, h3, rfl⟩ := concL_cons.1 h
    simp only [allOne] at h1
    cases ho : oneX x <;> simp [ho] at h1
    intro u hu
    rcases List.mem_cons.1 hu with rfl | hu
    · exact oneX_conc ho h2
    · exact allOne_conc h1 h3 u hu
theorem cellsX_conc {x : X} {ns : List X} {v : Value} (hc : cellsX x = some ns) (hv : conc m x = some v) : ∃ us, concL m ns = some us ∧ v.cells = us.toArray ∧ ∀ u ∈ us, u.oneCell' = true := by
  have single : oneX x = true → ns = [x] → ∃ us, concL m ns = some us ∧ v.cells = us.toArray ∧ ∀ u ∈ us, u.oneCell' = true := by
    intro h1 h2
    subst h2
    have := oneX_conc h1 hv
    exact ⟨[v], by simp [concL, hv], by simpa using cells_one this, fun u hu => by simp at hu; subst hu; exact this⟩
  cases x with
  | agg l =>
    simp only [cellsX] at hc
    obtain ⟨h1, h2⟩ := bif_inv hc
    simp only [Option.some.injEq] at h2
    subst h2
    obtain ⟨us, h3, rfl⟩ := conc_agg hv
    exact ⟨us, h3, rfl, allOne_conc h1 h3⟩
  | _ =>
    simp only [cellsX] at hc
    obtain ⟨h1, h2⟩ := bif_inv hc
    simp only [Option.some.injEq] at h2
    exact single h1 h2.symm

theorem setL_append {α : Type} {us tail vs : List α} {o : Nat} (hl : o + vs.length ≤ us.length) : setL (us ++ tail) o vs = setL us o vs ++ tail := by
  simp only [setL, List.append_assoc]
  rw [List.take_append_of_le_length (by omega), List.drop_append_of_le_length hl]

theorem run_storeF {k : Nat} {T : TypeId} {fz : Nat × Nat} : ∀ (vs : List Value) (i o : Nat) (us : List Value) (w : World), w.heap[k]? = some (.cells us.toArray T fz) → o + i + vs.length ≤ us.length → (∀ j, o + i ≤ j → j < o + i + vs.length → ¬ (fz.1 ≤ j ∧ j < fz.2)) → (∀ v ∈ vs, v.oneCell' = true) →
    ∃ w', (storeCells ⟨k, o, none⟩ vs i).run P w = .ok () w' ∧ w'.heap[k]? = some (.cells (setL us (o + i) vs).toArray T fz) ∧ Wrote k w w'
  | [], i, o, us, w, h, _, _, _ => ⟨w, by simp [storeCells], by simpa [setL] using h, Wrote.refl k w⟩
  | v :: vs, i, o, us, w, h, hl, hz, h1 => by
    simp only [List.length_cons] at hl hz
    have hcell : w.cell? ⟨k, o + i, none⟩ = some us[o + i] := by
      simp [World.cell?, h, show o + i < us.length by omega]
    have hfz : w.frozen? ⟨k, o + i, none⟩ = false := by
      have := hz (o + i) (Nat.le_refl _) (by omega)
      obtain ⟨lo, hi⟩ := fz
      simp only [World.frozen?, h]
      simp only [Bool.and_eq_false_iff, decide_eq_false_iff_not]
      simp only at this
      omega
    have hw1 : (w.setCell ⟨k, o + i, none⟩ v).heap[k]? = some (.cells (us.set (o + i) v).toArray T fz) := by
      simp [World.setCell, Array.getElem?_modify, h]
    obtain ⟨w', hrun, hh, hw⟩ := run_storeF vs (i + 1) o (us.set (o + i) v) (w.setCell ⟨k, o + i, none⟩ v) hw1 (by simp; omega) (fun j h2 h3 => hz j (by omega) (by omega)) fun x hx => h1 x (List.mem_cons_of_mem _ hx)
    refine ⟨w', ?_, ?_, Wrote.trans (b := w.setCell ⟨k, o + i, none⟩ v) ⟨rfl, rfl, rfl, by simp, fun j hj => Below.heap_setCell w ⟨k, o + i, none⟩ v j hj⟩ hw⟩
    · simp only [storeCells, addr_add, Sem.run_bind, run_store P w _ v .plain (h1 v List.mem_cons_self), hcell, hfz, Result.andThen]
      exact hrun
    · rw [hh]
      congr 3
      apply List.ext_getElem?
      intro j
      rw [setL_get (by simp; omega), setL_get (by simp; omega)]
      simp only [List.length_cons, List.getElem?_set]
      by_cases h2 : j < o + i
      · rw [if_pos (by omega), if_pos h2, if_neg (by omega)]
      · rw [if_neg h2]
        by_cases h3 : j = o + i
        · subst h3
          rw [if_pos (by omega), if_pos rfl, if_pos (by omega), if_pos (by omega)]
          simp
        · rw [if_neg (by omega)]
          by_cases h4 : j < o + (i + 1) + vs.length
          · rw [if_pos h4, if_pos (by omega)]
            have : j - (o + i) = (j - (o + (i + 1))) + 1 := by omega
            rw [this]; rfl
          · rw [if_neg h4, if_neg (by omega), if_neg (by omega)]
theorem thaw_inv {fz : Nat × Nat} {o n : Nat} (h : thaw fz o n = true) : ∀ j, o ≤ j → j < o + n → ¬ (fz.1 ≤ j ∧ j < fz.2) := by
  simp only [thaw, ble_eq, Bool.or_eq_true, decide_eq_true_eq] at h
  intro j h1 h2
  omega

/-- Cells of a block written. -/
theorem store_block {b o : Nat} {blk : B} {T' : TypeId} {l l' ns : List X} {fz : Nat × Nat} {vs : List Value} (hw : WR w0 M0 fr m h w) {p : Nat × Nat} (hb : h b = some blk) (hm : m b = some p) (hrow : rowOf blk = some (T', l, fz)) (hns : concL m ns = some vs)
    (hp' : put l o ns = some l') (hz : thaw fz o ns.length = true) (hone : ∀ u ∈ vs, u.oneCell' = true) :
    ∃ w', (storeCells ⟨p.1, o, none⟩ vs).run P w = .ok () w' ∧ WR w0 M0 fr m (upd h b (some (withRow blk l'))) w' := by
  obtain ⟨ob, h1, h2⟩ := hw.at hb hm
  obtain ⟨us, tail, h3, rfl, h4⟩ := rowOf_rel hrow h2
  obtain ⟨g1, g2⟩ := put_eq hp'
  have hl := concL_length h3
  have hv := concL_length hns
  have hz' := thaw_inv hz
  obtain ⟨w', r1, r2, r3⟩ := run_storeF (P := P) vs 0 o (us ++ tail) w h1 (by simp; omega) (fun j h5 h6 => hz' j (by omega) (by omega)) hone
  refine ⟨w', r1, hw.wrote hb hm r3 _ _ r2 ?_⟩
  rw [Nat.add_zero, setL_append (by omega)]
  refine h4 l' (setL us o vs) ?_ (setL_length (by omega))
  rw [g1]
  exact concL_setL h3 hns

theorem store_ok {t : TypeId} {ti : TI} (ht : tiOf P t = some ti) {a x : X} (he : storeX ti hp a x = some e) (hw : WR w0 M0 fr m h w) {va vx : Value} (ha : conc m a = some va) (hx : conc m x = some vx) (hb : ∀ b ∈ e.rd, h b = hp.get b) (id : Nat) :
    ∃ w', (Instr.storeAt t va vx).run P w = .ok () w' ∧ Left w0 M0 fr m h id e undef w' := by
  unfold storeX at he
  split at he
  · rename_i b o
    split at he
    · rename_i blk hblk
      split at he
      · rename_i T' l fz ns hrow hns
        obtain ⟨h1, he⟩ := bif_inv he
        obtain ⟨h2, he⟩ := bif_inv he
        split at he
        · rename_i l' hl'
          simp only [Option.some.injEq] at he
          subst he
          rw [beq_eq, lenL_eq, decide_eq_true_eq] at h1
          obtain ⟨p, hp1, rfl⟩ := conc_ptr ha
          obtain ⟨us, g1, g2, g3⟩ := cellsX_conc hns hx
          obtain ⟨w', r1, r2⟩ := store_block (P := P) hw ((hb b (by simp)).trans hblk) hp1 hrow g1 hl' (by rw [h1]; exact h2) g3
          have hcz : vx.cells.size = ti.sz := by rw [g2]; simp [concL_length g1, h1]
          refine ⟨w', ?_, m, Le.refl m, by simp [u0, conc, undef], r2.less fun b hb => hb.1⟩
          have hcz' : us.length = ti.sz := by rw [g2] at hcz; simpa using hcz
          simp [Instr.storeAt, Instr.sureAddr, storeVar, run_sizeOf' ht, g2, hcz', r1]
        · cases he
      · cases he
    · cases he
  · cases he

theorem row_new {T' : TypeId} {l : List X} {us : List Value} (hw : WR w0 M0 fr m h w) (hid : fr id) (hl : concL m l = some us) :
    Le m (mset m id (w.heap.size, 0)) ∧ WR w0 M0 (fun b => fr b ∧ b ≠ id) (mset m id (w.heap.size, 0)) (upd h id (some (.row T' l (0, 0)))) (w.alloc (.cells us.toArray T')) := by
  have := hw.new hid (.cells us.toArray T') 0 (.row T' l (0, 0)) ⟨us, concL_mono (mset_le (hw.fresh id hid)) _ _ hl, rfl⟩
  exact ⟨this.2, this.1⟩

theorem alloc_ok {t : TypeId} {ti : TI} (ht : tiOf P t = some ti) (he : allocX id t ti = some e) (hw : WR w0 M0 fr m h w) (hid : fr id) : ∃ v w', (Instr.alloc t true (.tuple #[])).run P w = .ok v w' ∧ Left w0 M0 fr m h id e v w' := by
  simp only [allocX, Option.some.injEq] at he
  subst he
  obtain ⟨z, hz, hzl⟩ := run_zeroValue' ht w
  have hza : z.cells = ti.zero.toArray := by rw [← hzl]
  obtain ⟨h1, h2⟩ := row_new (T' := t) hw hid (concL_mapV ti.zero)
  refine ⟨.pointer (some ⟨w.heap.size, 0, none⟩), _, ?_, _, h1, by simp [conc, mset_self], h2⟩
  simp only [Instr.alloc, newVar, Sem.run_bind, hz, hza, Result.andThen, Sem.run_pure]
  simp [newRow]
theorem box_ok {t : TypeId} {x : X} (he : boxX id t x = some e) (hw : WR w0 M0 fr m h w) (hid : fr id) {u : Value} (hx : conc m x = some u) : ∃ v w', (Instr.box t u).run P w = .ok v w' ∧ Left w0 M0 fr m h id e v w' := by
  unfold boxX at he
  split at he
  · rename_i ns hns
    simp only [Option.some.injEq] at he
    subst he
    obtain ⟨us, g1, g2, g3⟩ := cellsX_conc hns hx
    obtain ⟨h1, h2⟩ := row_new (T' := t) hw hid g1
    refine ⟨.pointer (some ⟨w.heap.size, 0, none⟩), _, ?_, _, h1, by simp [conc, mset_self], h2⟩
    simp only [Instr.box, newVar, Sem.run_bind, g2, Result.andThen, Sem.run_pure]
    simp [newRow]
  · cases he

theorem run_fillX (pl : Nat → Option (Nat × Nat)) : ∀ (ps : List (Nat × X)) (vs : List (Nat × Value)) (cs : List X) (us : List Value) (r : List X), fillX pl cs ps = some r → vs.length = ps.length →
    (∀ (i : Nat) (p : Nat × X) (q : Nat × Value), ps[i]? = some p → vs[i]? = some q → p.1 = q.1 ∧ conc m p.2 = some q.2) → concL m cs = some us →
    ∃ us', Instr.fill pl us.toArray vs = some us'.toArray ∧ concL m r = some us'
  | [], [], cs, us, r, h, _, _, hc => by
    simp only [fillX, Option.some.injEq] at h
    subst h
    exact ⟨us, by simp [Instr.fill], hc⟩
  | [], _ :: _, _, _, _, _, hl, _, _ => by simp at hl
  | _ :: _, [], _, _, _, _, hl, _, _ => by simp at hl
  | (i, x) :: ps, (i', v) :: vs, cs, us, r, h, hl, hp, hc => by
    simp only [fillX] at h
    split at h
    · rename_i o n ns hpl hns
      obtain ⟨h1, h⟩ := bif_inv h
      rw [beq_eq, lenL_eq, decide_eq_true_eq] at h1
      split at h
      · rename_i cs' hcs'
        obtain ⟨he, hrep⟩ := hp 0 (i, x) (i', v) rfl rfl
        simp only at he hrep
        subst he
        obtain ⟨us', g1, g2, g3⟩ := cellsX_conc hns hrep
        obtain ⟨q1, q2⟩ := put_eq hcs'
        have hcl := concL_length hc
        have hul := concL_length g1
        obtain ⟨us'', r1, r2⟩ := run_fillX pl ps vs cs' (setL us o us') r h (by simpa using hl) (fun j p q h3 h4 => hp (j + 1) p q (by simpa using h3) (by simpa using h4)) (by rw [q1]; exact concL_setL hc g1)
        refine ⟨us'', ?_, r2⟩
        have hcz : v.cells.size = n := by rw [g2]; simp [hul, h1]
        simp only [Instr.fill, hpl, hcz, ne_eq, not_true_eq_false, decide_false, Bool.false_or, List.size_toArray]
        rw [if_neg (by simp; omega)]
        have hz : (v.cells.zipIdx.foldl (fun (cs : Array Value) (p : Value × Nat) => cs.setIfInBounds (o + p.2) p.1) us.toArray) = (setL us o us').toArray := by
          rw [← Array.foldl_toList, Array.toList_zipIdx, g2]
          have := fill_step o us' 0 us (by omega)
          simpa using this
        exact (congrArg (fun z => Instr.fill pl z vs) hz).trans r1
      · cases h
    · cases h

theorem build_ok {t : TypeId} {ti : TI} (ht : tiOf P t = some ti) {ps : List (Nat × X)} (he : buildX ti ps = some e) (vs : List (Nat × Value)) (hl : vs.length = ps.length)
    (hp : ∀ (i : Nat) (p : Nat × X) (q : Nat × Value), ps[i]? = some p → vs[i]? = some q → p.1 = q.1 ∧ conc m p.2 = some q.2) : e.up = [] ∧ e.rd = [] ∧ ∃ v, (Instr.build t vs.toArray).run P w = .ok v w ∧ conc m e.x = some v := by
  unfold buildX at he
  split at he
  · rename_i fs hfs
    split at he
    · rename_i cs hcs
      have := pX_inv he; subst this
      obtain ⟨l, hl1, hl2⟩ := ti_struct ht hfs
      obtain ⟨i, d, z, h1, h2, h3, h4, h5, h6, h7, h8⟩ := tiOf_spec ht
      obtain ⟨us', g1, g2⟩ := run_fillX (m := m) _ ps vs (mapV ti.zero) ti.zero cs hcs hl hp (concL_mapV _)
      refine ⟨rfl, rfl, .agg us'.toArray, run_build w t vs.toArray us'.toArray ?_, by simp [conc, g2]⟩
      have hza : z.cells = ti.zero.toArray := by rw [← h6]
      have hpl := mapM_places hl2
      have hpl2 : plOf fs = fun x => Option.map (fun y => (y.fst, y.snd.fst)) fs[x]? := by
        funext i
        unfold plOf
        rw [nth_eq]
        cases fs[i]? <;> rfl
      rw [hpl2] at g1
      simp [Program.built, h1, hl1, h3, hpl, hza, g1]
    · cases he
  · cases he

theorem concL_repL {l : List Value} : ∀ n, concL m (repL n (mapV l)) = some (repL n l)
  | 0 => concL_nil
  | n + 1 => concL_append (concL_mapV l) (concL_repL n)
theorem repL_length {α : Type} (l : List α) : ∀ n, (repL n l).length = n * l.length
  | 0 => by simp [repL]
  | n + 1 => by simp only [repL, List.length_append, repL_length l n, Nat.succ_mul]; omega
theorem repL_get {l : List Value} (hpos : 0 < l.length) : ∀ (n i : Nat), i < n * l.length → (repL n l)[i]? = l[i % l.length]?
  | 0, i, h => by simp at h
  | n + 1, i, h => by
    simp only [repL]
    by_cases hi : i < l.length
    · rw [List.getElem?_append_left hi, Nat.mod_eq_of_lt hi]
    · rw [List.getElem?_append_right (by omega), repL_get hpos n (i - l.length) (by rw [Nat.succ_mul] at h; omega), ← Nat.mod_eq_sub_mod (by omega)]
theorem zeros_eq {te : TI} (h4 : te.zero.length = te.sz) (n : Nat) : ((List.range (n * te.sz)).map fun j => Go.Ab.nv te.zero (j % te.sz)) = repL n te.zero := by
  apply List.ext_getElem?
  intro i
  by_cases hi : i < n * te.sz
  · have hpos : 0 < te.zero.length := by rw [h4]; exact Nat.pos_of_ne_zero fun h0 => by rw [h0] at hi; simp at hi
    rw [repL_get hpos n i (by rw [h4]; exact hi), h4]
    have hlt : i % te.sz < te.zero.length := by rw [h4]; exact Nat.mod_lt _ (by omega)
    simp [Go.Ab.nv, List.getD_eq_getElem?_getD, hi, List.getElem?_eq_getElem hlt]
  · rw [List.getElem?_eq_none (by simpa using hi), List.getElem?_eq_none (by rw [repL_length, h4]; omega)]

theorem buildS_ok {t e' : TypeId} {ti te : TI} (ht : tiOf P t = some ti) (hs : ti.sh = .slice e') (hte : tiOf P e' = some te) {n : Nat} {ps : List (Nat × X)} (he : buildSX id e' te n ps = some e) (hw : WR w0 M0 fr m h w) (hid : fr id) (vs : List (Nat × Value)) (hl : vs.length = ps.length)
    (hp : ∀ (i : Nat) (p : Nat × X) (q : Nat × Value), ps[i]? = some p → vs[i]? = some q → p.1 = q.1 ∧ conc m p.2 = some q.2) : ∃ v w', (Instr.buildSlice t n vs.toArray).run P w = .ok v w' ∧ Left w0 M0 fr m h id e v w' := by
  unfold buildSX at he
  obtain ⟨h1, h2, he⟩ := and_inv he
  rw [ble_eq, decide_eq_true_eq] at h1
  rw [beq_eq, lenL_eq, decide_eq_true_eq] at h2
  have h1' : n * te.sz ≤ 16777216 := h1
  split at he
  · rename_i cs hcs
    simp only [Option.some.injEq] at he
    subst he
    obtain ⟨i, d, z, g1, g2, g3, g4, g5, g6, g7, g8⟩ := tiOf_spec hte
    have hu := run_slice_elem ht hs
    have hzs : z.cells = te.zero.toArray := by rw [← g6]
    obtain ⟨us', f1, f2⟩ := run_fillX (m := m) _ ps vs (repL n (mapV te.zero)) (repL n te.zero) cs hcs hl hp (concL_repL n)
    obtain ⟨k1, k2⟩ := row_new (T' := e') hw hid f2
    refine ⟨.slice (some ⟨w.heap.size, 0, none⟩) n n, _, ?_, _, k1, by simp [conc, mset_self], k2⟩
    have hn : ¬ (16777216 < n * te.sz) := by omega
    have f1' : Instr.fill (fun i => some (i * te.sz, te.sz)) (repL n te.zero).toArray vs = some us'.toArray := f1
    by_cases h0 : n * te.sz = 0
    · have hr0 : Array.range 0 = #[] := rfl
      have hempty : repL n te.zero = [] := List.eq_nil_of_length_eq_zero (by rw [repL_length, h2]; exact h0)
      rw [hempty] at f1'
      simp [Instr.buildSlice, run_underlying hu, sizeOf, typeInfo, g1, g4, h0, hr0, f1', newRow]
    · have hcells := zero_cells h2 n z.cells hzs
      rw [zeros_eq h2] at hcells
      simp only [Instr.buildSlice, Sem.run_bind, run_underlying hu, Result.andThen, run_sizeOf' hte, gt_iff_lt]
      have f2' : Instr.fill (fun i => some (i * te.sz, te.sz)) (Array.map (fun x => z.cells[x % z.cells.size]!) (Array.range (n * te.sz))) vs = some us'.toArray := by rw [hcells]; exact f1'
      simp [hn, h0, zeroValue, typeInfo, g1, g3, f2', newRow]
  · cases he

theorem makeS_ok {t e' : TypeId} {ti te : TI} (ht : tiOf P t = some ti) (hs : ti.sh = .slice e') (hte : tiOf P e' = some te) {l cc : X} (he : makeSX id e' te l cc = some e) (hw : WR w0 M0 fr m h w) (hid : fr id) {vl vc : Value} (hl : conc m l = some vl) (hc : conc m cc = some vc) :
    ∃ v w', (Instr.makeSlice t vl vc).run P w = .ok v w' ∧ Left w0 M0 fr m h id e v w' := by
  unfold makeSX at he
  split at he
  · rename_i a b ha hb
    obtain ⟨h1, h2, he⟩ := and_inv he
    simp only [Option.some.injEq] at he
    subst he
    simp only [Bool.and_eq_true, ble_eq, decide_eq_true_eq] at h1
    rw [beq_eq, lenL_eq, decide_eq_true_eq] at h2
    obtain ⟨ka, rfl⟩ := natOf_inv ha hl
    obtain ⟨kb, rfl⟩ := natOf_inv hb hc
    obtain ⟨i, d, z, g1, g2, g3, g4, g5, g6, g7, g8⟩ := tiOf_spec hte
    have hu := run_slice_elem ht hs
    have h3 : b * (te.bytes + 1) ≤ 16777216 := h1.2
    rw [Nat.mul_add] at h3
    have h4 : te.bytes * b ≤ 16777216 := by rw [Nat.mul_comm]; omega
    have run := run_make (P := P) w t e' i z hu g1 g3 ka kb a b (by omega) (by omega) (by rw [g7]; have : ((te.bytes * b : Nat) : Int) ≤ 16777216 := by omega
                                                                                          push_cast at this; omega) (by omega)
    have hzs : z.cells = te.zero.toArray := by rw [← g6]
    have hmc : madeCells z.cells (b * i.size) = (repL b te.zero).toArray := by
      rw [g4]
      have := zero_cells h2 b z.cells hzs
      rw [zeros_eq h2] at this
      exact this
    simp only [Int.toNat_natCast] at run
    rw [hmc] at run
    obtain ⟨k1, k2⟩ := row_new (T' := e') hw hid (concL_repL (l := te.zero) b)
    exact ⟨_, _, run, _, k1, by simp [conc, mset_self], k2⟩
  · cases he
end
end Go.Ex
