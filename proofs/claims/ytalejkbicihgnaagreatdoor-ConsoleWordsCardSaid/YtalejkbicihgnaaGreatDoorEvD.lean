/- The exact evaluator: operations. -/
import Derived.Test.YtalejkbicihgnaaGreatDoorEvC
import Derived.Test.YtalejkbicihgnaaGreatDoorEvB
import Derived.MapKept
import Derived.Lib.AppendStr
import Derived.Laws.BytesString
set_option maxHeartbeats 4000000
set_option maxRecDepth 20000
set_option linter.unusedVariables false
set_option linter.unusedSimpArgs false
/- The exact evaluator, part 7: stores, new variables, structs, slices, maps. -/
namespace Go.Ex
open Go.RowKit
open Go.Ab (TI Sh setL setL_get setL_length tiOf Wrote tiOf_spec ti_bool ti_str ti_int ti_ptr ti_map ti_arr ti_struct run_slice_elem run_isAgg' run_sizeOf' run_zeroValue' addr_add fieldOf mapM_get mapM_places aggOf cells_one fill_step Holds' run_append_any zero_cells)
section
variable {P : Program} {G : Tr (List Value)} {id : Nat} {ev : Operand → X} {hp : Tr B} {dst : Option Tmp} {T : TypeId} {pos : String} {af : Array Edge} {gd : Option (Nat × Bool)} {e : Ef} {c : Cx}
variable {w0 : World} {M0 fr : Nat → Prop} {m : Mu} {h : Nat → Option B} {w : World}

/-- What a run leaves: a value, more names, the blocks that e tells. -/
def Left (w0 : World) (M0 fr : Nat → Prop) (m : Mu) (h : Nat → Option B) (id : Nat) (e : Ef) (v : Value) (w' : World) : Prop :=
  ∃ m', Le m m' ∧ conc m' e.x = some v ∧ WR w0 M0 (fun b => fr b ∧ b ≠ id) m' (upL e.up h) w'

theorem oneX_conc {x : X} {v : Value} (h1 : oneX x = true) (hv : conc m x = some v) : v.oneCell' = true := by
  cases x with
  | v u => have := conc_v hv; subst this; cases v <;> simp [oneX, oneV] at h1 <;> rfl
  | agg l => simp [oneX] at h1
  | tup l => simp [oneX] at h1
  | ptr b o => obtain ⟨_, _, rfl⟩ := conc_ptr hv; rfl
  | slc b o l c => obtain ⟨_, _, rfl⟩ := conc_slc hv; rfl
  | gsl b o l c => obtain ⟨_, _, rfl⟩ := conc_gsl hv; rfl
  | esl b i k c => obtain ⟨_, _, rfl⟩ := conc_esl hv; rfl
  | mp b => obtain ⟨_, _, rfl⟩ := conc_mp hv; rfl
  | it b => obtain ⟨_, _, rfl⟩ := conc_it hv; rfl
  | fn f fs cs => obtain ⟨_, _, _, _, rfl⟩ := conc_fn hv; rfl
  | yld b =>
    simp only [conc, Option.map_eq_some_iff] at hv
    obtain ⟨_, _, rfl⟩ := hv; rfl
  | iface t x => obtain ⟨_, _, rfl⟩ := conc_iface hv; rfl
theorem allOne_conc : ∀ {l : List X} {us : List Value}, allOne l = true → concL m l = some us → ∀ u ∈ us, u.oneCell' = true
  | [], us, _, h => by simp [concL] at h; subst h; simp
  | x :: l, us, h1, h => by
    obtain ⟨v, vs, h2, h3, rfl⟩ := concL_cons.1 h
    simp only [allOne] at h1
    cases ho : oneX x <;> simp [ho] at h1
    intro u hu
    rcases List.mem_cons.1 hu with rfl | hu
    · exact oneX_conc ho h2
    · exact allOne_conc h1 h3 u hu
theorem cellsX_conc {x : X} {ns : List X} {v : Value} (hc : cellsX x = some ns) (hv : conc m x = some v) : ∃ us, concL m ns = some us ∧ v.cells = us.toArray ∧ ∀ u ∈ us, u.oneCell' = true := by
  have single : oneX x = true → ns = [x] → ∃ us, concL m ns = some us ∧ v.cells = us.toArray ∧ ∀ u ∈ us, u.oneCell' = true := by
    intro h1 h2
    subst h2
    have := oneX_conc h1 hv
    exact ⟨[v], by simp [concL, hv], by simpa using cells_one this, fun u hu => by simp at hu; subst hu; exact this⟩
  cases x with
  | agg l =>
    simp only [cellsX] at hc
    obtain ⟨h1, h2⟩ := bif_inv hc
    simp only [Option.some.injEq] at h2
    subst h2
    obtain ⟨us, h3, rfl⟩ := conc_agg hv
    exact ⟨us, h3, rfl, allOne_conc h1 h3⟩
  | _ =>
    simp only [cellsX] at hc
    obtain ⟨h1, h2⟩ := bif_inv hc
    simp only [Option.some.injEq] at h2
    exact single h1 h2.symm

theorem setL_append {α : Type} {us tail vs : List α} {o : Nat} (hl : o + vs.length ≤ us.length) : setL (us ++ tail) o vs = setL us o vs ++ tail := by
  simp only [setL, List.append_assoc]
  rw [List.take_append_of_le_length (by omega), List.drop_append_of_le_length hl]

theorem run_storeF {k : Nat} {T : TypeId} {fz : Nat × Nat} : ∀ (vs : List Value) (i o : Nat) (us : List Value) (w : World), w.heap[k]? = some (.cells us.toArray T fz) → o + i + vs.length ≤ us.length → (∀ j, o + i ≤ j → j < o + i + vs.length → ¬ (fz.1 ≤ j ∧ j < fz.2)) → (∀ v ∈ vs, v.oneCell' = true) →
    ∃ w', (storeCells ⟨k, o, none⟩ vs i).run P w = .ok () w' ∧ w'.heap[k]? = some (.cells (setL us (o + i) vs).toArray T fz) ∧ Wrote k w w'
  | [], i, o, us, w, h, _, _, _ => ⟨w, by simp [storeCells], by simpa [setL] using h, Wrote.refl k w⟩
  | v :: vs, i, o, us, w, h, hl, hz, h1 => by
    simp only [List.length_cons] at hl hz
    have hcell : w.cell? ⟨k, o + i, none⟩ = some us[o + i] := by
      simp [World.cell?, h, show o + i < us.length by omega]
    have hfz : w.frozen? ⟨k, o + i, none⟩ = false := by
      have := hz (o + i) (Nat.le_refl _) (by omega)
      obtain ⟨lo, hi⟩ := fz
      simp only [World.frozen?, h]
      simp only [Bool.and_eq_false_iff, decide_eq_false_iff_not]
      simp only at this
      omega
    have hw1 : (w.setCell ⟨k, o + i, none⟩ v).heap[k]? = some (.cells (us.set (o + i) v).toArray T fz) := by
      simp [World.setCell, Array.getElem?_modify, h]
    obtain ⟨w', hrun, hh, hw⟩ := run_storeF vs (i + 1) o (us.set (o + i) v) (w.setCell ⟨k, o + i, none⟩ v) hw1 (by simp; omega) (fun j h2 h3 => hz j (by omega) (by omega)) fun x hx => h1 x (List.mem_cons_of_mem _ hx)
    refine ⟨w', ?_, ?_, Wrote.trans (b := w.setCell ⟨k, o + i, none⟩ v) ⟨rfl, rfl, rfl, by simp, fun j hj => Below.heap_setCell w ⟨k, o + i, none⟩ v j hj⟩ hw⟩
    · simp only [storeCells, addr_add, Sem.run_bind, run_store P w _ v .plain (h1 v List.mem_cons_self), hcell, hfz, Result.andThen]
      exact hrun
    · rw [hh]
      congr 3
      apply List.ext_getElem?
      intro j
      rw [setL_get (by simp; omega), setL_get (by simp; omega)]
      simp only [List.length_cons, List.getElem?_set]
      by_cases h2 : j < o + i
      · rw [if_pos (by omega), if_pos h2, if_neg (by omega)]
      · rw [if_neg h2]
        by_cases h3 : j = o + i
        · subst h3
          rw [if_pos (by omega), if_pos rfl, if_pos (by omega), if_pos (by omega)]
          simp
        · rw [if_neg (by omega)]
          by_cases h4 : j < o + (i + 1) + vs.length
          · rw [if_pos h4, if_pos (by omega)]
            have : j - (o + i) = (j - (o + (i + 1))) + 1 := by omega
            rw [this]; rfl
          · rw [if_neg h4, if_neg (by omega), if_neg (by omega)]
theorem thaw_inv {fz : Nat × Nat} {o n : Nat} (h : thaw fz o n = true) : ∀ j, o ≤ j → j < o + n → ¬ (fz.1 ≤ j ∧ j < fz.2) := by
  simp only [thaw, ble_eq, Bool.or_eq_true, decide_eq_true_eq] at h
  intro j h1 h2
  omega

/-- Cells of a block written. -/
theorem store_block {b o : Nat} {blk : B} {T' : TypeId} {l l' ns : List X} {fz : Nat × Nat} {vs : List Value} (hw : WR w0 M0 fr m h w) {p : Nat × Nat} (hb : h b = some blk) (hm : m b = some p) (hrow : rowOf blk = some (T', l, fz)) (hns : concL m ns = some vs)
    (hp' : put l o ns = some l') (hz : thaw fz o ns.length = true) (hone : ∀ u ∈ vs, u.oneCell' = true) :
    ∃ w', (storeCells ⟨p.1, o, none⟩ vs).run P w = .ok () w' ∧ WR w0 M0 fr m (upd h b (some (withRow blk l'))) w' := by
  obtain ⟨ob, h1, h2⟩ := hw.at hb hm
  obtain ⟨us, tail, h3, rfl, h4⟩ := rowOf_rel hrow h2
  obtain ⟨g1, g2⟩ := put_eq hp'
  have hl := concL_length h3
  have hv := concL_length hns
  have hz' := thaw_inv hz
  obtain ⟨w', r1, r2, r3⟩ := run_storeF (P := P) vs 0 o (us ++ tail) w h1 (by simp; omega) (fun j h5 h6 => hz' j (by omega) (by omega)) hone
  refine ⟨w', r1, hw.wrote hb hm r3 _ _ r2 ?_⟩
  rw [Nat.add_zero, setL_append (by omega)]
  refine h4 l' (setL us o vs) ?_ (setL_length (by omega))
  rw [g1]
  exact concL_setL h3 hns

/-- Bytes written, of those that a text was turned into. -/
theorem store_byts {b o : Nat} {T' : TypeId} {l l' ns : List X} {vs : List Value} (hw : WR w0 M0 fr m h w) {p : Nat × Nat} (hb : h b = some (.byts T' l)) (hm : m b = some p) (hns : concL m ns = some vs)
    (hp' : put l o ns = some l') (hone : ∀ u ∈ vs, u.oneCell' = true) :
    ∃ w', (storeCells ⟨p.1, o, none⟩ vs).run P w = .ok () w' ∧ WR w0 M0 fr m (upd h b (some (.byts T' l'))) w' := by
  obtain ⟨ob, h1, h2⟩ := hw.at hb hm
  obtain ⟨us, tail, h3, rfl, h4⟩ := h2
  obtain ⟨g1, g2⟩ := put_eq hp'
  have hl := concL_length h3
  have hv := concL_length hns
  have hlen : us.length + tail.length = p.2 := by simpa using h4
  obtain ⟨w', r1, r2, r3⟩ := run_storeF (P := P) vs 0 o (us ++ tail) w h1 (by simp; omega) (fun j h5 h6 => by simp only; omega) hone
  refine ⟨w', r1, hw.wrote hb hm r3 _ _ r2 ?_⟩
  rw [Nat.add_zero, setL_append (by omega)]
  refine ⟨setL us o vs, tail, ?_, rfl, ?_⟩
  · rw [g1]
    exact concL_setL h3 hns
  · rw [List.length_append, setL_length (by omega)]
    exact hlen

theorem store_ok {t : TypeId} {ti : TI} (ht : tiOf P t = some ti) {a x : X} (he : storeX ti hp a x = some e) (hw : WR w0 M0 fr m h w) {va vx : Value} (ha : conc m a = some va) (hx : conc m x = some vx) (hb : ∀ b ∈ e.rd, h b = hp.get b) (id : Nat) :
    ∃ w', (Instr.storeAt t va vx).run P w = .ok () w' ∧ Left w0 M0 fr m h id e undef w' := by
  unfold storeX at he
  split at he
  · rename_i b o
    split at he
    · rename_i T' l hblk
      split at he
      · rename_i ns hns
        obtain ⟨h1, he⟩ := bif_inv he
        split at he
        · rename_i l' hl'
          simp only [Option.some.injEq] at he
          subst he
          rw [beq_eq, lenL_eq, decide_eq_true_eq] at h1
          obtain ⟨p, hp1, rfl⟩ := conc_ptr ha
          obtain ⟨us, g1, g2, g3⟩ := cellsX_conc hns hx
          obtain ⟨w', r1, r2⟩ := store_byts (P := P) hw ((hb b (by simp)).trans hblk) hp1 g1 hl' g3
          have hcz : vx.cells.size = ti.sz := by rw [g2]; simp [concL_length g1, h1]
          refine ⟨w', ?_, m, Le.refl m, by simp [u0, conc, undef], r2.less fun b hb => hb.1⟩
          have hcz' : us.length = ti.sz := by rw [g2] at hcz; simpa using hcz
          simp [Instr.storeAt, Instr.sureAddr, storeVar, run_sizeOf' ht, g2, hcz', r1]
        · cases he
      · cases he
    · rename_i blk _ hblk
      split at he
      · rename_i T' l fz ns hrow hns
        obtain ⟨h1, he⟩ := bif_inv he
        obtain ⟨h2, he⟩ := bif_inv he
        split at he
        · rename_i l' hl'
          simp only [Option.some.injEq] at he
          subst he
          rw [beq_eq, lenL_eq, decide_eq_true_eq] at h1
          obtain ⟨p, hp1, rfl⟩ := conc_ptr ha
          obtain ⟨us, g1, g2, g3⟩ := cellsX_conc hns hx
          obtain ⟨w', r1, r2⟩ := store_block (P := P) hw ((hb b (by simp)).trans hblk) hp1 hrow g1 hl' (by rw [h1]; exact h2) g3
          have hcz : vx.cells.size = ti.sz := by rw [g2]; simp [concL_length g1, h1]
          refine ⟨w', ?_, m, Le.refl m, by simp [u0, conc, undef], r2.less fun b hb => hb.1⟩
          have hcz' : us.length = ti.sz := by rw [g2] at hcz; simpa using hcz
          simp [Instr.storeAt, Instr.sureAddr, storeVar, run_sizeOf' ht, g2, hcz', r1]
        · cases he
      · cases he
    · cases he
  · cases he

theorem row_new {T' : TypeId} {l : List X} {us : List Value} (hw : WR w0 M0 fr m h w) (hid : fr id) (hl : concL m l = some us) :
    Le m (mset m id (w.heap.size, 0)) ∧ WR w0 M0 (fun b => fr b ∧ b ≠ id) (mset m id (w.heap.size, 0)) (upd h id (some (.row T' l (0, 0)))) (w.alloc (.cells us.toArray T')) := by
  have := hw.new hid (.cells us.toArray T') 0 (.row T' l (0, 0)) ⟨us, concL_mono (mset_le (hw.fresh id hid)) _ _ hl, rfl⟩
  exact ⟨this.2, this.1⟩

theorem alloc_ok {t : TypeId} {ti : TI} (ht : tiOf P t = some ti) (he : allocX id t ti = some e) (hw : WR w0 M0 fr m h w) (hid : fr id) : ∃ v w', (Instr.alloc t true (.tuple #[])).run P w = .ok v w' ∧ Left w0 M0 fr m h id e v w' := by
  simp only [allocX, Option.some.injEq] at he
  subst he
  obtain ⟨z, hz, hzl⟩ := run_zeroValue' ht w
  have hza : z.cells = ti.zero.toArray := by rw [← hzl]
  obtain ⟨h1, h2⟩ := row_new (T' := t) hw hid (concL_mapV ti.zero)
  refine ⟨.pointer (some ⟨w.heap.size, 0, none⟩), _, ?_, _, h1, by simp [conc, mset_self], h2⟩
  simp only [Instr.alloc, newVar, Sem.run_bind, hz, hza, Result.andThen, Sem.run_pure]
  simp [newRow]
theorem box_ok {t : TypeId} {x : X} (he : boxX id t x = some e) (hw : WR w0 M0 fr m h w) (hid : fr id) {u : Value} (hx : conc m x = some u) : ∃ v w', (Instr.box t u).run P w = .ok v w' ∧ Left w0 M0 fr m h id e v w' := by
  unfold boxX at he
  split at he
  · rename_i ns hns
    simp only [Option.some.injEq] at he
    subst he
    obtain ⟨us, g1, g2, g3⟩ := cellsX_conc hns hx
    obtain ⟨h1, h2⟩ := row_new (T' := t) hw hid g1
    refine ⟨.pointer (some ⟨w.heap.size, 0, none⟩), _, ?_, _, h1, by simp [conc, mset_self], h2⟩
    simp only [Instr.box, newVar, Sem.run_bind, g2, Result.andThen, Sem.run_pure]
    simp [newRow]
  · cases he

theorem run_fillX (pl : Nat → Option (Nat × Nat)) : ∀ (ps : List (Nat × X)) (vs : List (Nat × Value)) (cs : List X) (us : List Value) (r : List X), fillX pl cs ps = some r → vs.length = ps.length →
    (∀ (i : Nat) (p : Nat × X) (q : Nat × Value), ps[i]? = some p → vs[i]? = some q → p.1 = q.1 ∧ conc m p.2 = some q.2) → concL m cs = some us →
    ∃ us', Instr.fill pl us.toArray vs = some us'.toArray ∧ concL m r = some us'
  | [], [], cs, us, r, h, _, _, hc => by
    simp only [fillX, Option.some.injEq] at h
    subst h
    exact ⟨us, by simp [Instr.fill], hc⟩
  | [], _ :: _, _, _, _, _, hl, _, _ => by simp at hl
  | _ :: _, [], _, _, _, _, hl, _, _ => by simp at hl
  | (i, x) :: ps, (i', v) :: vs, cs, us, r, h, hl, hp, hc => by
    simp only [fillX] at h
    split at h
    · rename_i o n ns hpl hns
      obtain ⟨h1, h⟩ := bif_inv h
      rw [beq_eq, lenL_eq, decide_eq_true_eq] at h1
      split at h
      · rename_i cs' hcs'
        obtain ⟨he, hrep⟩ := hp 0 (i, x) (i', v) rfl rfl
        simp only at he hrep
        subst he
        obtain ⟨us', g1, g2, g3⟩ := cellsX_conc hns hrep
        obtain ⟨q1, q2⟩ := put_eq hcs'
        have hcl := concL_length hc
        have hul := concL_length g1
        obtain ⟨us'', r1, r2⟩ := run_fillX pl ps vs cs' (setL us o us') r h (by simpa using hl) (fun j p q h3 h4 => hp (j + 1) p q (by simpa using h3) (by simpa using h4)) (by rw [q1]; exact concL_setL hc g1)
        refine ⟨us'', ?_, r2⟩
        have hcz : v.cells.size = n := by rw [g2]; simp [hul, h1]
        simp only [Instr.fill, hpl, hcz, ne_eq, not_true_eq_false, decide_false, Bool.false_or, List.size_toArray]
        rw [if_neg (by simp; omega)]
        have hz : (v.cells.zipIdx.foldl (fun (cs : Array Value) (p : Value × Nat) => cs.setIfInBounds (o + p.2) p.1) us.toArray) = (setL us o us').toArray := by
          rw [← Array.foldl_toList, Array.toList_zipIdx, g2]
          have := fill_step o us' 0 us (by omega)
          simpa using this
        exact (congrArg (fun z => Instr.fill pl z vs) hz).trans r1
      · cases h
    · cases h

theorem build_ok {t : TypeId} {ti : TI} (ht : tiOf P t = some ti) {ps : List (Nat × X)} (he : buildX ti ps = some e) (vs : List (Nat × Value)) (hl : vs.length = ps.length)
    (hp : ∀ (i : Nat) (p : Nat × X) (q : Nat × Value), ps[i]? = some p → vs[i]? = some q → p.1 = q.1 ∧ conc m p.2 = some q.2) : e.up = [] ∧ e.rd = [] ∧ ∃ v, (Instr.build t vs.toArray).run P w = .ok v w ∧ conc m e.x = some v := by
  unfold buildX at he
  split at he
  · rename_i fs hfs
    split at he
    · rename_i cs hcs
      have := pX_inv he; subst this
      obtain ⟨l, hl1, hl2⟩ := ti_struct ht hfs
      obtain ⟨i, d, z, h1, h2, h3, h4, h5, h6, h7, h8⟩ := tiOf_spec ht
      obtain ⟨us', g1, g2⟩ := run_fillX (m := m) _ ps vs (mapV ti.zero) ti.zero cs hcs hl hp (concL_mapV _)
      refine ⟨rfl, rfl, .agg us'.toArray, run_build w t vs.toArray us'.toArray ?_, by simp [conc, g2]⟩
      have hza : z.cells = ti.zero.toArray := by rw [← h6]
      have hpl := mapM_places hl2
      have hpl2 : plOf fs = fun x => Option.map (fun y => (y.fst, y.snd.fst)) fs[x]? := by
        funext i
        unfold plOf
        rw [nth_eq]
        cases fs[i]? <;> rfl
      rw [hpl2] at g1
      simp [Program.built, h1, hl1, h3, hpl, hza, g1]
    · cases he
  · cases he

theorem buildA_ok {t e' : TypeId} {n : Nat} {ti te : TI} (ht : tiOf P t = some ti) (hs : ti.sh = .arr n e') (hte : tiOf P e' = some te) {ps : List (Nat × X)} (he : buildAX ti te.sz ps = some e) (vs : List (Nat × Value)) (hl : vs.length = ps.length)
    (hp : ∀ (i : Nat) (p : Nat × X) (q : Nat × Value), ps[i]? = some p → vs[i]? = some q → p.1 = q.1 ∧ conc m p.2 = some q.2) : e.up = [] ∧ e.rd = [] ∧ ∃ v, (Instr.build t vs.toArray).run P w = .ok v w ∧ conc m e.x = some v := by
  unfold buildAX at he
  split at he
  · rename_i cs hcs
    have := pX_inv he; subst this
    have hu := ti_arr ht hs
    obtain ⟨i, d, z, h1, h2, h3, h4, h5, h6, h7, h8⟩ := tiOf_spec ht
    obtain ⟨i', d', z', g1, g2, g3, g4, g5, g6, g7, g8⟩ := tiOf_spec hte
    obtain ⟨us', k1, k2⟩ := run_fillX (m := m) _ ps vs (mapV ti.zero) ti.zero cs hcs hl hp (concL_mapV _)
    refine ⟨rfl, rfl, .agg us'.toArray, run_build w t vs.toArray us'.toArray ?_, by simp [conc, k2]⟩
    have hza : z.cells = ti.zero.toArray := by rw [← h6]
    have k1' : Instr.fill (fun i => some (i * te.sz, te.sz)) ti.zero.toArray vs = some us'.toArray := k1
    simp [Program.built, h1, hu, h3, g1, g4, hza, k1']
  · cases he

theorem concL_repL {l : List Value} : ∀ n, concL m (repL n (mapV l)) = some (repL n l)
  | 0 => concL_nil
  | n + 1 => concL_append (concL_mapV l) (concL_repL n)
theorem repL_length {α : Type} (l : List α) : ∀ n, (repL n l).length = n * l.length
  | 0 => by simp [repL]
  | n + 1 => by simp only [repL, List.length_append, repL_length l n, Nat.succ_mul]; omega
theorem repL_get {l : List Value} (hpos : 0 < l.length) : ∀ (n i : Nat), i < n * l.length → (repL n l)[i]? = l[i % l.length]?
  | 0, i, h => by simp at h
  | n + 1, i, h => by
    simp only [repL]
    by_cases hi : i < l.length
    · rw [List.getElem?_append_left hi, Nat.mod_eq_of_lt hi]
    · rw [List.getElem?_append_right (by omega), repL_get hpos n (i - l.length) (by rw [Nat.succ_mul] at h; omega), ← Nat.mod_eq_sub_mod (by omega)]
theorem zeros_eq {te : TI} (h4 : te.zero.length = te.sz) (n : Nat) : ((List.range (n * te.sz)).map fun j => Go.Ab.nv te.zero (j % te.sz)) = repL n te.zero := by
  apply List.ext_getElem?
  intro i
  by_cases hi : i < n * te.sz
  · have hpos : 0 < te.zero.length := by rw [h4]; exact Nat.pos_of_ne_zero fun h0 => by rw [h0] at hi; simp at hi
    rw [repL_get hpos n i (by rw [h4]; exact hi), h4]
    have hlt : i % te.sz < te.zero.length := by rw [h4]; exact Nat.mod_lt _ (by omega)
    simp [Go.Ab.nv, List.getD_eq_getElem?_getD, hi, List.getElem?_eq_getElem hlt]
  · rw [List.getElem?_eq_none (by simpa using hi), List.getElem?_eq_none (by rw [repL_length, h4]; omega)]

theorem buildS_ok {t e' : TypeId} {ti te : TI} (ht : tiOf P t = some ti) (hs : ti.sh = .slice e') (hte : tiOf P e' = some te) {n : Nat} {ps : List (Nat × X)} (he : buildSX id e' te n ps = some e) (hw : WR w0 M0 fr m h w) (hid : fr id) (vs : List (Nat × Value)) (hl : vs.length = ps.length)
    (hp : ∀ (i : Nat) (p : Nat × X) (q : Nat × Value), ps[i]? = some p → vs[i]? = some q → p.1 = q.1 ∧ conc m p.2 = some q.2) : ∃ v w', (Instr.buildSlice t n vs.toArray).run P w = .ok v w' ∧ Left w0 M0 fr m h id e v w' := by
  unfold buildSX at he
  obtain ⟨h1, h2, he⟩ := and_inv he
  rw [ble_eq, decide_eq_true_eq] at h1
  rw [beq_eq, lenL_eq, decide_eq_true_eq] at h2
  have h1' : n * te.sz ≤ 16777216 := h1
  split at he
  · rename_i cs hcs
    simp only [Option.some.injEq] at he
    subst he
    obtain ⟨i, d, z, g1, g2, g3, g4, g5, g6, g7, g8⟩ := tiOf_spec hte
    have hu := run_slice_elem ht hs
    have hzs : z.cells = te.zero.toArray := by rw [← g6]
    obtain ⟨us', f1, f2⟩ := run_fillX (m := m) _ ps vs (repL n (mapV te.zero)) (repL n te.zero) cs hcs hl hp (concL_repL n)
    obtain ⟨k1, k2⟩ := row_new (T' := e') hw hid f2
    refine ⟨.slice (some ⟨w.heap.size, 0, none⟩) n n, _, ?_, _, k1, by simp [conc, mset_self], k2⟩
    have hn : ¬ (16777216 < n * te.sz) := by omega
    have f1' : Instr.fill (fun i => some (i * te.sz, te.sz)) (repL n te.zero).toArray vs = some us'.toArray := f1
    by_cases h0 : n * te.sz = 0
    · have hr0 : Array.range 0 = #[] := rfl
      have hempty : repL n te.zero = [] := List.eq_nil_of_length_eq_zero (by rw [repL_length, h2]; exact h0)
      rw [hempty] at f1'
      simp [Instr.buildSlice, run_underlying hu, sizeOf, typeInfo, g1, g4, h0, hr0, f1', newRow]
    · have hcells := zero_cells h2 n z.cells hzs
      rw [zeros_eq h2] at hcells
      simp only [Instr.buildSlice, Sem.run_bind, run_underlying hu, Result.andThen, run_sizeOf' hte, gt_iff_lt]
      have f2' : Instr.fill (fun i => some (i * te.sz, te.sz)) (Array.map (fun x => z.cells[x % z.cells.size]!) (Array.range (n * te.sz))) vs = some us'.toArray := by rw [hcells]; exact f1'
      simp [hn, h0, zeroValue, typeInfo, g1, g3, f2', newRow]
  · cases he

theorem makeS_ok {t e' : TypeId} {ti te : TI} (ht : tiOf P t = some ti) (hs : ti.sh = .slice e') (hte : tiOf P e' = some te) {l cc : X} (he : makeSX id e' te l cc = some e) (hw : WR w0 M0 fr m h w) (hid : fr id) {vl vc : Value} (hl : conc m l = some vl) (hc : conc m cc = some vc) :
    ∃ v w', (Instr.makeSlice t vl vc).run P w = .ok v w' ∧ Left w0 M0 fr m h id e v w' := by
  unfold makeSX at he
  split at he
  · rename_i a b ha hb
    obtain ⟨h1, h2, he⟩ := and_inv he
    simp only [Option.some.injEq] at he
    subst he
    simp only [Bool.and_eq_true, ble_eq, decide_eq_true_eq] at h1
    rw [beq_eq, lenL_eq, decide_eq_true_eq] at h2
    obtain ⟨ka, rfl⟩ := natOf_inv ha hl
    obtain ⟨kb, rfl⟩ := natOf_inv hb hc
    obtain ⟨i, d, z, g1, g2, g3, g4, g5, g6, g7, g8⟩ := tiOf_spec hte
    have hu := run_slice_elem ht hs
    have h3 : b * (te.bytes + 1) ≤ 16777216 := h1.2
    rw [Nat.mul_add] at h3
    have h4 : te.bytes * b ≤ 16777216 := by rw [Nat.mul_comm]; omega
    have run := run_make (P := P) w t e' i z hu g1 g3 ka kb a b (by omega) (by omega) (by rw [g7]; have : ((te.bytes * b : Nat) : Int) ≤ 16777216 := by omega
                                                                                          push_cast at this; omega) (by omega)
    have hzs : z.cells = te.zero.toArray := by rw [← g6]
    have hmc : madeCells z.cells (b * i.size) = (repL b te.zero).toArray := by
      rw [g4]
      have := zero_cells h2 b z.cells hzs
      rw [zeros_eq h2] at this
      exact this
    simp only [Int.toNat_natCast] at run
    rw [hmc] at run
    obtain ⟨k1, k2⟩ := row_new (T' := e') hw hid (concL_repL (l := te.zero) b)
    exact ⟨_, _, run, _, k1, by simp [conc, mset_self], k2⟩
  · cases he
end
end Go.Ex
/- The exact evaluator, part 8: append, maps, iterators. -/
namespace Go.Ex
open Go.RowKit
open Go.Ab (TI Sh setL setL_get setL_length tiOf Wrote tiOf_spec ti_bool ti_str ti_int ti_ptr ti_map ti_arr ti_struct run_slice_elem run_isAgg' run_sizeOf' run_zeroValue' addr_add fieldOf mapM_get mapM_places aggOf cells_one fill_step Holds' run_firstCells' zero_cells)
section
variable {P : Program} {G : Tr (List Value)} {id : Nat} {ev : Operand → X} {hp : Tr B} {dst : Option Tmp} {T : TypeId} {pos : String} {af : Array Edge} {gd : Option (Nat × Bool)} {e : Ef} {c : Cx}
variable {w0 : World} {M0 fr : Nat → Prop} {m : Mu} {h : Nat → Option B} {w : World}

theorem WR.drew (r : WR w0 M0 fr m h w) : WR w0 M0 fr m h w.drew := ⟨r.blk, r.own, r.inj, r.fresh, r.old, r.grown, r.os, r.tape, r.output⟩

theorem sliceCells_ok {esz : Nat} {x : X} {ns : List X} {rd : List Nat} {n : Nat} (hs : sliceCells hp esz x = some (ns, rd, n)) (hw : WR w0 M0 fr m h w) {v : Value} (hv : conc m x = some v) (hb : ∀ b ∈ rd, h b = hp.get b) :
    ∃ A cap us, v = .slice A n cap ∧ concL m ns = some us ∧ us.length = n * esz ∧ Holds' w A us := by
  unfold sliceCells at hs
  split at hs
  · rename_i b o len cap
    split at hs
    · rename_i blk hblk
      split at hs
      · rename_i T' l hrow
        split at hs
        · rename_i r hr
          simp only [Option.some.injEq, Prod.mk.injEq] at hs
          obtain ⟨rfl, rfl, rfl⟩ := hs
          obtain ⟨p, g1, rfl⟩ := conc_slc hv
          obtain ⟨ob, g2, g3⟩ := hw.at ((hb b (by simp)).trans hblk) g1
          obtain ⟨us, tail, fz, g4, rfl⟩ := rowR_rel hrow g3
          obtain ⟨q1, q2⟩ := piece_eq hr
          have q2' : o + len * esz ≤ l.length := q2
          have hl := concL_length g4
          refine ⟨_, cap, (us.drop o).take (len * esz), rfl, by rw [q1]; exact concL_take (concL_drop g4), by simp; omega, .inr ⟨p.1, o, rfl, fun j u hj => cells_at g2 ?_⟩⟩
          rw [List.getElem?_take] at hj
          split at hj
          · rwa [List.getElem?_drop] at hj
          · cases hj
        · cases hs
      · cases hs
    · cases hs
  · rename_i b i len sz
    replace hs := bif_inv hs
    obtain ⟨h1, hs⟩ := hs
    rw [beq_eq, decide_eq_true_eq] at h1
    subst h1
    split at hs
    · rename_i blk hblk
      split at hs
      · rename_i T' l hrow
        split at hs
        · rename_i r hr
          simp only [Option.some.injEq, Prod.mk.injEq] at hs
          obtain ⟨rfl, rfl, rfl⟩ := hs
          obtain ⟨p, g1, rfl⟩ := conc_gsl hv
          obtain ⟨ob, g2, g3⟩ := hw.at ((hb b (by simp)).trans hblk) g1
          obtain ⟨us, tail, fz, g4, rfl⟩ := rowR_rel hrow g3
          obtain ⟨q1, q2⟩ := piece_eq hr
          have q2' : i * sz + len * sz ≤ l.length := q2
          have hl := concL_length g4
          refine ⟨_, p.2 - i, (us.drop (i * sz)).take (len * sz), rfl, by rw [q1]; exact concL_take (concL_drop g4), by simp; omega, .inr ⟨p.1, i * sz, rfl, fun j u hj => cells_at g2 ?_⟩⟩
          rw [List.getElem?_take] at hj
          split at hj
          · rwa [List.getElem?_drop] at hj
          · cases hj
        · cases hs
      · cases hs
    · cases hs
  · simp only [Option.some.injEq, Prod.mk.injEq] at hs
    obtain ⟨rfl, rfl, rfl⟩ := hs
    have := conc_v hv; subst this
    exact ⟨none, 0, [], rfl, concL_nil, by simp, .inl rfl⟩
  · simp only [Option.some.injEq, Prod.mk.injEq] at hs
    obtain ⟨rfl, rfl, rfl⟩ := hs
    obtain ⟨p, g1, rfl⟩ := conc_esl hv
    exact ⟨_, _, [], rfl, concL_nil, by simp, .inl rfl⟩
  · cases hs

theorem rowR_of {blk : B} {T : TypeId} {l : List X} {fz : Nat × Nat} (h : rowOf blk = some (T, l, fz)) : rowR blk = some (T, l) := by
  cases blk <;> simp [rowOf, rowR] at h ⊢ <;> exact ⟨h.1, h.2.1⟩
theorem upL_two (h : Nat → Option B) (a b : Nat) (x y : Option B) : upL [(a, x), (b, y)] h = upd (upd h a x) b y := rfl

/-- Growing: the new cells in a block of their own, of room that nobody knows. -/
theorem grow_new {e' : TypeId} {cs : List X} {us : List Value} {zs : List Value} {sz n gc : Nat} (hw : WR w0 M0 fr m h w) (hid : fr id) (hcs : concL m cs = some us) (hl : us.length + zs.length = gc * sz) :
    Le m (mset m id (w.heap.size, gc)) ∧ WR w0 M0 (fun b => fr b ∧ b ≠ id) (mset m id (w.heap.size, gc)) (upd h id (some (.grow e' cs sz (0, 0)))) (w.drew.alloc (.cells (us ++ zs).toArray e')) ∧
      conc (mset m id (w.heap.size, gc)) (.gsl id 0 n sz) = some (.slice (some ⟨w.heap.size, 0, none⟩) n gc) := by
  have hf := hw.fresh id hid
  have := hw.drew.new hid (.cells (us ++ zs).toArray e') gc (.grow e' cs sz (0, 0)) ⟨us, zs, concL_mono (mset_le hf) _ _ hcs, rfl, by rw [List.length_append]; exact hl⟩
  exact ⟨this.2, this.1, by simp [conc, mset_self]⟩

/-- Append, whatever the base and the source are. -/
theorem run_append_src {t t' ty e' : TypeId} {i : TypeInfo} {z V : Value} (hu : P.underlying t = some (.slice e')) (ht' : (∃ e2, P.underlying t' = some (.slice e2)) ∨ P.underlying t' = some .string) (hi : P.info? e' = some i) (hz : i.zero = some z) {A : Option Addr} {n m cap : Nat} {us vs : List Value}
    (hus : us.length = n * i.size) (hA : Holds' w A us) (hV : ∀ w', (Builtin.lenOf V).run P w' = .ok m w') (hf : (Builtin.firstCells i.size m V).run P w = .ok vs.toArray w) (hf' : (Builtin.firstCells i.size m V).run P w.drew = .ok vs.toArray w.drew) (hle : n + m ≤ 9223372036854775807) (hbytes : (n + m) * i.bytes ≤ 140737488355328) :
    (n + m ≤ cap → (Builtin.append_ #[t, t'] ty #[.slice A n cap, V]).run P w = ((match A with | some a => (storeCells (a.add (n * i.size)) vs).run P w | none => .ok () w)).andThen fun _ w' => .ok (.slice A (n + m) cap) w') ∧
    (cap < n + m → (Builtin.append_ #[t, t'] ty #[.slice A n cap, V]).run P w = .ok (.slice (some ⟨w.heap.size, 0, none⟩) (n + m) (grownCap w (n + m) cap e'))
      (w.drew.alloc (.cells (us.toArray ++ vs.toArray ++ Builtin.zeroCells z.cells (grownCap w (n + m) cap e' - (n + m))) e'))) := by
  constructor
  · intro hroom
    rcases ht' with ⟨e2, ht'⟩ | ht'
    · cases A with
      | none => simp [Builtin.append_, run_underlying hu, run_underlying ht', sizeOf, typeInfo, hi, hV, hroom, hf]
      | some a => simp [Builtin.append_, run_underlying hu, run_underlying ht', sizeOf, typeInfo, hi, hV, hroom, hf]
    · cases A with
      | none => simp [Builtin.append_, run_underlying hu, run_underlying ht', sizeOf, typeInfo, hi, hV, hroom, hf]
      | some a => simp [Builtin.append_, run_underlying hu, run_underlying ht', sizeOf, typeInfo, hi, hV, hroom, hf]
  · intro hg
    have hA' : Holds' w.drew A us := by
      rcases hA with rfl | ⟨k, o, rfl, hc⟩
      · exact .inl rfl
      · exact .inr ⟨k, o, rfl, fun j u hj => by simpa using hc j u hj⟩
    have hfA := run_firstCells' (P := P) (w := w.drew) (size := i.size) (n := n) (A := A) (cap := cap) hus hA'
    have hn : ¬ (n + m ≤ cap) := by omega
    have h63 : ¬ (9223372036854775807 < ((n : Int) + (m : Int))) := by omega
    have hfit := growslice_fits (need := n + m) (old := cap) (bytes := i.bytes) hg hbytes
    have h48 : ¬ (281474976710656 < Builtin.nextslicecap (n + m) cap * i.bytes) := by omega
    have hx : ∀ X : Array Value, us.toArray ++ (vs.toArray ++ X) = (us ++ vs).toArray ++ X := fun X => by rw [← Array.append_assoc, List.append_toArray us vs]
    rcases ht' with ⟨e2, ht'⟩ | ht'
    · simp [Builtin.append_, run_underlying hu, run_underlying ht', sizeOf, typeInfo, zeroValue, hi, hz, hV, hn, h63, h48, Question.forced, hfA, hf', newRow, grownCap]
      rw [hx]
    · simp [Builtin.append_, run_underlying hu, run_underlying ht', sizeOf, typeInfo, zeroValue, hi, hz, hV, hn, h63, h48, Question.forced, hfA, hf', newRow, grownCap]
      rw [hx]

/-- What is behind a slice's elements: a value V, of type t'. -/
def Src (P : Program) (m : Mu) (h : Nat → Option B) (hp : Tr B) (w : World) (sz : Nat) (t' : TypeId) (V : Value) (src : Option (List X × List Nat × Nat)) : Prop :=
  ((∃ e2, P.underlying t' = some (.slice e2)) ∨ P.underlying t' = some .string) ∧ ∀ ns rd n, src = some (ns, rd, n) → (∀ b ∈ rd, h b = hp.get b) →
    ∃ ws, concL m ns = some ws ∧ ws.length = n * sz ∧ (∀ w', (Builtin.lenOf V).run P w' = .ok n w') ∧ (Builtin.firstCells sz n V).run P w = .ok ws.toArray w ∧ (Builtin.firstCells sz n V).run P w.drew = .ok ws.toArray w.drew

theorem appendC_ok {t t' ty e' : TypeId} {ti te : TI} (ht : tiOf P t = some ti) (hs : ti.sh = .slice e') (hte : tiOf P e' = some te) {s : X} {src : Option (List X × List Nat × Nat)} (he : appendC id hp e' te s src = some e) (hw : WR w0 M0 fr m h w) (hid : fr id) {vs vx : Value} (hvs : conc m s = some vs) (hsrc : Src P m h hp w te.sz t' vx src) (hb : ∀ b ∈ e.rd, h b = hp.get b) :
    ∃ v w', (Builtin.append_ #[t, t'] ty #[vs, vx]).run P w = .ok v w' ∧ Left w0 M0 fr m h id e v w' := by
  obtain ⟨inf, d, z, g1, g2, g3, g4, g5, g6, g7, g8⟩ := tiOf_spec hte
  have hu := run_slice_elem ht hs
  have hzs : z.cells.size = te.zero.length := by rw [← g6]; simp
  unfold appendC at he
  split at he
  · rename_i ns rd n os rd' len hos
    replace he := and_inv he
    obtain ⟨hA, hone, he⟩ := he
    simp only [Bool.and_eq_true, blt_eq, beq_eq, ble_eq, lenL_eq, decide_eq_true_eq] at hA
    obtain ⟨⟨hpos, hzl⟩, hbig⟩ := hA
    have hbig' : (len + n) * (te.bytes + 1) ≤ 1073741824 := hbig
    rw [Nat.mul_add] at hbig'
    have hby : (len + n) * inf.bytes ≤ 140737488355328 := by rw [g7]; omega
    have hlen63 : len + n ≤ 9223372036854775807 := by omega
    -- what a run makes of both lists
    have key : ∀ (hrd : ∀ b ∈ rd, h b = hp.get b) (hrd' : ∀ b ∈ rd', h b = hp.get b), ∃ A cap us ws, vs = .slice A len cap ∧ concL m os = some us ∧ concL m ns = some ws ∧ us.length = len * te.sz ∧ ws.length = n * te.sz ∧ (∀ u ∈ ws, u.oneCell' = true) ∧
        (len ≤ cap → (len + n ≤ cap → (Builtin.append_ #[t, t'] ty #[vs, vx]).run P w = ((match A with | some a => (storeCells (a.add (len * te.sz)) ws).run P w | none => .ok () w)).andThen fun _ w' => .ok (.slice A (len + n) cap) w') ∧
          (cap < len + n → ∃ gc zs, us.length + ws.length + zs.length = gc * te.sz ∧ len + n ≤ gc ∧ (Builtin.append_ #[t, t'] ty #[vs, vx]).run P w = .ok (.slice (some ⟨w.heap.size, 0, none⟩) (len + n) gc) (w.drew.alloc (.cells ((us ++ ws) ++ zs).toArray e')))) := by
      intro hrd hrd'
      obtain ⟨A, cap, us, rfl, a2, a3, a4⟩ := sliceCells_ok hos hw hvs hrd'
      obtain ⟨hst, hsr⟩ := hsrc
      obtain ⟨ws, b2, b3, b5, b6, b7⟩ := hsr ns rd n rfl hrd
      refine ⟨A, cap, us, ws, rfl, a2, b2, a3, b3, allOne_conc hone b2, fun hc => ?_⟩
      have run := run_append_src (P := P) (w := w) (ty := ty) (cap := cap) hu hst g1 g3 (us := us) (vs := ws) (n := len) (m := n) (V := vx) (by rw [g4]; exact a3) a4 b5 (by rw [g4]; exact b6) (by rw [g4]; exact b7) hlen63 hby
      refine ⟨fun h1 => by rw [← g4]; exact run.1 h1, fun h1 => ?_⟩
      have r1 := run.2 h1
      have hge := grownCap_ge w (len + n) cap e'
      refine ⟨_, (Builtin.zeroCells z.cells (grownCap w (len + n) cap e' - (len + n))).toList, ?_, hge, ?_⟩
      · have hz3 : (Builtin.zeroCells z.cells (grownCap w (len + n) cap e' - (len + n))).toList.length = (grownCap w (len + n) cap e' - (len + n)) * te.sz := by rw [Array.length_toList, size_zeroCells, hzs, hzl]
        rw [hz3, a3, b3, ← Nat.add_mul, ← Nat.add_mul]
        exact congrArg (· * te.sz) (by omega)
      · rw [r1]
        congr 3
        congr 1
        apply Array.ext'; simp
    split at he
    · -- nil
      have hos' : os = [] ∧ len = 0 ∧ rd' = [] := by simp [sliceCells] at hos; exact ⟨hos.1, hos.2.2.symm, hos.2.1⟩
      obtain ⟨rfl, rfl, rfl⟩ := hos'
      have hv := conc_v hvs; subst hv
      cases hn : Nat.beq n 0 with
      | true =>
        rw [hn] at he
        simp only [cond_true, Option.some.injEq] at he
        subst he
        obtain ⟨A, cap, us, ws, e1, a2, b2, a3, b3, b4, hr⟩ := key hb (fun _ h => by simp at h)
        cases e1
        have hn0 : n = 0 := Nat.eq_of_beq_eq_true hn
        subst hn0
        have := (hr (Nat.le_refl _)).1 (by omega)
        exact ⟨.slice none 0 0, w, by simpa [Result.andThen] using this, m, Le.refl m, hvs, hw.less fun b hb => hb.1⟩
      | false =>
        rw [hn] at he
        simp only [cond_false, Option.some.injEq] at he
        subst he
        obtain ⟨A, cap, us, ws, e1, a2, b2, a3, b3, b4, hr⟩ := key hb (fun _ h => by simp at h)
        cases e1
        have hn0 : n ≠ 0 := Nat.ne_of_beq_eq_false hn
        obtain ⟨gc, zs, k1, k2, k3⟩ := (hr (Nat.le_refl _)).2 (by omega)
        have hus : us = [] := List.eq_nil_of_length_eq_zero (by simpa using a3)
        subst hus
        obtain ⟨q1, q2, q3⟩ := grow_new (e' := e') (n := n) hw hid b2 (zs := zs) (gc := gc) (sz := te.sz) (by simpa using k1)
        refine ⟨_, _, k3, _, q1, ?_, by simpa [upL] using q2⟩
        simpa using q3
    · rename_i b o len' cap
      split at he
      · rename_i blk hblk
        split at he
        · rename_i T' l fz hrow
          have hlen : len' = len := by
            have h2 := hos
            simp only [sliceCells, hblk, rowR_of hrow] at h2
            split at h2
            · simp only [Option.some.injEq, Prod.mk.injEq] at h2; exact h2.2.2
            · cases h2
          have hrd'eq : rd' = [b] := by
            have h2 := hos
            simp only [sliceCells, hblk, rowR_of hrow] at h2
            split at h2
            · simp only [Option.some.injEq, Prod.mk.injEq] at h2; exact h2.2.1.symm
            · cases h2
          subst hlen hrd'eq
          cases hroom : Nat.ble (Nat.add len' n) cap with
          | true =>
            rw [hroom] at he
            simp only [cond_true] at he
            replace he := bif_inv he
            obtain ⟨hth, he⟩ := he
            split at he
            · rename_i l' hl'
              simp only [Option.some.injEq] at he
              subst he
              obtain ⟨A, cap1, us, ws, e1, a2, b2, a3, b3, b4, hr⟩ := key (fun b hb' => hb b (by simp [hb'])) (fun b hb' => hb b (by simp at hb' ⊢; exact .inl hb'))
              obtain ⟨p, p1, rfl⟩ := conc_slc hvs
              simp only [Value.slice.injEq, true_and] at e1
              obtain ⟨rfl, rfl⟩ := e1
              have hroom' : len' + n ≤ cap := Nat.le_of_ble_eq_true hroom
              have r1 := (hr (by omega)).1 hroom'
              obtain ⟨w', s1, s2⟩ := store_block (P := P) hw ((hb b (by simp)).trans hblk) p1 hrow b2 hl' (by
                have : ns.length = n * te.sz := by rw [← b3]; exact (concL_length b2).symm
                rw [this]; exact hth) b4
              refine ⟨.slice (some ⟨p.1, o, none⟩) (len' + n) cap, w', ?_, m, Le.refl m, ?_, s2.less fun b hb => hb.1⟩
              · rw [r1]
                simp only [addr_add]
                have s1' : (storeCells ⟨p.1, o + len' * te.sz, none⟩ ws).run P w = .ok () w' := s1
                rw [s1']
                rfl
              · simp only [conc, p1, Option.map_some]
                rfl
            · cases he
          | false =>
            rw [hroom] at he
            simp only [cond_false] at he
            replace he := bif_inv he
            obtain ⟨hlc, he⟩ := he
            simp only [Option.some.injEq] at he
            subst he
            obtain ⟨A, cap1, us, ws, e1, a2, b2, a3, b3, b4, hr⟩ := key (fun b hb' => hb b (by simp [hb'])) (fun b hb' => hb b (by simp at hb' ⊢; exact .inl hb'))
            obtain ⟨p, p1, rfl⟩ := conc_slc hvs
            simp only [Value.slice.injEq, true_and] at e1
            obtain ⟨rfl, rfl⟩ := e1
            have hroom' : ¬ (len' + n ≤ cap) := fun h => by
              have : Nat.ble (Nat.add len' n) cap = true := Nat.ble_eq_true_of_le h
              rw [this] at hroom; cases hroom
            obtain ⟨gc, zs, k1, k2, k3⟩ := (hr (Nat.le_of_ble_eq_true hlc)).2 (by omega)
            obtain ⟨q1, q2, q3⟩ := grow_new (e' := e') (n := len' + n) hw hid (concL_append a2 b2) (zs := zs) (gc := gc) (sz := te.sz) (by rw [List.length_append]; exact k1)
            exact ⟨_, _, k3, _, q1, q3, by simpa [upL] using q2⟩
        · cases he
      · cases he
    · rename_i b len' sz
      replace he := bif_inv he
      obtain ⟨hsz, he⟩ := he
      rw [beq_eq, decide_eq_true_eq] at hsz
      subst hsz
      split at he
      · rename_i T' l sz' fz hblk
        replace he := bif_inv he
        obtain ⟨hsz', he⟩ := he
        rw [beq_eq, decide_eq_true_eq] at hsz'
        subst hsz'
        have hh := hos
        simp only [sliceCells, hblk, rowR, Nat.beq_refl, cond_true] at hh
        split at hh
        case h_2 => cases hh
        rename_i pc hpc
        simp only [Option.some.injEq, Prod.mk.injEq] at hh
        obtain ⟨rfl, rfl, rfl⟩ := hh
        have e0 : Nat.mul 0 te.sz = 0 := Nat.zero_mul _
        rw [e0] at hpc
        obtain ⟨q1, q2⟩ := piece_eq hpc
        have q2' : 0 + len' * te.sz ≤ l.length := q2
        cases hin : Nat.ble (Nat.mul (Nat.add len' n) te.sz) (lenL l) with
        | true =>
          rw [hin] at he
          simp only [cond_true] at he
          replace he := bif_inv he
          obtain ⟨hth, he⟩ := he
          split at he
          · rename_i l' hl'
            simp only [Option.some.injEq] at he
            subst he
            obtain ⟨A, cap1, us, ws, e1, a2, b2, a3, b3, b4, hr⟩ := key (fun b hb' => hb b (by simp [hb'])) (fun b hb' => hb b (by simp at hb' ⊢; exact .inl hb'))
            obtain ⟨p, p1, rfl⟩ := conc_gsl hvs
            simp only [Value.slice.injEq, true_and] at e1
            obtain ⟨rfl, rfl⟩ := e1
            have hin' : (len' + n) * te.sz ≤ l.length := by have := Nat.le_of_ble_eq_true hin; rw [lenL_eq] at this; exact this
            have room := grow_room (i := 0) (len := len' + n) hw ((hb b (by simp)).trans hblk) p1 hpos (by rw [Nat.zero_add]; exact hin')
            have r1 := (hr (by omega)).1 (by omega)
            obtain ⟨w', s1, s2⟩ := store_block (P := P) (blk := .grow T' l te.sz fz) hw ((hb b (by simp)).trans hblk) p1 rfl b2 hl' (by
              have : ns.length = n * te.sz := by rw [← b3]; exact (concL_length b2).symm
              rw [this]; exact hth) b4
            refine ⟨.slice (some ⟨p.1, 0 * te.sz, none⟩) (len' + n) (p.2 - 0), w', ?_, m, Le.refl m, ?_, s2.less fun b hb => hb.1⟩
            · rw [r1]
              simp only [addr_add, Nat.zero_mul, Nat.zero_add]
              have s1' : (storeCells ⟨p.1, len' * te.sz, none⟩ ws).run P w = .ok () w' := s1
              rw [s1']
              rfl
            · simp only [conc, p1, Option.map_some]
              rfl
          · cases he
        | false =>
          rw [hin] at he
          simp only [cond_false] at he
          replace he := and_inv he
          obtain ⟨hth, hT, he⟩ := he
          simp only [Bool.and_eq_true, beq_eq, ble_eq, decide_eq_true_eq] at hth
          rw [beq_eq, decide_eq_true_eq] at hT
          subst hT
          have q1' : pc = (l.drop 0).take (len' * te.sz) := q1
          obtain ⟨f1, f2⟩ := fz
          obtain ⟨⟨_, rfl⟩, rfl⟩ := hth
          simp only [Option.some.injEq] at he
          subst he
          obtain ⟨A, cap1, us, ws, e1, a2, b2, a3, b3, b4, hr⟩ := key (fun b hb' => hb b (by simp [hb'])) (fun b hb' => hb b (by simp at hb' ⊢; exact .inl hb'))
          obtain ⟨p, p1, rfl⟩ := conc_gsl hvs
          simp only [Value.slice.injEq, true_and] at e1
          obtain ⟨rfl, rfl⟩ := e1
          have hhb := (hb b (by simp)).trans hblk
          have room := grow_room (i := 0) (len := len') hw hhb p1 hpos (by have q3 : 0 + len' * te.sz ≤ l.length := q2; rw [Nat.zero_add] at q3 ⊢; exact q3)
          by_cases hcap : len' + n ≤ p.2 - 0
          · have r1 := (hr (by omega)).1 hcap
            obtain ⟨ob, o1, vs0, tail, o2, rfl, o3⟩ := hw.at hhb p1
            have hv0 := concL_length o2
            have hwl : ws.length = n * te.sz := b3
            have hmul : (len' + n) * te.sz ≤ p.2 * te.sz := Nat.mul_le_mul_right _ (by omega)
            rw [Nat.add_mul] at hmul
            have hnin : ¬ (len' + n) * te.sz ≤ l.length := fun hle => by
              have : Nat.ble (Nat.mul (Nat.add len' n) te.sz) (lenL l) = true := Nat.ble_eq_true_of_le (by rw [lenL_eq]; exact hle)
              rw [this] at hin; cases hin
            rw [Nat.add_mul] at hnin
            obtain ⟨w', s1, s2, s3⟩ := run_storeF (P := P) ws 0 (len' * te.sz) (vs0 ++ tail) w o1 (by omega) (fun j h1 h2 => by simp) b4
            rw [Nat.add_zero] at s2
            have husd : us = vs0.take (len' * te.sz) := by
              have t1 := concL_take (n := len' * te.sz) (concL_drop (n := 0) o2)
              rw [← q1', a2] at t1
              simpa using t1
            have hset : setL (vs0 ++ tail) (len' * te.sz) ws = (us ++ ws) ++ (vs0 ++ tail).drop (len' * te.sz + ws.length) := by
              rw [husd]
              simp only [setL, List.append_assoc]
              rw [List.take_append_of_le_length (by omega)]
            have tk := hw.take hhb p1 hid s3 (.grow T' (pc ++ ns) te.sz (0, 0)) _ s2 ⟨us ++ ws, (vs0 ++ tail).drop (len' * te.sz + ws.length), concL_append a2 b2, by rw [hset], by
              rw [← hset, setL_length (by omega)]; exact o3⟩
            refine ⟨.slice (some ⟨p.1, 0 * te.sz, none⟩) (len' + n) (p.2 - 0), w', ?_, _, tk.2, ?_, by rw [upL_two]; exact tk.1⟩
            · rw [r1]
              simp only [addr_add, Nat.zero_mul, Nat.zero_add]
              rw [s1]
              rfl
            · simp only [conc, mset_self, Option.map_some]
              rfl
          · obtain ⟨gc, zs, k1, k2, k3⟩ := (hr (by omega)).2 (by omega)
            obtain ⟨y1, y2, y3⟩ := grow_new (e' := T') (n := len' + n) hw hid (concL_append a2 b2) (zs := zs) (gc := gc) (sz := te.sz) (by rw [List.length_append]; exact k1)
            refine ⟨_, _, k3, _, y1, y3, ?_⟩
            rw [upL_two]
            exact y2.drop fun c y hc => by
              unfold upd at hc ⊢
              by_cases ec : b = c
              · rw [if_pos ec] at hc; cases hc
              · rw [if_neg ec] at hc; exact hc
      · cases he
    · cases he
  · cases he

theorem append_ok {t t' ty e' : TypeId} {ti te : TI} (ht : tiOf P t = some ti) (hs : ti.sh = .slice e') (hte : tiOf P e' = some te) (ht' : ∃ e2, P.underlying t' = some (.slice e2)) {s x : X} (he : appendX id hp e' te s x = some e) (hw : WR w0 M0 fr m h w) (hid : fr id) {vs vx : Value} (hvs : conc m s = some vs) (hvx : conc m x = some vx) (hb : ∀ b ∈ e.rd, h b = hp.get b) :
    ∃ v w', (Builtin.append_ #[t, t'] ty #[vs, vx]).run P w = .ok v w' ∧ Left w0 M0 fr m h id e v w' := by
  refine appendC_ok ht hs hte he hw hid hvs ⟨.inl ht', fun ns rd n hns hrd => ?_⟩ hb
  obtain ⟨A, cap, us, rfl, b2, b3, b4⟩ := sliceCells_ok hns hw hvx hrd
  have hB' : Holds' w.drew A us := by
    rcases b4 with rfl | ⟨k, o, rfl, hc⟩
    · exact .inl rfl
    · exact .inr ⟨k, o, rfl, fun j u hj => by simpa using hc j u hj⟩
  exact ⟨us, b2, b3, fun w' => by simp [Builtin.lenOf], run_firstCells' b3 b4, run_firstCells' b3 hB'⟩

theorem byteXs_conc (m : Mu) : ∀ l : List UInt8, concL m (byteXs l) = some (l.map fun b => Value.int .u8 b.toNat)
  | [] => concL_nil
  | c :: l => concL_cons.2 ⟨_, _, by simp [conc], byteXs_conc m l, rfl⟩
theorem isU8_inv {te : TI} (h : isU8 te = true) : te.sh = .int .u8 ∧ te.sz = 1 := by
  unfold isU8 at h
  split at h
  · rename_i k hk
    rw [Bool.and_eq_true, kEq_eq, beq_eq, decide_eq_true_eq, decide_eq_true_eq] at h
    exact ⟨by rw [hk, h.1], h.2⟩
  · cases h
theorem appendS_ok {t t' ty e' : TypeId} {ti te : TI} (ht : tiOf P t = some ti) (hs : ti.sh = .slice e') (hte : tiOf P e' = some te) (ht' : P.underlying t' = some .string) {s x : X} (he : appendSX id hp e' te s x = some e) (hw : WR w0 M0 fr m h w) (hid : fr id) {vs vx : Value} (hvs : conc m s = some vs) (hvx : conc m x = some vx) (hb : ∀ b ∈ e.rd, h b = hp.get b) :
    ∃ v w', (Builtin.append_ #[t, t'] ty #[vs, vx]).run P w = .ok v w' ∧ Left w0 M0 fr m h id e v w' := by
  unfold appendSX at he
  replace he := bif_inv he
  obtain ⟨h1, he⟩ := he
  obtain ⟨_, h2⟩ := isU8_inv h1
  refine appendC_ok ht hs hte he hw hid hvs ⟨.inr ht', fun ns rd n hns hrd => ?_⟩ hb
  unfold strCells at hns
  split at hns
  · rename_i q
    simp only [Option.some.injEq, Prod.mk.injEq] at hns
    obtain ⟨rfl, rfl, rfl⟩ := hns
    have := conc_v hvx; subst this
    have hsz : lenL (strL q) = q.size := by rw [lenL_eq, size_strL]
    refine ⟨_, byteXs_conc m _, ?_, fun w' => ?_, ?_, ?_⟩
    · rw [List.length_map, h2, lenL_eq]; simp
    · rw [hsz]; simp [Builtin.lenOf]
    · rw [hsz]; exact Lib.run_firstCells_string w _ q
    · rw [hsz]; exact Lib.run_firstCells_string w.drew _ q
  · cases hns
end
end Go.Ex
/- The exact evaluator, part 9: maps, iterators, interface values. -/
namespace Go.Ex
open Go.RowKit
open Go.Ab (TI Sh setL setL_get setL_length tiOf Wrote tiOf_spec ti_bool ti_str ti_int ti_ptr ti_map ti_arr ti_struct run_slice_elem run_isAgg' run_sizeOf' run_zeroValue' addr_add)
open Go.MapKept (run_keyThatStays IsKey)
section
variable {P : Program} {G : Tr (List Value)} {id : Nat} {ev : Operand → X} {hp : Tr B} {dst : Option Tmp} {T : TypeId} {pos : String} {af : Array Edge} {gd : Option (Nat × Bool)} {e : Ef} {c : Cx}
variable {w0 : World} {M0 fr : Nat → Prop} {m : Mu} {h : Nat → Option B} {w : World}

/-- A key of a kind. -/
def KeyAt : TypeDesc → Value → Prop
  | .string, .string _ => True
  | .int j, .int k _ => k = j
  | _, _ => False
theorem keyOk_inv {kt : TypeId} {tk : TI} (ht : tiOf P kt = some tk) {x : X} {k : Value} (hk : keyOk tk.sh x = some k) {v : Value} (hv : conc m x = some v) : v = k ∧ ∃ d, P.underlying kt = some d ∧ KeyAt d k := by
  unfold keyOk at hk
  split at hk
  · split at hk
    · rename_i hsh
      simp only [Option.some.injEq] at hk
      subst hk
      exact ⟨conc_v hv, _, ti_str ht hsh, trivial⟩
    · cases hk
  · split at hk
    · rename_i k' hsh
      replace hk := bif_inv hk
      obtain ⟨h1, hk⟩ := hk
      simp only [Option.some.injEq] at hk
      subst hk
      rw [kEq_eq, decide_eq_true_eq] at h1
      exact ⟨conc_v hv, _, ti_int ht hsh, h1⟩
    · cases hk
  · cases hk
theorem keyAt_isKey {d : TypeDesc} {k : Value} (h : KeyAt d k) : IsKey d k := by
  cases d <;> cases k <;> simp [KeyAt] at h <;> simp [IsKey]
  exact h
theorem keyEq_same : ∀ {d : TypeDesc} {k k' : Value}, KeyAt d k → ∀ {b : Bool}, keyEq k k' = some b → Instr.sameNow d k k' = some b ∧ (b = true → k' = k)
  | .int j, .int q x, .int q' y, hk, b, h => by
    have hk : q = j := hk
    simp only [keyEq] at h
    replace h := bif_inv h
    obtain ⟨h1, h⟩ := h
    rw [kEq_eq, decide_eq_true_eq] at h1
    simp only [Option.some.injEq, ieq_eq] at h
    subst h
    subst h1
    refine ⟨?_, fun hb => ?_⟩
    · have : (x == y) = decide (x = y) := by by_cases e : x = y <;> simp [e]
      simp only [Instr.sameNow, if_true, this]
    · rw [of_decide_eq_true hb]
  | .string, .string x, .string y, _, b, h => by
    simp only [keyEq, Option.some.injEq, beqL_eq] at h
    subst h
    have inj : strL x = strL y → x = y := fun h => by
      cases x; cases y; simp only [strL] at h; congr; exact Array.ext' h
    have key : (strL x == strL y) = (x == y) := by
      by_cases e : x = y
      · subst e; simp; exact (MapKept.bytes_beq x x).2 rfl
      · have h1 : (strL x == strL y) = false := by simpa using fun h => e (inj h)
        have h2 : (x == y) = false := by
          cases hh : (x == y) with
          | false => rfl
          | true => exact absurd ((MapKept.bytes_beq x y).1 hh) e
        rw [h1, h2]
    refine ⟨by simp only [Instr.sameNow, key], fun hb => ?_⟩
    rw [inj (by simpa using hb)]
  | .int _, .int _ _, .string _, _, _, h => by simp [keyEq] at h
  | .string, .string _, .int _ _, _, _, h => by simp [keyEq] at h

/-- Where a key stands. -/
theorem find_rel {d : TypeDesc} {k : Value} (hk : KeyAt d k) : ∀ {es : List (Value × X × Nat)} {l : List MapEntry} {r : Option X} (i0 : Nat), concE m es = some l → findK k es = some r →
    match r with
    | none => Instr.findNow d k l i0 = some none
    | some x => ∃ i v n, l[i]? = some ⟨k, v, n⟩ ∧ Instr.findNow d k l i0 = some (some (i0 + i, v)) ∧ conc m x = some v ∧
        (∀ y u, conc m y = some u → concE m (setK k y es) = some (l.set i ⟨k, u, n⟩)) ∧ concE m (delK k es) = some (l.eraseIdx i)
  | [], l, r, i0, hl, hf => by
    simp only [concE, Option.some.injEq] at hl
    subst hl
    simp only [findK, Option.some.injEq] at hf
    subst hf
    rfl
  | (k', x, n) :: es, l, r, i0, hl, hf => by
    obtain ⟨v, vs, h1, h2, rfl⟩ := concE_cons.1 hl
    simp only [findK] at hf
    split at hf
    · rename_i he
      simp only [Option.some.injEq] at hf
      subst hf
      obtain ⟨g1, g2⟩ := keyEq_same hk he
      have g3 := g2 rfl
      subst g3
      refine ⟨0, v, n, rfl, by simp [Instr.findNow, g1], h1, fun y u hy => ?_, ?_⟩
      · simp only [setK, he]
        exact concE_cons.2 ⟨u, vs, hy, h2, rfl⟩
      · simp only [delK, he]
        exact h2
    · rename_i he
      obtain ⟨g1, _⟩ := keyEq_same hk he
      have ih := find_rel hk (i0 + 1) h2 hf
      cases r with
      | none => simpa [Instr.findNow, g1] using ih
      | some x' =>
        obtain ⟨i, u, n', q1, q2, q3, q4, q5⟩ := ih
        refine ⟨i + 1, u, n', by simpa using q1, by simp only [Instr.findNow, g1]; rw [q2]; congr 3; omega, q3, fun y z hy => ?_, ?_⟩
        · simp only [setK, he]
          exact concE_cons.2 ⟨v, _, h1, q4 y z hy, rfl⟩
        · simp only [delK, he]
          exact concE_cons.2 ⟨v, _, h1, q5, rfl⟩
    · cases hf

theorem zq_inv {t : TypeId} {k : Value → Rs} (h : zq c t k = some e) : ∃ i z, c.P.info? t = some i ∧ i.zero = some z ∧ k z = some e := by
  unfold zq at h
  split at h
  · rename_i i hi
    split at h
    · rename_i z hz
      exact ⟨i, z, hi, hz, h⟩
    · cases h
  · cases h
theorem zeroX_conc (z : Value) : conc m (zeroX z) = some z := by
  unfold zeroX
  split
  · simp [conc, concL_mapV]
  · exact conc_vv m _

theorem WR.mapR (hw : WR w0 M0 fr m h w) {b : Nat} {es : List (Value × X × Nat)} {cl : Nat} {p : Nat × Nat} (hb : h b = some (.map es cl)) (hm : m b = some p) : ∃ l o, concE m es = some l ∧ w.heap[p.1]? = some o ∧ MRel cl l o := by
  obtain ⟨o, g2, l, g3, g4⟩ := hw.at hb hm
  exact ⟨l, o, g3, g2, g4⟩
theorem WR.map (hw : WR w0 M0 fr m h w) {b : Nat} {es : List (Value × X × Nat)} {cl : Nat} {p : Nat × Nat} (hb : h b = some (.map es cl)) (hm : m b = some p) (ho : ordM es cl = true) : ∃ l, concE m es = some l ∧ w.heap[p.1]? = some (.map l.toArray cl) := by
  obtain ⟨l, o, g1, g2, g3⟩ := hw.mapR hb hm
  rcases g3 with rfl | ⟨rfl, hne, _⟩
  · exact ⟨l, g1, g2⟩
  · cases es with
    | nil => simp only [concE, Option.some.injEq] at g1; exact absurd g1.symm hne
    | cons y es => cases ho
theorem findNow_str {s : ByteArray} : ∀ (l : List MapEntry) (i0 : Nat), (∀ e ∈ l, ∃ t, e.key = .string t) → (l.map (·.key)).Nodup →
    ((∀ e ∈ l, e.key ≠ .string s) ∧ Instr.findNow .string (.string s) l i0 = some none) ∨ ∃ e ∈ l, e.key = .string s ∧ (∃ i, Instr.findNow .string (.string s) l i0 = some (some (i, e.val))) ∧ ∀ e' ∈ l, e'.key = .string s → e'.val = e.val
  | [], _, _, _ => .inl ⟨fun e h => (by cases h), rfl⟩
  | e :: l, i0, hs, hn => by
    obtain ⟨t, ht⟩ := hs e List.mem_cons_self
    rw [List.map_cons, List.nodup_cons] at hn
    by_cases hst : s = t
    · subst hst
      have hb : (s == s) = true := (MapKept.bytes_beq s s).2 rfl
      refine .inr ⟨e, List.mem_cons_self, ht, ⟨i0, by simp [Instr.findNow, Instr.sameNow, ht, hb]⟩, fun e' he' hk => ?_⟩
      rcases List.mem_cons.1 he' with rfl | he'
      · rfl
      · exact absurd (List.mem_map.2 ⟨e', he', hk.trans ht.symm⟩) hn.1
    · have hb : (s == t) = false := by
        cases hh : (s == t) with
        | false => rfl
        | true => exact absurd ((MapKept.bytes_beq s t).1 hh) hst
      have hne : e.key ≠ .string s := fun h => by rw [ht] at h; exact hst (by injection h with h; exact h.symm)
      have hstep : Instr.findNow .string (.string s) (e :: l) i0 = Instr.findNow .string (.string s) l (i0 + 1) := by simp [Instr.findNow, Instr.sameNow, ht, hb]
      rw [hstep]
      rcases findNow_str (s := s) l (i0 + 1) (fun e' h => hs e' (List.mem_cons_of_mem _ h)) hn.2 with ⟨h1, h2⟩ | ⟨e', h1, h2, h3, h4⟩
      · exact .inl ⟨fun e' h => by rcases List.mem_cons.1 h with rfl | h; exact hne; exact h1 e' h, h2⟩
      · exact .inr ⟨e', List.mem_cons_of_mem _ h1, h2, h3, fun e'' h hk => by
          rcases List.mem_cons.1 h with rfl | h
          · exact absurd hk hne
          · exact h4 e'' h hk⟩
/-- Where a key stands, in whatever order the entries lie. -/
theorem find_map {d : TypeDesc} {k : Value} (hk : KeyAt d k) {es : List (Value × X × Nat)} {l : List MapEntry} {cl : Nat} {o : Obj} {r : Option X} (hl : concE m es = some l) (hm : MRel cl l o) (hf : findK k es = some r) :
    ∃ (l' : List MapEntry) (c' : Nat), o = .map l'.toArray c' ∧ match r with
      | none => Instr.findNow d k l' 0 = some none
      | some x => ∃ i v, Instr.findNow d k l' 0 = some (some (i, v)) ∧ conc m x = some v := by
  have q := find_rel hk 0 hl hf
  rcases hm with rfl | ⟨_, hne, hstr, hnd, l', c', rfl, hp⟩
  · refine ⟨l, cl, rfl, ?_⟩
    cases r with
    | none => exact q
    | some x => obtain ⟨i, v, n, _, q2, q3, _⟩ := q; exact ⟨_, v, q2, q3⟩
  · have hks : ∃ s, k = .string s := by
      cases es with
      | nil => simp only [concE, Option.some.injEq] at hl; exact absurd hl.symm hne
      | cons y es =>
        obtain ⟨k', x', n'⟩ := y
        obtain ⟨v', vs, _, _, rfl⟩ := concE_cons.1 hl
        obtain ⟨t, ht⟩ := hstr _ List.mem_cons_self
        have ht : k' = .string t := ht
        subst ht
        cases k <;> first | exact ⟨_, rfl⟩ | (simp [findK, keyEq] at hf)
    obtain ⟨s, rfl⟩ := hks
    have hd : d = .string := by cases d <;> simp [KeyAt] at hk; rfl
    subst hd
    have hkeys : (l'.map (·.key)).Perm (l.map (·.key)) := by
      have := hp.map Prod.fst
      simpa [List.map_map, Function.comp_def] using this
    have hstr' : ∀ e ∈ l', ∃ t, e.key = .string t := fun e he => by
      obtain ⟨e', h1, h2⟩ := List.mem_map.1 (hkeys.mem_iff.1 (List.mem_map.2 ⟨e, he, rfl⟩))
      obtain ⟨t, ht⟩ := hstr e' h1
      exact ⟨t, h2.symm.trans ht⟩
    have hnd' := hkeys.nodup_iff.2 hnd
    refine ⟨l', c', rfl, ?_⟩
    cases r with
    | none =>
      rcases findNow_str (s := s) l' 0 hstr' hnd' with ⟨_, h2⟩ | ⟨e, h1, h2, _⟩
      · exact h2
      · exfalso
        obtain ⟨e', h3, h4⟩ := List.mem_map.1 (hkeys.mem_iff.1 (List.mem_map.2 ⟨e, h1, rfl⟩))
        rcases findNow_str (s := s) l 0 hstr hnd with ⟨h5, _⟩ | ⟨_, _, _, ⟨i, h6⟩, _⟩
        · exact h5 e' h3 (h4.trans h2)
        · have q : Instr.findNow .string (.string s) l 0 = some none := q
          rw [h6] at q
          cases q
    | some x =>
      obtain ⟨i, v, n, q1, _, q3, _⟩ := q
      have hmem : (Value.string s, v) ∈ l.map fun e => (e.key, e.val) := List.mem_map.2 ⟨_, List.mem_of_getElem? q1, rfl⟩
      obtain ⟨e, h1, h2⟩ := List.mem_map.1 (hp.mem_iff.2 hmem)
      rcases findNow_str (s := s) l' 0 hstr' hnd' with ⟨h3, _⟩ | ⟨e', _, _, ⟨i', h5⟩, h6⟩
      · exact absurd (congrArg Prod.fst h2) (h3 e h1)
      · refine ⟨i', e'.val, h5, ?_⟩
        rw [← h6 e h1 (congrArg Prod.fst h2)]
        rw [show e.val = v from congrArg Prod.snd h2]
        exact q3

theorem lookup_ok {t kt et : TypeId} {ti tk : TI} (ht : tiOf P t = some ti) (hs : ti.sh = .map kt et) (hk : tiOf P kt = some tk) {inf : TypeInfo} {z : Value} (hi : P.info? et = some inf) (hz : inf.zero = some z) {mm k : X} {ok : Bool} (he : lookupX tk.sh z hp mm k ok = some e) (hw : WR w0 M0 fr m h w)
    {vm vk : Value} (hm : conc m mm = some vm) (hkv : conc m k = some vk) (hb : ∀ b ∈ e.rd, h b = hp.get b) : e.up = [] ∧ ∃ v, (Instr.lookup t vm vk ok).run P w = .ok v w ∧ conc m e.x = some v := by
  have hu := ti_map ht hs
  have hzv : (zeroValue et).run P w = .ok z w := by simp [zeroValue, typeInfo, hi, hz]
  unfold lookupX at he
  split at he
  · rename_i kk hkk
    obtain ⟨rfl, d, hd, hkd⟩ := keyOk_inv hk hkk hkv
    split at he
    · have := conc_v hm; subst this
      have := pX_inv he; subst this
      have hf : Instr.findNow d vk [] 0 = some none := rfl
      cases ok with
      | true => exact ⟨rfl, .tuple #[z, .bool false], by simp [Instr.lookup, run_underlying hu, MapKept.run_checkKey hd (keyAt_isKey hkd), MapKept.run_findKey hd hf, hzv, Result.andThen], by simp [conc, concL, zeroX_conc, bX]⟩
      | false => exact ⟨rfl, z, by simp [Instr.lookup, run_underlying hu, MapKept.run_checkKey hd (keyAt_isKey hkd), MapKept.run_findKey hd hf, hzv, Result.andThen], by simp [zeroX_conc]⟩
    · rename_i b
      split at he
      · rename_i es cl hblk
        obtain ⟨p, p1, rfl⟩ := conc_mp hm
        split at he
        · rename_i x hf
          simp only [Option.some.injEq] at he
          subst he
          obtain ⟨l0, ob, g1, g2, g3⟩ := hw.mapR ((hb b (by simp)).trans hblk) p1
          obtain ⟨l, cl', rfl, i, v, q2, q3⟩ := find_map hkd g1 g3 hf
          cases ok with
          | true => exact ⟨rfl, .tuple #[v, .bool true], by simp [Instr.lookup, run_underlying hu, MapKept.run_getObj_map g2, MapKept.run_checkKey hd (keyAt_isKey hkd), MapKept.run_findKey hd q2, Result.andThen], by simp [conc, concL, q3, bX]⟩
          | false => exact ⟨rfl, v, by simp [Instr.lookup, run_underlying hu, MapKept.run_getObj_map g2, MapKept.run_checkKey hd (keyAt_isKey hkd), MapKept.run_findKey hd q2, Result.andThen], by simpa using q3⟩
        · rename_i hf
          simp only [Option.some.injEq] at he
          subst he
          obtain ⟨l0, ob, g1, g2, g3⟩ := hw.mapR ((hb b (by simp)).trans hblk) p1
          obtain ⟨l, cl', rfl, q⟩ := find_map hkd g1 g3 hf
          have q : Instr.findNow d vk l 0 = some none := q
          cases ok with
          | true => exact ⟨rfl, .tuple #[z, .bool false], by simp [Instr.lookup, run_underlying hu, MapKept.run_getObj_map g2, MapKept.run_checkKey hd (keyAt_isKey hkd), MapKept.run_findKey hd q, hzv, Result.andThen], by simp [conc, concL, zeroX_conc, bX]⟩
          | false => exact ⟨rfl, z, by simp [Instr.lookup, run_underlying hu, MapKept.run_getObj_map g2, MapKept.run_checkKey hd (keyAt_isKey hkd), MapKept.run_findKey hd q, hzv, Result.andThen], by simp [zeroX_conc]⟩
        · cases he
      · cases he
    · cases he
  · cases he

theorem wrote_obj {k : Nat} {o' : Obj} (hk : k < w.heap.size) : Wrote k w { w with heap := w.heap.setIfInBounds k o' } ∧ ({ w with heap := w.heap.setIfInBounds k o' } : World).heap[k]? = some o' :=
  ⟨⟨rfl, rfl, rfl, by simp, fun j hj => by simp [Array.getElem?_setIfInBounds_ne (Ne.symm hj)]⟩, by simp [hk]⟩
theorem modify_set {l : List MapEntry} {i : Nat} {k v u : Value} {n : Nat} (h : l[i]? = some ⟨k, v, n⟩) : l.toArray.modify i (fun e => { e with key := k, val := u }) = (l.set i ⟨k, u, n⟩).toArray := by
  apply Array.ext'
  apply List.ext_getElem?
  intro j
  simp only [Array.toList_modify, List.getElem?_modify, List.getElem?_set]
  by_cases e : i = j
  · subst e
    have hlt := (List.getElem?_eq_some_iff.1 h).1
    have h2 : l[i] = ⟨k, v, n⟩ := by rw [List.getElem?_eq_getElem hlt] at h; exact Option.some.inj h
    simp [hlt, h2]
  · simp [e]

theorem update_ok {t kt et : TypeId} {ti tk : TI} (ht : tiOf P t = some ti) (hs : ti.sh = .map kt et) (hk : tiOf P kt = some tk) {mm k x : X} (he : updateX tk.sh hp mm k x = some e) (hw : WR w0 M0 fr m h w)
    {vm vk vx : Value} (hm : conc m mm = some vm) (hkv : conc m k = some vk) (hx : conc m x = some vx) (hb : ∀ b ∈ e.rd, h b = hp.get b) : ∃ w', (Instr.mapUpdate t vm vk vx).run P w = .ok () w' ∧ Left w0 M0 fr m h id e undef w' := by
  have hu := ti_map ht hs
  unfold updateX at he
  split at he
  · rename_i kk b hkk
    obtain ⟨rfl, d, hd, hkd⟩ := keyOk_inv hk hkk hkv
    split at he
    · rename_i es cl hblk
      replace he := bif_inv he
      obtain ⟨hor, he⟩ := he
      obtain ⟨p, p1, rfl⟩ := conc_mp hm
      have fin : h b = some (.map es cl) → ∀ (es' : List (Value × X × Nat)) (cl' : Nat) (l' : List MapEntry), concE m es' = some l' → WR w0 M0 (fun b => fr b ∧ b ≠ id) m (upL [(b, some (.map es' cl'))] h) { w with heap := w.heap.setIfInBounds p.1 (.map l'.toArray cl') } := by
        intro hhb es' cl' l' hl'
        have hlt := hw.lt hhb p1
        obtain ⟨k1, k2⟩ := wrote_obj (w := w) (o' := .map l'.toArray cl') hlt
        exact (hw.wrote hhb p1 k1 (.map es' cl') _ k2 ⟨l', hl', .inl rfl⟩).less fun b hb => hb.1
      split at he
      · rename_i y hf
        simp only [Option.some.injEq] at he
        subst he
        have hhb := (hb b (by simp)).trans hblk
        obtain ⟨l, g1, g2⟩ := hw.map hhb p1 hor
        obtain ⟨i, v, n, q1, q2, q3, q4, _⟩ := find_rel hkd 0 g1 hf
        rw [Nat.zero_add] at q2
        have hms := modify_set (u := vx) q1
        refine ⟨_, ?_, m, Le.refl m, by simp [u0, conc, undef], fin hhb _ _ _ (q4 x vx hx)⟩
        rw [← hms]
        simp [Instr.mapUpdate, run_underlying hu, MapKept.run_getObj_map g2, MapKept.run_checkKey hd (keyAt_isKey hkd), MapKept.run_findKey hd q2, q1, run_keyThatStays (keyAt_isKey hkd), MapKept.run_setObj_map _ g2, Result.andThen]
      · rename_i hf
        simp only [Option.some.injEq] at he
        subst he
        have hhb := (hb b (by simp)).trans hblk
        obtain ⟨l, g1, g2⟩ := hw.map hhb p1 hor
        have q := find_rel hkd 0 g1 hf
        have happ : ∀ (es : List (Value × X × Nat)) (l : List MapEntry), concE m es = some l → concE m (es ++ [(vk, x, cl)]) = some (l ++ [({ key := vk, val := vx, born := cl } : MapEntry)]) := by
          intro es
          induction es with
          | nil => intro l hl; simp only [concE, Option.some.injEq] at hl; subst hl; exact concE_cons.2 ⟨vx, [], hx, rfl, rfl⟩
          | cons y es ih =>
            intro l hl
            obtain ⟨k', x', n'⟩ := y
            obtain ⟨v', vs', r1, r2, rfl⟩ := concE_cons.1 hl
            exact concE_cons.2 ⟨v', _, r1, ih _ r2, rfl⟩
        refine ⟨_, ?_, m, Le.refl m, by simp [u0, conc, undef], fin hhb _ _ _ (happ es l g1)⟩
        have hpush : (l ++ [({ key := vk, val := vx, born := cl } : MapEntry)]).toArray = l.toArray.push { key := vk, val := vx, born := cl } := by simp
        rw [hpush]
        simp [Instr.mapUpdate, run_underlying hu, MapKept.run_getObj_map g2, MapKept.run_checkKey hd (keyAt_isKey hkd), MapKept.run_findKey hd q, MapKept.run_setObj_map _ g2, Result.andThen]
      · cases he
    · cases he
  · cases he

theorem delete_ok {t t' ty kt et : TypeId} {ti tk : TI} (ht : tiOf P t = some ti) (hs : ti.sh = .map kt et) (hk : tiOf P kt = some tk) {mm k : X} (he : deleteX tk.sh hp mm k = some e) (hw : WR w0 M0 fr m h w)
    {vm vk : Value} (hm : conc m mm = some vm) (hkv : conc m k = some vk) (hb : ∀ b ∈ e.rd, h b = hp.get b) : ∃ v w', (Builtin.delete_ #[t, t'] ty #[vm, vk]).run P w = .ok v w' ∧ Left w0 M0 fr m h id e v w' := by
  have hu := ti_map ht hs
  unfold deleteX at he
  split at he
  · rename_i kk b hkk
    obtain ⟨rfl, d, hd, hkd⟩ := keyOk_inv hk hkk hkv
    split at he
    · rename_i es cl hblk
      replace he := bif_inv he
      obtain ⟨hor, he⟩ := he
      obtain ⟨p, p1, rfl⟩ := conc_mp hm
      have fin : h b = some (.map es cl) → ∀ (es' : List (Value × X × Nat)) (cl' : Nat) (l' : List MapEntry), concE m es' = some l' → WR w0 M0 (fun b => fr b ∧ b ≠ id) m (upL [(b, some (.map es' cl'))] h) { w with heap := w.heap.setIfInBounds p.1 (.map l'.toArray cl') } := by
        intro hhb es' cl' l' hl'
        have hlt := hw.lt hhb p1
        obtain ⟨k1, k2⟩ := wrote_obj (w := w) (o' := .map l'.toArray cl') hlt
        exact (hw.wrote hhb p1 k1 (.map es' cl') _ k2 ⟨l', hl', .inl rfl⟩).less fun b hb => hb.1
      split at he
      · rename_i y hf
        simp only [Option.some.injEq] at he
        subst he
        have hhb := (hb b (by simp)).trans hblk
        obtain ⟨l, g1, g2⟩ := hw.map hhb p1 hor
        obtain ⟨i, v, n, q1, q2, q3, _, q5⟩ := find_rel hkd 0 g1 hf
        rw [Nat.zero_add] at q2
        have hlt := (List.getElem?_eq_some_iff.1 q1).1
        have her : l.toArray.eraseIdxIfInBounds i = (l.eraseIdx i).toArray := by
          rw [Array.eraseIdxIfInBounds, dif_pos (by simpa using hlt)]
          apply Array.ext'
          simp
        refine ⟨.tuple #[], _, ?_, m, Le.refl m, by simp [conc, concL], fin hhb _ _ _ q5⟩
        rw [← her]
        simp [Builtin.delete_, run_underlying hu, MapKept.run_getObj_map g2, MapKept.run_checkKey hd (keyAt_isKey hkd), MapKept.run_findKey hd q2, MapKept.run_setObj_map _ g2, Result.andThen]
      · rename_i hf
        simp only [Option.some.injEq] at he
        subst he
        have hhb := (hb b (by simp)).trans hblk
        obtain ⟨l, g1, g2⟩ := hw.map hhb p1 hor
        have q := find_rel hkd 0 g1 hf
        refine ⟨.tuple #[], _, ?_, m, Le.refl m, by simp [conc, concL], fin hhb _ _ _ g1⟩
        simp [Builtin.delete_, run_underlying hu, MapKept.run_getObj_map g2, MapKept.run_checkKey hd (keyAt_isKey hkd), MapKept.run_findKey hd q, MapKept.run_setObj_map _ g2, Result.andThen]
      · cases he
    · cases he
  · rename_i kk hkk
    obtain ⟨rfl, d, hd, hkd⟩ := keyOk_inv hk hkk hkv
    have := pX_inv he; subst this
    have := conc_v hm; subst this
    exact ⟨.tuple #[], w, by simp [Builtin.delete_, run_underlying hu, MapKept.run_checkKey hd (keyAt_isKey hkd), Result.andThen], m, Le.refl m, by simp [conc, concL], hw.less fun b hb => hb.1⟩
  · cases he

theorem makeMap_ok {t : TypeId} (hw : WR w0 M0 fr m h w) (hid : fr id) : ∃ v w', (Instr.makeMap t none).run P w = .ok v w' ∧ Left w0 M0 fr m h id ⟨.mp id, [(id, some (.map [] 0))], []⟩ v w' := by
  have := hw.new hid (.map #[] 0) 0 (.map [] 0) ⟨[], rfl, .inl rfl⟩
  exact ⟨.map (some w.heap.size), _, by simp [Instr.makeMap], _, this.2, by simp [conc, mset_self], this.1⟩

theorem range_ok {t : TypeId} {ti : TI} {kt et : TypeId} (ht : tiOf P t = some ti) (hs : ti.sh = .map kt et) {x : X} (he : rangeX id hp x = some e) (hw : WR w0 M0 fr m h w) (hid : fr id) {v : Value} (hv : conc m x = some v) (hb : ∀ b ∈ e.rd, h b = hp.get b) :
    ∃ u w', (Instr.range t v).run P w = .ok u w' ∧ Left w0 M0 fr m h id e u w' := by
  have hu := ti_map ht hs
  unfold rangeX at he
  split at he
  · simp only [Option.some.injEq] at he
    subst he
    have := conc_v hv; subst this
    have := hw.new hid (.mapIter none 0 #[] 0) 0 (.iter none 0 [] 0) rfl
    exact ⟨.pointer (some ⟨w.heap.size, 0, none⟩), _, by simp [Instr.range, run_underlying hu], _, this.2, by simp [conc, mset_self], this.1⟩
  · rename_i b
    split at he
    · rename_i es cl hblk
      replace he := bif_inv he
      obtain ⟨hor, he⟩ := he
      simp only [Option.some.injEq] at he
      subst he
      obtain ⟨p, p1, rfl⟩ := conc_mp hv
      obtain ⟨l, g1, g2⟩ := hw.map ((hb b (by simp)).trans hblk) p1 hor
      have hle := mset_le (p := (w.heap.size, 0)) (hw.fresh id hid)
      have := hw.new hid (.mapIter (some p.1) cl #[] cl) 0 (.iter (some b) cl [] cl) ⟨p, hle _ _ p1, rfl⟩
      exact ⟨.pointer (some ⟨w.heap.size, 0, none⟩), _, by simp [Instr.range, run_underlying hu, MapKept.run_getObj_map g2, Result.andThen], _, this.2, by simp [conc, mset_self], this.1⟩
    · cases he
  · cases he

theorem seenIn_eq (n : Nat) : ∀ l : List Nat, seenIn n l = l.contains n
  | [] => rfl
  | k :: l => by
    simp only [seenIn, beq_eq, seenIn_eq n l, List.contains_cons]
    by_cases e : n = k <;> simp [e]
theorem leftK_rel {seen : List Nat} : ∀ {es : List (Value × X × Nat)} {l : List MapEntry}, concE m es = some l → concE m (leftK seen es) = some (l.filter fun e => !seen.contains e.born)
  | [], l, h => by simp only [concE, Option.some.injEq] at h; subst h; rfl
  | (k, x, n) :: es, l, h => by
    obtain ⟨v, vs, h1, h2, rfl⟩ := concE_cons.1 h
    have ih := leftK_rel (seen := seen) h2
    simp only [leftK, seenIn_eq, List.filter_cons]
    cases seen.contains n <;> simp
    · exact concE_cons.2 ⟨v, _, h1, by simpa using ih, rfl⟩
    · simpa using ih
theorem allGe_rel (q : Nat) : ∀ {es : List (Value × X × Nat)} {l : List MapEntry}, concE m es = some l → allGe q es = l.all fun e => decide (e.born ≥ q)
  | [], l, h => by simp only [concE, Option.some.injEq] at h; subst h; rfl
  | (k, x, n) :: es, l, h => by
    obtain ⟨v, vs, h1, h2, rfl⟩ := concE_cons.1 h
    simp only [allGe, ble_eq, allGe_rel q h2, List.all_cons, ge_iff_le]
    by_cases e : q ≤ n <;> simp [e]
theorem badIter_rel {seen : List Nat} {es : List (Value × X × Nat)} {l : List MapEntry} {last : Nat} (h : concE m es = some l) (hb : badIter seen es last = false) : (!seen.toArray.isEmpty && !l.toArray.isEmpty && l.toArray.all (fun e => decide (e.born ≥ last))) = false := by
  cases seen with
  | nil => simp
  | cons s seen =>
    cases es with
    | nil => simp only [concE, Option.some.injEq] at h; subst h; simp
    | cons y es =>
      simp only [badIter] at hb
      rw [allGe_rel last h] at hb
      rw [← hb]
      obtain ⟨k, x, n⟩ := y
      obtain ⟨v, vs, h1, h2, rfl⟩ := concE_cons.1 h
      simp

theorem next_ok {x : X} {ty : TypeId} (he : nextX hp x = some e) (hw : WR w0 M0 fr m h w) {v : Value} (hv : conc m x = some v) (hb : ∀ b ∈ e.rd, h b = hp.get b) :
    ∃ u w', (Instr.next v false ty).run P w = .ok u w' ∧ Left w0 M0 fr m h id e u w' := by
  unfold nextX at he
  split at he
  · rename_i i
    obtain ⟨p, p1, rfl⟩ := conc_it hv
    split at he
    · rename_i a1 a2 a3 hblk
      simp only [Option.some.injEq] at he
      subst he
      obtain ⟨o, g1, g2⟩ := hw.at ((hb i (by simp)).trans hblk) p1
      simp only [BRel] at g2
      subst g2
      exact ⟨.tuple #[.bool false], w, by simp [Instr.next, getObj, Sem.run, g1], m, Le.refl m, by simp [conc, concL, bX], hw.less fun b hb => hb.1⟩
    · rename_i b since seen last hblk
      split at he
      · rename_i es cl hmap
        replace he := bif_inv he
        obtain ⟨hor, he⟩ := he
        cases hbad : badIter seen es last with
        | true => rw [hbad] at he; cases he
        | false =>
          rw [hbad] at he
          simp only [cond_false] at he
          -- what the world holds
          have facts : h i = some (.iter (some b) since seen last) → h b = some (.map es cl) → ∃ q l, m b = some q ∧ w.heap[p.1]? = some (.mapIter (some q.1) since seen.toArray last) ∧ concE m es = some l ∧ w.heap[q.1]? = some (.map l.toArray cl) := by
            intro h1 h2
            obtain ⟨o, g1, g2⟩ := hw.at h1 p1
            obtain ⟨q, g3, rfl⟩ := g2
            obtain ⟨l, g4, g5⟩ := hw.map h2 g3 hor
            exact ⟨q, l, g3, g1, g4, g5⟩
          split at he
          · rename_i hleft
            simp only [Option.some.injEq] at he
            subst he
            obtain ⟨q, l, g3, g1, g4, g5⟩ := facts ((hb i (by simp)).trans hblk) ((hb b (by simp)).trans hmap)
            have hl := leftK_rel (seen := seen) g4
            rw [hleft] at hl
            simp only [concE, Option.some.injEq] at hl
            have hf : l.toArray.filter (fun e => !seen.toArray.contains e.born) = #[] := by
              apply Array.ext'
              simp only [Array.toList_filter, List.contains_toArray]
              exact hl.symm
            refine ⟨.tuple #[.bool false], w, ?_, m, Le.refl m, by simp [conc, concL, bX], hw.less fun b hb => hb.1⟩
            have hb2 := badIter_rel g4 hbad
            simp only [Instr.next, Sem.run_bind, getObj, Sem.run, g1, g5, Result.andThen]
            rw [hb2]
            simp only [hf]
            simp [choose, Sem.run, Question.forced, Result.andThen]
          · rename_i k x n hleft
            replace he := bif_inv he
            obtain ⟨hn, he⟩ := he
            rw [blt_eq, decide_eq_true_eq] at hn
            simp only [Option.some.injEq] at he
            subst he
            have hhi := (hb i (by simp)).trans hblk
            obtain ⟨q, l, g3, g1, g4, g5⟩ := facts hhi ((hb b (by simp)).trans hmap)
            have hl := leftK_rel (seen := seen) g4
            rw [hleft] at hl
            obtain ⟨v, vs, r1, r2, r3⟩ := concE_cons.1 hl
            simp only [concE, Option.some.injEq] at r2
            subst r2
            have hf : l.toArray.filter (fun e => !seen.toArray.contains e.born) = #[⟨k, v, n⟩] := by
              apply Array.ext'
              simp only [Array.toList_filter, List.contains_toArray]
              exact r3
            have hlt := (Array.getElem?_eq_some_iff.1 g1).1
            obtain ⟨k1, k2⟩ := wrote_obj (w := w) (o' := .mapIter (some q.1) since (seen ++ [n]).toArray cl) hlt
            have wr := hw.wrote hhi p1 k1 (.iter (some b) since (seen ++ [n]) cl) _ k2 ⟨q, g3, rfl⟩
            refine ⟨.tuple #[.bool true, k, v], _, ?_, m, Le.refl m, by simp [conc, concL, bX, r1], wr.less fun b hb => hb.1⟩
            have hn' : ¬ since ≤ n := by omega
            have hpush : (seen ++ [n]).toArray = seen.toArray.push n := by simp
            rw [hpush]
            have ho : (#[(⟨k, v, n⟩ : MapEntry)]).filter (fun e => decide (e.born < since)) = #[⟨k, v, n⟩] := by simp [hn]
            have hw' : (#[(⟨k, v, n⟩ : MapEntry)]).filter (fun e => decide (e.born ≥ since)) = #[] := by simp [hn']
            have hb2 := badIter_rel g4 hbad
            simp only [Instr.next, Sem.run_bind, getObj, Sem.run, g1, g5, Result.andThen]
            rw [hb2]
            simp only [hf, ho, hw']
            simp [choose, Sem.run, Question.forced, Result.andThen, setObj, g1]
          · cases he
      · cases he
    · cases he
  · cases he

theorem findN_rel {n : Nat} : ∀ {es : List (Value × X × Nat)} {l : List MapEntry} {k : Value} {x : X}, concE m es = some l → findN n es = some (k, x) → ∃ v, l.find? (·.born == n) = some ⟨k, v, n⟩ ∧ conc m x = some v
  | [], _, _, _, _, h => by simp [findN] at h
  | (k', x', n') :: es, l, k, x, hl, h => by
    obtain ⟨v, vs, h1, h2, rfl⟩ := concE_cons.1 hl
    simp only [findN, beq_eq] at h
    by_cases e : n' = n
    · simp only [e, decide_true, cond_true, Option.some.injEq, Prod.mk.injEq] at h
      obtain ⟨rfl, rfl⟩ := h
      subst e
      exact ⟨v, by simp, h1⟩
    · simp only [e, decide_false, cond_false] at h
      obtain ⟨u, g1, g2⟩ := findN_rel h2 h
      exact ⟨u, by simp only [List.find?_cons, beq_eq_false_iff_ne.2 e]; exact g1, g2⟩
theorem lastN_eq : ∀ {l : List Nat} {n : Nat}, lastN l = some n → l.toArray.back? = some n
  | [], _, h => by simp [lastN] at h
  | [k], n, h => by simp only [lastN, Option.some.injEq] at h; subst h; simp
  | _ :: y :: l, n, h => by
    simp only [lastN] at h
    have := lastN_eq h
    simpa using this

theorem entry_ok {x : X} (he : entryX hp x = some e) (hw : WR w0 M0 fr m h w) {v : Value} (hv : conc m x = some v) (hb : ∀ b ∈ e.rd, h b = hp.get b) : e.up = [] ∧ ∃ u, (Instr.entry v).run P w = .ok u w ∧ conc m e.x = some u := by
  unfold entryX at he
  split at he
  · rename_i i
    obtain ⟨p, p1, rfl⟩ := conc_it hv
    split at he
    · rename_i b since seen st hblk
      split at he
      · rename_i es cl n hmap hlast
        replace he := bif_inv he
        obtain ⟨hor, he⟩ := he
        replace he := bif_inv he
        obtain ⟨hc, he⟩ := he
        rw [beq_eq, decide_eq_true_eq] at hc
        subst hc
        split at he
        · rename_i k x hf
          simp only [Option.some.injEq] at he
          subst he
          obtain ⟨o, g1, g2⟩ := hw.at ((hb i (by simp)).trans hblk) p1
          obtain ⟨q, g3, rfl⟩ := g2
          obtain ⟨l, g4, g5⟩ := hw.map ((hb b (by simp)).trans hmap) g3 hor
          obtain ⟨u, r1, r2⟩ := findN_rel g4 hf
          have hl := lastN_eq hlast
          refine ⟨rfl, .tuple #[k, u], ?_, by simp [conc, concL, r2]⟩
          have r1' : l.toArray.find? (fun e => e.born == n) = some ⟨k, u, n⟩ := by simpa using r1
          simp only [Instr.entry, Sem.run_bind, getObj, Sem.run, g1, Result.andThen, hl, g5]
          simp [r1']
        · cases he
      · cases he
    · cases he
  · cases he

theorem assert_ok {xt t : TypeId} {ti : TI} (ht : tiOf P t = some ti) (hs : ti.sh ≠ .iface) {inf : TypeInfo} {z : Value} (hi : P.info? t = some inf) (hz : inf.zero = some z) {ok : Bool} {x : X} (he : assertX t z ok x = some e) {v : Value} (hv : conc m x = some v) :
    e.up = [] ∧ e.rd = [] ∧ ∃ u, (Instr.typeAssert v xt t ok).run P w = .ok u w ∧ conc m e.x = some u := by
  obtain ⟨i, d, z', g1, g2, g3, g4, g5, g6, g7, g8⟩ := tiOf_spec ht
  have hzv : (zeroValue t).run P w = .ok z w := by simp [zeroValue, typeInfo, hi, hz]
  have hd : ∀ a, d ≠ .interface a := fun a hd => by subst hd; exact hs (by rw [← g8]; rfl)
  unfold assertX at he
  split at he
  · rename_i u y
    obtain ⟨vy, h1, rfl⟩ := conc_iface hv
    rw [beq_eq] at he
    by_cases e' : u = t
    · simp only [e', decide_true, cond_true] at he
      have := pX_inv he; subst this
      cases ok with
      | true => exact ⟨rfl, rfl, .tuple #[vy, .bool true], by cases d <;> simp [Instr.typeAssert, run_underlying g2, e'] at hd ⊢, by simp [conc, concL, h1, bX]⟩
      | false => exact ⟨rfl, rfl, vy, by cases d <;> simp [Instr.typeAssert, run_underlying g2, e'] at hd ⊢, by simpa using h1⟩
    · simp only [e', decide_false, cond_false] at he
      cases ok with
      | false => cases he
      | true =>
        simp only [cond_true] at he
        have := pX_inv he; subst this
        exact ⟨rfl, rfl, .tuple #[z, .bool false], by cases d <;> simp [Instr.typeAssert, run_underlying g2, e', hzv, Result.andThen] at hd ⊢, by simp [conc, concL, zeroX_conc, bX]⟩
  · have := conc_v hv; subst this
    cases ok with
    | false => cases he
    | true =>
      simp only [cond_true] at he
      have := pX_inv he; subst this
      exact ⟨rfl, rfl, .tuple #[z, .bool false], by cases d <;> simp [Instr.typeAssert, run_underlying g2, hzv, Result.andThen] at hd ⊢, by simp [conc, concL, zeroX_conc, bX]⟩
  · cases he
end
end Go.Ex
/- The exact evaluator, part 9b: bytes as a string. -/
namespace Go.Ex
open Go.RowKit
open Go.Ab (TI Sh tiOf ti_str ti_int run_slice_elem addr_add Holds')
section
variable {P : Program} {hp : Tr B} {e : Ef} {w0 : World} {M0 fr : Nat → Prop} {m : Mu} {h : Nat → Option B} {w : World}
theorem bytesX_ok : ∀ {ns : List X} {l : List Int} {us : List Value}, bytesX ns = some l → concL m ns = some us → us = l.map (Value.int .u8)
  | [], l, us, h1, h2 => by
    simp only [bytesX, Option.some.injEq] at h1
    simp only [concL, Option.some.injEq] at h2
    subst h1 h2
    rfl
  | x :: ns, l, us, h1, h2 => by
    obtain ⟨v, vs, k1, k2, rfl⟩ := concL_cons.1 h2
    unfold bytesX at h1
    split at h1
    · rename_i heq; cases heq
    · rename_i k n l' heq
      injection heq with e1 e2
      subst e1 e2
      replace h1 := bif_inv h1
      obtain ⟨hk, h1⟩ := h1
      rw [kEq_eq, decide_eq_true_eq] at hk
      subst hk
      split at h1
      · rename_i r hr
        simp only [Option.some.injEq] at h1
        subst h1
        have := conc_v k1
        subst this
        rw [bytesX_ok hr k2]
        rfl
      · cases h1
    · cases h1
theorem pushB_eq : ∀ (l : List Int) (s : ByteArray), pushB l s = l.foldl (fun r n => r.push (UInt8.ofNat n.toNat)) s
  | [], _ => rfl
  | n :: l, s => by rw [pushB, pushB_eq l]; rfl
theorem str_ok {s d e' : TypeId} {ts te td : TI} (hs : tiOf P s = some ts) (hsh : ts.sh = .slice e') (hte : tiOf P e' = some te) (htd : tiOf P d = some td) (hst : td.sh = .str) {x : X} (he : bstrX te hp x = some e) (hw : WR w0 M0 fr m h w) {v : Value} (hv : conc m x = some v) (hb : ∀ b ∈ e.rd, h b = hp.get b) :
    e.up = [] ∧ ∃ u, (convert s d v).run P w = .ok u w ∧ conc m e.x = some u := by
  unfold bstrX at he
  split at he
  · rename_i k hk
    replace he := bif_inv he
    obtain ⟨hc, he⟩ := he
    rw [Bool.and_eq_true, kEq_eq, decide_eq_true_eq] at hc
    obtain ⟨rfl, _⟩ := hc
    split at he
    · rename_i ns rd n hcells
      split at he
      · rename_i l hl
        simp only [Option.some.injEq] at he
        subst he
        obtain ⟨A, cap, us, rfl, h2, h3, h4⟩ := sliceCells_ok hcells hw hv hb
        have hus := bytesX_ok hl h2
        refine ⟨rfl, _, ?_, conc_vv m _⟩
        rw [run_convert_bytes_string w s d e' A n cap (run_slice_elem hs hsh) (ti_int hte hk) (ti_str htd hst), pushB_eq]
        cases A with
        | none =>
          rcases h4 with rfl | ⟨k, o, h5, _⟩
          · have : l = [] := by cases l with | nil => rfl | cons a l => simp at hus
            subst this
            simp [Conv.bytesToString]
          · cases h5
        | some a =>
          refine run_bytesToString w a n cap l ?_
          have hn : n = us.length := by omega
          have hcell : ∀ j u, us[j]? = some u → w.cell? (a.add j) = some u := by
            intro j u hj
            rcases h4 with rfl | ⟨k, o, h5, h6⟩
            · simp at hj
            · simp only [Option.some.injEq] at h5
              subst h5
              rw [addr_add]
              exact h6 j u hj
          rw [hn, ← hus]
          exact run_loadCells_list w a us hcell
      · cases he
    · cases he
  · cases he
end
end Go.Ex
