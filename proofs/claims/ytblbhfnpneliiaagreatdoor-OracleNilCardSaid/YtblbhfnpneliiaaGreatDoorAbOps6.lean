/- The abstract layer, part 9: slices that are cut, made, written out, and appended to. -/
import Derived.Test.YtblbhfnpneliiaaGreatDoorAbOps5
namespace Go.Ab
open Go.RowKit
section
variable {P : Program} {w0 : World} {M0 I0 fr I : Nat → Prop} {mu : Nat → Option Value} {h : Nat → Option Blk} {w : World}

/-! cutting -/
def bnd : Option D → Int → Option Int
  | none, d => some d
  | some (.val (.int _ n)), _ => some n
  | some _, _ => none
def OptRep (w : World) (I : Nat → Prop) (mu : Nat → Option Value) : Option D → Option Value → Prop
  | none, none => True
  | some x, some y => Rep w I mu x y
  | _, _ => False
def sliceE (ti : TI) (te : TI) (x : D) (lo hi : Option D) : Res :=
  match x with
  | .val (.string s) => match ti.sh with
    | .str => match bnd lo 0, bnd hi s.size with
      | some l, some r => pvc (.val (.string (s.extract l.toNat r.toNat))) (0 ≤ l ∧ l ≤ r ∧ r ≤ s.size)
      | _, _ => none
    | _ => none
  | .slice es t => match ti.sh with
    | .slice _ => match bnd lo 0, bnd hi es.length with
      | some l, some r => pvc (.slice ((es.drop l.toNat).take (r.toNat - l.toNat)) (t && hi.isNone)) (0 ≤ l ∧ l ≤ r ∧ r ≤ es.length ∧ ∀ x ∈ es, x.length = te.sz)
      | _, _ => none
    | _ => none
  | .sref b i len cap sz => match ti.sh with
    | .slice _ => match bnd lo 0, bnd hi len with
      | some l, some r => pvc (.sref b (i + l.toNat) (r.toNat - l.toNat) (cap - l.toNat) sz) (0 ≤ l ∧ l ≤ r ∧ r ≤ cap ∧ (l = 0 ∨ l < cap) ∧ sz = te.sz ∧ len ≤ cap)
      | _, _ => none
    | _ => none
  | _ => none

theorem bnd_rep {o : Option D} {v : Option Value} {d n : Int} (hb : bnd o d = some n) (hv : OptRep w I mu o v) :
    (o = none ∧ v = none ∧ n = d) ∨ (∃ k, v = some (.int k n) ∧ o.isNone = false) := by
  cases o with
  | none => cases v with
    | none => simp only [bnd, Option.some.injEq] at hb; exact .inl ⟨rfl, rfl, hb.symm⟩
    | some y => exact hv.elim
  | some x => cases v with
    | none => exact hv.elim
    | some y =>
      have hr : Rep w I mu x y := hv
      cases x <;> simp only [bnd] at hb <;> try (cases hb; done)
      rename_i z
      cases z <;> simp only [reduceCtorEq, Option.some.injEq] at hb
      subst hb
      exact .inr ⟨_, by rw [hr.val_inv], rfl⟩

theorem sliced_run {t e' : TypeId} {te : TI} (hu : P.underlying t = some (.slice e')) (hte : tiOf P e' = some te) (A : Option Addr) (len cap : Nat) (lo hi : Option Value) (l r : Int) (h0 : 0 ≤ l) (h1 : l ≤ r) (h2 : r ≤ cap)
    (hl : (lo = none ∧ l = 0) ∨ ∃ k, lo = some (.int k l)) (hr : (hi = none ∧ r = len) ∨ ∃ k, hi = some (.int k r)) (hlc : len ≤ cap) :
    (Instr.sliceAt t (.slice A len cap) lo hi none).run P w = .ok (.slice (if cap = l.toNat then A else A.map (·.add (l.toNat * te.sz))) (r.toNat - l.toNat) (cap - l.toNat)) w := by
  have he : P.elem t = e' := by simp [Program.elem, hu]
  have hu' : P.underlying t = some (.slice (P.elem t)) := by rw [he]; exact hu
  rw [run_sliceAt_slice w t _ _ _ _ hu']
  have hs : (sizeOf (P.elem t)).run P w = .ok te.sz w := by rw [he]; exact run_sizeOf' hte w
  rcases hl with ⟨rfl, rfl⟩ | ⟨k, rfl⟩ <;> rcases hr with ⟨rfl, rfl⟩ | ⟨k', rfl⟩
  · rw [run_slice_all w t A len cap hu', hs]; simp [sliced]
  · rw [run_slice_h w t A len cap hu' k' r h1 h2, hs]; simp [sliced]
  · rw [run_slice_l w t A len cap hu' k l h0 h1, hs]; simp [sliced]
  · rw [run_slice_lh w t A len cap hu' k k' l r h0 h1 h2, hs]; simp [sliced]

theorem runs_slice {t e' : TypeId} {ti te : TI} (ht : tiOf P t = some ti) (hte : (∃ s, ti.sh = s ∧ s = .str) ∨ (ti.sh = .slice e' ∧ tiOf P e' = some te)) {x : D} {lo hi : Option D} {e : Eff} {c : Prop} (he : sliceE ti te x lo hi = some (e, c)) (hc : c) (hr : WRel w0 M0 I0 fr I mu h w) {v : Value} {vl vh : Option Value}
    (hv : Rep w I mu x v) (hl : OptRep w I mu lo vl) (hh : OptRep w I mu hi vh) (id : Nat) :
    Runs P (fun w => (Instr.sliceAt t v vl vh none).run P w) id e.d e.up w0 M0 I0 fr I mu h w := by
  unfold sliceE at he
  split at he
  · rename_i s
    split at he
    case h_2 => cases he
    rename_i hsh
    split at he
    · rename_i l r hbl hbr
      simp only [pvc, Option.some.injEq, Prod.mk.injEq] at he
      obtain ⟨rfl, rfl⟩ := he
      obtain ⟨h0, h1, h2⟩ := hc
      have hv0 := hv.val_ok; have hvv := hv.val_inv; subst hvv
      have hu := ti_str ht hsh
      refine Runs.same hr (.string (s.extract l.toNat r.toNat)) ?_ (.val _ (by have := hv0; simp only [okP, ByteArray.size_extract] at this ⊢; omega))
      show (Instr.sliceAt t (.string s) vl vh none).run P w = _
      rw [run_sliceAt_string w t _ _ _ _ hu]
      rcases bnd_rep hbl hl with ⟨rfl, rfl, rfl⟩ | ⟨k, rfl, hkn⟩ <;> rcases bnd_rep hbr hh with ⟨rfl, rfl, rfl⟩ | ⟨k', rfl, hkn'⟩
      · have := run_slice_string_all w t s hu; simpa using this
      · exact run_slice_string_h w t s hu k' r h1 h2
      · have := run_slice_string_l w t s hu k l h0 h1; simpa using this
      · have eh : (r.toNat : Int) = r := Int.toNat_of_nonneg (by omega)
        simp [Instr.slice, run_underlying hu, Instr.sliceBounds, run_sliceBound, h0, h1, h2, (by omega : 0 ≤ r), eh]
    · cases he
  · rename_i es tg
    split at he
    case h_2 => cases he
    rename_i e'' hsh
    rcases hte with ⟨s, hs1, hs2⟩ | ⟨hs1, hte⟩
    · rw [hs2] at hs1; rw [hs1] at hsh; cases hsh
    have hu := run_slice_elem ht hs1
    split at he
    · rename_i l r hbl hbr
      simp only [pvc, Option.some.injEq, Prod.mk.injEq] at he
      obtain ⟨rfl, rfl⟩ := he
      obtain ⟨h0, h1, h2, hsz⟩ := hc
      cases hv with
      | slice _ _ A k o sz cap u hA hcp htg hm hlen hcell hrep =>
        have run := sliced_run (P := P) (w := w) hu hte A es.length cap vl vh l r h0 h1 (by omega) (by
            rcases bnd_rep hbl hl with ⟨rfl, rfl, rfl⟩ | ⟨k, rfl, _⟩
            · exact .inl ⟨rfl, rfl⟩
            · exact .inr ⟨k, rfl⟩) (by
            rcases bnd_rep hbr hh with ⟨rfl, rfl, rfl⟩ | ⟨k, rfl, _⟩
            · exact .inl ⟨rfl, rfl⟩
            · exact .inr ⟨k, rfl⟩) hcp
        refine Runs.same hr _ run ?_
        have hlen' : ((es.drop l.toNat).take (r.toNat - l.toNat)).length = r.toNat - l.toNat := by simp; omega
        have hnr : ∀ i, i < r.toNat - l.toNat → nr ((es.drop l.toNat).take (r.toNat - l.toNat)) i = nr es (l.toNat + i) := by
          intro i hi
          simp only [nr, List.getD_eq_getElem?_getD]
          rw [List.getElem?_take_of_lt hi, List.getElem?_drop]
        have key : Rep w I mu (.slice ((es.drop l.toNat).take (r.toNat - l.toNat)) (tg && hi.isNone)) (.slice (if cap = l.toNat then A else A.map (·.add (l.toNat * te.sz))) ((es.drop l.toNat).take (r.toNat - l.toNat)).length (cap - l.toNat)) := ?_
        · rw [hlen'] at key; exact key
        refine .slice _ _ _ k (o + l.toNat * sz) sz (cap - l.toNat) (fun i j => u (l.toNat + i) j) (fun hpos => ?_) (by rw [hlen']; omega) (fun htt => ?_) (by omega) (fun i hi => ?_) (fun i j hi hj => ?_) (fun i j hi hj => ?_)
        · rw [hlen'] at hpos
          obtain ⟨rfl, hI⟩ := hA (by omega)
          have hsz' : sz = te.sz := by rw [← hlen 0 (by omega)]; exact hsz _ (by simp [nr, List.getD_eq_getElem?_getD, show 0 < es.length by omega])
          rw [if_neg (by omega), hsz']
          exact ⟨by simp [addr_add], hI⟩
        · rw [hlen']
          simp only [Bool.and_eq_true] at htt
          have := htg htt.1
          rcases bnd_rep hbr hh with ⟨_, _, rfl⟩ | ⟨k, _, hkn⟩
          · omega
          · rw [htt.2] at hkn; cases hkn
        · rw [hlen'] at hi; rw [hnr i hi]; exact hlen _ (by omega)
        · rw [hlen'] at hi
          have := hcell (l.toNat + i) j (by omega) hj
          rw [← this]
          congr 2
          rw [Nat.add_mul]; omega
        · rw [hlen'] at hi; rw [hnr i hi]; exact hrep _ j (by omega) hj
    · cases he
  · rename_i b i len cap sz
    split at he
    case h_2 => cases he
    rename_i e'' hsh
    rcases hte with ⟨s, hs1, hs2⟩ | ⟨hs1, hte⟩
    · rw [hs2] at hs1; rw [hs1] at hsh; cases hsh
    have hu := run_slice_elem ht hs1
    split at he
    · rename_i l r hbl hbr
      simp only [pvc, Option.some.injEq, Prod.mk.injEq] at he
      obtain ⟨rfl, rfl⟩ := he
      obtain ⟨h0, h1, h2, h3, hsz, hlc⟩ := hc
      cases hv with
      | sref _ _ _ _ _ k hk =>
        have run := sliced_run (P := P) (w := w) hu hte (some ⟨k, i * sz, none⟩) len cap vl vh l r h0 h1 h2 (by
            rcases bnd_rep hbl hl with ⟨rfl, rfl, rfl⟩ | ⟨k, rfl, _⟩
            · exact .inl ⟨rfl, rfl⟩
            · exact .inr ⟨k, rfl⟩) (by
            rcases bnd_rep hbr hh with ⟨rfl, rfl, rfl⟩ | ⟨k, rfl, _⟩
            · exact .inl ⟨rfl, rfl⟩
            · exact .inr ⟨k, rfl⟩) hlc
        refine Runs.same hr _ run ?_
        have := Rep.sref (w := w) (I := I) b (i + l.toNat) (r.toNat - l.toNat) (cap - l.toNat) sz k hk
        subst hsz
        have ha : (if cap = l.toNat then some (⟨k, i * te.sz, none⟩ : Addr) else (some (⟨k, i * te.sz, none⟩ : Addr)).map (·.add (l.toNat * te.sz))) = some ⟨k, (i + l.toNat) * te.sz, none⟩ := by
          rw [Nat.add_mul]
          split
          · have : l.toNat = 0 := by omega
            rw [this]; simp
          · simp [addr_add]
        rw [ha]
        exact this
    · cases he
  · cases he

/-! rows of cells -/
/-- The cells us are the rows es, one behind the other. -/
def RowsRep (w : World) (I : Nat → Prop) (mu : Nat → Option Value) (es : List (List D)) (sz : Nat) (us : List Value) : Prop :=
  us.length = es.length * sz ∧ (∀ i, i < es.length → (nr es i).length = sz) ∧ ∀ i j, i < es.length → j < sz → Rep w I mu (nd (nr es i) j) (nv us (i * sz + j))
theorem RowsRep.mono {w w' : World} {I I' : Nat → Prop} {mu mu' : Nat → Option Value} {es : List (List D)} {sz : Nat} {us : List Value} (h : RowsRep w I mu es sz us) (e : Ext I mu w I' mu' w') : RowsRep w' I' mu' es sz us :=
  ⟨h.1, h.2.1, fun i j hi hj => (h.2.2 i j hi hj).ext e⟩
theorem RowsRep.append {es fs : List (List D)} {sz : Nat} {us vs : List Value} (h : RowsRep w I mu es sz us) (k : RowsRep w I mu fs sz vs) : RowsRep w I mu (es ++ fs) sz (us ++ vs) := by
  refine ⟨by rw [List.length_append, h.1, k.1, List.length_append, Nat.add_mul], fun i hi => ?_, fun i j hi hj => ?_⟩
  · rw [List.length_append] at hi
    by_cases g : i < es.length
    · have : nr (es ++ fs) i = nr es i := by simp [nr, List.getD_eq_getElem?_getD, List.getElem?_append_left g]
      rw [this]; exact h.2.1 i g
    · have : nr (es ++ fs) i = nr fs (i - es.length) := by simp [nr, List.getD_eq_getElem?_getD, List.getElem?_append_right (Nat.le_of_not_lt g)]
      rw [this]; exact k.2.1 _ (by omega)
  · rw [List.length_append] at hi
    by_cases g : i < es.length
    · have e1 : nr (es ++ fs) i = nr es i := by simp [nr, List.getD_eq_getElem?_getD, List.getElem?_append_left g]
      have hb : i * sz + j < us.length := by
        rw [h.1]
        have : i * sz + sz ≤ es.length * sz := by rw [← Nat.succ_mul]; exact Nat.mul_le_mul_right _ g
        omega
      have e2 : nv (us ++ vs) (i * sz + j) = nv us (i * sz + j) := by simp [nv, List.getD_eq_getElem?_getD, List.getElem?_append_left hb]
      rw [e1, e2]; exact h.2.2 i j g hj
    · have e1 : nr (es ++ fs) i = nr fs (i - es.length) := by simp [nr, List.getD_eq_getElem?_getD, List.getElem?_append_right (Nat.le_of_not_lt g)]
      have e3 : i * sz + j - us.length = (i - es.length) * sz + j := by
        rw [h.1, Nat.sub_mul]
        have : es.length * sz ≤ i * sz := Nat.mul_le_mul_right _ (Nat.le_of_not_lt g)
        omega
      have hb : us.length ≤ i * sz + j := by
        rw [h.1]
        have : es.length * sz ≤ i * sz := Nat.mul_le_mul_right _ (Nat.le_of_not_lt g)
        omega
      have e2 : nv (us ++ vs) (i * sz + j) = nv vs ((i - es.length) * sz + j) := by simp only [nv, List.getD_eq_getElem?_getD]; rw [List.getElem?_append_right hb, e3]
      rw [e1, e2]; exact k.2.2 _ j (by omega) hj
theorem RowsRep.set {es : List (List D)} {sz : Nat} {us vs : List Value} {ns : List D} (h : RowsRep w I mu es sz us) {i : Nat} (hi : i < es.length) (hl : vs.length = ns.length) (hz : ns.length = sz) (hr : ∀ j, j < ns.length → Rep w I mu (nd ns j) (nv vs j)) :
    RowsRep w I mu (es.set i ns) sz (setL us (i * sz) vs) := by
  have hmul : i * sz + sz ≤ es.length * sz := by rw [← Nat.succ_mul]; exact Nat.mul_le_mul_right _ hi
  have h1 := h.1
  refine ⟨by rw [setL_length (by omega), List.length_set]; exact h1, fun j hj => ?_, fun j l hj hlz => ?_⟩
  · rw [List.length_set] at hj
    rw [nr_set hi]
    split
    · exact hz
    · exact h.2.1 j hj
  · rw [List.length_set] at hj
    rw [nr_set hi, nv_setL (by omega)]
    by_cases hij : i = j
    · subst hij
      have e1 : i * sz + l - i * sz = l := by omega
      rw [if_pos rfl, if_neg (by omega), if_pos (by omega), e1]
      exact hr l (by omega)
    · rw [if_neg hij]
      have hne : ¬ (i * sz ≤ j * sz + l ∧ j * sz + l < i * sz + vs.length) := by
        rintro ⟨g1, g2⟩
        rcases Nat.lt_or_gt_of_ne hij with h6 | h6
        · have : i * sz + sz ≤ j * sz := by rw [← Nat.succ_mul]; exact Nat.mul_le_mul_right _ h6
          omega
        · have : j * sz + sz ≤ i * sz := by rw [← Nat.succ_mul]; exact Nat.mul_le_mul_right _ h6
          omega
      by_cases g1 : j * sz + l < i * sz
      · rw [if_pos g1]; exact h.2.2 j l hj hlz
      · rw [if_neg g1, if_neg (by omega)]; exact h.2.2 j l hj hlz

/-- A new block of rows. -/
theorem new_rows {T : TypeId} {es : List (List D)} {sz : Nat} {us : List Value} (hrows : RowsRep w I mu es sz us) (hr : WRel w0 M0 I0 fr I mu h w) {id : Nat} (hid : fr id) :
    ∃ mu', Ext I mu w I mu' (w.alloc (.cells us.toArray T)) ∧ WRel w0 M0 I0 (fun b => fr b ∧ b ≠ id) I mu' (fun b => upAt b (h b) [(id, some (.rows es sz))]) (w.alloc (.cells us.toArray T)) ∧ mu' id = some (.pointer (some ⟨w.heap.size, 0, none⟩)) := by
  have hnone := hr.fresh id hid
  have := hr.new hid (.cells us.toArray T) (.pointer (some ⟨w.heap.size, 0, none⟩)) rfl (.rows es sz) ⟨w.heap.size, T, us, by simp [mset], heap_alloc_new w _, hrows.1, hrows.2.1, fun i j hi hj =>
      (hrows.2.2 i j hi hj).mono (fun k hk => heap_alloc_lt w _ (hr.lt k hk)) (fun _ h => h) (mset_ext hnone)⟩
  exact ⟨_, this.2, this.1, by simp [mset]⟩

/-! making -/
def makeE (id : Nat) (te : TI) : D → D → Res
  | .val (.int _ l), .val (.int _ c) => some (⟨.sref id 0 l.toNat c.toNat te.sz, [(id, some (.rows (List.replicate c.toNat (te.zero.map ofV)) te.sz))], []⟩, 0 ≤ l ∧ l ≤ c ∧ (te.bytes : Int) * c ≤ 281474976710656 ∧ c ≤ 9223372036854775807 ∧ te.zero.length = te.sz)
  | _, _ => none
theorem runs_make {t e' : TypeId} {ti te : TI} (ht : tiOf P t = some ti) (hs : ti.sh = .slice e') (hte : tiOf P e' = some te) {id : Nat} {dl dc : D} {e : Eff} {c : Prop} (he : makeE id te dl dc = some (e, c)) (hc : c) (hr : WRel w0 M0 I0 fr I mu h w) (hid : fr id) {vl vc : Value} (hl : Rep w I mu dl vl) (hcv : Rep w I mu dc vc) :
    Runs P (fun w => (Instr.makeSlice t vl vc).run P w) id e.d e.up w0 M0 I0 fr I mu h w := by
  unfold makeE at he
  split at he
  · rename_i kl l kc c
    simp only [Option.some.injEq, Prod.mk.injEq] at he
    obtain ⟨rfl, rfl⟩ := he
    obtain ⟨h0, h1, h2, h3, h4⟩ := hc
    have := hl.val_inv; have := hcv.val_inv; subst vl vc
    obtain ⟨i, d, z, g1, g2, g3, g4, g5, g6, g7, g8⟩ := tiOf_spec hte
    have hu := run_slice_elem ht hs
    have run := run_make (P := P) w t e' i z hu g1 g3 kl kc l c h0 h1 (by rw [g7]; exact h2) h3
    have hzs : z.cells = te.zero.toArray := by rw [← g6]
    have hmc : madeCells z.cells (c.toNat * i.size) = ((List.range (c.toNat * te.sz)).map fun n => nv te.zero (n % te.sz)).toArray := by
      rw [g4, hzs]
      apply Array.ext'
      simp only [madeCells, Array.toList_map, Array.toList_range]
      refine List.map_congr_left fun n hn => ?_
      have hn' := List.mem_range.1 hn
      have hpos : 0 < te.sz := Nat.pos_of_ne_zero fun h0 => by rw [h0] at hn'; simp at hn'
      have hlt : n % te.sz < te.zero.length := by rw [h4]; exact Nat.mod_lt _ hpos
      simp only [List.size_toArray, h4, nv, List.getD_eq_getElem?_getD]
      rw [getElem!_pos _ _ (by simpa using hlt)]
      simp [hlt]
    rw [hmc] at run
    have hrows : RowsRep w I mu (List.replicate c.toNat (te.zero.map ofV)) te.sz ((List.range (c.toNat * te.sz)).map fun n => nv te.zero (n % te.sz)) := by
      refine ⟨by simp, fun i hi => ?_, fun i j hi hj => ?_⟩
      · simp only [List.length_replicate] at hi
        have : nr (List.replicate c.toNat (te.zero.map ofV)) i = te.zero.map ofV := by simp [nr, List.getD_eq_getElem?_getD, hi]
        rw [this]; simpa using h4
      · simp only [List.length_replicate] at hi
        have e1 : nr (List.replicate c.toNat (te.zero.map ofV)) i = te.zero.map ofV := by simp [nr, List.getD_eq_getElem?_getD, hi]
        have hlt : i * te.sz + j < c.toNat * te.sz := by
          have : i * te.sz + te.sz ≤ c.toNat * te.sz := by rw [← Nat.succ_mul]; exact Nat.mul_le_mul_right _ hi
          omega
        have e2 : nv ((List.range (c.toNat * te.sz)).map fun n => nv te.zero (n % te.sz)) (i * te.sz + j) = nv te.zero j := by
          have e3 : (i * te.sz + j) % te.sz = j := by rw [Nat.add_comm, Nat.add_mul_mod_self_right, Nat.mod_eq_of_lt hj]
          have e4 : ∀ (f : Nat → Value) n m, m < n → nv ((List.range n).map f) m = f m := by intro f n m hm; simp [nv, List.getD_eq_getElem?_getD, hm]
          rw [e4 _ _ _ hlt, e3]
        have e5 : nd (te.zero.map ofV) j = ofV (nv te.zero j) := by simp [nd, nv, List.getD_eq_getElem?_getD, show j < te.zero.length by omega]
        rw [e1, e2, e5]
        exact rep_ofV _ _ _ _
    obtain ⟨mu', x1, x2, x3⟩ := new_rows (T := e') hrows hr hid
    exact ⟨_, _, I, mu', run, x1, x2, by simpa using Rep.sref (w := w.alloc (.cells ((List.range (c.toNat * te.sz)).map fun n => nv te.zero (n % te.sz)).toArray e')) (I := I) id 0 l.toNat c.toNat te.sz _ x3⟩
  · cases he
end
end Go.Ab
