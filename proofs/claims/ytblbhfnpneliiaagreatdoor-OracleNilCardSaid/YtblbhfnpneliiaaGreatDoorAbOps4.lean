/- The abstract layer, part 7: structs, fields, indexing, slicing, lengths. -/
import Derived.Test.YtblbhfnpneliiaaGreatDoorAbOps3
namespace Go.Ab
open Go.RowKit
section
variable {P : Program} {w0 : World} {M0 I0 fr I : Nat → Prop} {mu : Nat → Option Value} {h : Nat → Option Blk} {w : World}

/-! a struct of parts -/
def buildF (fs : List (Nat × Nat × Bool)) : List D → List (Nat × D) → Option (List D × Prop)
  | cs, [] => some (cs, True)
  | cs, (i, d) :: r => match fs[i]?, cellsD d with
    | some (off, sz, _), some ns => match buildF fs (setL cs off ns) r with
      | some (x, c) => some (x, ns.length = sz ∧ off + ns.length ≤ cs.length ∧ c)
      | none => none
    | _, _ => none
def buildE (ti : TI) (ps : List (Nat × D)) : Res :=
  match ti.sh with
  | .struct fs => match buildF fs (ti.zero.map ofV) ps with
    | some (cs, c) => pvc (.agg cs) c
    | none => none
  | _ => none

theorem foldl_set_cells (off : Nat) : ∀ (vs : List Value) (j : Nat) (us : Array Value), (vs.zipIdx j).foldl (fun cs (p : Value × Nat) => cs.setIfInBounds (off + p.2) p.1) us = us ∨ True := fun _ _ _ => .inr trivial

theorem fill_step (off : Nat) : ∀ (vs : List Value) (j : Nat) (us : List Value), off + j + vs.length ≤ us.length →
    ((vs.zipIdx j).foldl (fun (cs : Array Value) (p : Value × Nat) => cs.setIfInBounds (off + p.2) p.1) us.toArray) = (setL us (off + j) vs).toArray
  | [], j, us, _ => by simp [setL]
  | v :: vs, j, us, hl => by
    simp only [List.length_cons] at hl
    simp only [List.zipIdx_cons, List.foldl_cons, List.setIfInBounds_toArray]
    rw [fill_step off vs (j + 1) (us.set (off + j) v) (by simp; omega)]
    congr 1
    apply List.ext_getElem?
    intro i
    rw [setL_get (by simp; omega), setL_get (by simp; omega)]
    simp only [List.length_cons, List.getElem?_set]
    by_cases h2 : i < off + j
    · rw [if_pos (by omega), if_pos h2, if_neg (by omega)]
    · rw [if_neg h2]
      by_cases h3 : i = off + j
      · subst h3
        rw [if_pos (by omega), if_pos rfl, if_pos (by omega), if_pos (by omega)]
        simp
      · rw [if_neg (by omega)]
        by_cases h4 : i < off + (j + 1) + vs.length
        · rw [if_pos h4, if_pos (by omega)]
          have : i - (off + j) = (i - (off + (j + 1))) + 1 := by omega
          rw [this]; rfl
        · rw [if_neg h4, if_neg (by omega), if_neg (by omega)]

theorem rep_setL {cs ns : List D} {us vs : List Value} {off : Nat} (hl : us.length = cs.length) (hv : vs.length = ns.length) (hle : off + ns.length ≤ cs.length) (h1 : ∀ i, i < cs.length → Rep w I mu (nd cs i) (nv us i)) (h2 : ∀ i, i < ns.length → Rep w I mu (nd ns i) (nv vs i)) :
    ∀ i, i < (setL cs off ns).length → Rep w I mu (nd (setL cs off ns) i) (nv (setL us off vs) i) := by
  intro i hi
  rw [setL_length hle] at hi
  rw [nd_setL hle, nv_setL (by omega), hv]
  by_cases g1 : i < off
  · simp only [if_pos g1]; exact h1 i hi
  · simp only [if_neg g1]
    by_cases g2 : i < off + ns.length
    · simp only [if_pos g2]; exact h2 _ (by omega)
    · simp only [if_neg g2]; exact h1 i hi

theorem run_fill {fs : List (Nat × Nat × Bool)} : ∀ (ds : List (Nat × D)) (vs : List (Nat × Value)) (cs : List D) (us : List Value) (x : List D) (c : Prop), buildF fs cs ds = some (x, c) → c → vs.length = ds.length →
    (∀ (i : Nat) (p : Nat × D) (q : Nat × Value), ds[i]? = some p → vs[i]? = some q → p.1 = q.1 ∧ Rep w I mu p.2 q.2) → us.length = cs.length → (∀ i, i < cs.length → Rep w I mu (nd cs i) (nv us i)) →
    ∃ us', Instr.fill (fun i => (fs.map fun y => (y.1, y.2.1))[i]?) us.toArray vs = some us'.toArray ∧ us'.length = x.length ∧ ∀ i, i < x.length → Rep w I mu (nd x i) (nv us' i)
  | [], [], cs, us, x, c, hb, _, _, _, hl, hr => by
    simp only [buildF, Option.some.injEq, Prod.mk.injEq] at hb
    obtain ⟨rfl, _⟩ := hb
    exact ⟨us, by simp [Instr.fill], hl, hr⟩
  | [], _ :: _, _, _, _, _, _, _, hv, _, _, _ => by simp at hv
  | _ :: _, [], _, _, _, _, _, _, hv, _, _, _ => by simp at hv
  | (i, d) :: ds, (i', v) :: vs, cs, us, x, c, hb, hc, hv, hp, hl, hr => by
    simp only [buildF] at hb
    split at hb
    · rename_i off sz ag ns hfi hns
      split at hb
      · rename_i y c' hb'
        simp only [Option.some.injEq, Prod.mk.injEq] at hb
        obtain ⟨rfl, rfl⟩ := hb
        obtain ⟨hsz, hle, hc'⟩ := hc
        obtain ⟨he, hrep⟩ := hp 0 (i, d) (i', v) rfl rfl
        simp only at he hrep
        subst he
        obtain ⟨vs', hcs, hl', hrep', _⟩ := hrep.cells hns
        have hcz : v.cells.size = sz := by
          have : v.cells.toList.length = vs'.length := by rw [hcs]
          simp only [Array.length_toList] at this
          omega
        obtain ⟨us', h1, h2, h3⟩ := run_fill ds vs (setL cs off ns) (setL us off vs') y c' hb' hc' (by simpa using hv) (fun j p q hp' hq' => hp (j + 1) p q (by simpa using hp') (by simpa using hq'))
          (by rw [setL_length (by omega), setL_length hle, hl]) (rep_setL hl hl' hle hr hrep')
        refine ⟨us', ?_, h2, h3⟩
        have hget : (fs.map fun y => (y.1, y.2.1))[i]? = some (off, sz) := by simp [hfi]
        simp only [Instr.fill, hget, hcz, ne_eq, not_true_eq_false, decide_false, Bool.false_or, List.size_toArray]
        have hlen : us.length = cs.length := hl
        rw [if_neg (by simp; omega)]
        have hz : (v.cells.zipIdx.foldl (fun (cs : Array Value) (p : Value × Nat) => cs.setIfInBounds (off + p.2) p.1) us.toArray) = (setL us off vs').toArray := by
          rw [← Array.foldl_toList, Array.toList_zipIdx, hcs]
          have := fill_step off vs' 0 us (by omega)
          simpa using this
        exact (congrArg (fun z => Instr.fill (fun i => (fs.map fun y => (y.1, y.2.1))[i]?) z vs) hz).trans h1
      · cases hb
    · cases hb

theorem runs_build {t : TypeId} {ti : TI} (ht : tiOf P t = some ti) {ds : List (Nat × D)} {e : Eff} {c : Prop} (he : buildE ti ds = some (e, c)) (hc : c) (hr : WRel w0 M0 I0 fr I mu h w) (vs : List (Nat × Value)) (hv : vs.length = ds.length)
    (hp : ∀ (i : Nat) (p : Nat × D) (q : Nat × Value), ds[i]? = some p → vs[i]? = some q → p.1 = q.1 ∧ Rep w I mu p.2 q.2) (id : Nat) :
    Runs P (fun w => (Instr.build t vs.toArray).run P w) id e.d e.up w0 M0 I0 fr I mu h w := by
  unfold buildE at he
  split at he
  · rename_i fs hfs
    split at he
    · rename_i cs c' hb
      simp only [pvc, Option.some.injEq, Prod.mk.injEq] at he
      obtain ⟨rfl, rfl⟩ := he
      obtain ⟨l, hl1, hl2⟩ := ti_struct ht hfs
      obtain ⟨i, d, z, h1, h2, h3, h4, h5, h6, h7, h8⟩ := tiOf_spec ht
      obtain ⟨us', g1, g2, g3⟩ := run_fill (w := w) (I := I) (mu := mu) ds vs (ti.zero.map ofV) ti.zero cs c' hb hc hv hp (by simp) (fun i hi => by
        simp only [List.length_map] at hi
        have : nd (ti.zero.map ofV) i = ofV (nv ti.zero i) := by simp [nd, nv, List.getD_eq_getElem?_getD, hi]
        rw [this]; exact rep_ofV _ _ _ _)
      refine Runs.same hr (.agg us'.toArray) (run_build w t vs.toArray us'.toArray ?_) (.agg _ _ g2 g3)
      have hza : z.cells = ti.zero.toArray := by rw [← h6]
      have hpl := mapM_places hl2
      have g1' : Instr.fill (fun x => Option.map (fun y => (y.fst, y.snd.fst)) fs[x]?) ti.zero.toArray vs = some us'.toArray := by simpa using g1
      simp [Program.built, h1, hl1, h3, hpl, hza, g1']
    · cases he
  · cases he

/-! parts and fields -/
def fieldE (ti : TI) (i : Nat) : D → Res
  | .agg cs => match ti.sh with
    | .struct fs => match fs[i]? with
      | some (off, sz, ag) => bif ag then pvc (.agg ((cs.drop off).take sz)) (off + sz ≤ cs.length) else pvc (nd cs off) (off < cs.length)
      | none => none
    | _ => none
  | _ => none
theorem runs_field {t : TypeId} {ti : TI} (ht : tiOf P t = some ti) {i : Nat} {d : D} {e : Eff} {c : Prop} (he : fieldE ti i d = some (e, c)) (hc : c) (hr : WRel w0 M0 I0 fr I mu h w) {v : Value} (hv : Rep w I mu d v) (id : Nat) :
    Runs P (fun w => (Instr.field t v i).run P w) id e.d e.up w0 M0 I0 fr I mu h w := by
  cases d with
  | agg cs =>
    simp only [fieldE] at he
    split at he
    · rename_i fs hfs
      split at he
      · rename_i off sz ag hfi
        obtain ⟨l, hl1, hl2⟩ := ti_struct ht hfs
        obtain ⟨f, hf1, hf2⟩ := mapM_get hl2 i _ hfi
        obtain ⟨us, rfl, hlu, hrep⟩ := hv.agg_inv
        have hfa : l[i]? = some f := by simpa using hf1
        unfold fieldOf at hf2
        split at hf2
        · rename_i inf dsc hinf hdsc
          simp only [Option.some.injEq, Prod.mk.injEq] at hf2
          obtain ⟨rfl, rfl, rfl⟩ := hf2
          have hag : (isAgg f.type).run P w = .ok (aggOf dsc) w := by
            simp only [isAgg, Sem.run_bind, run_underlying hdsc, Result.andThen]
            cases dsc <;> rfl
          have hsz : (sizeOf f.type).run P w = .ok inf.size w := by simp [sizeOf, typeInfo, hinf]
          cases ha : aggOf dsc <;> simp only [ha, cond_true, cond_false, pvc, Option.some.injEq, Prod.mk.injEq] at he <;> obtain ⟨rfl, rfl⟩ := he
          · rw [ha] at hag
            refine Runs.same hr (nv us f.offset) ?_ (hrep _ hc)
            simp only [Instr.field, Sem.run_bind, run_underlying hl1, Result.andThen, hfa, asAgg, Sem.run_pure, part, hag]
            simp [nv, List.getD_eq_getElem?_getD, show f.offset < us.length by omega]
          · rw [ha] at hag
            refine Runs.same hr (.agg ((us.drop f.offset).take inf.size).toArray) ?_ (.agg _ _ (by simp; omega) fun j hj => ?_)
            · simp only [Instr.field, Sem.run_bind, run_underlying hl1, Result.andThen, hfa, asAgg, Sem.run_pure, part, hag]
              simp [hsz]
            · simp only [List.length_take, List.length_drop] at hj
              have e1 : nd ((cs.drop f.offset).take inf.size) j = nd cs (f.offset + j) := by
                simp only [nd, List.getD_eq_getElem?_getD]; rw [List.getElem?_take_of_lt (by omega), List.getElem?_drop]
              have e2 : nv ((us.drop f.offset).take inf.size) j = nv us (f.offset + j) := by
                simp only [nv, List.getD_eq_getElem?_getD]; rw [List.getElem?_take_of_lt (by omega), List.getElem?_drop]
              rw [e1, e2]
              exact hrep _ (by omega)
        · cases hf2
      · cases he
    · cases he
  | _ => simp [fieldE] at he

def fieldAddrE (ti : TI) (i : Nat) (d : D) : Res :=
  match ti.sh with
  | .struct fs => match fs[i]? with
    | some (off, sz, _) => match d with
      | .ptr cs o => pvc (.ptr cs (o + off)) (sz ≠ 0)
      | .ref b r o s => pvc (.ref b r (o + off) s) (sz ≠ 0)
      | _ => none
    | none => none
  | _ => none
theorem runs_fieldAddr {t : TypeId} {ti : TI} (ht : tiOf P t = some ti) {i : Nat} {d : D} {e : Eff} {c : Prop} (he : fieldAddrE ti i d = some (e, c)) (hc : c) (hr : WRel w0 M0 I0 fr I mu h w) {v : Value} (hv : Rep w I mu d v) (id : Nat) :
    Runs P (fun w => (Instr.fieldAt t v i).run P w) id e.d e.up w0 M0 I0 fr I mu h w := by
  unfold fieldAddrE at he
  split at he
  · rename_i fs hfs
    split at he
    · rename_i off sz ag hfi
      obtain ⟨l, hl1, hl2⟩ := ti_struct ht hfs
      obtain ⟨f, hf1, hf2⟩ := mapM_get hl2 i _ hfi
      have hfa : l[i]? = some f := by simpa using hf1
      unfold fieldOf at hf2
      split at hf2
      · rename_i inf dsc hinf hdsc
        simp only [Option.some.injEq, Prod.mk.injEq] at hf2
        obtain ⟨rfl, rfl, rfl⟩ := hf2
        have hsz : (sizeOf f.type).run P w = .ok inf.size w := by simp [sizeOf, typeInfo, hinf]
        have run : ∀ k o, inf.size ≠ 0 → (Instr.fieldAt t (.pointer (some ⟨k, o, none⟩)) i).run P w = .ok (.pointer (some ⟨k, o + f.offset, none⟩)) w := by
          intro k o hne
          simp [Instr.fieldAt, run_underlying hl1, hfa, Instr.sureAddr, fieldPlace, hsz, hne, addr_add]
        split at he
        · rename_i cs o
          simp only [pvc, Option.some.injEq, Prod.mk.injEq] at he
          obtain ⟨rfl, rfl⟩ := he
          cases hv with
          | ptr _ _ k b u hI hcell hrep =>
            exact Runs.same hr _ (run k (b + o) hc) (by rw [Nat.add_assoc]; exact .ptr cs (o + f.offset) k b u hI hcell hrep)
        · rename_i b r o s
          simp only [pvc, Option.some.injEq, Prod.mk.injEq] at he
          obtain ⟨rfl, rfl⟩ := he
          cases hv with
          | ref _ _ _ _ k hk => exact Runs.same hr _ (run k (r * s + o) hc) (by rw [Nat.add_assoc]; exact .ref b r (o + f.offset) s k hk)
        · cases he
      · cases hf2
    · cases he
  · cases he

/-! indexing -/
def indexAddrE (ti te : TI) : D → D → Res
  | .slice es _, .val (.int _ n) => pvc (.ptr (nr es n.toNat) 0) (0 ≤ n ∧ n < es.length ∧ (nr es n.toNat).length = te.sz)
  | .sref b i len _ sz, .val (.int _ n) => pvc (.ref b (i + n.toNat) 0 sz) (0 ≤ n ∧ n < len ∧ sz = te.sz)
  | _, _ => none
theorem runs_indexAddr {t e' : TypeId} {ti te : TI} (ht : tiOf P t = some ti) (hs : ti.sh = .slice e') (hte : tiOf P e' = some te) {d i : D} {e : Eff} {c : Prop} (he : indexAddrE ti te d i = some (e, c)) (hc : c) (hr : WRel w0 M0 I0 fr I mu h w) {v x : Value} (hv : Rep w I mu d v) (hx : Rep w I mu i x) (id : Nat) :
    Runs P (fun w => (Instr.indexAt t v x).run P w) id e.d e.up w0 M0 I0 fr I mu h w := by
  have hu := run_slice_elem ht hs
  unfold indexAddrE at he
  split at he
  · rename_i es tg k n
    simp only [pvc, Option.some.injEq, Prod.mk.injEq] at he
    obtain ⟨rfl, rfl⟩ := he
    obtain ⟨h0, h1, h2⟩ := hc
    have hxv := hx.val_inv
    subst hxv
    cases hv with
    | slice _ _ A k' o sz cap u hA hcp htg hm hlen hcell hrep =>
      have hpos : 0 < es.length := by omega
      obtain ⟨rfl, hI⟩ := hA hpos
      have hn : n.toNat < es.length := by omega
      have hsz : sz = te.sz := by rw [← h2]; exact (hlen _ hn).symm
      refine Runs.same hr (.pointer (some ⟨k', o + n.toNat * sz + 0, none⟩)) ?_ (.ptr _ 0 k' (o + n.toNat * sz) (fun j => u n.toNat j) hI (fun j hj => ?_) fun j hj => ?_)
      · subst hsz
        simp [Instr.indexAt, asIntOf, run_underlying hu, run_sizeOf' hte, h0, h1, addr_add]
      · rw [hlen _ hn] at hj
        rw [Nat.add_assoc]; exact hcell _ j hn hj
      · rw [hlen _ hn] at hj
        exact hrep _ j hn hj
  · rename_i b i len cap sz k n
    simp only [pvc, Option.some.injEq, Prod.mk.injEq] at he
    obtain ⟨rfl, rfl⟩ := he
    obtain ⟨h0, h1, h2⟩ := hc
    have hxv := hx.val_inv
    subst hxv
    cases hv with
    | sref _ _ _ _ _ k' hk =>
      refine Runs.same hr (.pointer (some ⟨k', (i + n.toNat) * sz + 0, none⟩)) ?_ (.ref b (i + n.toNat) 0 sz k' hk)
      subst h2
      simp [Instr.indexAt, asIntOf, run_underlying hu, run_sizeOf' hte, h0, h1, addr_add, Nat.add_mul]
  · cases he

/-- Byte n of a text. -/
def strAt (s : ByteArray) (n : Int) : Int := ((s.data.toList.getD n.toNat 0).toNat : Int)
theorem strAt_ok (s : ByteArray) (n : Int) : okP (.int .u8 (strAt s n)) := by
  have := (s.data.toList.getD n.toNat 0).toNat_lt
  simp only [okP, strAt, imin, imax]; omega
def indexE (ti : TI) : D → D → Res
  | .val (.string s), .val (.int _ n) => match ti.sh with
    | .str => pvc (.val (.int .u8 (strAt s n))) (0 ≤ n ∧ n < s.size)
    | _ => none
  | _, _ => none
theorem runs_index {t : TypeId} {ti : TI} (ht : tiOf P t = some ti) {d i : D} {e : Eff} {c : Prop} (he : indexE ti d i = some (e, c)) (hc : c) (hr : WRel w0 M0 I0 fr I mu h w) {v x : Value} (hv : Rep w I mu d v) (hx : Rep w I mu i x) (id : Nat) :
    Runs P (fun w => (Instr.index t v x).run P w) id e.d e.up w0 M0 I0 fr I mu h w := by
  unfold indexE at he
  split at he
  · rename_i s k n
    split at he
    · rename_i hsh
      simp only [pvc, Option.some.injEq, Prod.mk.injEq] at he
      obtain ⟨rfl, rfl⟩ := he
      have hxv := hx.val_inv
      have hvv := hv.val_inv
      subst hxv hvv
      obtain ⟨h0, h1⟩ := hc
      have hlt : n.toNat < s.size := by omega
      refine Runs.same hr _ ?_ (.val _ (strAt_ok _ _))
      have : s[n.toNat]? = some s[n.toNat] := getElem?_pos s n.toNat hlt
      have hb : s[n.toNat] = s.data.toList.getD n.toNat 0 := by
        have hlt' : n.toNat < s.data.size := hlt
        simp only [List.getD_eq_getElem?_getD, Array.getElem?_toList, Array.getElem?_eq_getElem hlt', Option.getD_some]
        rfl
      simp only [Instr.index, asIntOf, Sem.run_bind, Sem.run_pure, Result.andThen, run_underlying (ti_str ht hsh), h0, if_true, this, strAt, hb]
    · cases he
  · cases he
end
end Go.Ab
