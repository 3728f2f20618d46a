/- The exact evaluator: operations, one step. -/
import Derived.Test.YtalejkbicihgnaaGreatDoorEvD
import Derived.Lib.ConvBytes
import Derived.Lib.UnsafeStr
import Derived.Lib.Builder
import Derived.Laws.StructEq
import Derived.LaidEql
import Derived.Lib.Bytealg
import Derived.Lib.ReflectliteSwap
import Derived.Laws.Externs
set_option maxHeartbeats 4000000
set_option maxRecDepth 20000
set_option linter.unusedVariables false
set_option linter.unusedSimpArgs false
/- The exact evaluator, part 9c: bytes of strings, clear, copies of nothing, pointers and structs alike, unsafe strings, least and greatest. -/
namespace Go.Ex
open Go.RowKit
open Go.Ab (TI Sh setL tiOf Wrote tiOf_spec ti_bool ti_str ti_int ti_ptr ti_map ti_arr ti_struct run_slice_elem run_isAgg' run_sizeOf' run_zeroValue' addr_add Holds' aggOf cells_one zero_cells run_firstCells')
section
variable {P : Program} {G : Tr (List Value)} {id : Nat} {ev : Operand → X} {hp : Tr B} {e : Ef} {c : Cx}
variable {w0 : World} {M0 fr : Nat → Prop} {m : Mu} {h : Nat → Option B} {w : World}

/-! bytes of a string -/
theorem bytesS_ok {s d e' : TypeId} {ts te td : TI} (hs : tiOf P s = some ts) (hst : ts.sh = .str) (hd : tiOf P d = some td) (hsh : td.sh = .slice e') (hte : tiOf P e' = some te) {x : X} (he : bytesSX id e' te x = some e) (hw : WR w0 M0 fr m h w) (hid : fr id) {v : Value} (hv : conc m x = some v) :
    ∃ u w', (convert s d v).run P w = .ok u w' ∧ Left w0 M0 fr m h id e u w' := by
  unfold bytesSX at he
  replace he := bif_inv he
  obtain ⟨h1, he⟩ := he
  obtain ⟨h2, h3⟩ := isU8_inv h1
  split at he
  · rename_i q
    simp only [Option.some.injEq] at he
    subst he
    have := conc_v hv; subst this
    have run := Lib.run_convert_string_bytes (P := P) w s d e' q (ti_str hs hst) (run_slice_elem hd hsh) (ti_int hte h2)
    have hf := hw.fresh id hid
    have hsz : lenL (strL q) = q.size := by rw [lenL_eq, size_strL]
    -- the row, ahead of its mark
    let gc := grownCap w q.size 0 e'
    let us : List Value := q.data.toList.map fun b => Value.int .u8 b.toNat
    let zs : List Value := List.replicate (gc - q.size) (.int .u8 0)
    have hge : q.size ≤ gc := grownCap_ge w q.size 0 e'
    have hus : us.length = q.size := by simp [us]
    have hlen : (us ++ zs).length = gc := by simp only [List.length_append, hus, zs, List.length_replicate]; omega
    have hcells : Lib.bytesCells w e' q = (us ++ zs).toArray := by
      apply Array.ext'
      simp [Lib.bytesCells, us, zs, gc]
    have hfz : (w.drew.alloc (.cells (us ++ zs).toArray e')).heap[w.heap.size]? = some (.cells (us ++ zs).toArray e') := heap_alloc_new w.drew _
    let o' : Obj := .cells (us ++ zs).toArray e' (gc, gc + 1)
    have hww : Lib.bytesWorld w e' q = (w.drew.alloc o') := by
      unfold Lib.bytesWorld
      rw [hcells]
      have e1 : ((us ++ zs).toArray).size = gc := by rw [List.size_toArray]; exact hlen
      unfold World.freeze
      rw [if_neg (by decide), e1]
      simp only [World.alloc, World.drew]
      congr 1
      apply Array.ext_getElem?
      intro i
      simp only [Array.getElem?_modify, Array.getElem?_push]
      by_cases hi : w.heap.size = i
      · subst hi
        simp [o']
      · rw [if_neg hi]
        have hi' : ¬ i = w.heap.size := fun e => hi e.symm
        simp [hi']
    have new := hw.drew.new hid o' gc (.byts e' (byteXs (strL q))) ⟨us, zs, byteXs_conc _ _, rfl, hlen⟩
    refine ⟨_, _, by rw [hww] at run; exact run, _, new.2, ?_, by simpa [upL] using new.1⟩
    simp only [conc, mset_self, Option.map_some, Option.some.injEq, hsz]
    simp [gc]
  · cases he

/-! clear; copies of nothing -/
theorem clear_ok {t ty e' : TypeId} {ti te : TI} (ht : tiOf P t = some ti) (hs : ti.sh = .slice e') (hte : tiOf P e' = some te) {x : X} (he : clearX hp te x = some e) (hw : WR w0 M0 fr m h w) {v : Value} (hv : conc m x = some v) (hb : ∀ b ∈ e.rd, h b = hp.get b) :
    ∃ u w', (Builtin.clear_ #[t] ty #[v]).run P w = .ok u w' ∧ Left w0 M0 fr m h id e u w' := by
  have hu := run_slice_elem ht hs
  unfold clearX at he
  split at he
  · rename_i b i len sz
    replace he := bif_inv he
    obtain ⟨h1, he⟩ := he
    simp only [Bool.and_eq_true, beq_eq, lenL_eq, decide_eq_true_eq] at h1
    obtain ⟨⟨rfl, hzl⟩, hall⟩ := h1
    split at he
    · rename_i blk hblk
      split at he
      · rename_i T' l fz hrow
        replace he := bif_inv he
        obtain ⟨hth, he⟩ := he
        split at he
        · rename_i l' hl'
          simp only [Option.some.injEq] at he
          subst he
          obtain ⟨p, p1, rfl⟩ := conc_gsl hv
          obtain ⟨z, hz, hzc⟩ := run_zeroValue' hte w
          have hza : z.cells = te.zero.toArray := by rw [← hzc]
          have hrl : (repL len (mapV te.zero)).length = len * te.sz := by
            have := concL_length (concL_repL (m := m) (l := te.zero) len)
            rw [← this, repL_length, hzl]
          have hz1 := allOne_conc hall (concL_mapV (m := m) te.zero)
          have hone : ∀ u ∈ repL len te.zero, u.oneCell' = true := by
            have : ∀ n, ∀ u ∈ repL n te.zero, u ∈ te.zero := by
              intro n
              induction n with
              | zero => intro u hu; simp [repL] at hu
              | succ n ih => intro u hu; simp only [repL, List.mem_append] at hu; rcases hu with hu | hu; exact hu; exact ih u hu
            exact fun u hu => hz1 u (this _ u hu)
          obtain ⟨w', s1, s2⟩ := store_block (P := P) hw ((hb b (by simp)).trans hblk) p1 hrow (concL_repL (l := te.zero) len) hl' (by rw [hrl]; exact hth) hone
          have hzz : (Builtin.zeroCells z.cells len).toList = repL len te.zero := by
            have hzs : z.cells.size = te.sz := by rw [hza]; simpa using hzl
            have k1 := zero_cells hzl len z.cells hza
            rw [zeros_eq hzl] at k1
            simp only [Builtin.zeroCells, hzs]
            rw [hzs] at k1
            rw [k1]
          refine ⟨.tuple #[], w', ?_, m, Le.refl m, by simp [conc, concL], s2.less fun b hb => hb.1⟩
          have s1' : (storeCells ⟨p.1, i * te.sz, none⟩ (repL len te.zero)).run P w = .ok () w' := s1
          by_cases h0 : len = 0
          · subst h0
            simp only [repL, storeCells, Sem.run_pure, Result.ok.injEq, true_and] at s1'
            subst s1'
            simp [Builtin.clear_, run_underlying hu]
          · obtain ⟨k, rfl⟩ : ∃ k, len = k + 1 := ⟨len - 1, by omega⟩
            simp [Builtin.clear_, run_underlying hu, hz, hzz, s1']
        · cases he
      · cases he
    · cases he
  · have := pX_inv he; subst this
    have := conc_v hv; subst this
    exact ⟨.tuple #[], w, by simp [Builtin.clear_, run_underlying hu], m, Le.refl m, by simp [conc, concL], hw.less fun b hb => hb.1⟩
  · cases he

theorem copy_ok {t t' ty e' : TypeId} {ti te : TI} (ht : tiOf P t = some ti) (hs : ti.sh = .slice e') (hte : tiOf P e' = some te) {d x : X} (he : copyX hp te.sz d x = some e) (hw : WR w0 M0 fr m h w) {vd vx : Value} (hd : conc m d = some vd) (hx : conc m x = some vx) (hb : ∀ b ∈ e.rd, h b = hp.get b) :
    ∃ u, (Builtin.copy_ #[t, t'] ty #[vd, vx]).run P w = .ok u w ∧ conc m e.x = some u ∧ e.up = [] := by
  have hu := run_slice_elem ht hs
  unfold copyX at he
  split at he
  · rename_i ns rd n hcells
    replace he := bif_inv he
    obtain ⟨hn, he⟩ := he
    rw [beq_eq, decide_eq_true_eq] at hn
    subst hn
    have run : ∀ (D : Option Addr) (dl dc : Nat), (∀ b ∈ rd, h b = hp.get b) → (Builtin.copy_ #[t, t'] ty #[.slice D dl dc, vx]).run P w = .ok (.int .i64 0) w := by
      intro D dl dc hrd
      obtain ⟨A, cap, us, rfl, h2, h3, h4⟩ := sliceCells_ok hcells hw hx hrd
      have hf : (Builtin.firstCells te.sz 0 (.slice A 0 cap)).run P w = .ok #[] w := by
        have := run_firstCells' (P := P) (w := w) (size := te.sz) (n := 0) (A := A) (cap := cap) (us := []) (by simp) (.inl rfl)
        simpa using this
      cases D <;> simp [Builtin.copy_, run_underlying hu, Builtin.lenOf, run_sizeOf' hte, hf, storeCells, goInt]
    split at he
    · simp only [Option.some.injEq] at he
      subst he
      obtain ⟨p, p1, rfl⟩ := conc_slc hd
      exact ⟨_, run _ _ _ hb, conc_vv m _, rfl⟩
    · simp only [Option.some.injEq] at he
      subst he
      obtain ⟨p, p1, rfl⟩ := conc_gsl hd
      exact ⟨_, run _ _ _ hb, conc_vv m _, rfl⟩
    · simp only [Option.some.injEq] at he
      subst he
      have := conc_v hd; subst this
      exact ⟨_, run _ _ _ hb, conc_vv m _, rfl⟩
    · cases he
  · cases he

/-! pointers alike, structs alike -/
theorem ptrEq_ok {op : BinOp} {T e' : TypeId} {ti te : TI} (ht : tiOf P T = some ti) (hs : ti.sh = .ptr e') (hte : tiOf P e' = some te) {ox oy : Operand} {b o b' o' : Nat} (he : ptrEqX op hp te.sz b o b' o' = some e) (hw : WR w0 M0 fr m h w) {x y : Value} (hx : conc m (.ptr b o) = some x) (hy : conc m (.ptr b' o') = some y) (hb : ∀ b ∈ e.rd, h b = hp.get b) :
    e.up = [] ∧ ∃ v, (do eqGuard op T ox oy x y; binOp op T x y : Sem Value).run P w = .ok v w ∧ conc m e.x = some v := by
  have hu := ti_ptr ht hs
  obtain ⟨inf, dd, z, g1, g2, g3, g4, g5, g6, g7, g8⟩ := tiOf_spec hte
  obtain ⟨p, p1, rfl⟩ := conc_ptr hx
  obtain ⟨q, q1, rfl⟩ := conc_ptr hy
  have eqr : ∀ r, te.sz ≠ 0 → (sameAddr ⟨p.1, o, none⟩ ⟨q.1, o', none⟩).run P w = .ok r w → (Op.equal T (.pointer (some ⟨p.1, o, none⟩)) (.pointer (some ⟨q.1, o', none⟩))).run P w = .ok r w := by
    intro r hz hr
    have hz' : inf.size ≠ 0 := by rw [g4]; exact hz
    show (Op.equalIn (9999 + 1) T _ _).run P w = _
    generalize 9999 = dd
    simp [Op.equalIn, run_underlying hu, sizeOf, typeInfo, g1, hz', hr]
  have fin : ∀ r, (Op.equal T (.pointer (some ⟨p.1, o, none⟩)) (.pointer (some ⟨q.1, o', none⟩))).run P w = .ok r w →
      (do eqGuard .eql T ox oy (.pointer (some ⟨p.1, o, none⟩)) (.pointer (some ⟨q.1, o', none⟩)); binOp .eql T (.pointer (some ⟨p.1, o, none⟩)) (.pointer (some ⟨q.1, o', none⟩)) : Sem Value).run P w = .ok (.bool r) w ∧
      (do eqGuard .neq T ox oy (.pointer (some ⟨p.1, o, none⟩)) (.pointer (some ⟨q.1, o', none⟩)); binOp .neq T (.pointer (some ⟨p.1, o, none⟩)) (.pointer (some ⟨q.1, o', none⟩)) : Sem Value).run P w = .ok (.bool !r) w := by
    intro r hr
    have k := run_bin_eql hr (by simp) (by simp) (by simp) (by simp)
    constructor
    · rw [Sem.run_bind, run_eqGuard _ _ _ _ _ _ (by simp) (by simp)]; simpa [Result.andThen] using k.1
    · rw [Sem.run_bind, run_eqGuard _ _ _ _ _ _ (by simp) (by simp)]; simpa [Result.andThen] using k.2
  have same : b = b' → (sameAddr ⟨p.1, o, none⟩ ⟨q.1, o', none⟩).run P w = .ok (decide (o = o')) w := by
    intro hbb
    subst hbb
    rw [p1] at q1
    simp only [Option.some.injEq] at q1
    subst q1
    simp only [sameAddr, beq_self_eq_true, if_true, Sem.run_pure]
    congr 1
    by_cases ho : o = o'
    · subst ho; simp
    · have : (({ block := p.1, off := o, spot := none } : Addr) == { block := p.1, off := o', spot := none }) = false := by simp [ho]
      rw [this]; simp [ho]
  have other : ∀ T1 l1 T2 l2, b ≠ b' → h b = some (.row T1 l1 (0, 0)) → h b' = some (.row T2 l2 (0, 0)) → (sameAddr ⟨p.1, o, none⟩ ⟨q.1, o', none⟩).run P w = .ok false w := by
    intro T1 l1 T2 l2 hbb h1 h2
    obtain ⟨o1, k1, us1, _, rfl⟩ := hw.at h1 p1
    obtain ⟨o2, k2, us2, _, rfl⟩ := hw.at h2 q1
    have hne : p.1 ≠ q.1 := by
      intro heq
      obtain ⟨pk, pc⟩ := p
      obtain ⟨qk, qc⟩ := q
      simp only at heq
      subst heq
      exact hbb (hw.inj b b' _ _ _ _ _ h1 h2 p1 q1)
    exact run_sameAddr_other w (fun heq => hne (by injection heq)) k1 k2
  unfold ptrEqX at he
  cases hz : Nat.beq te.sz 0 with
  | true => rw [hz, cond_true] at he; cases he
  | false =>
    rw [hz, cond_false] at he
    have hz' : te.sz ≠ 0 := Nat.ne_of_beq_eq_false hz
    split at he
    · cases hbb : Nat.beq b b' with
      | true =>
        rw [hbb, cond_true, Option.some.injEq] at he
        subst he
        exact ⟨rfl, _, (fin _ (eqr _ hz' (same (Nat.eq_of_beq_eq_true hbb)))).1, by rw [beq_eq]; exact bX_conc m _⟩
      | false =>
        rw [hbb, cond_false] at he
        split at he
        · rename_i T1 l1 T2 l2 h1 h2
          simp only [Option.some.injEq] at he
          subst he
          exact ⟨rfl, _, (fin _ (eqr _ hz' (other _ _ _ _ (Nat.ne_of_beq_eq_false hbb) ((hb b (by simp)).trans h1) ((hb b' (by simp)).trans h2)))).1, bX_conc m _⟩
        · cases he
    · cases hbb : Nat.beq b b' with
      | true =>
        rw [hbb, cond_true, Option.some.injEq] at he
        subst he
        exact ⟨rfl, _, (fin _ (eqr _ hz' (same (Nat.eq_of_beq_eq_true hbb)))).2, by rw [beq_eq]; exact bX_conc m _⟩
      | false =>
        rw [hbb, cond_false] at he
        split at he
        · rename_i T1 l1 T2 l2 h1 h2
          simp only [Option.some.injEq] at he
          subst he
          exact ⟨rfl, _, (fin _ (eqr _ hz' (other _ _ _ _ (Nat.ne_of_beq_eq_false hbb) ((hb b (by simp)).trans h1) ((hb b' (by simp)).trans h2)))).2, bX_conc m _⟩
        · cases he
    · cases he

theorem eqParts_ok (hti : ∀ t i, c.ti.get t = some i → tiOf c.P t = some i) {xs ys : List X} {us vs : List Value} (hx : concL m xs = some us) (hy : concL m ys = some vs) (d : Nat) : ∀ (l : List Field) (b : Bool), eqParts c xs ys l = some b → (Op.eqFields (d + 1) us.toArray vs.toArray l).run c.P w = .ok b w
  | [], b, he => by
    simp only [eqParts, Option.some.injEq] at he
    subst he
    simp [Op.eqFields]
  | f :: l, b, he => by
    unfold eqParts at he
    cases hf : (f.name == "_") with
    | true => rw [hf, cond_true] at he; cases he
    | false =>
      rw [hf, cond_false] at he
      have hne : f.name ≠ "_" := by simpa using hf
      have pt : ∀ {zs : List X} {ws : List Value} {x : X} {u : Value} {ti : TI}, concL m zs = some ws → nth zs f.offset = some x → conc m x = some u → c.ti.get f.type = some ti → (∀ fs, ti.sh ≠ .struct fs) → (∀ n e, ti.sh ≠ .arr n e) → ti.ag = false → (part f.type ws.toArray f.offset).run c.P w = .ok u w := by
        intro zs ws x u ti hz hn hcx hg _ _ hag
        rw [nth_eq] at hn
        obtain ⟨u', k1, k2⟩ := concL_get hz hn
        rw [hcx] at k2
        simp only [Option.some.injEq] at k2
        subst k2
        simp [part, run_isAgg' (hti _ _ hg), hag, k1]
      split at he
      · rename_i k a k' b' ti h1 h2 h3
        split at he
        · rename_i kk hsh
          have hag : ti.ag = false := by
            obtain ⟨_, dd, _, _, g2, _, _, g5, _, _, g8⟩ := tiOf_spec (hti _ _ h3)
            rw [hsh] at g8
            rw [← g5]
            cases dd <;> simp only [Go.Ab.shOf] at g8 <;> first | rfl | (cases g8; done) | (split at g8 <;> cases g8)
          replace he := bif_inv he
          obtain ⟨hk, he⟩ := he
          rw [kEq_eq, decide_eq_true_eq] at hk
          subst hk
          have r1 := pt hx h1 (conc_vv m _) h3 (by rw [hsh]; simp) (by rw [hsh]; simp) hag
          have r2 := pt hy h2 (conc_vv m _) h3 (by rw [hsh]; simp) (by rw [hsh]; simp) hag
          have r3 := run_equalIn_int (P := c.P) w d f.type k kk a b' (ti_int (hti _ _ h3) hsh)
          rw [ieq_eq] at he
          by_cases hab : a = b'
          · subst hab
            simp only [decide_true, cond_true] at he
            have ih := eqParts_ok hti hx hy d l b he
            simp only [Op.eqFields, if_pos hne, Sem.run_bind, r1, r2, r3, Result.andThen, beq_self_eq_true, Bool.not_true, Bool.false_eq_true, if_false]
            exact ih
          · simp only [hab, decide_false, cond_false, Option.some.injEq] at he
            subst he
            have : (a == b') = false := by simpa using hab
            simp only [Op.eqFields, if_pos hne, Sem.run_bind, r1, r2, r3, Result.andThen, this, Bool.not_false, if_true, Sem.run_pure]
        · cases he
      · rename_i a b' ti h1 h2 h3
        split at he
        · rename_i hsh
          have hag : ti.ag = false := by
            obtain ⟨_, dd, _, _, g2, _, _, g5, _, _, g8⟩ := tiOf_spec (hti _ _ h3)
            rw [hsh] at g8
            rw [← g5]
            cases dd <;> simp only [Go.Ab.shOf] at g8 <;> first | rfl | (cases g8; done) | (split at g8 <;> cases g8)
          have r1 := pt hx h1 (conc_vv m _) h3 (by rw [hsh]; simp) (by rw [hsh]; simp) hag
          have r2 := pt hy h2 (conc_vv m _) h3 (by rw [hsh]; simp) (by rw [hsh]; simp) hag
          have r3 := run_equalIn_bool' (P := c.P) w d f.type a b' (ti_bool (hti _ _ h3) hsh)
          have hbb : (bif a then b' else !b') = (a == b') := by cases a <;> cases b' <;> rfl
          rw [hbb] at he
          cases hab : (a == b') with
          | true =>
            rw [hab, cond_true] at he
            have ih := eqParts_ok hti hx hy d l b he
            simp only [Op.eqFields, if_pos hne, Sem.run_bind, r1, r2, r3, Result.andThen, hab, Bool.not_true, Bool.false_eq_true, if_false]
            exact ih
          | false =>
            rw [hab, cond_false, Option.some.injEq] at he
            subst he
            simp only [Op.eqFields, if_pos hne, Sem.run_bind, r1, r2, r3, Result.andThen, hab, Bool.not_false, if_true, Sem.run_pure]
        · cases he
      · cases he
theorem eqAgg_ok (hti : ∀ t i, c.ti.get t = some i → tiOf c.P t = some i) {op : BinOp} {T : TypeId} {ox oy : Operand} {xs ys : List X} {r : X} (he : cmpX op (eqAggX c T xs ys) = some r) {x y : Value} (hx : conc m (.agg xs) = some x) (hy : conc m (.agg ys) = some y) :
    ∃ v, (do eqGuard op T ox oy x y; binOp op T x y : Sem Value).run c.P w = .ok v w ∧ conc m r = some v := by
  obtain ⟨us, h1, rfl⟩ := conc_agg hx
  obtain ⟨vs, h2, rfl⟩ := conc_agg hy
  unfold cmpX at he
  split at he
  · rename_i b hb
    unfold eqAggX at hb
    split at hb
    · rename_i fs hfs
      cases hgd : (c.P.stoodInHeld T || c.P.eqGuardType c.P.depth T) with
      | true => rw [hgd, cond_true] at hb; cases hb
      | false =>
        rw [hgd, cond_false] at hb
        rw [Bool.or_eq_false_iff] at hgd
        have hfo : c.P.fieldsOf T = fs := by simp [Program.fieldsOf, hfs]
        have run := run_equalIn_struct (P := c.P) w 9999 T us.toArray vs.toArray (by rw [hfo]; exact hfs) hgd.1
        rw [hfo, eqParts_ok hti h1 h2 9998 fs.toList b hb] at run
        have gd : ∀ op, (eqGuard op T ox oy (.agg us.toArray) (.agg vs.toArray)).run c.P w = .ok () w := fun op => run_eqGuard_agg w op T ox oy _ _ hgd.2
        split at he
        · simp only [Option.some.injEq] at he; subst he
          refine ⟨.bool b, ?_, bX_conc m b⟩
          rw [Sem.run_bind, gd]
          have := run_eql_struct (P := c.P) w T us.toArray vs.toArray
          rw [run] at this
          simpa [Result.andThen] using this
        · simp only [Option.some.injEq] at he; subst he
          refine ⟨.bool !b, ?_, bX_conc m _⟩
          rw [Sem.run_bind, gd]
          have := run_neq_struct (P := c.P) w T us.toArray vs.toArray
          rw [run] at this
          simpa [Result.andThen] using this
        · cases he
    · cases hb
  · cases he

/-! unsafe pointers and strings -/
theorem isUP_inv {t : TypeId} (h : isUP c t = true) : c.P.underlying t = some .unsafePointer := by
  unfold isUP at h
  split at h
  · assumption
  · cases h
theorem up_ok {s d e' : TypeId} {ts te : TI} (hs : tiOf P s = some ts) (hsh : ts.sh = .ptr e') (hte : tiOf P e' = some te) (hd : P.underlying d = some .unsafePointer) {x : X} (he : upX te.sz hp x = some e) (hw : WR w0 M0 fr m h w) {v : Value} (hv : conc m x = some v) (hb : ∀ b ∈ e.rd, h b = hp.get b) :
    e.up = [] ∧ ∃ u, (convert s d v).run P w = .ok u w ∧ conc m e.x = some u := by
  have hu := ti_ptr hs hsh
  obtain ⟨inf, dd, z, g1, g2, g3, g4, g5, g6, g7, g8⟩ := tiOf_spec hte
  unfold upX at he
  split at he
  · rename_i b o
    cases hz : Nat.beq te.sz 0 with
    | true => rw [hz, cond_true] at he; cases he
    | false =>
      rw [hz, cond_false] at he
      have hz' : te.sz ≠ 0 := Nat.ne_of_beq_eq_false hz
      split at he
      · rename_i T l fz hblk
        replace he := bif_inv he
        obtain ⟨ho, he⟩ := he
        rw [blt_eq, lenL_eq, decide_eq_true_eq] at ho
        simp only [Option.some.injEq] at he
        subst he
        obtain ⟨p, p1, rfl⟩ := conc_ptr hv
        obtain ⟨ob, k1, us, k2, rfl⟩ := hw.at ((hb b (by simp)).trans hblk) p1
        refine ⟨rfl, _, Lib.run_to_unsafe (P := P) (cells := us.length) w ⟨p.1, o, none⟩ hu hd g1 (by rw [g4]; exact hz') (by simp [World.shape?, k1]; rfl) (by have := concL_length k2; simp; omega), hv⟩
      · cases he
  · have := pX_inv he; subst this
    have := conc_v hv; subst this
    exact ⟨rfl, _, by simp [convert, run_underlying hu, run_underlying hd, Conv.unsafePointer], conc_vv m _⟩
  · cases he
theorem pv_ok {s d e' : TypeId} {td te : TI} (hd : tiOf c.P d = some td) (hsh : td.sh = .ptr e') (hte : tiOf c.P e' = some te) (hs : c.P.underlying s = some .unsafePointer) {x : X} (he : pvX c e' hp x = some e) (hw : WR w0 M0 fr m h w) {v : Value} (hv : conc m x = some v) (hb : ∀ b ∈ e.rd, h b = hp.get b) :
    e.up = [] ∧ ∃ u, (convert s d v).run c.P w = .ok u w ∧ conc m e.x = some u := by
  have hu := ti_ptr hd hsh
  obtain ⟨inf, dd, z, g1, g2, g3, g4, g5, g6, g7, g8⟩ := tiOf_spec hte
  unfold pvX at he
  split at he
  · rename_i b o
    split at he
    · rename_i T l fz hblk
      replace he := bif_inv he
      obtain ⟨ho, he⟩ := he
      simp only [Option.some.injEq] at he
      subst he
      obtain ⟨p, p1, rfl⟩ := conc_ptr hv
      obtain ⟨ob, k1, us, k2, rfl⟩ := hw.at ((hb b (by simp)).trans hblk) p1
      refine ⟨rfl, _, Lib.run_from_unsafe (P := c.P) (e := T) (cells := us.length) w ⟨p.1, o, none⟩ hs hu g1 (by simp [World.shape?, k1]) (by rw [concL_length k2, ← lenL_eq]; exact ho), hv⟩
    · cases he
  · have := pX_inv he; subst this
    have := conc_v hv; subst this
    exact ⟨rfl, _, by simp [convert, run_underlying hu, run_underlying hs, Conv.unsafePointer], conc_vv m _⟩
  · cases he
theorem sd_ok {ts : Array TypeId} {ty : TypeId} {x : X} (he : sdX hp x = some e) (hw : WR w0 M0 fr m h w) {v : Value} (hv : conc m x = some v) (hb : ∀ b ∈ e.rd, h b = hp.get b) :
    e.up = [] ∧ ∃ u, (Builtin.unsafeSliceData_ ts ty #[v]).run P w = .ok u w ∧ conc m e.x = some u := by
  unfold sdX at he
  split at he
  · have := pX_inv he; subst this
    have := conc_v hv; subst this
    exact ⟨rfl, _, rfl, conc_vv m _⟩
  · rename_i b o len cap
    cases hz : Nat.beq cap 0 with
    | true => rw [hz, cond_true] at he; cases he
    | false =>
      rw [hz, cond_false] at he
      have := pX_inv he; subst this
      obtain ⟨p, p1, rfl⟩ := conc_slc hv
      exact ⟨rfl, _, Lib.run_unsafeSliceData_row (P := P) w ts ty _ _ _ (Nat.ne_of_beq_eq_false hz), by simp [conc, p1]⟩
  · rename_i b i len sz
    cases hz : Nat.beq len 0 with
    | true => rw [hz, cond_true] at he; cases he
    | false =>
      rw [hz, cond_false] at he
      split at he
      · rename_i T cs sz' fz hblk
        replace he := bif_inv he
        obtain ⟨hA, he⟩ := he
        simp only [Bool.and_eq_true, beq_eq, blt_eq, ble_eq, lenL_eq, decide_eq_true_eq] at hA
        obtain ⟨⟨rfl, h0⟩, hl⟩ := hA
        simp only [Option.some.injEq] at he
        subst he
        obtain ⟨p, p1, rfl⟩ := conc_gsl hv
        have room := grow_room (i := i) (len := len) hw ((hb b (by simp)).trans hblk) p1 h0 hl
        have hz' := Nat.ne_of_beq_eq_false hz
        exact ⟨rfl, _, Lib.run_unsafeSliceData_row (P := P) w ts ty _ _ _ (by omega), by simp [conc, p1]⟩
      · cases he
  · cases he
theorem frz_eq (fz : Nat × Nat) (n : Nat) : frz fz 0 n = (if fz.1 == fz.2 then (0, 0 + n) else (min fz.1 0, max fz.2 (0 + n))) := by
  unfold frz
  rw [beq_eq]
  by_cases hf : fz.1 = fz.2
  · simp [hf]
  · have : (fz.1 == fz.2) = false := by simpa using hf
    rw [this]
    simp [hf]
theorem u8s_ok : ∀ {ns : List X} {l : List UInt8} {us : List Value}, u8s ns = some l → concL m ns = some us → us = l.map fun b => Value.int .u8 b.toNat
  | [], l, us, h1, h2 => by
    simp only [u8s, Option.some.injEq] at h1
    simp only [concL, Option.some.injEq] at h2
    subst h1 h2
    rfl
  | x :: ns, l, us, h1, h2 => by
    obtain ⟨v, vs, k1, k2, rfl⟩ := concL_cons.1 h2
    unfold u8s at h1
    split at h1
    · rename_i heq; cases heq
    · rename_i k l' heq
      injection heq with e1 e2
      subst e1 e2
      replace h1 := bif_inv h1
      obtain ⟨hk, h1⟩ := h1
      rw [blt_eq, decide_eq_true_eq] at hk
      split at h1
      · rename_i r hr
        simp only [Option.some.injEq] at h1
        subst h1
        have := conc_v k1
        subst this
        rw [u8s_ok hr k2, List.map_cons]
        congr 2
        simp
        omega
      · cases h1
    · cases h1
theorem ustr_ok (hti : ∀ t i, c.ti.get t = some i → tiOf c.P t = some i) {pt it ty e' : TypeId} {ti : TI} (ht : tiOf c.P pt = some ti) (hs : ti.sh = .ptr e') {x n : X} (he : ustrX c e' hp x n = some e) (hw : WR w0 M0 fr m h w) {vx vn : Value} (hx : conc m x = some vx) (hn : conc m n = some vn) (hb : ∀ b ∈ e.rd, h b = hp.get b) :
    ∃ u w', (Builtin.unsafeString_ #[pt, it] ty #[vx, vn]).run c.P w = .ok u w' ∧ Left w0 M0 fr m h id e u w' := by
  have hu := ti_ptr ht hs
  unfold ustrX at he
  split at he
  · rename_i n
    have := conc_v hn; subst this
    cases hz : Nat.beq n 0 with
    | true =>
      rw [hz, cond_true] at he
      have hz' := Nat.eq_of_beq_eq_true hz
      subst hz'
      split at he
      · rename_i b o
        have := pX_inv he; subst this
        obtain ⟨p, p1, rfl⟩ := conc_ptr hx
        exact ⟨_, w, Lib.run_unsafeString_none (P := c.P) w pt it ty _, m, Le.refl m, conc_vv m _, hw.less fun b hb => hb.1⟩
      · have := pX_inv he; subst this
        have := conc_v hx; subst this
        exact ⟨_, w, Lib.run_unsafeString_none (P := c.P) w pt it ty _, m, Le.refl m, conc_vv m _, hw.less fun b hb => hb.1⟩
      · cases he
    | false =>
      rw [hz, cond_false] at he
      have hz' := Nat.ne_of_beq_eq_false hz
      split at he
      · rename_i b o
        split at he
        · rename_i T l sz fz hblk
          replace he := tyq_inv he
          obtain ⟨te, hte0, he⟩ := he
          have hte := hti _ _ hte0
          replace he := bif_inv he
          obtain ⟨hA, he⟩ := he
          simp only [Bool.and_eq_true, beq_eq, ble_eq, decide_eq_true_eq] at hA
          obtain ⟨⟨⟨⟨h1, rfl⟩, rfl⟩, rfl⟩, h5⟩ := hA
          obtain ⟨h6, h7⟩ := isU8_inv h1
          split at he
          · rename_i r hr
            split at he
            · rename_i q hq
              simp only [Option.some.injEq] at he
              subst he
              obtain ⟨p, p1, rfl⟩ := conc_ptr hx
              obtain ⟨ob, k1, us, tail, k2, rfl, k3⟩ := hw.at ((hb b (by simp)).trans hblk) p1
              obtain ⟨t1, t2⟩ := takeN_eq hr
              have hl := concL_length k2
              have k4 : concL m r = some (us.take n) := by rw [t1]; exact concL_take k2
              have k5 := u8s_ok hq k4
              have hql : q.length = n := by
                have := congrArg List.length k5
                simp only [List.length_take, List.length_map] at this
                omega
              obtain ⟨inf, dd, z, g1, g2, g3, g4, g5, g6, g7, g8⟩ := tiOf_spec hte
              have run := Lib.run_unsafeString_row (P := c.P) w pt it ty T hu (by simp [Program.cellsOf, g1, g4, h7]) p.1 (us ++ tail).length (by simp [World.shape?, k1]) q (by intro h0; subst h0; simp at hql; omega) (by simp; omega) (by omega) (fun j y hy => by
                rw [addr_add, Nat.zero_add]
                have : us[j]? = some (.int .u8 y.toNat) := by
                  have hj : j < n := by rw [← hql]; exact (List.getElem?_eq_some_iff.1 hy).1
                  have e1 : (us.take n)[j]? = us[j]? := List.getElem?_take_of_lt hj
                  rw [← e1, k5, List.getElem?_map, hy]; rfl
                exact cells_at k1 this)
              rw [hql] at run
              refine ⟨_, _, run, m, Le.refl m, conc_vv m _, ?_⟩
              have hwr : Wrote p.1 w (w.freeze ⟨p.1, 0, none⟩ n) := by
                unfold World.freeze
                rw [if_neg hz']
                exact ⟨rfl, rfl, rfl, by simp, fun j hj => by simp only [Array.getElem?_modify]; rw [if_neg (fun e => hj e.symm)]⟩
              have hne : (w.freeze ⟨p.1, 0, none⟩ n).heap[p.1]? = some (.cells (us ++ tail).toArray T (frz fz 0 n)) := by
                unfold World.freeze
                rw [if_neg hz', frz_eq]
                simp only [Array.getElem?_modify, k1, if_true, Option.map_some]
              exact (hw.wrote ((hb b (by simp)).trans hblk) p1 hwr (.grow T l 1 (frz fz 0 n)) _ hne ⟨us, tail, k2, rfl, k3⟩).less fun b hb => hb.1
            · cases he
          · cases he
        · cases he
      · cases he
  · cases he
end
end Go.Ex
/- The exact evaluator, part 9d: least and greatest; functions that have no text of their own. -/
namespace Go.Ex
open Go.RowKit
open Go.Ab (TI Sh setL tiOf Wrote tiOf_spec ti_bool ti_str ti_int ti_ptr ti_map ti_arr ti_struct run_slice_elem run_isAgg' run_sizeOf' run_zeroValue' addr_add Holds' aggOf cells_one zero_cells run_firstCells')
open Go.Extern (BytealgCompare.compare AbiNoEscape.same)
section
variable {P : Program} {G : Tr (List Value)} {id : Nat} {ev : Operand → X} {hp : Tr B} {e : Ef} {c : Cx}
variable {w0 : World} {M0 fr : Nat → Prop} {m : Mu} {h : Nat → Option B} {w : World}

/-! least and greatest -/
theorem foldM_ok {f : X → X → Rs} {g : Value → Value → Sem Value} (hf : ∀ x y e u v, f x y = some e → conc m x = some u → conc m y = some v → e.up = [] ∧ e.rd = [] ∧ ∃ r, (g u v).run P w = .ok r w ∧ conc m e.x = some r) :
    ∀ (l : List X) (x : X) (u : Value) (vs : List Value) (e : Ef), foldM f x l = some e → conc m x = some u → concL m l = some vs → e.up = [] ∧ e.rd = [] ∧ ∃ r, (vs.foldlM g u).run P w = .ok r w ∧ conc m e.x = some r
  | [], x, u, vs, e, he, hx, hl => by
    simp only [foldM] at he
    have := pX_inv he; subst this
    simp only [concL, Option.some.injEq] at hl
    subst hl
    exact ⟨rfl, rfl, u, by simp, hx⟩
  | y :: l, x, u, vs, e, he, hx, hl => by
    obtain ⟨v, vs', k1, k2, rfl⟩ := concL_cons.1 hl
    simp only [foldM] at he
    split at he
    · rename_i e1 h1
      obtain ⟨_, _, r, r1, r2⟩ := hf _ _ _ _ _ h1 hx k1
      obtain ⟨a1, a2, q, q1, q2⟩ := foldM_ok hf l e1.x r vs' e he r2 k2
      exact ⟨a1, a2, q, by simp [List.foldlM_cons, r1, q1], q2⟩
    · cases he
theorem min2_ok {x y : X} {e : Ef} {u v : Value} (he : minX x y = some e) (hx : conc m x = some u) (hy : conc m y = some v) : e.up = [] ∧ e.rd = [] ∧ ∃ r, (Builtin.min2 u v).run P w = .ok r w ∧ conc m e.x = some r := by
  obtain ⟨h1, h2, r, h3, h4⟩ := min_ok (P := P) (w := w) (ts := #[]) (t := 0) he hx hy
  refine ⟨h1, h2, r, ?_, h4⟩
  have : Builtin.min_ #[] 0 #[u, v] = [v].foldlM Builtin.min2 u := rfl
  rw [this] at h3
  simpa using h3
theorem max2_ok {x y : X} {e : Ef} {u v : Value} (he : maxX x y = some e) (hx : conc m x = some u) (hy : conc m y = some v) : e.up = [] ∧ e.rd = [] ∧ ∃ r, (Builtin.max2 u v).run P w = .ok r w ∧ conc m e.x = some r := by
  obtain ⟨h1, h2, r, h3, h4⟩ := max_ok (P := P) (w := w) (ts := #[]) (t := 0) he hx hy
  refine ⟨h1, h2, r, ?_, h4⟩
  have : Builtin.max_ #[] 0 #[u, v] = [v].foldlM Builtin.max2 u := rfl
  rw [this] at h3
  simpa using h3

/-! functions without a text -/
def Ext.entry : Ext → Array Value → Sem Value
  | .noEscape => Extern.AbiNoEscape.same
  | .idxByte => Extern.BytealgIndexByte.indexByte
  | .cmpStr => Extern.BytealgCompare.compare
  | .valueOf => fun args => Extern.ReflectliteValue.unpack (args.getD 0 (.tuple #[]))
  | .rlLen => Extern.ReflectliteValue.method (Extern.ReflectliteValue.valueError "reflectlite.Value.Len" 0) Extern.ReflectliteValue.len
  | .swapper _ _ _ => Extern.ReflectliteSwapper.swapper "internal/reflectlite" (Extern.ReflectliteValue.valueError "Swapper")
  | .swap9 => Extern.ReflectliteSwapper.swap false
/-- The functions that Swapper hands back. -/
def Ext.fits (P : Program) : Ext → Prop
  | .swapper f1 f2 f9 => P.funcs.findIdx? (·.name == "internal/reflectlite" ++ ".Swapper$" ++ toString 1) = some f1 ∧ P.funcs.findIdx? (·.name == "internal/reflectlite" ++ ".Swapper$" ++ toString 2) = some f2 ∧ P.funcs.findIdx? (·.name == "internal/reflectlite" ++ ".Swapper$" ++ toString 9) = some f9
  | _ => True

theorem idxBX_eq (c : Nat) : ∀ (l : List UInt8) (i : Nat), idxBX c l i = if Lib.indexByte l c.toUInt8 == -1 then -1 else Lib.indexByte l c.toUInt8 + i
  | [], i => rfl
  | x :: l, i => by
    have hx : (x == c.toUInt8) = decide (x.toNat = c % 256) := by
      rw [Bool.eq_iff_iff, beq_iff_eq, decide_eq_true_eq, ← UInt8.toNat_inj]
      simp
    unfold idxBX Lib.indexByte
    rw [hx, beq_eq, idxBX_eq c l (Nat.succ i)]
    have hm : Nat.mod c 256 = c % 256 := rfl
    rw [hm]
    by_cases h1 : x.toNat = c % 256
    · simp [h1]
    · have hge := Lib.indexByte_ge l c.toUInt8
      by_cases h2 : Lib.indexByte l c.toUInt8 = -1
      · simp [h1, h2]
      · have h3 : ¬ Lib.indexByte l c.toUInt8 + 1 = -1 := by omega
        simp [h1, h2, h3]
        omega
theorem cmpLX_eq : ∀ (a b : List UInt8), cmpLX a b = Lib.compareBytes a b
  | [], [] => rfl
  | [], _ :: _ => rfl
  | _ :: _, [] => rfl
  | x :: a, y :: b => by
    simp only [cmpLX, Lib.compareBytes, beq_eq, blt_eq, cmpLX_eq a b, UInt8.lt_iff_toNat_lt]
    by_cases h1 : x.toNat = y.toNat
    · simp [h1]
    · by_cases h2 : x.toNat < y.toNat
      · simp [h1, h2]
      · have h3 : y.toNat < x.toNat := by omega
        simp [h1, h2, h3]
theorem slcLen_ok {x : X} {n : Nat} (h : slcLen x = some n) {v : Value} (hv : conc m x = some v) : ∃ A cap, v = .slice A n cap := by
  unfold slcLen at h
  split at h
  · simp only [Option.some.injEq] at h; subst h
    obtain ⟨p, _, rfl⟩ := conc_slc hv
    exact ⟨_, _, rfl⟩
  · simp only [Option.some.injEq] at h; subst h
    obtain ⟨p, _, rfl⟩ := conc_gsl hv
    exact ⟨_, _, rfl⟩
  · simp only [Option.some.injEq] at h; subst h
    have := conc_v hv; subst this
    exact ⟨_, _, rfl⟩
  · cases h
theorem isSlT_inv {t : TypeId} (h : isSlT c t = true) : ∃ i e', c.P.info? t = some i ∧ i.desc = .slice e' ∧ c.P.packed t = false := by
  unfold isSlT at h
  split at h
  · rename_i i hi
    split at h
    · rename_i e' hd
      exact ⟨i, e', hi, hd, by simpa using h⟩
    · cases h
  · cases h
theorem rowOf_withRow {blk : B} {T : TypeId} {l l' : List X} {fz : Nat × Nat} (h : rowOf blk = some (T, l, fz)) : rowOf (withRow blk l') = some (T, l', fz) := by
  cases blk <;> simp [rowOf, withRow] at h ⊢ <;> exact ⟨h.1, h.2.2⟩
theorem withRow_two (blk : B) (l l' : List X) : withRow (withRow blk l) l' = withRow blk l' := by cases blk <;> rfl

theorem swapAt_ok {e' : TypeId} {te : TI} (hte : tiOf P e' = some te) (hag : te.ag = true) {b o len i j : Nat} (he : swapAt hp te.sz b o len i j = some e) (hw : WR w0 M0 fr m h w) {p : Nat × Nat} (hm : m b = some p) (hb : ∀ b ∈ e.rd, h b = hp.get b) (cap : Nat) :
    ∃ w', (Extern.ReflectliteSwapper.swap false #[.int .i64 i, .int .i64 j, .slice (some ⟨p.1, o, none⟩) len cap, typeHandle P e']).run P w = .ok (.tuple #[]) w' ∧ e.x = .v (.tuple #[]) ∧ WR w0 M0 fr m (upL e.up h) w' := by
  unfold swapAt at he
  replace he := bif_inv he
  obtain ⟨hA, he⟩ := he
  simp only [Bool.and_eq_true, blt_eq, decide_eq_true_eq] at hA
  obtain ⟨⟨hi, hj⟩, h0⟩ := hA
  split at he
  · rename_i blk hblk
    split at he
    · rename_i T l fz hrow
      split at he
      · rename_i x y hx hy
        replace he := bif_inv he
        obtain ⟨hB, he⟩ := he
        simp only [Bool.and_eq_true] at hB
        obtain ⟨⟨⟨t1, t2⟩, o1⟩, o2⟩ := hB
        split at he
        · rename_i l1 hl1
          split at he
          · rename_i l2 hl2
            simp only [Option.some.injEq] at he
            subst he
            have hhb := (hb b (by simp)).trans hblk
            obtain ⟨ob, k1, k2⟩ := hw.at hhb hm
            obtain ⟨us, tail, k3, rfl, k4⟩ := rowOf_rel hrow k2
            obtain ⟨x1, x2⟩ := piece_eq hx
            obtain ⟨y1, y2⟩ := piece_eq hy
            have hl := concL_length k3
            have ei : Nat.add o (Nat.mul i te.sz) = o + i * te.sz := rfl
            have ej : Nat.add o (Nat.mul j te.sz) = o + j * te.sz := rfl
            rw [ei] at x1 x2 t1 hl1
            rw [ej] at y1 y2 t2 hl2
            let xs := (us.drop (o + i * te.sz)).take te.sz
            let ys := (us.drop (o + j * te.sz)).take te.sz
            have cx : concL m x = some xs := by rw [x1]; exact concL_take (concL_drop k3)
            have cy : concL m y = some ys := by rw [y1]; exact concL_take (concL_drop k3)
            have lx : xs.length = te.sz := by simp [xs]; omega
            have ly : ys.length = te.sz := by simp [ys]; omega
            have rx := (run_loadVar_row (P := P) hte k1 (o + i * te.sz)).1 hag (by omega)
            have ry := (run_loadVar_row (P := P) hte k1 (o + j * te.sz)).1 hag (by omega)
            have hxl : x.length = te.sz := by rw [← concL_length cx]; exact lx
            have hyl : y.length = te.sz := by rw [← concL_length cy]; exact ly
            obtain ⟨wa, sa1, sa2⟩ := store_block (P := P) hw hhb hm hrow cy hl1 (by rw [hyl]; exact t1) (allOne_conc o2 cy)
            obtain ⟨wb, sb1, sb2⟩ := store_block (P := P) (blk := withRow blk l1) sa2 (by simp [upd]) hm (rowOf_withRow hrow) cx hl2 (by rw [hxl]; exact t2) (allOne_conc o1 cx)
            rw [withRow_two] at sb2
            refine ⟨wb, ?_, rfl, ?_⟩
            · rw [Lib.rl_swap]
              have i0 : ¬ ((i : Int) < 0) := by omega
              have i1 : ¬ ((i : Int) ≥ len) := by omega
              have j0 : ¬ ((j : Int) < 0) := by omega
              have j1 : ¬ ((j : Int) ≥ len) := by omega
              have sv : ∀ (w1 w2 : World) (q : Nat) (zs : List Value), zs.length = te.sz → (storeCells ⟨p.1, q, none⟩ zs).run P w1 = .ok () w2 → (storeVar e' ⟨p.1, q, none⟩ (.agg zs.toArray)).run P w1 = .ok () w2 := by
                intro w1 w2 q zs hz hs
                simp [storeVar, Value.cells, run_sizeOf' hte, hz, hs]
              have s1 := sv _ _ _ _ ly sa1
              have s2 := sv _ _ _ _ lx sb1
              have rx' : (loadVar e' ⟨p.1, o + i * te.sz, none⟩).run P w = .ok (.agg xs.toArray) w := rx
              have ry' : (loadVar e' ⟨p.1, o + j * te.sz, none⟩).run P w = .ok (.agg ys.toArray) w := ry
              simp [i0, i1, j0, j1, Extern.Rtype.ofHandle, handleType, typeHandle, Extern.ReflectliteSwapper.exchange, run_sizeOf' hte, addr_add, rx', ry', s1, s2]
            · have : upL [(b, some (withRow blk l2))] h = upd (upd h b (some (withRow blk l1))) b (some (withRow blk l2)) := by
                funext y
                simp only [upL, upd]
                by_cases hy : b = y <;> simp [hy]
              rw [this]
              exact sb2
          · cases he
        · cases he
      · cases he
    · cases he
  · cases he

theorem ti_struct_ag {t : TypeId} {ti : TI} {fs : List (Nat × Nat × Bool)} (h : tiOf P t = some ti) (hs : ti.sh = .struct fs) : ∃ l, P.underlying t = some (.struct l) := by
  obtain ⟨l, h1, h2⟩ := ti_struct h hs
  exact ⟨l, h1⟩
theorem run_kind_struct {t : TypeId} {l : Array Field} (hu : P.underlying t = some (.struct l)) (w : World) : (Extern.Rtype.kind t).run P w = .ok 25 w := by
  unfold Program.underlying at hu
  cases hi : P.info? t with
  | none => rw [hi] at hu; cases hu
  | some i =>
    rw [hi] at hu
    obtain ⟨d, s1, s2, s3, s4, s5, s6, s7, s8, s9⟩ := i
    cases d with
    | named nm u =>
      simp only at hu
      cases hj : P.info? u with
      | none => rw [hj] at hu; cases hu
      | some j =>
        rw [hj] at hu
        simp only [Option.map_some, Option.some.injEq] at hu
        simp [Extern.Rtype.kind, Extern.Rtype.under, typeInfo, hi, hj, hu]
    | _ =>
      simp only [Option.some.injEq] at hu
      cases hu
      try simp [Extern.Rtype.kind, Extern.Rtype.under, typeInfo, hi]
theorem extX_ok (hti : ∀ t i, c.ti.get t = some i → tiOf c.P t = some i) {x : Ext} (hfit : x.fits c.P) {args : List X} (he : extX c x id hp args = some e) (hw : WR w0 M0 fr m h w) (hid : fr id) {us : List Value} (ha : concL m args = some us) (hb : ∀ b ∈ e.rd, h b = hp.get b) :
    ∃ v w', (x.entry us.toArray).run c.P w = .ok v w' ∧ Left w0 M0 fr m h id e v w' := by
  unfold extX at he
  split at he
  · -- noEscape
    rename_i y
    have := pX_inv he; subst this
    obtain ⟨u, vs, k1, k2, rfl⟩ := concL_cons.1 ha
    simp only [concL, Option.some.injEq] at k2
    subst k2
    exact ⟨u, w, rfl, m, Le.refl m, k1, hw.less fun b hb => hb.1⟩
  · -- cmpStr
    rename_i a b
    have := pX_inv he; subst this
    obtain ⟨u, vs, k1, k2, rfl⟩ := concL_cons.1 ha
    obtain ⟨u', vs', k3, k4, rfl⟩ := concL_cons.1 k2
    simp only [concL, Option.some.injEq] at k4
    subst k4
    have := conc_v k1; have := conc_v k3; subst u u'
    refine ⟨_, w, Lib.run_compareString (P := c.P) (w := w) a b, m, Le.refl m, ?_, hw.less fun b hb => hb.1⟩
    simp only [conc, strL, cmpLX_eq]
  · -- valueOf
    rename_i t y
    replace he := bif_inv he
    obtain ⟨hs, he⟩ := he
    obtain ⟨i, e', hi, hd, hpk⟩ := isSlT_inv hs
    split at he
    · rename_i n hn
      simp only [Option.some.injEq] at he
      subst he
      obtain ⟨u, vs, k1, k2, rfl⟩ := concL_cons.1 ha
      simp only [concL, Option.some.injEq] at k2
      subst k2
      obtain ⟨u', k3, rfl⟩ := conc_iface k1
      obtain ⟨A, cap, rfl⟩ := slcLen_ok hn k3
      obtain ⟨q1, q2⟩ := row_new (T' := t) hw hid (concL_cons.2 ⟨_, _, k3, concL_nil, rfl⟩)
      refine ⟨_, _, Lib.run_valueOf_slice (P := c.P) t e' i hi hd A n cap w, _, q1, ?_, q2⟩
      simp [conc, concL, mset_self]
    · cases he
  · -- Len
    rename_i g t b o
    replace he := bif_inv he
    obtain ⟨hs, he⟩ := he
    rw [Bool.and_eq_true, beq_eq, decide_eq_true_eq] at hs
    obtain ⟨rfl, hs⟩ := hs
    obtain ⟨i, e', hi, hd, hpk⟩ := isSlT_inv hs
    split at he
    · rename_i T l fz hblk
      split at he
      · rename_i y hy
        split at he
        · rename_i n hn
          simp only [Option.some.injEq] at he
          subst he
          obtain ⟨u, vs, k1, k2, rfl⟩ := concL_cons.1 ha
          simp only [concL, Option.some.injEq] at k2
          subst k2
          obtain ⟨us, k3, rfl⟩ := conc_agg k1
          obtain ⟨v1, r1, l1, l2, rfl⟩ := concL_cons.1 k3
          obtain ⟨v2, r2, l3, l4, rfl⟩ := concL_cons.1 l2
          obtain ⟨v3, r3, l5, l6, rfl⟩ := concL_cons.1 l4
          simp only [concL, Option.some.injEq] at l6
          subst l6
          have := conc_v l1; have := conc_v l5; subst v1 v3
          obtain ⟨p, p1, rfl⟩ := conc_ptr l3
          obtain ⟨ob, g1, ws, g2, rfl⟩ := hw.at ((hb b (by simp)).trans hblk) p1
          rw [nth_eq] at hy
          obtain ⟨u, g3, g4⟩ := concL_get g2 hy
          obtain ⟨A, cap, rfl⟩ := slcLen_ok hn g4
          refine ⟨_, w, Lib.run_valueLen_slice (P := c.P) t e' i hi hd hpk ⟨p.1, o, none⟩ A n cap w ?_, m, Le.refl m, conc_vv m _, hw.less fun b hb => hb.1⟩
          have := cells_at (tail := []) (by simpa using g1) g3
          exact this
        · cases he
      · cases he
    · cases he
  · -- Swapper
    rename_i f1 f2 f9 t y
    replace he := tyq_inv he
    obtain ⟨ti, ht0, he⟩ := he
    have ht := hti _ _ ht0
    split at he
    · rename_i e' n hsh hn
      split at he
      · rename_i ie hie
        replace he := tyq_inv he
        obtain ⟨te, hte0, he⟩ := he
        have hte := hti _ _ hte0
        split at he
        · rename_i fs hfs
          replace he := bif_inv he
          obtain ⟨hA, he⟩ := he
          have := pX_inv he; subst this
          simp only [Bool.and_eq_true, Bool.not_eq_true', beq_eq, decide_eq_false_iff_not] at hA
          obtain ⟨⟨hs, hp1⟩, hp2⟩ := hA
          obtain ⟨i, e2, hi, hd, hpk⟩ := isSlT_inv hs
          have he2 : e2 = e' := by
            have h1 := run_slice_elem ht hsh
            have h2 := Lib.rl_underlying (P := c.P) t e2 i hi hd
            rw [h1] at h2
            simp only [Option.some.injEq, TypeDesc.slice.injEq] at h2
            exact h2.symm
          subst he2
          obtain ⟨u, vs, k1, k2, rfl⟩ := concL_cons.1 ha
          simp only [concL, Option.some.injEq] at k2
          subst k2
          obtain ⟨u', k3, rfl⟩ := conc_iface k1
          obtain ⟨A, cap, rfl⟩ := slcLen_ok hn k3
          obtain ⟨l, hl⟩ := ti_struct_ag hte hfs
          have hk : ∀ n', Lib.swapperK n' ie 25 = if n' == 0 then 1 else if n' == 1 then 2 else 9 := by
            intro n'
            have hb8 : (ie.bytes == 8) = false := by simpa using hp2
            simp [Lib.swapperK, hp1, hb8]
          obtain ⟨q1, q2, q3⟩ := hfit
          have run : ∀ f, c.P.funcs.findIdx? (·.name == "internal/reflectlite" ++ ".Swapper$" ++ toString (Lib.swapperK n ie 25)) = some f → _ := fun f hf => Lib.run_swapper_slice (P := c.P) t e2 i ie hi hd hie 25 (run_kind_struct hl) A n cap f hf w
          by_cases h0 : n = 0
          · subst h0
            have hk0 : Lib.swapperK 0 ie 25 = 1 := by rw [hk]; rfl
            have := run f1 (by rw [hk0]; exact q1)
            rw [hk0] at this
            exact ⟨_, w, this, m, Le.refl m, by simp [conc, concL], hw.less fun b hb => hb.1⟩
          · by_cases h1 : n = 1
            · subst h1
              have hk0 : Lib.swapperK 1 ie 25 = 2 := by rw [hk]; rfl
              have := run f2 (by rw [hk0]; exact q2)
              rw [hk0] at this
              exact ⟨_, w, this, m, Le.refl m, by show conc m (.fn f2 [] []) = _; simp [conc, concL], hw.less fun b hb => hb.1⟩
            · have hk0 : Lib.swapperK n ie 25 = 9 := by rw [hk]; simp [h0, h1]
              have := run f9 (by rw [hk0]; exact q3)
              rw [hk0] at this
              refine ⟨_, w, this, m, Le.refl m, ?_, hw.less fun b hb => hb.1⟩
              have e0 : Nat.beq n 0 = false := by rw [beq_eq]; simpa using h0
              have e1 : Nat.beq n 1 = false := by rw [beq_eq]; simpa using h1
              rw [e0, e1]
              simp only [cond_false, conc, concL, k3]
              simp
        · cases he
      · cases he
    · cases he
  · -- the one that swaps
    rename_i i j y g t
    replace he := bif_inv he
    obtain ⟨hg, he⟩ := he
    rw [beq_eq, decide_eq_true_eq] at hg
    subst hg
    · replace he := tyq_inv he
      obtain ⟨te, hte0, he⟩ := he
      have hte := hti _ _ hte0
      replace he := bif_inv he
      obtain ⟨hag, he⟩ := he
      obtain ⟨v1, r1, l1, l2, rfl⟩ := concL_cons.1 ha
      obtain ⟨v2, r2, l3, l4, rfl⟩ := concL_cons.1 l2
      obtain ⟨v3, r3, l5, l6, rfl⟩ := concL_cons.1 l4
      obtain ⟨v4, r4, l7, l8, rfl⟩ := concL_cons.1 l6
      simp only [concL, Option.some.injEq] at l8
      subst l8
      have := conc_v l1; have := conc_v l3; have := conc_v l7; subst v1 v2 v4
      unfold swapX at he
      split at he
      · rename_i b o len cap
        obtain ⟨p, p1, rfl⟩ := conc_slc l5
        obtain ⟨w', s1, s2, s3⟩ := swapAt_ok hte hag he hw p1 hb cap
        exact ⟨_, w', s1, m, Le.refl m, by rw [s2]; rfl, s3.less fun b hb => hb.1⟩
      · rename_i b k len sz'
        replace he := bif_inv he
        obtain ⟨hsz, he⟩ := he
        rw [beq_eq, decide_eq_true_eq] at hsz
        subst hsz
        obtain ⟨p, p1, rfl⟩ := conc_gsl l5
        obtain ⟨w', s1, s2, s3⟩ := swapAt_ok hte hag he hw p1 hb (p.2 - k)
        exact ⟨_, w', s1, m, Le.refl m, by rw [s2]; rfl, s3.less fun b hb => hb.1⟩
      · cases he
  · -- idxByte
    rename_i s b
    have := pX_inv he; subst this
    obtain ⟨u, vs, k1, k2, rfl⟩ := concL_cons.1 ha
    obtain ⟨u', vs', k3, k4, rfl⟩ := concL_cons.1 k2
    simp only [concL, Option.some.injEq] at k4
    subst k4
    have := conc_v k1; have := conc_v k3; subst u u'
    refine ⟨_, w, Lib.run_indexByteString (P := c.P) s (.ofNat b) w, m, Le.refl m, ?_, hw.less fun b hb => hb.1⟩
    have hi : idxBX b (strL s) 0 = Lib.indexByte s.data.toList (Int.ofNat b).toNat.toUInt8 := by
      rw [idxBX_eq]
      show _ = Lib.indexByte (strL s) b.toUInt8
      by_cases h : Lib.indexByte (strL s) b.toUInt8 = -1
      · simp [h]
      · simp [h]
    simp only [conc, hi]
  · cases he
end
end Go.Ex
/- The exact evaluator, part 10: one operation. -/
namespace Go.Ex
open Go.RowKit
open Go.Ab (TI Sh tiOf run_slice_elem ti_str)
/-- What the evaluator is given is right. -/
structure CxOk (c : Cx) : Prop where
  ti : ∀ t i, c.ti.get t = some i → tiOf c.P t = some i
  mix : c.P.follows .mixedOrders = true
  ex : ∀ k x, c.ex.get k = some x → x.fits c.P ∧ ∀ (args : Array Value) (w : World), (callFunc k args).run c.P w = ((x.entry args).run c.P w).andThen fun v w' => .ok (.value v) w'
section
variable {G : Tr (List Value)} {id : Nat} {ev : Operand → X} {hp : Tr B} {e : Ef} {c : Cx}

theorem OpOk.qv {P : Program} {o : Oper} (hup : e.up = []) (s : (Operand → Value) → Sem Value) (hs : ∀ (a : Act) w, (execOp a.eval o).run P w = ((s a.eval).run P w).andThen fun v w' => .ok (.value v) w')
    (hq : ∀ w0 M0 fr m h (a : Act) w, GOk G w0 M0 → WR w0 M0 fr m h w → (∀ y ∈ o.op.operands, conc m (ev y) = some (a.eval y)) → (∀ b ∈ e.rd, h b = hp.get b) → ∃ v, (s a.eval).run P w = .ok v w ∧ conc m e.x = some v) : OpOk P G o id ev hp e := by
  obtain ⟨x, up, rd⟩ := e
  simp only at hup
  subst hup
  exact OpOk.of s hs hq
theorem OpOk.lv {P : Program} {o : Oper} (s : (Operand → Value) → Sem Value) (hs : ∀ (a : Act) w, (execOp a.eval o).run P w = ((s a.eval).run P w).andThen fun v w' => .ok (.value v) w')
    (hq : ∀ w0 M0 fr m h (a : Act) w, GOk G w0 M0 → WR w0 M0 fr m h w → fr id → (∀ y ∈ o.op.operands, conc m (ev y) = some (a.eval y)) → (∀ b ∈ e.rd, h b = hp.get b) → ∃ v w', (s a.eval).run P w = .ok v w' ∧ Left w0 M0 fr m h id e v w') : OpOk P G o id ev hp e := by
  intro w0 M0 fr m h a w hG hw hid hx hb
  obtain ⟨v, w', h1, m', h2, h3, h4⟩ := hq w0 M0 fr m h a w hG hw hid hx hb
  exact ⟨.value v, v, w', m', by rw [hs, h1]; rfl, .inl rfl, h2, h3, h4⟩
theorem OpOk.lu {P : Program} {o : Oper} (s : (Operand → Value) → Sem Unit) (hs : ∀ (a : Act) w, (execOp a.eval o).run P w = ((s a.eval).run P w).andThen fun _ w' => .ok .skip w')
    (hq : ∀ w0 M0 fr m h (a : Act) w, GOk G w0 M0 → WR w0 M0 fr m h w → fr id → (∀ y ∈ o.op.operands, conc m (ev y) = some (a.eval y)) → (∀ b ∈ e.rd, h b = hp.get b) → ∃ w', (s a.eval).run P w = .ok () w' ∧ Left w0 M0 fr m h id e undef w') : OpOk P G o id ev hp e := by
  intro w0 M0 fr m h a w hG hw hid hx hb
  obtain ⟨w', h1, m', h2, h3, h4⟩ := hq w0 M0 fr m h a w hG hw hid hx hb
  exact ⟨.skip, undef, w', m', by rw [hs, h1]; rfl, .inr ⟨rfl, rfl⟩, h2, h3, h4⟩

theorem elq_inv {t : TypeId} {k : TypeId → TI → Rs} (hc : CxOk c) (h : elq c t k = some e) : ∃ ti e' te, tiOf c.P t = some ti ∧ ti.sh = .slice e' ∧ tiOf c.P e' = some te ∧ k e' te = some e := by
  obtain ⟨ti, h1, h2⟩ := tyq_inv h
  split at h2
  · rename_i e' hs
    obtain ⟨te, h3, h4⟩ := tyq_inv h2
    exact ⟨ti, e', te, hc.ti _ _ h1, hs, hc.ti _ _ h3, h4⟩
  · cases h2
theorem mpq_inv {t : TypeId} {k : Sh → TypeId → Rs} (hc : CxOk c) (h : mpq c t k = some e) : ∃ ti a b tk, tiOf c.P t = some ti ∧ ti.sh = .map a b ∧ tiOf c.P a = some tk ∧ k tk.sh b = some e := by
  obtain ⟨ti, h1, h2⟩ := tyq_inv h
  split at h2
  · rename_i a b hs
    obtain ⟨tk, h3, h4⟩ := tyq_inv h2
    exact ⟨ti, a, b, tk, hc.ti _ _ h1, hs, hc.ti _ _ h3, h4⟩
  · cases h2

theorem psX_rel {m : Mu} {a : Act} : ∀ {ps : List (Nat × Operand)}, (∀ x ∈ ps.map (·.2), conc m (ev x) = some (a.eval x)) →
    (ps.map fun p => (p.1, a.eval p.2)).length = (psX ev ps).length ∧ ∀ (i : Nat) (p : Nat × X) (q : Nat × Value), (psX ev ps)[i]? = some p → (ps.map fun p => (p.1, a.eval p.2))[i]? = some q → p.1 = q.1 ∧ conc m p.2 = some q.2
  | [], _ => ⟨rfl, fun i p q h => by simp [psX] at h⟩
  | (j, o) :: ps, h => by
    obtain ⟨h1, h2⟩ := psX_rel (ps := ps) fun x hx => h x (by simp at hx ⊢; exact .inr hx)
    refine ⟨by simp [psX] at h1 ⊢; omega, fun i p q hp hq => ?_⟩
    cases i with
    | zero =>
      simp [psX] at hp hq
      subst hp; subst hq
      exact ⟨rfl, h o (by simp)⟩
    | succ i => exact h2 i p q (by simpa [psX] using hp) (by simpa using hq)
theorem evs_rel {m : Mu} {a : Act} : ∀ {l : List Operand}, (∀ x ∈ l, conc m (ev x) = some (a.eval x)) → concL m (evs ev l) = some (l.map a.eval)
  | [], _ => concL_nil
  | o :: l, h => concL_cons.2 ⟨_, _, h o (by simp), evs_rel fun x hx => h x (by simp [hx]), rfl⟩

section
variable {dst : Option Tmp} {T : TypeId} {pos : String} {af : Array Edge} {gd : Option (Nat × Bool)}

theorem foldM_up {f : X → X → Rs} (hf : ∀ x y e, f x y = some e → e.up = []) : ∀ (l : List X) (x : X) (e : Ef), foldM f x l = some e → e.up = []
  | [], x, e, he => by
    simp only [foldM] at he
    have := pX_inv he; subst this; rfl
  | y :: l, x, e, he => by
    simp only [foldM] at he
    split at he
    · exact foldM_up hf l _ e he
    · cases he
theorem built_ok (hc : CxOk c) {b : Builtin} {args : Array Operand} {ts : Array TypeId} (he : builtX c id ev hp b args.toList ts.toList = some e) : OpOk c.P c.gl ⟨dst, .call { callee := .builtin b, args := args, argTypes := ts }, T, pos, af, gd⟩ id ev hp e := by
  have hops : ∀ x, x ∈ args.toList → x ∈ (Op.call { callee := .builtin b, args := args, argTypes := ts }).operands := fun x hx => by simpa [Op.operands, Call.operands] using hx
  have hex : ∀ (a : Act) (w : World) (F : Array Value → Sem Value), (∀ cs, builtin b ts T cs (args.map a.eval) = do pure (.value (← F (args.map a.eval)))) →
      (execOp a.eval ⟨dst, .call { callee := .builtin b, args := args, argTypes := ts }, T, pos, af, gd⟩).run c.P w = ((F (args.map a.eval)).run c.P w).andThen fun v w' => .ok (.value v) w' := by
    intro a w F hF
    simp only [execOp, resolve, Sem.run_bind, Sem.run_pure, Result.andThen, invoke]
    rw [hF]
    exact run_v _ w
  have one : ∀ x, args.toList = [x] → ∀ a : Act, args.map a.eval = #[a.eval x] := fun x ha a => by apply Array.ext'; simp [ha]
  have two : ∀ x y, args.toList = [x, y] → ∀ a : Act, args.map a.eval = #[a.eval x, a.eval y] := fun x y ha a => by apply Array.ext'; simp [ha]
  unfold builtX at he
  split at he
  · rename_i x t ha hts
    obtain ⟨ti, ht, he⟩ := tyq_inv he
    have e2 : ts = #[t] := by apply Array.ext'; simpa using hts
    have hup : e.up = [] := by
      unfold lenX at he
      repeat' split at he
      all_goals first | (cases he; done) | (have := pX_inv he; subst this; rfl) | (simp only [Option.some.injEq] at he; subst he; rfl)
    refine OpOk.qv hup (fun ρ => Builtin.len_ ts T (args.map ρ)) (fun a w => hex a w (fun vs => Builtin.len_ ts T vs) fun _ => rfl) ?_
    intro w0 M0 fr m h a w hG hw hx hb
    rw [one x ha, e2]
    exact (len_ok (hc.ti _ _ ht) he hw (hx x (hops x (by simp [ha]))) hb).2
  · rename_i x t ha hts
    obtain ⟨ti, ht, he⟩ := tyq_inv he
    have e2 : ts = #[t] := by apply Array.ext'; simpa using hts
    have hup : e.up = [] := by
      unfold capX at he
      repeat' split at he
      all_goals first | (cases he; done) | (have := pX_inv he; subst this; rfl)
    refine OpOk.qv hup (fun ρ => Builtin.cap_ ts T (args.map ρ)) (fun a w => hex a w (fun vs => Builtin.cap_ ts T vs) fun _ => rfl) ?_
    intro w0 M0 fr m h a w hG hw hx hb
    rw [one x ha, e2]
    exact (cap_ok (hc.ti _ _ ht) he (hx x (hops x (by simp [ha])))).2.2
  · rename_i x l ha
    have hup : e.up = [] := foldM_up (fun x y e he => by
      unfold minX at he
      split at he
      · have := pX_inv (bif_inv he).2; subst this; rfl
      · cases he) _ _ _ he
    refine OpOk.qv hup (fun ρ => Builtin.min_ ts T (args.map ρ)) (fun a w => hex a w (fun vs => Builtin.min_ ts T vs) fun _ => rfl) ?_
    intro w0 M0 fr m h a w hG hw hx hb
    have hm : args.map a.eval = (a.eval x :: l.map a.eval).toArray := by apply Array.ext'; simp [ha]
    rw [hm]
    have := foldM_ok (P := c.P) (w := w) (m := m) (g := Builtin.min2) (fun x y e u v h1 h2 h3 => min2_ok h1 h2 h3) (evs ev l) (ev x) (a.eval x) (l.map a.eval) e he (hx x (hops x (by simp [ha]))) (evs_rel fun y hy => hx y (hops y (by simp [ha, hy])))
    exact this.2.2
  · rename_i x l ha
    have hup : e.up = [] := foldM_up (fun x y e he => by
      unfold maxX at he
      split at he
      · have := pX_inv (bif_inv he).2; subst this; rfl
      · cases he) _ _ _ he
    refine OpOk.qv hup (fun ρ => Builtin.max_ ts T (args.map ρ)) (fun a w => hex a w (fun vs => Builtin.max_ ts T vs) fun _ => rfl) ?_
    intro w0 M0 fr m h a w hG hw hx hb
    have hm : args.map a.eval = (a.eval x :: l.map a.eval).toArray := by apply Array.ext'; simp [ha]
    rw [hm]
    have := foldM_ok (P := c.P) (w := w) (m := m) (g := Builtin.max2) (fun x y e u v h1 h2 h3 => max2_ok h1 h2 h3) (evs ev l) (ev x) (a.eval x) (l.map a.eval) e he (hx x (hops x (by simp [ha]))) (evs_rel fun y hy => hx y (hops y (by simp [ha, hy])))
    exact this.2.2
  · rename_i x y t t' ha hts
    replace he := tyq_inv he
    obtain ⟨ti', ht', he⟩ := he
    have e2 : ts = #[t, t'] := by apply Array.ext'; simpa using hts
    refine OpOk.lv (fun ρ => Builtin.append_ ts T (args.map ρ)) (fun a w => hex a w (fun vs => Builtin.append_ ts T vs) fun _ => rfl) ?_
    intro w0 M0 fr m h a w hG hw hid hx hb
    rw [two x y ha, e2]
    split at he
    · rename_i q hsh
      obtain ⟨ti, e', te, h1, h2, h3, he⟩ := elq_inv hc he
      exact append_ok h1 h2 h3 ⟨_, run_slice_elem (hc.ti _ _ ht') hsh⟩ he hw hid (hx x (hops x (by simp [ha]))) (hx y (hops y (by simp [ha]))) hb
    · rename_i hsh
      obtain ⟨ti, e', te, h1, h2, h3, he⟩ := elq_inv hc he
      exact appendS_ok h1 h2 h3 (ti_str (hc.ti _ _ ht') hsh) he hw hid (hx x (hops x (by simp [ha]))) (hx y (hops y (by simp [ha]))) hb
    · cases he
  · rename_i x y t t' ha hts
    obtain ⟨ti, e', te, h1, h2, h3, he⟩ := elq_inv hc he
    have e2 : ts = #[t, t'] := by apply Array.ext'; simpa using hts
    refine OpOk.lv (fun ρ => Builtin.copy_ ts T (args.map ρ)) (fun a w => hex a w (fun vs => Builtin.copy_ ts T vs) fun _ => rfl) ?_
    intro w0 M0 fr m h a w hG hw hid hx hb
    rw [two x y ha, e2]
    obtain ⟨u, k1, k2, k3⟩ := copy_ok (t' := t') (ty := T) h1 h2 h3 he hw (hx x (hops x (by simp [ha]))) (hx y (hops y (by simp [ha]))) hb
    exact ⟨u, w, k1, m, Le.refl m, k2, by rw [k3]; exact hw.less fun b hb => hb.1⟩
  · rename_i x t ha hts
    obtain ⟨ti, e', te, h1, h2, h3, he⟩ := elq_inv hc he
    have e2 : ts = #[t] := by apply Array.ext'; simpa using hts
    refine OpOk.lv (fun ρ => Builtin.clear_ ts T (args.map ρ)) (fun a w => hex a w (fun vs => Builtin.clear_ ts T vs) fun _ => rfl) ?_
    intro w0 M0 fr m h a w hG hw hid hx hb
    rw [one x ha, e2]
    exact clear_ok h1 h2 h3 he hw (hx x (hops x (by simp [ha]))) hb
  · rename_i x ha
    have hup : e.up = [] := by
      unfold sdX at he
      split at he
      · have := pX_inv he; subst this; rfl
      · rename_i b o len cap _
        cases hz : Nat.beq cap 0 <;> simp only [hz, cond_true, cond_false] at he
        · have := pX_inv he; subst this; rfl
        · cases he
      · rename_i b i len sz _
        cases hz : Nat.beq len 0 <;> simp only [hz, cond_true, cond_false] at he
        · split at he
          · have := (bif_inv he).2; simp only [Option.some.injEq] at this; subst this; rfl
          · cases he
        · cases he
      · cases he
    refine OpOk.qv hup (fun ρ => Builtin.unsafeSliceData_ ts T (args.map ρ)) (fun a w => hex a w (fun vs => Builtin.unsafeSliceData_ ts T vs) fun _ => rfl) ?_
    intro w0 M0 fr m h a w hG hw hx hb
    rw [one x ha]
    exact (sd_ok he hw (hx x (hops x (by simp [ha]))) hb).2
  · rename_i x y t t' ha hts
    have e2 : ts = #[t, t'] := by apply Array.ext'; simpa using hts
    replace he := tyq_inv he
    obtain ⟨ti, ht, he⟩ := he
    split at he
    · rename_i e' hsh
      refine OpOk.lv (fun ρ => Builtin.unsafeString_ ts T (args.map ρ)) (fun a w => hex a w (fun vs => Builtin.unsafeString_ ts T vs) fun _ => rfl) ?_
      intro w0 M0 fr m h a w hG hw hid hx hb
      rw [two x y ha, e2]
      exact ustr_ok hc.ti (hc.ti _ _ ht) hsh he hw (hx x (hops x (by simp [ha]))) (hx y (hops y (by simp [ha]))) hb
    · cases he
  · rename_i x y t t' ha hts
    obtain ⟨ti, a', b', tk, h1, h2, h3, he⟩ := mpq_inv hc he
    have e2 : ts = #[t, t'] := by apply Array.ext'; simpa using hts
    refine OpOk.lv (fun ρ => Builtin.delete_ ts T (args.map ρ)) (fun a w => hex a w (fun vs => Builtin.delete_ ts T vs) fun _ => rfl) ?_
    intro w0 M0 fr m h a w hG hw hid hx hb
    rw [two x y ha, e2]
    exact delete_ok h1 h2 h3 he hw (hx x (hops x (by simp [ha]))) (hx y (hops y (by simp [ha]))) hb
  · cases he

theorem optM_rel {m : Mu} {o : Option Operand} {a : Act} {l : Array Operand} (h : ∀ y ∈ l, conc m (ev y) = some (a.eval y)) (ho : ∀ x, o = some x → x ∈ l) : ∀ x, o = some x → conc m (ev x) = some (a.eval x) := fun x hx => h x (ho x hx)

theorem stepX_ok (hc : CxOk c) {op : Op} (he : stepX c id ev hp op = some e) : OpOk c.P c.gl ⟨dst, op, T, pos, af, gd⟩ id ev hp e := by
  cases op <;> simp only [stepX] at he <;> try (cases he; done)
  case move x =>
    have := pX_inv he; subst this
    exact OpOk.quiet fun w0 M0 fr m h a w _ hw hx _ => ⟨a.eval x, by simp [execOp], hx x (by simp [Op.operands])⟩
  case assign x =>
    have := pX_inv he; subst this
    exact OpOk.quiet fun w0 M0 fr m h a w _ hw hx _ => ⟨a.eval x, by simp [execOp], hx x (by simp [Op.operands])⟩
  case pick b x y =>
    split at he
    · rename_i hb
      have := pX_inv he; subst this
      refine OpOk.quiet fun w0 M0 fr m h a w _ hw hx _ => ⟨a.eval x, ?_, hx x (by simp [Op.operands])⟩
      have h1 := hx b (by simp [Op.operands])
      rw [hb] at h1
      have := conc_v h1
      simp [execOp, this, asBool]
    · rename_i hb
      have := pX_inv he; subst this
      refine OpOk.quiet fun w0 M0 fr m h a w _ hw hx _ => ⟨a.eval y, ?_, hx y (by simp [Op.operands])⟩
      have h1 := hx b (by simp [Op.operands])
      rw [hb] at h1
      have := conc_v h1
      simp [execOp, this, asBool]
    · cases he
  case alloc t =>
    obtain ⟨ti, ht, he⟩ := tyq_inv he
    exact OpOk.lv (fun _ => Instr.alloc t true (.tuple #[])) (fun a w => run_v _ w) fun w0 M0 fr m h a w _ hw hid _ _ => alloc_ok (hc.ti _ _ ht) he hw hid
  case box t x =>
    exact OpOk.lv (fun ρ => Instr.box t (ρ x)) (fun a w => run_v _ w) fun w0 M0 fr m h a w _ hw hid hx _ => box_ok he hw hid (hx x (by simp [Op.operands]))
  case build t ps =>
    obtain ⟨ti, ht, he⟩ := tyq_inv he
    have hup : e.up = [] := by
      split at he
      · obtain ⟨te, _, he⟩ := tyq_inv he
        unfold buildAX at he
        split at he
        · have := pX_inv he; subst this; rfl
        · cases he
      · unfold buildX at he
        repeat' split at he
        all_goals first | (cases he; done) | (have := pX_inv he; subst this; rfl)
    refine OpOk.qv hup (fun ρ => Instr.build t (ps.toList.map fun p => (p.1, ρ p.2)).toArray) (fun a w => ?_) fun w0 M0 fr m h a w _ hw hx _ => ?_
    · have : (ps.map fun (i, x) => (i, a.eval x)) = (ps.toList.map fun p => (p.1, a.eval p.2)).toArray := by apply Array.ext'; simp
      simp only [execOp]
      rw [this]
      exact run_v _ w
    · have := psX_rel (ev := ev) (m := m) (a := a) (ps := ps.toList) (fun x hx' => hx x (by simpa [Op.operands] using hx'))
      split at he
      · rename_i e' hsh
        obtain ⟨te, hte, he⟩ := tyq_inv he
        exact (buildA_ok (hc.ti _ _ ht) hsh (hc.ti _ _ hte) he _ this.1 this.2).2.2
      · exact (build_ok (hc.ti _ _ ht) he _ this.1 this.2).2.2
  case buildSlice t n ps =>
    obtain ⟨ti, e', te, h1, h2, h3, he⟩ := elq_inv hc he
    refine OpOk.lv (fun ρ => Instr.buildSlice t n (ps.toList.map fun p => (p.1, ρ p.2)).toArray) (fun a w => ?_) fun w0 M0 fr m h a w _ hw hid hx _ => ?_
    · have : (ps.map fun (i, x) => (i, a.eval x)) = (ps.toList.map fun p => (p.1, a.eval p.2)).toArray := by apply Array.ext'; simp
      simp only [execOp]
      rw [this]
      exact run_v _ w
    · have := psX_rel (ev := ev) (m := m) (a := a) (ps := ps.toList) (fun x hx' => hx x (by simpa [Op.operands] using hx'))
      exact buildS_ok h1 h2 h3 he hw hid _ this.1 this.2
  case load t x =>
    obtain ⟨ti, ht, he⟩ := tyq_inv he
    have hup : e.up = [] := by
      unfold loadX at he
      repeat' split at he
      all_goals first | (cases he; done) | skip
      all_goals cases hag : ti.ag <;> simp only [hag, cond_true, cond_false] at he <;> first | (cases he; done) | (have := pX_inv he; subst this; rfl) | (simp only [Option.some.injEq] at he; subst he; rfl)
    refine OpOk.qv hup (fun ρ => Instr.loadAt t (ρ x)) (fun a w => run_v _ w) fun w0 M0 fr m h a w hG hw hx hb => ?_
    obtain ⟨_, v, k, o, h1, h2, h3⟩ := load_ok (hc.ti _ _ ht) he hG hw (hx x (by simp [Op.operands])) hb
    exact ⟨v, by simp [Instr.loadAt, h1, Instr.sureAddr, h2], h3⟩
  case store t x y =>
    obtain ⟨ti, ht, he⟩ := tyq_inv he
    exact OpOk.lu (fun ρ => Instr.storeAt t (ρ x) (ρ y)) (fun a w => run_u _ w) fun w0 M0 fr m h a w _ hw hid hx hb => store_ok (hc.ti _ _ ht) he hw (hx x (by simp [Op.operands])) (hx y (by simp [Op.operands])) hb id
  case nilCheck x =>
    split at he <;> try (cases he; done)
    all_goals
      rename_i hd
      have := pX_inv he; subst this
      refine OpOk.quiet fun w0 M0 fr m h a w _ hw hx _ => ⟨a.eval x, ?_, by rw [← hd]; exact hx x (by simp [Op.operands])⟩
      have hx' := hx x (by simp [Op.operands])
      rw [hd] at hx'
      simp only [execOp]
    · obtain ⟨p, _, h1⟩ := conc_ptr hx'
      rw [h1]; rfl
    · obtain ⟨p, q, _, _, h1⟩ := conc_fn hx'
      rw [h1]; rfl
    · have h1 := conc_v hx'
      rw [h1]; rfl
  case binOp op t x y t' =>
    obtain ⟨ti, ht, he⟩ := tyq_inv he
    split at he
    · rename_i e' b o b' o' hsh hdx hdy
      obtain ⟨te, hte, he⟩ := tyq_inv he
      have hup : e.up = [] := by
        unfold ptrEqX at he
        cases hz : Nat.beq te.sz 0 <;> simp only [hz, cond_true, cond_false] at he
        · split at he
          · cases hbb : Nat.beq b b' <;> simp only [hbb, cond_true, cond_false] at he
            · split at he
              · simp only [Option.some.injEq] at he; subst he; rfl
              · cases he
            · simp only [Option.some.injEq] at he; subst he; rfl
          · cases hbb : Nat.beq b b' <;> simp only [hbb, cond_true, cond_false] at he
            · split at he
              · simp only [Option.some.injEq] at he; subst he; rfl
              · cases he
            · simp only [Option.some.injEq] at he; subst he; rfl
          · cases he
        · cases he
      refine OpOk.qv hup (fun ρ => do eqGuard op t x y (ρ x) (ρ y); binOp op t (ρ x) (ρ y)) (fun a w => run_v _ w) fun w0 M0 fr m h a w _ hw hx hb => ?_
      exact (ptrEq_ok (hc.ti _ _ ht) hsh (hc.ti _ _ hte) he hw (by rw [← hdx]; exact hx x (by simp [Op.operands])) (by rw [← hdy]; exact hx y (by simp [Op.operands])) hb).2
    · rename_i xs ys hsh hdx hdy
      unfold optS at he
      split at he
      · rename_i r hr
        have := pX_inv he; subst this
        refine OpOk.of (fun ρ => do eqGuard op t x y (ρ x) (ρ y); binOp op t (ρ x) (ρ y)) (fun a w => run_v _ w) fun w0 M0 fr m h a w _ hw hx _ => ?_
        exact eqAgg_ok hc.ti hr (by rw [← hdx]; exact hx x (by simp [Op.operands])) (by rw [← hdy]; exact hx y (by simp [Op.operands]))
      · cases he
    · unfold optS at he
      split at he
      · rename_i r hr
        have := pX_inv he; subst this
        refine OpOk.of (fun ρ => do eqGuard op t x y (ρ x) (ρ y); binOp op t (ρ x) (ρ y)) (fun a w => run_v _ w) fun w0 M0 fr m h a w _ hw hx _ => ?_
        exact bin_ok (hc.ti _ _ ht) hr (hx x (by simp [Op.operands])) (hx y (by simp [Op.operands]))
      · cases he
  case unOp op t x =>
    unfold optS at he
    split at he
    · rename_i r hr
      have := pX_inv he; subst this
      exact OpOk.of (fun ρ => Op.unary op (ρ x)) (fun a w => run_v _ w) fun w0 M0 fr m h a w _ hw hx _ => un_ok hr (hx x (by simp [Op.operands]))
    · cases he
  case convert s d x =>
    obtain ⟨ts, hts, he⟩ := tyq_inv he
    obtain ⟨td, htd, he⟩ := tyq_inv he
    split at he
    · rename_i e' hsh hst
      obtain ⟨te, hte, he⟩ := tyq_inv he
      have hup : e.up = [] := by
        unfold bstrX at he
        split at he
        · replace he := bif_inv he
          obtain ⟨_, he⟩ := he
          repeat' split at he
          all_goals first | (cases he; done) | (simp only [Option.some.injEq] at he; subst he; rfl)
        · cases he
      exact OpOk.qv hup (fun ρ => convert s d (ρ x)) (fun a w => run_v _ w) fun w0 M0 fr m h a w _ hw hx hb => (str_ok (hc.ti _ _ hts) hsh (hc.ti _ _ hte) (hc.ti _ _ htd) hst he hw (hx x (by simp [Op.operands])) hb).2
    · rename_i e' hst hsh
      obtain ⟨te, hte, he⟩ := tyq_inv he
      exact OpOk.lv (fun ρ => convert s d (ρ x)) (fun a w => run_v _ w) fun w0 M0 fr m h a w _ hw hid hx hb => bytesS_ok (hc.ti _ _ hts) hst (hc.ti _ _ htd) hsh (hc.ti _ _ hte) he hw hid (hx x (by simp [Op.operands]))
    · rename_i e' hst hsh
      replace he := bif_inv he
      obtain ⟨hup0, he⟩ := he
      obtain ⟨te, hte, he⟩ := tyq_inv he
      have hup : e.up = [] := by
        unfold upX at he
        split at he
        · cases hz : Nat.beq te.sz 0 <;> simp only [hz, cond_true, cond_false] at he
          · split at he
            · have := (bif_inv he).2; simp only [Option.some.injEq] at this; subst this; rfl
            · cases he
          · cases he
        · have := pX_inv he; subst this; rfl
        · cases he
      exact OpOk.qv hup (fun ρ => convert s d (ρ x)) (fun a w => run_v _ w) fun w0 M0 fr m h a w _ hw hx hb => (up_ok (hc.ti _ _ hts) hst (hc.ti _ _ hte) (isUP_inv hup0) he hw (hx x (by simp [Op.operands])) hb).2
    · rename_i e' hst hsh
      replace he := bif_inv he
      obtain ⟨hup0, he⟩ := he
      obtain ⟨te, hte, he⟩ := tyq_inv he
      have hup : e.up = [] := by
        unfold pvX at he
        split at he
        · split at he
          · have := (bif_inv he).2; simp only [Option.some.injEq] at this; subst this; rfl
          · cases he
        · have := pX_inv he; subst this; rfl
        · cases he
      exact OpOk.qv hup (fun ρ => convert s d (ρ x)) (fun a w => run_v _ w) fun w0 M0 fr m h a w _ hw hx hb => (pv_ok (hc.ti _ _ htd) hsh (hc.ti _ _ hte) (isUP_inv hup0) he hw (hx x (by simp [Op.operands])) hb).2
    · have hup : e.up = [] := by
        unfold convX at he
        repeat' split at he
        all_goals first | (cases he; done) | (have := pX_inv he; subst this; rfl)
      exact OpOk.qv hup (fun ρ => convert s d (ρ x)) (fun a w => run_v _ w) fun w0 M0 fr m h a w _ hw hx _ => (conv_ok (hc.ti _ _ hts) (hc.ti _ _ htd) he (hx x (by simp [Op.operands]))).2
  case field t x i =>
    obtain ⟨ti, ht, he⟩ := tyq_inv he
    have hup : e.up = [] := by
      unfold fieldX at he
      repeat' split at he
      all_goals first | (cases he; done) | skip
      all_goals
        have bb : ∀ (b : Bool) (x y : Rs), (bif b then x else y) = some e → x = some e ∨ y = some e := by intro b x y h; cases b <;> simp at h <;> simp [h]
        rcases bb _ _ _ he with he | he <;> first | (cases he; done) | (have := pX_inv he; subst this; rfl)
    exact OpOk.qv hup (fun ρ => Instr.field t (ρ x) i) (fun a w => run_v _ w) fun w0 M0 fr m h a w _ hw hx _ => (field_ok (hc.ti _ _ ht) he (hx x (by simp [Op.operands]))).2.2
  case fieldAddr t x i =>
    obtain ⟨ti, ht, he⟩ := tyq_inv he
    have hup : e.up = [] := by
      unfold fieldAddrX at he
      split at he
      · rename_i o n ag _
        cases hn : Nat.beq n 0 <;> simp only [hn, cond_true, cond_false] at he
        · split at he <;> first | (cases he; done) | (have := pX_inv he; subst this; rfl)
        · cases he
      · cases he
    exact OpOk.qv hup (fun ρ => Instr.fieldAt t (ρ x) i) (fun a w => run_v _ w) fun w0 M0 fr m h a w _ hw hx _ => (fieldAddr_ok (hc.ti _ _ ht) he (hx x (by simp [Op.operands]))).2.2
  case indexAddr t x i =>
    obtain ⟨ti, ht, he⟩ := tyq_inv he
    split at he
    · rename_i e' hs
      obtain ⟨te, hte, he⟩ := tyq_inv he
      have hup : e.up = [] := by
        unfold indexAddrX at he
        repeat' split at he
        all_goals first | (cases he; done) | (have := pX_inv (bif_inv he).2; subst this; rfl) | (have := pX_inv (and_inv he).2.2; subst this; rfl)
      exact OpOk.qv hup (fun ρ => Instr.indexAt t (ρ x) (ρ i)) (fun a w => run_v _ w) fun w0 M0 fr m h a w _ hw hx _ => (indexAddr_ok (hc.ti _ _ ht) hs (hc.ti _ _ hte) he (hx x (by simp [Op.operands])) (hx i (by simp [Op.operands]))).2.2
    · rename_i n e' hs
      obtain ⟨te, hte, he⟩ := tyq_inv he
      have hup : e.up = [] := by
        unfold indexArrX at he
        split at he
        · have he := (and_inv he).2.2
          split at he <;> first | (cases he; done) | (have := pX_inv he; subst this; rfl)
        · cases he
      exact OpOk.qv hup (fun ρ => Instr.indexAt t (ρ x) (ρ i)) (fun a w => run_v _ w) fun w0 M0 fr m h a w _ hw hx _ => (indexArr_ok (hc.ti _ _ ht) hs (hc.ti _ _ hte) he (hx x (by simp [Op.operands])) (hx i (by simp [Op.operands]))).2.2
    · cases he
  case index t x i =>
    obtain ⟨ti, ht, he⟩ := tyq_inv he
    split at he
    · rename_i hs
      have hup : e.up = [] := by
        unfold indexX at he
        repeat' split at he
        all_goals first | (cases he; done) | (have := pX_inv he; subst this; rfl)
      exact OpOk.qv hup (fun ρ => Instr.index t (ρ x) (ρ i)) (fun a w => run_v _ w) fun w0 M0 fr m h a w _ hw hx _ => (index_ok (hc.ti _ _ ht) hs he (hx x (by simp [Op.operands])) (hx i (by simp [Op.operands]))).2.2
    · cases he
  case slice t x lo hi mx =>
    cases mx with
    | some q => cases he
    | none =>
      simp only at he
      obtain ⟨ti, ht, he⟩ := tyq_inv he
      have hlo : ∀ (m : Mu) (a : Act), (∀ y ∈ (Op.slice t x lo hi none).operands, conc m (ev y) = some (a.eval y)) → (∀ y, lo = some y → conc m (ev y) = some (a.eval y)) ∧ (∀ y, hi = some y → conc m (ev y) = some (a.eval y)) := fun m a hx => ⟨fun y hy => hx y (by simp [Op.operands, hy]), fun y hy => hx y (by simp [Op.operands, hy])⟩
      split at he
      · rename_i hs
        have hup : e.up = [] := by
          unfold strSliceX at he
          repeat' split at he
          all_goals first | (cases he; done) | skip
          all_goals
            have he := (bif_inv he).2
            first | (cases he; done) | (have := pX_inv he; subst this; rfl)
        exact OpOk.qv hup (fun ρ => Instr.sliceAt t (ρ x) (lo.map ρ) (hi.map ρ) none) (fun a w => run_v _ w) fun w0 M0 fr m h a w _ hw hx _ => (strSlice_ok (hc.ti _ _ ht) hs he (hx x (by simp [Op.operands])) (hlo m a hx).1 (hlo m a hx).2).2.2
      · rename_i e' hs
        obtain ⟨te, hte, he⟩ := tyq_inv he
        have hup : e.up = [] := by
          have bb : ∀ (b : Bool) (x y : Rs), (bif b then x else y) = some e → x = some e ∨ y = some e := by intro b x y h; cases b <;> simp at h <;> simp [h]
          unfold sliceX at he
          repeat' split at he
          all_goals first | (cases he; done) | skip
          all_goals
            replace he := (bif_inv he).2
            first
              | (have := pX_inv he; subst this; rfl)
              | (rcases bb _ _ _ he with he | he <;> first | (have := pX_inv he; subst this; rfl) | (simp only [Option.some.injEq] at he; subst he; rfl))
        exact OpOk.qv hup (fun ρ => Instr.sliceAt t (ρ x) (lo.map ρ) (hi.map ρ) none) (fun a w => run_v _ w) fun w0 M0 fr m h a w _ hw hx hb => (slice_ok (hc.ti _ _ ht) hs (hc.ti _ _ hte) he hw (hx x (by simp [Op.operands])) (hlo m a hx).1 (hlo m a hx).2 hb).2
      · rename_i n e' hs
        obtain ⟨te, hte, he⟩ := tyq_inv he
        have hup : e.up = [] := by
          unfold arrSliceX at he
          repeat' split at he
          all_goals first | (cases he; done) | (have := pX_inv (and_inv he).2.2; subst this; rfl)
        exact OpOk.qv hup (fun ρ => Instr.sliceAt t (ρ x) (lo.map ρ) (hi.map ρ) none) (fun a w => run_v _ w) fun w0 M0 fr m h a w _ hw hx hb => (arrSlice_ok (hc.ti _ _ ht) hs (hc.ti _ _ hte) he (hx x (by simp [Op.operands])) (hlo m a hx).1 (hlo m a hx).2).2
      · cases he
  case extract x i =>
    split at he
    · rename_i l hl
      split at he
      · rename_i y hy
        have := pX_inv he; subst this
        refine OpOk.of (fun ρ => Instr.extract (ρ x) i) (fun a w => run_v _ w) fun w0 M0 fr m h a w _ hw hx _ => ?_
        have hx' := hx x (by simp [Op.operands])
        rw [hl] at hx'
        exact extract_ok hy hx'
      · cases he
    · cases he
  case makeSlice t l n =>
    obtain ⟨ti, e', te, h1, h2, h3, he⟩ := elq_inv hc he
    exact OpOk.lv (fun ρ => Instr.makeSlice t (ρ l) (ρ n)) (fun a w => run_v _ w) fun w0 M0 fr m h a w _ hw hid hx _ => makeS_ok h1 h2 h3 he hw hid (hx l (by simp [Op.operands])) (hx n (by simp [Op.operands]))
  case makeFunc fn fs cs =>
    cases fn <;> simp only at he <;> try (cases he; done)
    rename_i f
    have := pX_inv he; subst this
    refine OpOk.quiet fun w0 M0 fr m h a w _ hw hx _ => ⟨.func (.func f) (fs.map a.eval) (cs.map a.eval), by simp [execOp, Instr.makeFunc], ?_⟩
    have h1 := evs_rel (ev := ev) (m := m) (a := a) (l := fs.toList) fun x hx' => hx x (by simp [Op.operands]; exact .inl (by simpa using hx'))
    have h2 := evs_rel (ev := ev) (m := m) (a := a) (l := cs.toList) fun x hx' => hx x (by simp [Op.operands]; exact .inr (by simpa using hx'))
    have e1 : fs.map a.eval = (fs.toList.map a.eval).toArray := by apply Array.ext'; simp
    have e2 : cs.map a.eval = (cs.toList.map a.eval).toArray := by apply Array.ext'; simp
    simp only [conc, h1, h2]
    rw [e1, e2]
  case makeInterface t x =>
    replace he := bif_inv he
    obtain ⟨hcn, he⟩ := he
    have := pX_inv he; subst this
    refine OpOk.quiet fun w0 M0 fr m h a w _ hw hx _ => ⟨.iface t (a.eval x), ?_, ?_⟩
    · simp only [execOp]
      rw [run_v, run_makeInterface w t _ hcn]
      rfl
    · simp [conc, hx x (by simp [Op.operands])]
  case makeMap t r =>
    cases r with
    | some q => cases he
    | none =>
      simp only [Option.some.injEq] at he
      subst he
      exact OpOk.lv (fun _ => Instr.makeMap t none) (fun a w => run_v _ w) fun w0 M0 fr m h a w _ hw hid _ _ => makeMap_ok hw hid
  case lookup t x k ok =>
    obtain ⟨ti, a', b', tk, h1, h2, h3, he⟩ := mpq_inv hc he
    obtain ⟨inf, z, hi, hz, he⟩ := zq_inv he
    have hup : e.up = [] := by
      unfold lookupX at he
      repeat' split at he
      all_goals first | (cases he; done) | (have := pX_inv he; subst this; rfl) | (simp only [Option.some.injEq] at he; subst he; rfl)
    exact OpOk.qv hup (fun ρ => Instr.lookup t (ρ x) (ρ k) ok) (fun a w => run_v _ w) fun w0 M0 fr m h a w _ hw hx hb => (lookup_ok h1 h2 h3 hi hz he hw (hx x (by simp [Op.operands])) (hx k (by simp [Op.operands])) hb).2
  case mapUpdate t x k y =>
    obtain ⟨ti, a', b', tk, h1, h2, h3, he⟩ := mpq_inv hc he
    exact OpOk.lu (fun ρ => Instr.mapUpdate t (ρ x) (ρ k) (ρ y)) (fun a w => run_u _ w) fun w0 M0 fr m h a w _ hw hid hx hb => update_ok h1 h2 h3 he hw (hx x (by simp [Op.operands])) (hx k (by simp [Op.operands])) (hx y (by simp [Op.operands])) hb
  case insert t x k y =>
    obtain ⟨ti, a', b', tk, h1, h2, h3, he⟩ := mpq_inv hc he
    exact OpOk.lu (fun ρ => Instr.mapUpdate t (ρ x) (ρ k) (ρ y)) (fun a w => run_u _ w) fun w0 M0 fr m h a w _ hw hid hx hb => update_ok h1 h2 h3 he hw (hx x (by simp [Op.operands])) (hx k (by simp [Op.operands])) (hx y (by simp [Op.operands])) hb
  case range t x =>
    obtain ⟨ti, ht, he⟩ := tyq_inv he
    split at he
    · rename_i kt et hs
      exact OpOk.lv (fun ρ => Instr.range t (ρ x)) (fun a w => run_v _ w) fun w0 M0 fr m h a w _ hw hid hx hb => range_ok (hc.ti _ _ ht) hs he hw hid (hx x (by simp [Op.operands])) hb
    · cases he
  case next i isS =>
    cases isS with
    | true => cases he
    | false => exact OpOk.lv (fun ρ => Instr.next (ρ i) false T) (fun a w => run_v _ w) fun w0 M0 fr m h a w _ hw hid hx hb => next_ok he hw (hx i (by simp [Op.operands])) hb
  case entry i =>
    have hup : e.up = [] := by
      unfold entryX at he
      repeat' split at he
      all_goals first | (cases he; done) | skip
      all_goals
        have he := (bif_inv (bif_inv he).2).2
        first | (cases he; done) | (simp only [Option.some.injEq] at he; subst he; rfl)
    exact OpOk.qv hup (fun ρ => Instr.entry (ρ i)) (fun a w => run_v _ w) fun w0 M0 fr m h a w _ hw hx hb => (entry_ok he hw (hx i (by simp [Op.operands])) hb).2
  case typeAssert x xt t ok =>
    obtain ⟨ti, ht, he⟩ := tyq_inv he
    split at he
    · cases he
    · rename_i hs
      obtain ⟨inf, z, hi, hz, he⟩ := zq_inv he
      have hup : e.up = [] := by
        unfold assertX at he
        split at he
        · have bb : ∀ (b : Bool) (x y : Rs), (bif b then x else y) = some e → x = some e ∨ y = some e := by intro b x y h; cases b <;> simp at h <;> simp [h]
          rcases bb _ _ _ he with he | he
          · have := pX_inv he; subst this; rfl
          · have he := (bif_inv he).2
            have := pX_inv he; subst this; rfl
        · have he := (bif_inv he).2
          have := pX_inv he; subst this; rfl
        · cases he
      exact OpOk.qv hup (fun ρ => Instr.typeAssert (ρ x) xt t ok) (fun a w => run_v _ w) fun w0 M0 fr m h a w _ hw hx hb => (assert_ok (hc.ti _ _ ht) (fun hh => hs hh) hi hz he (hx x (by simp [Op.operands]))).2.2
  case call k =>
    split at he
    · rename_i b hcal
      obtain ⟨cal, args, ats⟩ := k
      simp only at hcal he
      subst hcal
      exact built_ok hc he
    · cases he
end
end
end Go.Ex
