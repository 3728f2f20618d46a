/- The exact evaluator, part 8: append, maps, iterators. -/
import Derived.Test.YtblbhfnpneliiaaGreatDoorExOps4
namespace Go.Ex
open Go.RowKit
open Go.Ab (TI Sh setL setL_get setL_length tiOf Wrote tiOf_spec ti_bool ti_str ti_int ti_ptr ti_map ti_arr ti_struct run_slice_elem run_isAgg' run_sizeOf' run_zeroValue' addr_add fieldOf mapM_get mapM_places aggOf cells_one fill_step Holds' run_append_any zero_cells)
section
variable {P : Program} {G : Tr (List Value)} {id : Nat} {ev : Operand → X} {hp : Tr B} {dst : Option Tmp} {T : TypeId} {pos : String} {af : Array Edge} {gd : Option (Nat × Bool)} {e : Ef} {c : Cx}
variable {w0 : World} {M0 fr : Nat → Prop} {m : Mu} {h : Nat → Option B} {w : World}

theorem WR.drew (r : WR w0 M0 fr m h w) : WR w0 M0 fr m h w.drew := ⟨r.blk, r.own, r.inj, r.fresh, r.old, r.grown, r.os, r.tape, r.output⟩

theorem sliceCells_ok {esz : Nat} {x : X} {ns : List X} {rd : List Nat} {n : Nat} (hs : sliceCells hp esz x = some (ns, rd, n)) (hw : WR w0 M0 fr m h w) {v : Value} (hv : conc m x = some v) (hb : ∀ b ∈ rd, h b = hp.get b) :
    ∃ A cap us, v = .slice A n cap ∧ concL m ns = some us ∧ us.length = n * esz ∧ Holds' w A us := by
  unfold sliceCells at hs
  split at hs
  · rename_i b o len cap
    split at hs
    · rename_i blk hblk
      split at hs
      · rename_i T' l fz hrow
        split at hs
        · rename_i r hr
          simp only [Option.some.injEq, Prod.mk.injEq] at hs
          obtain ⟨rfl, rfl, rfl⟩ := hs
          obtain ⟨p, g1, rfl⟩ := conc_slc hv
          obtain ⟨ob, g2, g3⟩ := hw.at ((hb b (by simp)).trans hblk) g1
          obtain ⟨us, tail, g4, rfl, _⟩ := rowOf_rel hrow g3
          obtain ⟨q1, q2⟩ := piece_eq hr
          have q2' : o + len * esz ≤ l.length := q2
          have hl := concL_length g4
          refine ⟨_, cap, (us.drop o).take (len * esz), rfl, by rw [q1]; exact concL_take (concL_drop g4), by simp; omega, .inr ⟨p.1, o, rfl, fun j u hj => cells_at g2 ?_⟩⟩
          rw [List.getElem?_take] at hj
          split at hj
          · rwa [List.getElem?_drop] at hj
          · cases hj
        · cases hs
      · cases hs
    · cases hs
  · rename_i b i len sz
    replace hs := bif_inv hs
    obtain ⟨h1, hs⟩ := hs
    rw [beq_eq, decide_eq_true_eq] at h1
    subst h1
    split at hs
    · rename_i blk hblk
      split at hs
      · rename_i T' l fz hrow
        split at hs
        · rename_i r hr
          simp only [Option.some.injEq, Prod.mk.injEq] at hs
          obtain ⟨rfl, rfl, rfl⟩ := hs
          obtain ⟨p, g1, rfl⟩ := conc_gsl hv
          obtain ⟨ob, g2, g3⟩ := hw.at ((hb b (by simp)).trans hblk) g1
          obtain ⟨us, tail, g4, rfl, _⟩ := rowOf_rel hrow g3
          obtain ⟨q1, q2⟩ := piece_eq hr
          have q2' : i * sz + len * sz ≤ l.length := q2
          have hl := concL_length g4
          refine ⟨_, p.2 - i, (us.drop (i * sz)).take (len * sz), rfl, by rw [q1]; exact concL_take (concL_drop g4), by simp; omega, .inr ⟨p.1, i * sz, rfl, fun j u hj => cells_at g2 ?_⟩⟩
          rw [List.getElem?_take] at hj
          split at hj
          · rwa [List.getElem?_drop] at hj
          · cases hj
        · cases hs
      · cases hs
    · cases hs
  · simp only [Option.some.injEq, Prod.mk.injEq] at hs
    obtain ⟨rfl, rfl, rfl⟩ := hs
    have := conc_v hv; subst this
    exact ⟨none, 0, [], rfl, concL_nil, by simp, .inl rfl⟩
  · cases hs

theorem upL_two (h : Nat → Option B) (a b : Nat) (x y : Option B) : upL [(a, x), (b, y)] h = upd (upd h a x) b y := rfl

/-- Growing: the new cells in a block of their own, of room that nobody knows. -/
theorem grow_new {e' : TypeId} {cs : List X} {us : List Value} {zs : List Value} {sz n gc : Nat} (hw : WR w0 M0 fr m h w) (hid : fr id) (hcs : concL m cs = some us) (hl : us.length + zs.length = gc * sz) :
    Le m (mset m id (w.heap.size, gc)) ∧ WR w0 M0 (fun b => fr b ∧ b ≠ id) (mset m id (w.heap.size, gc)) (upd h id (some (.grow e' cs sz (0, 0)))) (w.drew.alloc (.cells (us ++ zs).toArray e')) ∧
      conc (mset m id (w.heap.size, gc)) (.gsl id 0 n sz) = some (.slice (some ⟨w.heap.size, 0, none⟩) n gc) := by
  have hf := hw.fresh id hid
  have := hw.drew.new hid (.cells (us ++ zs).toArray e') gc (.grow e' cs sz (0, 0)) ⟨us, zs, concL_mono (mset_le hf) _ _ hcs, rfl, by rw [List.length_append]; exact hl⟩
  exact ⟨this.2, this.1, by simp [conc, mset_self]⟩

theorem append_ok {t ty e' : TypeId} {ti te : TI} (ht : tiOf P t = some ti) (hs : ti.sh = .slice e') (hte : tiOf P e' = some te) {s x : X} (he : appendX id hp e' te s x = some e) (hw : WR w0 M0 fr m h w) (hid : fr id) {vs vx : Value} (hvs : conc m s = some vs) (hvx : conc m x = some vx) (hb : ∀ b ∈ e.rd, h b = hp.get b) :
    ∃ v w', (Builtin.append_ #[t, t] ty #[vs, vx]).run P w = .ok v w' ∧ Left w0 M0 fr m h id e v w' := by
  obtain ⟨inf, d, z, g1, g2, g3, g4, g5, g6, g7, g8⟩ := tiOf_spec hte
  have hu := run_slice_elem ht hs
  have hzs : z.cells.size = te.zero.length := by rw [← g6]; simp
  unfold appendX at he
  split at he
  · rename_i ns rd n os rd' len hns hos
    replace he := and_inv he
    obtain ⟨hA, hone, he⟩ := he
    simp only [Bool.and_eq_true, blt_eq, beq_eq, ble_eq, lenL_eq, decide_eq_true_eq] at hA
    obtain ⟨⟨hpos, hzl⟩, hbig⟩ := hA
    have hbig' : (len + n) * (te.bytes + 1) ≤ 1073741824 := hbig
    rw [Nat.mul_add] at hbig'
    have hby : (len + n) * inf.bytes ≤ 140737488355328 := by rw [g7]; omega
    have hlen63 : len + n ≤ 9223372036854775807 := by omega
    -- what a run makes of both lists
    have key : ∀ (hrd : ∀ b ∈ rd, h b = hp.get b) (hrd' : ∀ b ∈ rd', h b = hp.get b), ∃ A cap us B cap' ws, vs = .slice A len cap ∧ vx = .slice B n cap' ∧ concL m os = some us ∧ concL m ns = some ws ∧ us.length = len * te.sz ∧ ws.length = n * te.sz ∧ (∀ u ∈ ws, u.oneCell' = true) ∧
        (len ≤ cap → (len + n ≤ cap → (Builtin.append_ #[t, t] ty #[vs, vx]).run P w = ((match A with | some a => (storeCells (a.add (len * te.sz)) ws).run P w | none => .ok () w)).andThen fun _ w' => .ok (.slice A (len + n) cap) w') ∧
          (cap < len + n → ∃ gc zs, us.length + ws.length + zs.length = gc * te.sz ∧ len + n ≤ gc ∧ (Builtin.append_ #[t, t] ty #[vs, vx]).run P w = .ok (.slice (some ⟨w.heap.size, 0, none⟩) (len + n) gc) (w.drew.alloc (.cells ((us ++ ws) ++ zs).toArray e')))) := by
      intro hrd hrd'
      obtain ⟨A, cap, us, rfl, a2, a3, a4⟩ := sliceCells_ok hos hw hvs hrd'
      obtain ⟨B, cap', ws, rfl, b2, b3, b4⟩ := sliceCells_ok hns hw hvx hrd
      refine ⟨A, cap, us, B, cap', ws, rfl, rfl, a2, b2, a3, b3, allOne_conc hone b2, fun hc => ?_⟩
      have run := run_append_any (P := P) (w := w) (ty := ty) (cap := cap) (cap' := cap') hu g1 g3 (us := us) (vs := ws) (n := len) (m := n) (by rw [g4]; exact a3) (by rw [g4]; exact b3) a4 b4 hc hlen63 hby
      refine ⟨fun h1 => by rw [← g4]; exact run.1 h1, fun h1 => ?_⟩
      have r1 := run.2 h1
      have hge := grownCap_ge w (len + n) cap e'
      refine ⟨_, (Builtin.zeroCells z.cells (grownCap w (len + n) cap e' - (len + n))).toList, ?_, hge, ?_⟩
      · have hz3 : (Builtin.zeroCells z.cells (grownCap w (len + n) cap e' - (len + n))).toList.length = (grownCap w (len + n) cap e' - (len + n)) * te.sz := by rw [Array.length_toList, size_zeroCells, hzs, hzl]
        rw [hz3, a3, b3, ← Nat.add_mul, ← Nat.add_mul]
        exact congrArg (· * te.sz) (by omega)
      · rw [r1]
        congr 3
        congr 1
        apply Array.ext'; simp
    split at he
    · -- nil
      have hos' : os = [] ∧ len = 0 ∧ rd' = [] := by simp [sliceCells] at hos; exact ⟨hos.1, hos.2.2.symm, hos.2.1⟩
      obtain ⟨rfl, rfl, rfl⟩ := hos'
      have hv := conc_v hvs; subst hv
      cases hn : Nat.beq n 0 with
      | true =>
        rw [hn] at he
        simp only [cond_true, Option.some.injEq] at he
        subst he
        obtain ⟨A, cap, us, B, cap', ws, e1, rfl, a2, b2, a3, b3, b4, hr⟩ := key hb (fun _ h => by simp at h)
        cases e1
        have hn0 : n = 0 := Nat.eq_of_beq_eq_true hn
        subst hn0
        have := (hr (Nat.le_refl _)).1 (by omega)
        exact ⟨.slice none 0 0, w, by simpa [Result.andThen] using this, m, Le.refl m, hvs, hw.less fun b hb => hb.1⟩
      | false =>
        rw [hn] at he
        simp only [cond_false, Option.some.injEq] at he
        subst he
        obtain ⟨A, cap, us, B, cap', ws, e1, rfl, a2, b2, a3, b3, b4, hr⟩ := key hb (fun _ h => by simp at h)
        cases e1
        have hn0 : n ≠ 0 := Nat.ne_of_beq_eq_false hn
        obtain ⟨gc, zs, k1, k2, k3⟩ := (hr (Nat.le_refl _)).2 (by omega)
        have hus : us = [] := List.eq_nil_of_length_eq_zero (by simpa using a3)
        subst hus
        obtain ⟨q1, q2, q3⟩ := grow_new (e' := e') (n := n) hw hid b2 (zs := zs) (gc := gc) (sz := te.sz) (by simpa using k1)
        refine ⟨_, _, k3, _, q1, ?_, by simpa [upL] using q2⟩
        simpa using q3
    · rename_i b o len' cap
      split at he
      · rename_i blk hblk
        split at he
        · rename_i T' l fz hrow
          have hlen : len' = len := by
            have h2 := hos
            simp only [sliceCells, hblk, hrow] at h2
            split at h2
            · simp only [Option.some.injEq, Prod.mk.injEq] at h2; exact h2.2.2
            · cases h2
          have hrd'eq : rd' = [b] := by
            have h2 := hos
            simp only [sliceCells, hblk, hrow] at h2
            split at h2
            · simp only [Option.some.injEq, Prod.mk.injEq] at h2; exact h2.2.1.symm
            · cases h2
          subst hlen hrd'eq
          cases hroom : Nat.ble (Nat.add len' n) cap with
          | true =>
            rw [hroom] at he
            simp only [cond_true] at he
            replace he := bif_inv he
            obtain ⟨hth, he⟩ := he
            split at he
            · rename_i l' hl'
              simp only [Option.some.injEq] at he
              subst he
              obtain ⟨A, cap1, us, B, cap', ws, e1, rfl, a2, b2, a3, b3, b4, hr⟩ := key (fun b hb' => hb b (by simp [hb'])) (fun b hb' => hb b (by simp at hb' ⊢; exact .inl hb'))
              obtain ⟨p, p1, rfl⟩ := conc_slc hvs
              simp only [Value.slice.injEq, true_and] at e1
              obtain ⟨rfl, rfl⟩ := e1
              have hroom' : len' + n ≤ cap := Nat.le_of_ble_eq_true hroom
              have r1 := (hr (by omega)).1 hroom'
              obtain ⟨w', s1, s2⟩ := store_block (P := P) hw ((hb b (by simp)).trans hblk) p1 hrow b2 hl' (by
                have : ns.length = n * te.sz := by rw [← b3]; exact (concL_length b2).symm
                rw [this]; exact hth) b4
              refine ⟨.slice (some ⟨p.1, o, none⟩) (len' + n) cap, w', ?_, m, Le.refl m, ?_, s2.less fun b hb => hb.1⟩
              · rw [r1]
                simp only [addr_add]
                have s1' : (storeCells ⟨p.1, o + len' * te.sz, none⟩ ws).run P w = .ok () w' := s1
                rw [s1']
                rfl
              · simp only [conc, p1, Option.map_some]
                rfl
            · cases he
          | false =>
            rw [hroom] at he
            simp only [cond_false] at he
            replace he := bif_inv he
            obtain ⟨hlc, he⟩ := he
            simp only [Option.some.injEq] at he
            subst he
            obtain ⟨A, cap1, us, B, cap', ws, e1, rfl, a2, b2, a3, b3, b4, hr⟩ := key (fun b hb' => hb b (by simp [hb'])) (fun b hb' => hb b (by simp at hb' ⊢; exact .inl hb'))
            obtain ⟨p, p1, rfl⟩ := conc_slc hvs
            simp only [Value.slice.injEq, true_and] at e1
            obtain ⟨rfl, rfl⟩ := e1
            have hroom' : ¬ (len' + n ≤ cap) := fun h => by
              have : Nat.ble (Nat.add len' n) cap = true := Nat.ble_eq_true_of_le h
              rw [this] at hroom; cases hroom
            obtain ⟨gc, zs, k1, k2, k3⟩ := (hr (Nat.le_of_ble_eq_true hlc)).2 (by omega)
            obtain ⟨q1, q2, q3⟩ := grow_new (e' := e') (n := len' + n) hw hid (concL_append a2 b2) (zs := zs) (gc := gc) (sz := te.sz) (by rw [List.length_append]; exact k1)
            exact ⟨_, _, k3, _, q1, q3, by simpa [upL] using q2⟩
        · cases he
      · cases he
    · rename_i b len' sz
      replace he := bif_inv he
      obtain ⟨hsz, he⟩ := he
      rw [beq_eq, decide_eq_true_eq] at hsz
      subst hsz
      split at he
      · rename_i T' l sz' fz hblk
        replace he := bif_inv he
        obtain ⟨hsz', he⟩ := he
        rw [beq_eq, decide_eq_true_eq] at hsz'
        subst hsz'
        have hh := hos
        simp only [sliceCells, hblk, rowOf, Nat.beq_refl, cond_true] at hh
        split at hh
        case h_2 => cases hh
        rename_i pc hpc
        simp only [Option.some.injEq, Prod.mk.injEq] at hh
        obtain ⟨rfl, rfl, rfl⟩ := hh
        have e0 : Nat.mul 0 te.sz = 0 := Nat.zero_mul _
        rw [e0] at hpc
        obtain ⟨q1, q2⟩ := piece_eq hpc
        have q2' : 0 + len' * te.sz ≤ l.length := q2
        cases hin : Nat.ble (Nat.mul (Nat.add len' n) te.sz) (lenL l) with
        | true =>
          rw [hin] at he
          simp only [cond_true] at he
          replace he := bif_inv he
          obtain ⟨hth, he⟩ := he
          split at he
          · rename_i l' hl'
            simp only [Option.some.injEq] at he
            subst he
            obtain ⟨A, cap1, us, B, cap', ws, e1, rfl, a2, b2, a3, b3, b4, hr⟩ := key (fun b hb' => hb b (by simp [hb'])) (fun b hb' => hb b (by simp at hb' ⊢; exact .inl hb'))
            obtain ⟨p, p1, rfl⟩ := conc_gsl hvs
            simp only [Value.slice.injEq, true_and] at e1
            obtain ⟨rfl, rfl⟩ := e1
            have hin' : (len' + n) * te.sz ≤ l.length := by have := Nat.le_of_ble_eq_true hin; rw [lenL_eq] at this; exact this
            have room := grow_room (i := 0) (len := len' + n) hw ((hb b (by simp)).trans hblk) p1 hpos (by rw [Nat.zero_add]; exact hin')
            have r1 := (hr (by omega)).1 (by omega)
            obtain ⟨w', s1, s2⟩ := store_block (P := P) (blk := .grow T' l te.sz fz) hw ((hb b (by simp)).trans hblk) p1 rfl b2 hl' (by
              have : ns.length = n * te.sz := by rw [← b3]; exact (concL_length b2).symm
              rw [this]; exact hth) b4
            refine ⟨.slice (some ⟨p.1, 0 * te.sz, none⟩) (len' + n) (p.2 - 0), w', ?_, m, Le.refl m, ?_, s2.less fun b hb => hb.1⟩
            · rw [r1]
              simp only [addr_add, Nat.zero_mul, Nat.zero_add]
              have s1' : (storeCells ⟨p.1, len' * te.sz, none⟩ ws).run P w = .ok () w' := s1
              rw [s1']
              rfl
            · simp only [conc, p1, Option.map_some]
              rfl
          · cases he
        | false =>
          rw [hin] at he
          simp only [cond_false] at he
          replace he := and_inv he
          obtain ⟨hth, hT, he⟩ := he
          simp only [Bool.and_eq_true, beq_eq, ble_eq, decide_eq_true_eq] at hth
          rw [beq_eq, decide_eq_true_eq] at hT
          subst hT
          have q1' : pc = (l.drop 0).take (len' * te.sz) := q1
          obtain ⟨f1, f2⟩ := fz
          obtain ⟨⟨_, rfl⟩, rfl⟩ := hth
          simp only [Option.some.injEq] at he
          subst he
          obtain ⟨A, cap1, us, B, cap', ws, e1, rfl, a2, b2, a3, b3, b4, hr⟩ := key (fun b hb' => hb b (by simp [hb'])) (fun b hb' => hb b (by simp at hb' ⊢; exact .inl hb'))
          obtain ⟨p, p1, rfl⟩ := conc_gsl hvs
          simp only [Value.slice.injEq, true_and] at e1
          obtain ⟨rfl, rfl⟩ := e1
          have hhb := (hb b (by simp)).trans hblk
          have room := grow_room (i := 0) (len := len') hw hhb p1 hpos (by have q3 : 0 + len' * te.sz ≤ l.length := q2; rw [Nat.zero_add] at q3 ⊢; exact q3)
          by_cases hcap : len' + n ≤ p.2 - 0
          · have r1 := (hr (by omega)).1 hcap
            obtain ⟨ob, o1, vs0, tail, o2, rfl, o3⟩ := hw.at hhb p1
            have hv0 := concL_length o2
            have hwl : ws.length = n * te.sz := b3
            have hmul : (len' + n) * te.sz ≤ p.2 * te.sz := Nat.mul_le_mul_right _ (by omega)
            rw [Nat.add_mul] at hmul
            have hnin : ¬ (len' + n) * te.sz ≤ l.length := fun hle => by
              have : Nat.ble (Nat.mul (Nat.add len' n) te.sz) (lenL l) = true := Nat.ble_eq_true_of_le (by rw [lenL_eq]; exact hle)
              rw [this] at hin; cases hin
            rw [Nat.add_mul] at hnin
            obtain ⟨w', s1, s2, s3⟩ := run_storeF (P := P) ws 0 (len' * te.sz) (vs0 ++ tail) w o1 (by omega) (fun j h1 h2 => by simp) b4
            rw [Nat.add_zero] at s2
            have husd : us = vs0.take (len' * te.sz) := by
              have t1 := concL_take (n := len' * te.sz) (concL_drop (n := 0) o2)
              rw [← q1', a2] at t1
              simpa using t1
            have hset : setL (vs0 ++ tail) (len' * te.sz) ws = (us ++ ws) ++ (vs0 ++ tail).drop (len' * te.sz + ws.length) := by
              rw [husd]
              simp only [setL, List.append_assoc]
              rw [List.take_append_of_le_length (by omega)]
            have tk := hw.take hhb p1 hid s3 (.grow T' (pc ++ ns) te.sz (0, 0)) _ s2 ⟨us ++ ws, (vs0 ++ tail).drop (len' * te.sz + ws.length), concL_append a2 b2, by rw [hset], by
              rw [← hset, setL_length (by omega)]; exact o3⟩
            refine ⟨.slice (some ⟨p.1, 0 * te.sz, none⟩) (len' + n) (p.2 - 0), w', ?_, _, tk.2, ?_, by rw [upL_two]; exact tk.1⟩
            · rw [r1]
              simp only [addr_add, Nat.zero_mul, Nat.zero_add]
              rw [s1]
              rfl
            · simp only [conc, mset_self, Option.map_some]
              rfl
          · obtain ⟨gc, zs, k1, k2, k3⟩ := (hr (by omega)).2 (by omega)
            obtain ⟨y1, y2, y3⟩ := grow_new (e' := T') (n := len' + n) hw hid (concL_append a2 b2) (zs := zs) (gc := gc) (sz := te.sz) (by rw [List.length_append]; exact k1)
            refine ⟨_, _, k3, _, y1, y3, ?_⟩
            rw [upL_two]
            exact y2.drop fun c y hc => by
              unfold upd at hc ⊢
              by_cases ec : b = c
              · rw [if_pos ec] at hc; cases hc
              · rw [if_neg ec] at hc; exact hc
      · cases he
    · cases he
  · cases he
end
end Go.Ex
