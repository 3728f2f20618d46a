/- The abstract layer, part 11: append's effect; nil checks; functions and interface values made. -/
import Derived.Test.YtblbhfnpneliiaaGreatDoorAbOps7
namespace Go.Ab
open Go.RowKit
section
variable {P : Program} {w0 : World} {M0 I0 fr I : Nat → Prop} {mu : Nat → Option Value} {h : Nat → Option Blk} {w : World}

def appendE (id : Nat) (hp : Nat → Option Blk) (te : TI) (b x : D) : Res :=
  match newsD hp x with
  | none => none
  | some (news, rd, c) => match b with
    | .slice es true => some (⟨.gref id (es.length + news.length), [(id, some (.grow (es ++ news) te.sz))], rd⟩,
        c ∧ (es = [] ∨ news.length ≠ 0) ∧ (es.length + news.length) * te.bytes ≤ 140737488355328 ∧ es.length + news.length ≤ 1073741824 ∧ 0 < te.sz ∧ te.zero.length = te.sz ∧ (∀ y ∈ es, y.length = te.sz) ∧ ∀ y ∈ news, y.length = te.sz)
    | .gref g len => match hp g with
      | some (.grow es sz) => some (⟨.gref id (es.length + news.length), [(g, none), (id, some (.grow (es ++ news) sz))], g :: rd⟩,
          c ∧ len = es.length ∧ sz = te.sz ∧ g ≠ id ∧ (es.length + news.length) * te.bytes ≤ 140737488355328 ∧ es.length + news.length ≤ 1073741824 ∧ 0 < te.sz ∧ te.zero.length = te.sz ∧ (∀ y ∈ news, y.length = te.sz) ∧ ∀ y ∈ news, ∀ d ∈ y, oneD d = true)
      | _ => none
    | _ => none

theorem grow_new {T : TypeId} {es : List (List D)} {sz : Nat} {us vs : List Value} {A : Option Addr} {mu' : Nat → Option Value} {id cap k : Nat} {w' : World} (hmu : mu' id = some (.slice (some ⟨k, 0, none⟩) es.length cap)) (hpos : 0 < cap) (hcm : cap ≤ maxLen) (hle : es.length ≤ cap)
    (hheap : w'.heap[k]? = some (.cells (us ++ vs).toArray T (0, 0))) (hlen : us.length + vs.length = cap * sz) (hrows : RowsRep w' I mu' es sz us) : BRep w' I mu' id (.grow es sz) := by
  refine ⟨some ⟨k, 0, none⟩, cap, T, us ++ vs, hmu, hrows.2.1, hcm, .inr ⟨k, hpos, rfl, hheap, hle, by rw [List.length_append]; exact hlen, fun i j hi hj => ?_⟩⟩
  have hlt : i * sz + j < us.length := by
    rw [hrows.1]
    have : i * sz + sz ≤ es.length * sz := by rw [← Nat.succ_mul]; exact Nat.mul_le_mul_right _ hi
    omega
  have : nv (us ++ vs) (i * sz + j) = nv us (i * sz + j) := by simp only [nv, List.getD_eq_getElem?_getD]; rw [List.getElem?_append_left hlt]
  rw [this]
  exact hrows.2.2 i j hi hj

theorem runs_append {t ty e' : TypeId} {ti te : TI} (ht : tiOf P t = some ti) (hs : ti.sh = .slice e') (hte : tiOf P e' = some te) {id : Nat} {hp : Nat → Option Blk} {db dx : D} {e : Eff} {c : Prop} (he : appendE id hp te db dx = some (e, c)) (hc : c)
    (hr : WRel w0 M0 I0 fr I mu h w) (hid : fr id) {vb vx : Value} (hvb : Rep w I mu db vb) (hvx : Rep w I mu dx vx) (hb : ∀ b ∈ e.rd, h b = hp b) : Runs P (fun w => (Builtin.append_ #[t, t] ty #[vb, vx]).run P w) id e.d e.up w0 M0 I0 fr I mu h w := by
  obtain ⟨inf, d, z, g1, g2, g3, g4, g5, g6, g7, g8⟩ := tiOf_spec hte
  have hu := run_slice_elem ht hs
  have hzs : z.cells.size = te.zero.length := by rw [← g6]; simp
  unfold appendE at he
  split at he
  · cases he
  · rename_i news rd c' hnews
    split at he
    · rename_i es
      simp only [Option.some.injEq, Prod.mk.injEq] at he
      obtain ⟨rfl, rfl⟩ := he
      obtain ⟨hc', hne, hby, hln, hsz, hzl, hes, hnw⟩ := hc
      obtain ⟨B, capB, vs, rfl, hrv, hB⟩ := newsD_spec hnews hc' hr hvx hb hsz hnw
      have hself : newsD hp (.slice es true) = some (es, [], True) := rfl
      obtain ⟨A, cap, us, rfl, hru, hA⟩ := newsD_spec (hp := hp) hself trivial hr hvb (fun b hb => by simp at hb) hsz hes
      have hcap : cap = es.length := by cases hvb with | slice _ _ _ k o sz cap u hA hcp htg hm hlen hcell hrep => exact htg rfl
      subst hcap
      have run := run_append_any (P := P) (w := w) (ty := ty) (cap := es.length) (cap' := capB) hu g1 g3 (us := us) (vs := vs) (n := es.length) (m := news.length) (by rw [g4]; exact hru.1) (by rw [g4]; exact hrv.1) hA hB (Nat.le_refl _) (by omega) (by rw [g7]; exact hby)
      by_cases h0 : news.length = 0
      · have hes0 : es = [] := hne.resolve_right (by simp [h0])
        have hnews0 : news = [] := List.eq_nil_of_length_eq_zero h0
        subst hes0 hnews0
        have hvs0 : vs = [] := List.eq_nil_of_length_eq_zero (by simpa using hrv.1)
        subst hvs0
        have r1 := run.1 (by simp)
        have hid0 := hr.fresh id hid
        have := hr.put (b0 := none) hid w (.slice A 0 0) (.grow [] te.sz) (fun k hk => by cases A <;> simp [locBlk] at hk) (Nat.le_refl _) (fun _ _ _ => rfl) rfl rfl rfl ⟨A, 0, e', [], by simp [mset], fun i hi => by simp at hi, Nat.zero_le _, .inl ⟨rfl, rfl⟩⟩
        refine ⟨.slice A 0 0, w, I, mset mu id (.slice A 0 0), ?_, this.2, ?_, .gref id 0 A 0 (by simp [mset])⟩
        · simp only [List.length_nil] at r1 ⊢
          rw [r1]
          cases A <;> simp [storeCells]
        · have h2 := this.1
          have e1 : (fun c => if c = id then some (Blk.grow [] te.sz) else if (none : Option Nat) = some c then none else h c) = fun b => upAt b (h b) [(id, some (.grow ([] ++ []) te.sz))] := by
            funext b; simp only [upAt, List.foldl_cons, List.foldl_nil, List.append_nil]
            by_cases hbi : b = id
            · subst hbi; simp
            · have : ¬ id = b := fun h => hbi h.symm
              simp [hbi, this]
          rw [e1] at h2
          exact h2
      · have r1 := run.2 (by omega)
        generalize hcg : grownCap w (es.length + news.length) es.length e' = gc at r1
        have hge : es.length + news.length ≤ gc := by rw [← hcg]; exact grownCap_ge w _ _ _
        have hgm : gc ≤ maxLen := by rw [← hcg]; exact grownCap_le_maxLen w _ _ _ (by simp only [maxLen]; omega)
        have hcells : (us ++ vs).toArray ++ Builtin.zeroCells z.cells (gc - (es.length + news.length)) = ((us ++ vs) ++ (Builtin.zeroCells z.cells (gc - (es.length + news.length))).toList).toArray := by
          apply Array.ext'; simp
        have r2 : (Builtin.append_ #[t, t] ty #[.slice A es.length es.length, .slice B news.length capB]).run P w = .ok (.slice (some ⟨w.heap.size, 0, none⟩) (es.length + news.length) gc) (w.drew.alloc (.cells ((us ++ vs) ++ (Builtin.zeroCells z.cells (gc - (es.length + news.length))).toList).toArray e')) := by
          rw [← hcells, ← List.append_toArray us vs]; exact r1
        generalize hw' : w.drew.alloc (.cells ((us ++ vs) ++ (Builtin.zeroCells z.cells (gc - (es.length + news.length))).toList).toArray e') = w' at r2
        have hsame : ∀ j, j < w.heap.size → w'.heap[j]? = w.heap[j]? := fun j hj => by rw [← hw']; exact heap_alloc_lt w.drew _ hj
        have hws : w'.heap.size = w.heap.size + 1 := by rw [← hw']; simp
        have hid0 := hr.fresh id hid
        have hm := mset_ext (v := .slice (some ⟨w.heap.size, 0, none⟩) (es.length + news.length) gc) hid0
        have hll : (es ++ news).length = es.length + news.length := List.length_append
        have := hr.put (b0 := none) hid w' (.slice (some ⟨w.heap.size, 0, none⟩) (es.length + news.length) gc) (.grow (es ++ news) te.sz) (fun k hk => by
            simp only [locBlk] at hk
            rw [if_neg (by omega)] at hk
            cases hk; exact .inl ⟨Nat.le_refl _, by omega⟩) (by omega) (fun j hj _ => hsame j hj) (by rw [← hw']; rfl) (by rw [← hw']; rfl) (by rw [← hw']; rfl)
          (grow_new (A := none) (us := us ++ vs) (T := e') (k := w.heap.size) (cap := gc) (by simp [mset, hll]) (by omega) hgm (by omega) (by rw [← hw']; exact heap_alloc_new w.drew _) (by
              have q3 : (Builtin.zeroCells z.cells (gc - (es.length + news.length))).toList.length = (gc - (es.length + news.length)) * te.sz := by rw [Array.length_toList, size_zeroCells, hzs, hzl]
              rw [List.length_append, hru.1, hrv.1, q3, ← Nat.add_mul, ← Nat.add_mul]
              exact congrArg (· * te.sz) (by omega))
            ((hru.append hrv).mono ⟨fun _ h => h, hm, fun k hk => hsame k (hr.lt k hk)⟩))
        refine ⟨_, w', I, _, r2, this.2, ?_, .gref id _ _ gc (by simp [mset])⟩
        have h2 := this.1
        have e1 : (fun c => if c = id then some (Blk.grow (es ++ news) te.sz) else if (none : Option Nat) = some c then none else h c) = fun b => upAt b (h b) [(id, some (.grow (es ++ news) te.sz))] := by
          funext b; simp only [upAt, List.foldl_cons, List.foldl_nil]
          by_cases hbi : b = id
          · subst hbi; simp
          · have : ¬ id = b := fun h => hbi h.symm
            simp [hbi, this]
        rw [e1] at h2
        exact h2
    · rename_i g len
      split at he
      · rename_i es sz hx
        simp only [Option.some.injEq, Prod.mk.injEq] at he
        obtain ⟨rfl, rfl⟩ := he
        obtain ⟨hc', rfl, rfl, hgid, hby, hln, hsz, hzl, hnw, hnone⟩ := hc
        have hg : h g = some (.grow es te.sz) := (hb g (by simp)).trans hx
        obtain ⟨B, capB, vs, rfl, hrv, hB⟩ := newsD_spec hnews hc' hr hvx (fun b hb' => hb b (by simp [hb'])) hsz hnw
        obtain ⟨A, cap, T, us0, h1, h2, h3, h4⟩ := hr.blk g _ hg
        have hes : ∀ y ∈ es, y.length = te.sz := by
          intro y hy
          obtain ⟨i, hi, rfl⟩ := List.mem_iff_getElem.1 hy
          have := h2 i hi
          simpa [nr, List.getD_eq_getElem?_getD, hi] using this
        have hself : newsD h (.gref g es.length) = some (es, [g], es.length = es.length) := by simp [newsD, hg]
        obtain ⟨A', cap', us, hveq, hru, hA⟩ := newsD_spec hself rfl hr hvb (fun b hb' => rfl) hsz hes
        have hvb' : vb = .slice A es.length cap := by
          cases hvb with
          | gref _ _ A'' cap'' hk =>
            rw [h1] at hk
            simp only [Option.some.injEq, Value.slice.injEq, true_and] at hk
            rw [hk.1, hk.2]
        rw [hvb'] at hveq
        simp only [Value.slice.injEq, true_and] at hveq
        obtain ⟨rfl, rfl⟩ := hveq
        subst hvb'
        have hncap : es.length ≤ cap := by
          rcases h4 with ⟨rfl, rfl⟩ | ⟨k, _, _, _, h5, _⟩
          · simp
          · exact h5
        have run := run_append_any (P := P) (w := w) (ty := ty) (cap := cap) (cap' := capB) hu g1 g3 (us := us) (vs := vs) (n := es.length) (m := news.length) (by rw [g4]; exact hru.1) (by rw [g4]; exact hrv.1) hA hB hncap (by omega) (by rw [g7]; exact hby)
        have hid0 := hr.fresh id hid
        have hll : (es ++ news).length = es.length + news.length := List.length_append
        have e1 : (fun c => if c = id then some (Blk.grow (es ++ news) te.sz) else if (some g : Option Nat) = some c then none else h c) = fun b => upAt b (h b) [(g, none), (id, some (.grow (es ++ news) te.sz))] := by
          funext b; simp only [upAt, List.foldl_cons, List.foldl_nil, Option.some.injEq]
          by_cases hbi : b = id
          · subst hbi; simp
          · have : ¬ id = b := fun h => hbi h.symm
            simp [hbi, this]
        by_cases hroom : es.length + news.length ≤ cap
        · have r1 := run.1 hroom
          rcases h4 with ⟨rfl, rfl⟩ | ⟨k, hpos, rfl, h5, h6, h7, h8⟩
          · -- nothing, and nothing appended
            have hnews0 : news = [] := List.eq_nil_of_length_eq_zero (by simpa using hroom)
            subst hnews0
            have hvs0 : vs = [] := List.eq_nil_of_length_eq_zero (by simpa using hrv.1)
            subst hvs0
            have := hr.put (b0 := some g) hid w (.slice A 0 0) (.grow ([] ++ []) te.sz) (fun k hk => by cases A <;> simp [locBlk] at hk) (Nat.le_refl _) (fun _ _ _ => rfl) rfl rfl rfl ⟨A, 0, e', [], by simp [mset], fun i hi => by simp at hi, Nat.zero_le _, .inl ⟨rfl, rfl⟩⟩
            refine ⟨.slice A 0 0, w, I, mset mu id (.slice A 0 0), ?_, this.2, by rw [← e1]; exact this.1, .gref id 0 A 0 (by simp [mset])⟩
            · simp only [List.length_nil] at r1 ⊢
              rw [r1]
              cases A <;> simp [storeCells]
          · -- in place
            have hloc : locBlk (.slice (some ⟨k, 0, none⟩) es.length cap) = some k := by simp [locBlk]; omega
            have hlg := hr.loc g _ _ k hg h1 hloc
            have hmul : (es.length + news.length) * te.sz ≤ cap * te.sz := Nat.mul_le_mul_right _ hroom
            rw [Nat.add_mul] at hmul
            have hone : ∀ u ∈ vs, u.oneCell' = true := by
              intro u hu
              obtain ⟨m, hm, rfl⟩ := List.mem_iff_getElem.1 hu
              have hm' : m < news.length * te.sz := by rw [← hrv.1]; exact hm
              have q1 : m / te.sz < news.length := (Nat.div_lt_iff_lt_mul hsz).2 hm'
              have q2 : m % te.sz < te.sz := Nat.mod_lt _ hsz
              have q3 := hrv.2.2 _ _ q1 q2
              have q4 : m / te.sz * te.sz + m % te.sz = m := by rw [Nat.mul_comm]; exact Nat.div_add_mod m te.sz
              rw [q4] at q3
              have q5 : nv vs m = vs[m] := by simp [nv, List.getD_eq_getElem?_getD, hm]
              rw [q5] at q3
              refine q3.one ?_
              have q6 : nr news (m / te.sz) = news[m / te.sz] := by simp [nr, List.getD_eq_getElem?_getD, q1]
              have q7 := hnw _ (List.getElem_mem q1)
              rw [q6]
              have q8 : nd news[m / te.sz] (m % te.sz) = news[m / te.sz][m % te.sz]'(by omega) := by simp [nd, List.getD_eq_getElem?_getD, show m % te.sz < news[m / te.sz].length by omega]
              rw [q8]
              exact hnone _ (List.getElem_mem q1) _ (List.getElem_mem _)
            obtain ⟨w', hrun, hheap, hwrote⟩ := run_storeCells (P := P) (T := T) vs 0 (es.length * te.sz) us0 w h5 (by rw [hrv.1]; omega) hone
            simp only [Nat.add_zero] at hheap
            have hm := mset_ext (v := .slice (some ⟨k, 0, none⟩) (es.length + news.length) cap) hid0
            have hIw : ∀ j, I j → w'.heap[j]? = w.heap[j]? := fun j hj => hwrote.other j (by rintro rfl; exact hlg.2.1 hj)
            have hsplit : setL us0 (es.length * te.sz) vs = (us0.take (es.length * te.sz) ++ vs) ++ us0.drop (es.length * te.sz + vs.length) := by simp [setL]
            have hrows0 : RowsRep w I mu es te.sz (us0.take (es.length * te.sz)) := by
              refine ⟨by simp; omega, h2, fun i j hi hj => ?_⟩
              have hlt : i * te.sz + j < es.length * te.sz := by
                have : i * te.sz + te.sz ≤ es.length * te.sz := by rw [← Nat.succ_mul]; exact Nat.mul_le_mul_right _ hi
                omega
              have : nv (us0.take (es.length * te.sz)) (i * te.sz + j) = nv us0 (i * te.sz + j) := by simp only [nv, List.getD_eq_getElem?_getD]; rw [List.getElem?_take_of_lt hlt]
              rw [this]; exact h8 i j hi hj
            have := hr.put (b0 := some g) hid w' (.slice (some ⟨k, 0, none⟩) (es.length + news.length) cap) (.grow (es ++ news) te.sz) (fun j hj => by
                simp only [locBlk] at hj
                rw [if_neg (by omega)] at hj
                cases hj
                exact .inr ⟨g, _, _, rfl, hg, h1, hloc⟩) (by rw [hwrote.size]; exact Nat.le_refl _) (fun j _ hj => hwrote.other j (fun hjk => hj g _ _ rfl hg h1 (by rw [hjk]; exact hloc))) hwrote.os hwrote.tape hwrote.output
              (grow_new (A := none) (T := T) (k := k) (cap := cap) (us := us0.take (es.length * te.sz) ++ vs) (vs := us0.drop (es.length * te.sz + vs.length)) (by simp [mset, hll]) hpos h3 (by omega) (by rw [← hsplit]; exact hheap) (by
                  have := hrv.1
                  simp only [List.length_append, List.length_take, List.length_drop]; omega)
                ((hrows0.append hrv).mono ⟨fun _ h => h, hm, hIw⟩))
            refine ⟨.slice (some ⟨k, 0, none⟩) (es.length + news.length) cap, w', I, _, ?_, this.2, by rw [← e1]; exact this.1, .gref id _ _ cap (by simp [mset])⟩
            have r2 := r1
            simp only [addr_add, Nat.zero_add, g4] at r2
            show (Builtin.append_ #[t, t] ty #[_, _]).run P w = _
            rw [r2, hrun]; rfl
        · have r1 := run.2 (by omega)
          generalize hcg : grownCap w (es.length + news.length) cap e' = gc at r1
          have hge : es.length + news.length ≤ gc := by rw [← hcg]; exact grownCap_ge w _ _ _
          have hgm : gc ≤ maxLen := by rw [← hcg]; exact grownCap_le_maxLen w _ _ _ (by simp only [maxLen]; omega)
          have hcells : (us ++ vs).toArray ++ Builtin.zeroCells z.cells (gc - (es.length + news.length)) = ((us ++ vs) ++ (Builtin.zeroCells z.cells (gc - (es.length + news.length))).toList).toArray := by
            apply Array.ext'; simp
          have r2 : (Builtin.append_ #[t, t] ty #[.slice A es.length cap, .slice B news.length capB]).run P w = .ok (.slice (some ⟨w.heap.size, 0, none⟩) (es.length + news.length) gc) (w.drew.alloc (.cells ((us ++ vs) ++ (Builtin.zeroCells z.cells (gc - (es.length + news.length))).toList).toArray e')) := by
            rw [← hcells, ← List.append_toArray us vs]; exact r1
          generalize hw' : w.drew.alloc (.cells ((us ++ vs) ++ (Builtin.zeroCells z.cells (gc - (es.length + news.length))).toList).toArray e') = w' at r2
          have hsame : ∀ j, j < w.heap.size → w'.heap[j]? = w.heap[j]? := fun j hj => by rw [← hw']; exact heap_alloc_lt w.drew _ hj
          have hws : w'.heap.size = w.heap.size + 1 := by rw [← hw']; simp
          have hm := mset_ext (v := .slice (some ⟨w.heap.size, 0, none⟩) (es.length + news.length) gc) hid0
          have := hr.put (b0 := some g) hid w' (.slice (some ⟨w.heap.size, 0, none⟩) (es.length + news.length) gc) (.grow (es ++ news) te.sz) (fun k hk => by
              simp only [locBlk] at hk
              rw [if_neg (by omega)] at hk
              cases hk; exact .inl ⟨Nat.le_refl _, by omega⟩) (by omega) (fun j hj _ => hsame j hj) (by rw [← hw']; rfl) (by rw [← hw']; rfl) (by rw [← hw']; rfl)
            (grow_new (A := none) (us := us ++ vs) (T := e') (k := w.heap.size) (cap := gc) (by simp [mset, hll]) (by omega) hgm (by omega) (by rw [← hw']; exact heap_alloc_new w.drew _) (by
                have q3 : (Builtin.zeroCells z.cells (gc - (es.length + news.length))).toList.length = (gc - (es.length + news.length)) * te.sz := by rw [Array.length_toList, size_zeroCells, hzs, hzl]
                rw [List.length_append, hru.1, hrv.1, q3, ← Nat.add_mul, ← Nat.add_mul]
                exact congrArg (· * te.sz) (by omega))
              ((hru.append hrv).mono ⟨fun _ h => h, hm, fun k hk => hsame k (hr.lt k hk)⟩))
          exact ⟨_, w', I, _, r2, this.2, by rw [← e1]; exact this.1, .gref id _ _ gc (by simp [mset])⟩
      · cases he
    · cases he

end
end Go.Ab
