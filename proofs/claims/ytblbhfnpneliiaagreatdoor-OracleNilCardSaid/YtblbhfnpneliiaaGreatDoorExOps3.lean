/- The exact evaluator, part 6: parts, places, lengths, slicing. -/
import Derived.Test.YtblbhfnpneliiaaGreatDoorExOps2
import Derived.Test.YtblbhfnpneliiaaGreatDoorAbOps6
namespace Go.Ex
open Go.RowKit
open Go.Ab (TI Sh setL tiOf Wrote tiOf_spec ti_bool ti_str ti_int ti_ptr ti_map ti_arr ti_struct run_slice_elem run_isAgg' run_sizeOf' run_zeroValue' addr_add fieldOf mapM_get aggOf sliced_run)
section
variable {P : Program} {G : Tr (List Value)} {id : Nat} {ev : Operand → X} {hp : Tr B} {dst : Option Tmp} {T : TypeId} {pos : String} {af : Array Edge} {gd : Option (Nat × Bool)} {e : Ef} {c : Cx}
variable {w0 : World} {M0 fr : Nat → Prop} {m : Mu} {h : Nat → Option B} {w : World}

theorem extract_ok {l : List X} {i : Nat} {y : X} (hn : nth l i = some y) {v : Value} (hv : conc m (.tup l) = some v) : ∃ u, (Instr.extract v i).run P w = .ok u w ∧ conc m y = some u := by
  obtain ⟨us, h1, rfl⟩ := conc_tup hv
  rw [nth_eq] at hn
  obtain ⟨u, h2, h3⟩ := concL_get h1 hn
  exact ⟨u, by simp [Instr.extract, h2], h3⟩

theorem fldOf_inv {t : TypeId} {ti : TI} (ht : tiOf P t = some ti) {i : Nat} {off sz : Nat} {ag : Bool} (hf : fldOf ti i = some (off, sz, ag)) : ∃ (l : Array Field) (f : Field), P.underlying t = some (.struct l) ∧ l[i]? = some f ∧ f.offset = off ∧
    (∀ w, (isAgg f.type).run P w = .ok ag w) ∧ (∀ w, (sizeOf f.type).run P w = .ok sz w) := by
  unfold fldOf at hf
  split at hf
  · rename_i fs hfs
    rw [nth_eq] at hf
    obtain ⟨l, hl1, hl2⟩ := ti_struct ht hfs
    obtain ⟨f, hf1, hf2⟩ := mapM_get hl2 i _ hf
    unfold fieldOf at hf2
    split at hf2
    · rename_i inf dsc hinf hdsc
      simp only [Option.some.injEq, Prod.mk.injEq] at hf2
      obtain ⟨rfl, rfl, rfl⟩ := hf2
      refine ⟨l, f, hl1, by simpa using hf1, rfl, fun w => ?_, fun w => by simp [sizeOf, typeInfo, hinf]⟩
      simp only [isAgg, Sem.run_bind, run_underlying hdsc, Result.andThen]
      cases dsc <;> rfl
    · cases hf2
  · cases hf

theorem field_ok {t : TypeId} {ti : TI} (ht : tiOf P t = some ti) {i : Nat} {x : X} (he : fieldX ti i x = some e) {v : Value} (hv : conc m x = some v) : e.up = [] ∧ e.rd = [] ∧ ∃ u, (Instr.field t v i).run P w = .ok u w ∧ conc m e.x = some u := by
  unfold fieldX at he
  split at he
  · rename_i l
    split at he
    · rename_i o n ag hf
      obtain ⟨fl, f, h1, h2, h3, h4, h5⟩ := fldOf_inv ht hf
      obtain ⟨us, hus, rfl⟩ := conc_agg hv
      subst h3
      cases ag <;> simp only [cond_true, cond_false] at he
      · split at he
        · rename_i x hx
          have := pX_inv he; subst this
          rw [nth_eq] at hx
          obtain ⟨u, g1, g2⟩ := concL_get hus hx
          refine ⟨rfl, rfl, u, ?_, g2⟩
          simp only [Instr.field, Sem.run_bind, run_underlying h1, Result.andThen, h2, asAgg, Sem.run_pure, part, h4]
          simp [g1]
        · cases he
      · split at he
        · rename_i r hr
          have := pX_inv he; subst this
          obtain ⟨g1, g2⟩ := piece_eq hr
          subst g1
          refine ⟨rfl, rfl, .agg ((us.drop f.offset).take n).toArray, ?_, by simp [conc, concL_take (concL_drop hus)]⟩
          simp only [Instr.field, Sem.run_bind, run_underlying h1, Result.andThen, h2, asAgg, Sem.run_pure, part, h4]
          simp [h5]
        · cases he
    · cases he
  · cases he

theorem fieldAddr_ok {t : TypeId} {ti : TI} (ht : tiOf P t = some ti) {i : Nat} {x : X} (he : fieldAddrX ti i x = some e) {v : Value} (hv : conc m x = some v) : e.up = [] ∧ e.rd = [] ∧ ∃ u, (Instr.fieldAt t v i).run P w = .ok u w ∧ conc m e.x = some u := by
  unfold fieldAddrX at he
  split at he
  · rename_i o n ag hf
    obtain ⟨fl, f, h1, h2, h3, h4, h5⟩ := fldOf_inv ht hf
    subst h3
    rw [beq_eq] at he
    by_cases hn : n = 0
    · simp [hn] at he
    · simp only [hn, decide_false, cond_false] at he
      have run : ∀ k o, (Instr.fieldAt t (.pointer (some ⟨k, o, none⟩)) i).run P w = .ok (.pointer (some ⟨k, o + f.offset, none⟩)) w := by
        intro k o
        simp [Instr.fieldAt, run_underlying h1, h2, Instr.sureAddr, fieldPlace, h5, hn, addr_add]
      split at he
      · rename_i b p
        have := pX_inv he; subst this
        obtain ⟨q, g1, rfl⟩ := conc_ptr hv
        exact ⟨rfl, rfl, _, run _ _, by simp [conc, g1]⟩
      · rename_i g p
        have := pX_inv he; subst this
        have := conc_v hv; subst this
        exact ⟨rfl, rfl, _, run _ _, conc_vv m _⟩
      · cases he
  · cases he

theorem natOf_inv {x : X} {n : Nat} (hn : natOf x = some n) {v : Value} (hv : conc m x = some v) : ∃ k, v = .int k (n : Int) := by
  unfold natOf at hn
  split at hn
  · rename_i k q
    simp only [Option.some.injEq] at hn
    subst hn
    have := conc_v hv; subst this
    exact ⟨k, rfl⟩
  · cases hn

theorem indexAddr_ok {t e' : TypeId} {ti te : TI} (ht : tiOf P t = some ti) (hs : ti.sh = .slice e') (hte : tiOf P e' = some te) {x i : X} (he : indexAddrX te.sz x i = some e) {v u : Value} (hv : conc m x = some v) (hi : conc m i = some u) :
    e.up = [] ∧ e.rd = [] ∧ ∃ y, (Instr.indexAt t v u).run P w = .ok y w ∧ conc m e.x = some y := by
  have hu := run_slice_elem ht hs
  unfold indexAddrX at he
  split at he
  · rename_i n hn
    obtain ⟨k, rfl⟩ := natOf_inv hn hi
    split at he
    · rename_i b o len cap
      rw [blt_eq] at he
      by_cases hl : n < len
      · simp only [hl, decide_true, cond_true] at he
        have := pX_inv he; subst this
        obtain ⟨q, g1, rfl⟩ := conc_slc hv
        refine ⟨rfl, rfl, .pointer (some ⟨q.1, o + n * te.sz, none⟩), ?_, by simp [conc, g1]⟩
        simp [Instr.indexAt, asIntOf, run_underlying hu, run_sizeOf' hte, hl, addr_add]
      · simp [hl] at he
    · rename_i b r len sz
      rw [blt_eq, beq_eq] at he
      by_cases hl : n < len
      · by_cases hz : sz = te.sz
        · simp only [hl, hz, decide_true, Bool.and_self, cond_true] at he
          have := pX_inv he; subst this
          subst hz
          obtain ⟨q, g1, rfl⟩ := conc_gsl hv
          refine ⟨rfl, rfl, .pointer (some ⟨q.1, (r + n) * te.sz, none⟩), ?_, by simp [conc, g1]⟩
          simp [Instr.indexAt, asIntOf, run_underlying hu, run_sizeOf' hte, hl, addr_add, Nat.add_mul]
        · simp [hz] at he
      · simp [hl] at he
    · cases he
  · cases he

theorem indexArr_ok {t e' : TypeId} {n : Nat} {te : TI} {ti : TI} (ht : tiOf P t = some ti) (hs : ti.sh = .arr n e') (hte : tiOf P e' = some te) {x i : X} (he : indexArrX n te.sz x i = some e) {v u : Value} (hv : conc m x = some v) (hi : conc m i = some u) :
    e.up = [] ∧ e.rd = [] ∧ ∃ y, (Instr.indexAt t v u).run P w = .ok y w ∧ conc m e.x = some y := by
  have hu := ti_arr ht hs
  unfold indexArrX at he
  split at he
  · rename_i k hn
    obtain ⟨kk, rfl⟩ := natOf_inv hn hi
    rw [blt_eq, beq_eq] at he
    by_cases hl : k < n
    · by_cases hz : te.sz = 0
      · simp [hz] at he
      · simp only [hl, hz, decide_true, decide_false, Bool.not_false, Bool.and_self, cond_true] at he
        have run : ∀ b o, (Instr.indexAt t (.pointer (some ⟨b, o, none⟩)) (.int kk (k : Int))).run P w = .ok (.pointer (some ⟨b, o + k * te.sz, none⟩)) w := by
          intro b o
          simp [Instr.indexAt, asIntOf, run_underlying hu, run_sizeOf' hte, hl, addr_add, Instr.sureAddr]
        split at he
        · rename_i b o
          have := pX_inv he; subst this
          obtain ⟨q, g1, rfl⟩ := conc_ptr hv
          exact ⟨rfl, rfl, _, run _ _, by simp [conc, g1]⟩
        · rename_i g o
          have := pX_inv he; subst this
          have := conc_v hv; subst this
          exact ⟨rfl, rfl, _, run _ _, conc_vv m _⟩
        · cases he
    · simp [hl] at he
  · cases he

theorem index_ok {t : TypeId} {ti : TI} (ht : tiOf P t = some ti) (hs : ti.sh = .str) {x i : X} (he : indexX x i = some e) {v u : Value} (hv : conc m x = some v) (hi : conc m i = some u) :
    e.up = [] ∧ e.rd = [] ∧ ∃ y, (Instr.index t v u).run P w = .ok y w ∧ conc m e.x = some y := by
  unfold indexX at he
  split at he
  · rename_i n hn
    obtain ⟨k, rfl⟩ := natOf_inv hn hi
    split at he
    · rename_i s
      split at he
      · rename_i c hc
        have := pX_inv he; subst this
        have := conc_v hv; subst this
        rw [nth_eq] at hc
        have hlt : n < s.size := by
          have := (List.getElem?_eq_some_iff.1 hc).1
          simpa [strL] using this
        have h1 : s[n]? = some s[n] := getElem?_pos s n hlt
        have h2 : s[n] = c := by
          have hlt' : n < s.data.size := hlt
          simp only [strL, Array.getElem?_toList, Array.getElem?_eq_getElem hlt', Option.some.injEq] at hc
          exact hc
        refine ⟨rfl, rfl, _, ?_, conc_vv m _⟩
        simp only [Instr.index, asIntOf, Sem.run_bind, Sem.run_pure, Result.andThen, run_underlying (ti_str ht hs), Int.natCast_nonneg, if_true, Int.toNat_natCast, h1, h2]
        rfl
      · cases he
    · cases he
  · cases he

theorem len_ok {t ty : TypeId} {ti : TI} (ht : tiOf P t = some ti) {x : X} (he : lenX ti.sh hp x = some e) (hw : WR w0 M0 fr m h w) {v : Value} (hv : conc m x = some v) (hb : ∀ b ∈ e.rd, h b = hp.get b) :
    e.up = [] ∧ ∃ u, (Builtin.len_ #[t] ty #[v]).run P w = .ok u w ∧ conc m e.x = some u := by
  unfold lenX at he
  split at he
  · rename_i e' hsh
    have hu := run_slice_elem ht hsh
    split at he
    · have := pX_inv he; subst this
      obtain ⟨q, g1, rfl⟩ := conc_slc hv
      exact ⟨rfl, _, by simp [Builtin.len_, run_underlying hu, goInt], conc_vv m _⟩
    · have := pX_inv he; subst this
      obtain ⟨q, g1, rfl⟩ := conc_gsl hv
      exact ⟨rfl, _, by simp [Builtin.len_, run_underlying hu, goInt], conc_vv m _⟩
    · have := pX_inv he; subst this
      have := conc_v hv; subst this
      exact ⟨rfl, _, by simp [Builtin.len_, run_underlying hu, goInt], conc_vv m _⟩
    · cases he
  · rename_i hsh
    have hu := ti_str ht hsh
    split at he
    · have := pX_inv he; subst this
      have := conc_v hv; subst this
      rename_i s
      exact ⟨rfl, .int .i64 s.size, by simp [Builtin.len_, run_underlying hu, goInt], by simp [conc, lenL_eq, size_strL]⟩
    · cases he
  · rename_i k e' hsh
    have hu := ti_map ht hsh
    split at he
    · have := pX_inv he; subst this
      have := conc_v hv; subst this
      exact ⟨rfl, _, by simp [Builtin.len_, run_underlying hu, goInt], conc_vv m _⟩
    · rename_i b
      split at he
      · rename_i es cl hx
        simp only [Option.some.injEq] at he
        subst he
        obtain ⟨q, g1, rfl⟩ := conc_mp hv
        obtain ⟨o, g2, g3⟩ := hw.at ((hb b (by simp)).trans hx) g1
        obtain ⟨l, g4, rfl⟩ := g3
        have hl : l.length = es.length := by
          clear hx g2 hb
          induction es generalizing l with
          | nil => simp [concE] at g4; subst g4; rfl
          | cons y es ih =>
            obtain ⟨kk, x, n⟩ := y
            obtain ⟨v, vs, _, h2, rfl⟩ := concE_cons.1 g4
            simp [ih vs h2]
        exact ⟨rfl, .int .i64 l.length, by simp [Builtin.len_, run_underlying hu, goInt, getObj, Sem.run, g2], by simp [conc, lenL_eq, hl]⟩
      · cases he
    · cases he
  · cases he

theorem cap_ok {t ty : TypeId} {ti : TI} (ht : tiOf P t = some ti) {x : X} (he : capX ti.sh x = some e) {v : Value} (hv : conc m x = some v) :
    e.up = [] ∧ e.rd = [] ∧ ∃ u, (Builtin.cap_ #[t] ty #[v]).run P w = .ok u w ∧ conc m e.x = some u := by
  unfold capX at he
  split at he
  · rename_i e' hsh
    have hu := run_slice_elem ht hsh
    split at he
    · have := pX_inv he; subst this
      obtain ⟨q, g1, rfl⟩ := conc_slc hv
      exact ⟨rfl, rfl, _, by simp [Builtin.cap_, run_underlying hu, goInt], conc_vv m _⟩
    · have := pX_inv he; subst this
      have := conc_v hv; subst this
      exact ⟨rfl, rfl, _, by simp [Builtin.cap_, run_underlying hu, goInt], conc_vv m _⟩
    · cases he
  · cases he

theorem bndX_inv {d : Nat} {o : Option Operand} {n : Nat} {a : Act} (hb : bndX d (optM ev o) = some n) (hv : ∀ x, o = some x → conc m (ev x) = some (a.eval x)) : (o.map a.eval = none ∧ (n : Int) = d) ∨ ∃ k, o.map a.eval = some (.int k (n : Int)) := by
  cases o with
  | none => simp only [optM, bndX, Option.some.injEq] at hb; subst hb; exact .inl ⟨rfl, rfl⟩
  | some x =>
    simp only [optM, bndX] at hb
    obtain ⟨k, hk⟩ := natOf_inv hb (hv x rfl)
    exact .inr ⟨k, by simp [hk]⟩

theorem grow_room {m : Mu} {b i len sz : Nat} {T : TypeId} {cs : List X} {fz : Nat × Nat} (hw : WR w0 M0 fr m h w) {p : Nat × Nat} (hb : h b = some (.grow T cs sz fz)) (hm : m b = some p) (hz : 0 < sz) (hl : (i + len) * sz ≤ cs.length) : i + len ≤ p.2 := by
  obtain ⟨o, g2, us, tail, g3, g4, g5⟩ := hw.at hb hm
  have := concL_length g3
  rw [List.length_append] at g5
  exact Nat.le_of_mul_le_mul_right (by omega : (i + len) * sz ≤ p.2 * sz) hz

theorem and_inv {a b : Bool} {α : Type} {x : Option α} {y : α} (h : (bif a && b then x else none) = some y) : a = true ∧ b = true ∧ x = some y := by
  cases a <;> cases b <;> simp at h
  exact ⟨rfl, rfl, h⟩
theorem bif_inv {a : Bool} {α : Type} {x : Option α} {y : α} (h : (bif a then x else none) = some y) : a = true ∧ x = some y := by
  cases a <;> simp at h
  exact ⟨rfl, h⟩

theorem slice_ok {t e' : TypeId} {ti te : TI} (ht : tiOf P t = some ti) (hs : ti.sh = .slice e') (hte : tiOf P e' = some te) {x : X} {lo hi : Option Operand} (he : sliceX hp te.sz x (optM ev lo) (optM ev hi) = some e) (hw : WR w0 M0 fr m h w) {a : Act} {v : Value} (hv : conc m x = some v)
    (hlo : ∀ x, lo = some x → conc m (ev x) = some (a.eval x)) (hhi : ∀ x, hi = some x → conc m (ev x) = some (a.eval x)) (hb : ∀ b ∈ e.rd, h b = hp.get b) :
    e.up = [] ∧ ∃ u, (Instr.sliceAt t v (lo.map a.eval) (hi.map a.eval) none).run P w = .ok u w ∧ conc m e.x = some u := by
  have hu := run_slice_elem ht hs
  have go : ∀ (A : Option Addr) (len cap l r : Nat), bndX 0 (optM ev lo) = some l → bndX len (optM ev hi) = some r → l ≤ r → r ≤ cap → len ≤ cap →
      (Instr.sliceAt t (.slice A len cap) (lo.map a.eval) (hi.map a.eval) none).run P w = .ok (.slice (if cap = l then A else A.map (·.add (l * te.sz))) (r - l) (cap - l)) w := by
    intro A len cap l r hl hr h1 h2 h3
    have := sliced_run (P := P) (w := w) hu hte A len cap (lo.map a.eval) (hi.map a.eval) l r (by omega) (by omega) (by omega) (by
      rcases bndX_inv hl hlo with h4 | h4
      · exact .inl ⟨h4.1, by simpa using h4.2⟩
      · exact .inr h4) (bndX_inv hr hhi) h3
    simpa using this
  unfold sliceX at he
  split at he
  · rename_i b o len cap
    split at he
    · rename_i l r hl hr
      obtain ⟨h1, h2, he⟩ := and_inv he
      have := pX_inv he; subst this
      simp only [Bool.and_eq_true, ble_eq, decide_eq_true_eq] at h1
      simp only [Bool.or_eq_true, blt_eq, beq_eq, decide_eq_true_eq] at h2
      obtain ⟨q, g1, rfl⟩ := conc_slc hv
      refine ⟨rfl, _, go _ _ _ _ _ hl hr h1.1.1 h1.1.2 h1.2, ?_⟩
      simp only [conc, g1, Option.map_some, Option.some.injEq]
      congr 1
      split
      · rename_i hc
        have : l = 0 := by omega
        subst this
        simp
      · simp [addr_add]
    · cases he
  · rename_i b i len sz
    split at he
    · rename_i l r T cs sz' fz hl hr hx
      obtain ⟨h1, h2, he⟩ := and_inv he
      simp only [Option.some.injEq] at he
      subst he
      simp only [Bool.and_eq_true, Bool.or_eq_true, blt_eq, beq_eq, ble_eq, decide_eq_true_eq] at h1
      simp only [ble_eq, decide_eq_true_eq, lenL_eq] at h2
      obtain ⟨⟨⟨⟨⟨h3, h4⟩, h5⟩, rfl⟩, rfl⟩, h7⟩ := h1
      obtain ⟨q, g1, rfl⟩ := conc_gsl hv
      have room := grow_room (i := i) (len := len) hw ((hb b (by simp)).trans hx) g1 h7 h2
      refine ⟨rfl, _, go _ _ _ _ _ hl hr h3 (by omega) (by omega), ?_⟩
      simp only [conc, g1, Option.map_some, Option.some.injEq]
      have e1 : Nat.sub r l = r - l := rfl
      have e2 : Nat.add i l = i + l := rfl
      rw [e1, e2]
      have e3 : q.2 - (i + l) = q.2 - i - l := by omega
      rw [e3]
      congr 1
      split
      · have : l = 0 := by omega
        subst this
        simp
      · simp [addr_add, Nat.add_mul]
    · cases he
  · split at he
    · rename_i l r hl hr
      obtain ⟨h1, h2, he⟩ := and_inv he
      have := pX_inv he; subst this
      simp only [beq_eq, decide_eq_true_eq] at h1 h2
      subst h1 h2
      have := conc_v hv; subst this
      exact ⟨rfl, _, go _ _ _ _ _ hl hr (Nat.le_refl _) (Nat.le_refl _) (Nat.le_refl _), by simp [conc]⟩
    · cases he
  · cases he

theorem arrSlice_ok {t e' : TypeId} {n : Nat} {ti te : TI} (ht : tiOf P t = some ti) (hs : ti.sh = .arr n e') (hte : tiOf P e' = some te) {x : X} {lo hi : Option Operand} (he : arrSliceX n te.sz x (optM ev lo) (optM ev hi) = some e) {a : Act} {v : Value} (hv : conc m x = some v)
    (hlo : ∀ x, lo = some x → conc m (ev x) = some (a.eval x)) (hhi : ∀ x, hi = some x → conc m (ev x) = some (a.eval x)) :
    e.up = [] ∧ ∃ u, (Instr.sliceAt t v (lo.map a.eval) (hi.map a.eval) none).run P w = .ok u w ∧ conc m e.x = some u := by
  have hu := ti_arr ht hs
  unfold arrSliceX at he
  split at he
  · rename_i b o
    split at he
    · rename_i l r hl hr
      obtain ⟨h1, h2, he⟩ := and_inv he
      have := pX_inv he; subst this
      simp only [Bool.and_eq_true, ble_eq, decide_eq_true_eq] at h1
      simp only [blt_eq, decide_eq_true_eq] at h2
      obtain ⟨q, g1, rfl⟩ := conc_ptr hv
      refine ⟨rfl, .slice (some ⟨q.1, o + l * te.sz, none⟩) (r - l) (n - l), ?_, by simp [conc, g1]⟩
      have hne : ¬ n = l := by omega
      have hln : (l : Int) ≤ n := by omega
      have hrn : (r : Int) ≤ n := by omega
      have hlr : (l : Int) ≤ r := by omega
      rcases bndX_inv hl hlo with h4 | ⟨k, h4⟩ <;> rcases bndX_inv hr hhi with h5 | ⟨k', h5⟩
      · have : l = 0 := by have := h4.2; omega
        have : r = n := by have := h5.2; omega
        subst l r
        rw [h4.1, h5.1]
        simp [Instr.sliceAt, run_underlying hu, Instr.sureAddr, Instr.sliceBounds, run_sizeOf' hte, addr_add]
      · have : l = 0 := by have := h4.2; omega
        subst l
        rw [h4.1, h5]
        simp [Instr.sliceAt, run_underlying hu, Instr.sureAddr, Instr.sliceBounds, Instr.sliceBound, asIntOf, run_sizeOf' hte, addr_add, hrn, h1.2]
      · have : r = n := by have := h5.2; omega
        subst r
        rw [h4, h5.1]
        simp [Instr.sliceAt, run_underlying hu, Instr.sureAddr, Instr.sliceBounds, Instr.sliceBound, asIntOf, run_sizeOf' hte, addr_add, hln, h1.1, hne]
      · rw [h4, h5]
        simp [Instr.sliceAt, run_underlying hu, Instr.sureAddr, Instr.sliceBounds, Instr.sliceBound, asIntOf, run_sizeOf' hte, addr_add, h1.1, h1.2, hne]
    · cases he
  · cases he

theorem strSlice_ok {t : TypeId} {ti : TI} (ht : tiOf P t = some ti) (hs : ti.sh = .str) {x : X} {lo hi : Option Operand} (he : strSliceX x (optM ev lo) (optM ev hi) = some e) {a : Act} {v : Value} (hv : conc m x = some v)
    (hlo : ∀ x, lo = some x → conc m (ev x) = some (a.eval x)) (hhi : ∀ x, hi = some x → conc m (ev x) = some (a.eval x)) :
    e.up = [] ∧ e.rd = [] ∧ ∃ u, (Instr.sliceAt t v (lo.map a.eval) (hi.map a.eval) none).run P w = .ok u w ∧ conc m e.x = some u := by
  have hu := ti_str ht hs
  unfold strSliceX at he
  split at he
  · rename_i s
    split at he
    · rename_i l r hl hr
      obtain ⟨h1, he⟩ := bif_inv he
      simp only [ble_eq, decide_eq_true_eq] at h1
      split at he
      · rename_i q hq
        have := pX_inv he; subst this
        have := conc_v hv; subst this
        obtain ⟨g1, g2⟩ := piece_eq hq
        have hsz : (strL s).length = s.size := rfl
        have g2' : l + (r - l) ≤ s.size := g2
        have hrs : r ≤ s.size := by omega
        have hext : (⟨q.toArray⟩ : ByteArray) = s.extract l r := by
          apply ByteArray.ext
          rw [ByteArray.data_extract]
          apply Array.ext'
          rw [g1]
          simp only [strL, Array.toList_extract, List.extract_eq_take_drop]
          rfl
        have e0 : Nat.sub r l = r - l := rfl
        refine ⟨rfl, rfl, .string (s.extract l r), ?_, by simp [conc, hext]⟩
        rw [run_sliceAt_string w t _ _ _ _ hu]
        have hlr : (l : Int) ≤ r := by omega
        have hrs' : (r : Int) ≤ s.size := by omega
        rw [lenL_eq, size_strL] at hr
        rcases bndX_inv hl hlo with h4 | ⟨k, h4⟩ <;> rcases bndX_inv hr hhi with h5 | ⟨k', h5⟩
        · have : l = 0 := by have := h4.2; omega
          have : r = s.size := by have := h5.2; omega
          subst l r
          rw [h4.1, h5.1]
          have := run_slice_string_all (P := P) w t s hu; simpa using this
        · have : l = 0 := by have := h4.2; omega
          subst l
          rw [h4.1, h5]
          simp [Instr.slice, run_underlying hu, Instr.sliceBounds, Instr.sliceBound, asIntOf, hrs]
        · have : r = s.size := by have := h5.2; omega
          subst r
          rw [h4, h5.1]
          simp [Instr.slice, run_underlying hu, Instr.sliceBounds, Instr.sliceBound, asIntOf, h1]
        · rw [h4, h5]
          simp [Instr.slice, run_underlying hu, Instr.sliceBounds, Instr.sliceBound, asIntOf, h1, hrs]
      · cases he
    · cases he
  · cases he

theorem bif_decide {α : Type} (p : Prop) [Decidable p] (x y : α) : (bif decide p then x else y) = if p then x else y := by
  by_cases h : p <;> simp [h]
theorem min_ok {ts : Array TypeId} {t : TypeId} {x y : X} (he : minX x y = some e) {u v : Value} (hx : conc m x = some u) (hy : conc m y = some v) : e.up = [] ∧ e.rd = [] ∧ ∃ r, (Builtin.min_ ts t #[u, v]).run P w = .ok r w ∧ conc m e.x = some r := by
  unfold minX at he
  split at he
  · rename_i k a k' b ha hb
    obtain ⟨h1, he⟩ := bif_inv he
    have := pX_inv he; subst this
    rw [kEq_eq, decide_eq_true_eq] at h1
    subst h1
    unfold intOf at ha hb
    split at ha
    · split at hb
      · simp only [Option.some.injEq, Prod.mk.injEq] at ha hb
        obtain ⟨rfl, rfl⟩ := ha
        obtain ⟨rfl, rfl⟩ := hb
        have := conc_v hx; have := conc_v hy; subst u v
        refine ⟨rfl, rfl, _, run_min_int2 w ts t _ _ _ _, ?_⟩
        simp only [iX, conc, ilt_eq]
        rw [bif_decide]
      · cases hb
    · cases ha
  · cases he
theorem max_ok {ts : Array TypeId} {t : TypeId} {x y : X} (he : maxX x y = some e) {u v : Value} (hx : conc m x = some u) (hy : conc m y = some v) : e.up = [] ∧ e.rd = [] ∧ ∃ r, (Builtin.max_ ts t #[u, v]).run P w = .ok r w ∧ conc m e.x = some r := by
  unfold maxX at he
  split at he
  · rename_i k a k' b ha hb
    obtain ⟨h1, he⟩ := bif_inv he
    have := pX_inv he; subst this
    rw [kEq_eq, decide_eq_true_eq] at h1
    subst h1
    unfold intOf at ha hb
    split at ha
    · split at hb
      · simp only [Option.some.injEq, Prod.mk.injEq] at ha hb
        obtain ⟨rfl, rfl⟩ := ha
        obtain ⟨rfl, rfl⟩ := hb
        have := conc_v hx; have := conc_v hy; subst u v
        refine ⟨rfl, rfl, _, run_max_int2 w ts t _ _ _ _, ?_⟩
        simp only [iX, conc, ilt_eq]
        rw [bif_decide]
      · cases hb
    · cases ha
  · cases he
end
end Go.Ex
