/- The exact evaluator, part 9: maps, iterators, interface values. -/
import Derived.Test.YtblbhfnpneliiaaGreatDoorExOps5
namespace Go.Ex
open Go.RowKit
open Go.Ab (TI Sh setL setL_get setL_length tiOf Wrote tiOf_spec ti_bool ti_str ti_int ti_ptr ti_map ti_arr ti_struct run_slice_elem run_isAgg' run_sizeOf' run_zeroValue' addr_add)
open Go.MapKept (run_keyThatStays IsKey)
section
variable {P : Program} {G : Tr (List Value)} {id : Nat} {ev : Operand → X} {hp : Tr B} {dst : Option Tmp} {T : TypeId} {pos : String} {af : Array Edge} {gd : Option (Nat × Bool)} {e : Ef} {c : Cx}
variable {w0 : World} {M0 fr : Nat → Prop} {m : Mu} {h : Nat → Option B} {w : World}

/-- A key of a kind. -/
def KeyAt : TypeDesc → Value → Prop
  | .string, .string _ => True
  | .int j, .int k _ => k = j
  | _, _ => False
theorem keyOk_inv {kt : TypeId} {tk : TI} (ht : tiOf P kt = some tk) {x : X} {k : Value} (hk : keyOk tk.sh x = some k) {v : Value} (hv : conc m x = some v) : v = k ∧ ∃ d, P.underlying kt = some d ∧ KeyAt d k := by
  unfold keyOk at hk
  split at hk
  · split at hk
    · rename_i hsh
      simp only [Option.some.injEq] at hk
      subst hk
      exact ⟨conc_v hv, _, ti_str ht hsh, trivial⟩
    · cases hk
  · split at hk
    · rename_i k' hsh
      replace hk := bif_inv hk
      obtain ⟨h1, hk⟩ := hk
      simp only [Option.some.injEq] at hk
      subst hk
      rw [kEq_eq, decide_eq_true_eq] at h1
      exact ⟨conc_v hv, _, ti_int ht hsh, h1⟩
    · cases hk
  · cases hk
theorem keyAt_isKey {d : TypeDesc} {k : Value} (h : KeyAt d k) : IsKey d k := by
  cases d <;> cases k <;> simp [KeyAt] at h <;> simp [IsKey]
  exact h
theorem keyEq_same : ∀ {d : TypeDesc} {k k' : Value}, KeyAt d k → ∀ {b : Bool}, keyEq k k' = some b → Instr.sameNow d k k' = some b ∧ (b = true → k' = k)
  | .int j, .int q x, .int q' y, hk, b, h => by
    have hk : q = j := hk
    simp only [keyEq] at h
    replace h := bif_inv h
    obtain ⟨h1, h⟩ := h
    rw [kEq_eq, decide_eq_true_eq] at h1
    simp only [Option.some.injEq, ieq_eq] at h
    subst h
    subst h1
    refine ⟨?_, fun hb => ?_⟩
    · have : (x == y) = decide (x = y) := by by_cases e : x = y <;> simp [e]
      simp only [Instr.sameNow, if_true, this]
    · rw [of_decide_eq_true hb]
  | .string, .string x, .string y, _, b, h => by
    simp only [keyEq, Option.some.injEq, beqL_eq] at h
    subst h
    have inj : strL x = strL y → x = y := fun h => by
      cases x; cases y; simp only [strL] at h; congr; exact Array.ext' h
    have key : (strL x == strL y) = (x == y) := by
      by_cases e : x = y
      · subst e; simp; exact (MapKept.bytes_beq x x).2 rfl
      · have h1 : (strL x == strL y) = false := by simpa using fun h => e (inj h)
        have h2 : (x == y) = false := by
          cases hh : (x == y) with
          | false => rfl
          | true => exact absurd ((MapKept.bytes_beq x y).1 hh) e
        rw [h1, h2]
    refine ⟨by simp only [Instr.sameNow, key], fun hb => ?_⟩
    rw [inj (by simpa using hb)]
  | .int _, .int _ _, .string _, _, _, h => by simp [keyEq] at h
  | .string, .string _, .int _ _, _, _, h => by simp [keyEq] at h

/-- Where a key stands. -/
theorem find_rel {d : TypeDesc} {k : Value} (hk : KeyAt d k) : ∀ {es : List (Value × X × Nat)} {l : List MapEntry} {r : Option X} (i0 : Nat), concE m es = some l → findK k es = some r →
    match r with
    | none => Instr.findNow d k l i0 = some none
    | some x => ∃ i v n, l[i]? = some ⟨k, v, n⟩ ∧ Instr.findNow d k l i0 = some (some (i0 + i, v)) ∧ conc m x = some v ∧
        (∀ y u, conc m y = some u → concE m (setK k y es) = some (l.set i ⟨k, u, n⟩)) ∧ concE m (delK k es) = some (l.eraseIdx i)
  | [], l, r, i0, hl, hf => by
    simp only [concE, Option.some.injEq] at hl
    subst hl
    simp only [findK, Option.some.injEq] at hf
    subst hf
    rfl
  | (k', x, n) :: es, l, r, i0, hl, hf => by
    obtain ⟨v, vs, h1, h2, rfl⟩ := concE_cons.1 hl
    simp only [findK] at hf
    split at hf
    · rename_i he
      simp only [Option.some.injEq] at hf
      subst hf
      obtain ⟨g1, g2⟩ := keyEq_same hk he
      have g3 := g2 rfl
      subst g3
      refine ⟨0, v, n, rfl, by simp [Instr.findNow, g1], h1, fun y u hy => ?_, ?_⟩
      · simp only [setK, he]
        exact concE_cons.2 ⟨u, vs, hy, h2, rfl⟩
      · simp only [delK, he]
        exact h2
    · rename_i he
      obtain ⟨g1, _⟩ := keyEq_same hk he
      have ih := find_rel hk (i0 + 1) h2 hf
      cases r with
      | none => simpa [Instr.findNow, g1] using ih
      | some x' =>
        obtain ⟨i, u, n', q1, q2, q3, q4, q5⟩ := ih
        refine ⟨i + 1, u, n', by simpa using q1, by simp only [Instr.findNow, g1]; rw [q2]; congr 3; omega, q3, fun y z hy => ?_, ?_⟩
        · simp only [setK, he]
          exact concE_cons.2 ⟨v, _, h1, q4 y z hy, rfl⟩
        · simp only [delK, he]
          exact concE_cons.2 ⟨v, _, h1, q5, rfl⟩
    · cases hf

theorem zq_inv {t : TypeId} {k : Value → Rs} (h : zq c t k = some e) : ∃ i z, c.P.info? t = some i ∧ i.zero = some z ∧ k z = some e := by
  unfold zq at h
  split at h
  · rename_i i hi
    split at h
    · rename_i z hz
      exact ⟨i, z, hi, hz, h⟩
    · cases h
  · cases h
theorem zeroX_conc (z : Value) : conc m (zeroX z) = some z := by
  unfold zeroX
  split
  · simp [conc, concL_mapV]
  · exact conc_vv m _

theorem WR.map (hw : WR w0 M0 fr m h w) {b : Nat} {es : List (Value × X × Nat)} {cl : Nat} {p : Nat × Nat} (hb : h b = some (.map es cl)) (hm : m b = some p) : ∃ l, concE m es = some l ∧ w.heap[p.1]? = some (.map l.toArray cl) := by
  obtain ⟨o, g2, l, g3, rfl⟩ := hw.at hb hm
  exact ⟨l, g3, g2⟩

theorem lookup_ok {t kt et : TypeId} {ti tk : TI} (ht : tiOf P t = some ti) (hs : ti.sh = .map kt et) (hk : tiOf P kt = some tk) {inf : TypeInfo} {z : Value} (hi : P.info? et = some inf) (hz : inf.zero = some z) {mm k : X} {ok : Bool} (he : lookupX tk.sh z hp mm k ok = some e) (hw : WR w0 M0 fr m h w)
    {vm vk : Value} (hm : conc m mm = some vm) (hkv : conc m k = some vk) (hb : ∀ b ∈ e.rd, h b = hp.get b) : e.up = [] ∧ ∃ v, (Instr.lookup t vm vk ok).run P w = .ok v w ∧ conc m e.x = some v := by
  have hu := ti_map ht hs
  have hzv : (zeroValue et).run P w = .ok z w := by simp [zeroValue, typeInfo, hi, hz]
  unfold lookupX at he
  split at he
  · rename_i kk hkk
    obtain ⟨rfl, d, hd, hkd⟩ := keyOk_inv hk hkk hkv
    split at he
    · have := conc_v hm; subst this
      have := pX_inv he; subst this
      have hf : Instr.findNow d vk [] 0 = some none := rfl
      cases ok with
      | true => exact ⟨rfl, .tuple #[z, .bool false], by simp [Instr.lookup, run_underlying hu, MapKept.run_checkKey hd (keyAt_isKey hkd), MapKept.run_findKey hd hf, hzv, Result.andThen], by simp [conc, concL, zeroX_conc, bX]⟩
      | false => exact ⟨rfl, z, by simp [Instr.lookup, run_underlying hu, MapKept.run_checkKey hd (keyAt_isKey hkd), MapKept.run_findKey hd hf, hzv, Result.andThen], by simp [zeroX_conc]⟩
    · rename_i b
      split at he
      · rename_i es cl hblk
        obtain ⟨p, p1, rfl⟩ := conc_mp hm
        split at he
        · rename_i x hf
          simp only [Option.some.injEq] at he
          subst he
          obtain ⟨l, g1, g2⟩ := hw.map ((hb b (by simp)).trans hblk) p1
          obtain ⟨i, v, n, q1, q2, q3, _, _⟩ := find_rel hkd 0 g1 hf
          cases ok with
          | true => exact ⟨rfl, .tuple #[v, .bool true], by simp [Instr.lookup, run_underlying hu, MapKept.run_getObj_map g2, MapKept.run_checkKey hd (keyAt_isKey hkd), MapKept.run_findKey hd q2, Result.andThen], by simp [conc, concL, q3, bX]⟩
          | false => exact ⟨rfl, v, by simp [Instr.lookup, run_underlying hu, MapKept.run_getObj_map g2, MapKept.run_checkKey hd (keyAt_isKey hkd), MapKept.run_findKey hd q2, Result.andThen], by simpa using q3⟩
        · rename_i hf
          simp only [Option.some.injEq] at he
          subst he
          obtain ⟨l, g1, g2⟩ := hw.map ((hb b (by simp)).trans hblk) p1
          have q := find_rel hkd 0 g1 hf
          cases ok with
          | true => exact ⟨rfl, .tuple #[z, .bool false], by simp [Instr.lookup, run_underlying hu, MapKept.run_getObj_map g2, MapKept.run_checkKey hd (keyAt_isKey hkd), MapKept.run_findKey hd q, hzv, Result.andThen], by simp [conc, concL, zeroX_conc, bX]⟩
          | false => exact ⟨rfl, z, by simp [Instr.lookup, run_underlying hu, MapKept.run_getObj_map g2, MapKept.run_checkKey hd (keyAt_isKey hkd), MapKept.run_findKey hd q, hzv, Result.andThen], by simp [zeroX_conc]⟩
        · cases he
      · cases he
    · cases he
  · cases he

theorem wrote_obj {k : Nat} {o' : Obj} (hk : k < w.heap.size) : Wrote k w { w with heap := w.heap.setIfInBounds k o' } ∧ ({ w with heap := w.heap.setIfInBounds k o' } : World).heap[k]? = some o' :=
  ⟨⟨rfl, rfl, rfl, by simp, fun j hj => by simp [Array.getElem?_setIfInBounds_ne (Ne.symm hj)]⟩, by simp [hk]⟩
theorem modify_set {l : List MapEntry} {i : Nat} {k v u : Value} {n : Nat} (h : l[i]? = some ⟨k, v, n⟩) : l.toArray.modify i (fun e => { e with key := k, val := u }) = (l.set i ⟨k, u, n⟩).toArray := by
  apply Array.ext'
  apply List.ext_getElem?
  intro j
  simp only [Array.toList_modify, List.getElem?_modify, List.getElem?_set]
  by_cases e : i = j
  · subst e
    have hlt := (List.getElem?_eq_some_iff.1 h).1
    have h2 : l[i] = ⟨k, v, n⟩ := by rw [List.getElem?_eq_getElem hlt] at h; exact Option.some.inj h
    simp [hlt, h2]
  · simp [e]

theorem update_ok {t kt et : TypeId} {ti tk : TI} (ht : tiOf P t = some ti) (hs : ti.sh = .map kt et) (hk : tiOf P kt = some tk) {mm k x : X} (he : updateX tk.sh hp mm k x = some e) (hw : WR w0 M0 fr m h w)
    {vm vk vx : Value} (hm : conc m mm = some vm) (hkv : conc m k = some vk) (hx : conc m x = some vx) (hb : ∀ b ∈ e.rd, h b = hp.get b) : ∃ w', (Instr.mapUpdate t vm vk vx).run P w = .ok () w' ∧ Left w0 M0 fr m h id e undef w' := by
  have hu := ti_map ht hs
  unfold updateX at he
  split at he
  · rename_i kk b hkk
    obtain ⟨rfl, d, hd, hkd⟩ := keyOk_inv hk hkk hkv
    split at he
    · rename_i es cl hblk
      obtain ⟨p, p1, rfl⟩ := conc_mp hm
      have fin : h b = some (.map es cl) → ∀ (es' : List (Value × X × Nat)) (cl' : Nat) (l' : List MapEntry), concE m es' = some l' → WR w0 M0 (fun b => fr b ∧ b ≠ id) m (upL [(b, some (.map es' cl'))] h) { w with heap := w.heap.setIfInBounds p.1 (.map l'.toArray cl') } := by
        intro hhb es' cl' l' hl'
        have hlt := hw.lt hhb p1
        obtain ⟨k1, k2⟩ := wrote_obj (w := w) (o' := .map l'.toArray cl') hlt
        exact (hw.wrote hhb p1 k1 (.map es' cl') _ k2 ⟨l', hl', rfl⟩).less fun b hb => hb.1
      split at he
      · rename_i y hf
        simp only [Option.some.injEq] at he
        subst he
        have hhb := (hb b (by simp)).trans hblk
        obtain ⟨l, g1, g2⟩ := hw.map hhb p1
        obtain ⟨i, v, n, q1, q2, q3, q4, _⟩ := find_rel hkd 0 g1 hf
        rw [Nat.zero_add] at q2
        have hms := modify_set (u := vx) q1
        refine ⟨_, ?_, m, Le.refl m, by simp [u0, conc, undef], fin hhb _ _ _ (q4 x vx hx)⟩
        rw [← hms]
        simp [Instr.mapUpdate, run_underlying hu, MapKept.run_getObj_map g2, MapKept.run_checkKey hd (keyAt_isKey hkd), MapKept.run_findKey hd q2, q1, run_keyThatStays (keyAt_isKey hkd), MapKept.run_setObj_map _ g2, Result.andThen]
      · rename_i hf
        simp only [Option.some.injEq] at he
        subst he
        have hhb := (hb b (by simp)).trans hblk
        obtain ⟨l, g1, g2⟩ := hw.map hhb p1
        have q := find_rel hkd 0 g1 hf
        have happ : ∀ (es : List (Value × X × Nat)) (l : List MapEntry), concE m es = some l → concE m (es ++ [(vk, x, cl)]) = some (l ++ [({ key := vk, val := vx, born := cl } : MapEntry)]) := by
          intro es
          induction es with
          | nil => intro l hl; simp only [concE, Option.some.injEq] at hl; subst hl; exact concE_cons.2 ⟨vx, [], hx, rfl, rfl⟩
          | cons y es ih =>
            intro l hl
            obtain ⟨k', x', n'⟩ := y
            obtain ⟨v', vs', r1, r2, rfl⟩ := concE_cons.1 hl
            exact concE_cons.2 ⟨v', _, r1, ih _ r2, rfl⟩
        refine ⟨_, ?_, m, Le.refl m, by simp [u0, conc, undef], fin hhb _ _ _ (happ es l g1)⟩
        have hpush : (l ++ [({ key := vk, val := vx, born := cl } : MapEntry)]).toArray = l.toArray.push { key := vk, val := vx, born := cl } := by simp
        rw [hpush]
        simp [Instr.mapUpdate, run_underlying hu, MapKept.run_getObj_map g2, MapKept.run_checkKey hd (keyAt_isKey hkd), MapKept.run_findKey hd q, MapKept.run_setObj_map _ g2, Result.andThen]
      · cases he
    · cases he
  · cases he

theorem delete_ok {t t' ty kt et : TypeId} {ti tk : TI} (ht : tiOf P t = some ti) (hs : ti.sh = .map kt et) (hk : tiOf P kt = some tk) {mm k : X} (he : deleteX tk.sh hp mm k = some e) (hw : WR w0 M0 fr m h w)
    {vm vk : Value} (hm : conc m mm = some vm) (hkv : conc m k = some vk) (hb : ∀ b ∈ e.rd, h b = hp.get b) : ∃ v w', (Builtin.delete_ #[t, t'] ty #[vm, vk]).run P w = .ok v w' ∧ Left w0 M0 fr m h id e v w' := by
  have hu := ti_map ht hs
  unfold deleteX at he
  split at he
  · rename_i kk b hkk
    obtain ⟨rfl, d, hd, hkd⟩ := keyOk_inv hk hkk hkv
    split at he
    · rename_i es cl hblk
      obtain ⟨p, p1, rfl⟩ := conc_mp hm
      have fin : h b = some (.map es cl) → ∀ (es' : List (Value × X × Nat)) (cl' : Nat) (l' : List MapEntry), concE m es' = some l' → WR w0 M0 (fun b => fr b ∧ b ≠ id) m (upL [(b, some (.map es' cl'))] h) { w with heap := w.heap.setIfInBounds p.1 (.map l'.toArray cl') } := by
        intro hhb es' cl' l' hl'
        have hlt := hw.lt hhb p1
        obtain ⟨k1, k2⟩ := wrote_obj (w := w) (o' := .map l'.toArray cl') hlt
        exact (hw.wrote hhb p1 k1 (.map es' cl') _ k2 ⟨l', hl', rfl⟩).less fun b hb => hb.1
      split at he
      · rename_i y hf
        simp only [Option.some.injEq] at he
        subst he
        have hhb := (hb b (by simp)).trans hblk
        obtain ⟨l, g1, g2⟩ := hw.map hhb p1
        obtain ⟨i, v, n, q1, q2, q3, _, q5⟩ := find_rel hkd 0 g1 hf
        rw [Nat.zero_add] at q2
        have hlt := (List.getElem?_eq_some_iff.1 q1).1
        have her : l.toArray.eraseIdxIfInBounds i = (l.eraseIdx i).toArray := by
          rw [Array.eraseIdxIfInBounds, dif_pos (by simpa using hlt)]
          apply Array.ext'
          simp
        refine ⟨.tuple #[], _, ?_, m, Le.refl m, by simp [conc, concL], fin hhb _ _ _ q5⟩
        rw [← her]
        simp [Builtin.delete_, run_underlying hu, MapKept.run_getObj_map g2, MapKept.run_checkKey hd (keyAt_isKey hkd), MapKept.run_findKey hd q2, MapKept.run_setObj_map _ g2, Result.andThen]
      · rename_i hf
        simp only [Option.some.injEq] at he
        subst he
        have hhb := (hb b (by simp)).trans hblk
        obtain ⟨l, g1, g2⟩ := hw.map hhb p1
        have q := find_rel hkd 0 g1 hf
        refine ⟨.tuple #[], _, ?_, m, Le.refl m, by simp [conc, concL], fin hhb _ _ _ g1⟩
        simp [Builtin.delete_, run_underlying hu, MapKept.run_getObj_map g2, MapKept.run_checkKey hd (keyAt_isKey hkd), MapKept.run_findKey hd q, MapKept.run_setObj_map _ g2, Result.andThen]
      · cases he
    · cases he
  · rename_i kk hkk
    obtain ⟨rfl, d, hd, hkd⟩ := keyOk_inv hk hkk hkv
    have := pX_inv he; subst this
    have := conc_v hm; subst this
    exact ⟨.tuple #[], w, by simp [Builtin.delete_, run_underlying hu, MapKept.run_checkKey hd (keyAt_isKey hkd), Result.andThen], m, Le.refl m, by simp [conc, concL], hw.less fun b hb => hb.1⟩
  · cases he

theorem makeMap_ok {t : TypeId} (hw : WR w0 M0 fr m h w) (hid : fr id) : ∃ v w', (Instr.makeMap t none).run P w = .ok v w' ∧ Left w0 M0 fr m h id ⟨.mp id, [(id, some (.map [] 0))], []⟩ v w' := by
  have := hw.new hid (.map #[] 0) 0 (.map [] 0) ⟨[], rfl, rfl⟩
  exact ⟨.map (some w.heap.size), _, by simp [Instr.makeMap], _, this.2, by simp [conc, mset_self], this.1⟩

theorem range_ok {t : TypeId} {ti : TI} {kt et : TypeId} (ht : tiOf P t = some ti) (hs : ti.sh = .map kt et) {x : X} (he : rangeX id hp x = some e) (hw : WR w0 M0 fr m h w) (hid : fr id) {v : Value} (hv : conc m x = some v) (hb : ∀ b ∈ e.rd, h b = hp.get b) :
    ∃ u w', (Instr.range t v).run P w = .ok u w' ∧ Left w0 M0 fr m h id e u w' := by
  have hu := ti_map ht hs
  unfold rangeX at he
  split at he
  · simp only [Option.some.injEq] at he
    subst he
    have := conc_v hv; subst this
    have := hw.new hid (.mapIter none 0 #[] 0) 0 (.iter none 0 [] 0) rfl
    exact ⟨.pointer (some ⟨w.heap.size, 0, none⟩), _, by simp [Instr.range, run_underlying hu], _, this.2, by simp [conc, mset_self], this.1⟩
  · rename_i b
    split at he
    · rename_i es cl hblk
      simp only [Option.some.injEq] at he
      subst he
      obtain ⟨p, p1, rfl⟩ := conc_mp hv
      obtain ⟨l, g1, g2⟩ := hw.map ((hb b (by simp)).trans hblk) p1
      have hle := mset_le (p := (w.heap.size, 0)) (hw.fresh id hid)
      have := hw.new hid (.mapIter (some p.1) cl #[] cl) 0 (.iter (some b) cl [] cl) ⟨p, hle _ _ p1, rfl⟩
      exact ⟨.pointer (some ⟨w.heap.size, 0, none⟩), _, by simp [Instr.range, run_underlying hu, MapKept.run_getObj_map g2, Result.andThen], _, this.2, by simp [conc, mset_self], this.1⟩
    · cases he
  · cases he

theorem seenIn_eq (n : Nat) : ∀ l : List Nat, seenIn n l = l.contains n
  | [] => rfl
  | k :: l => by
    simp only [seenIn, beq_eq, seenIn_eq n l, List.contains_cons]
    by_cases e : n = k <;> simp [e]
theorem leftK_rel {seen : List Nat} : ∀ {es : List (Value × X × Nat)} {l : List MapEntry}, concE m es = some l → concE m (leftK seen es) = some (l.filter fun e => !seen.contains e.born)
  | [], l, h => by simp only [concE, Option.some.injEq] at h; subst h; rfl
  | (k, x, n) :: es, l, h => by
    obtain ⟨v, vs, h1, h2, rfl⟩ := concE_cons.1 h
    have ih := leftK_rel (seen := seen) h2
    simp only [leftK, seenIn_eq, List.filter_cons]
    cases seen.contains n <;> simp
    · exact concE_cons.2 ⟨v, _, h1, by simpa using ih, rfl⟩
    · simpa using ih
theorem allGe_rel (q : Nat) : ∀ {es : List (Value × X × Nat)} {l : List MapEntry}, concE m es = some l → allGe q es = l.all fun e => decide (e.born ≥ q)
  | [], l, h => by simp only [concE, Option.some.injEq] at h; subst h; rfl
  | (k, x, n) :: es, l, h => by
    obtain ⟨v, vs, h1, h2, rfl⟩ := concE_cons.1 h
    simp only [allGe, ble_eq, allGe_rel q h2, List.all_cons, ge_iff_le]
    by_cases e : q ≤ n <;> simp [e]
theorem badIter_rel {seen : List Nat} {es : List (Value × X × Nat)} {l : List MapEntry} {last : Nat} (h : concE m es = some l) (hb : badIter seen es last = false) : (!seen.toArray.isEmpty && !l.toArray.isEmpty && l.toArray.all (fun e => decide (e.born ≥ last))) = false := by
  cases seen with
  | nil => simp
  | cons s seen =>
    cases es with
    | nil => simp only [concE, Option.some.injEq] at h; subst h; simp
    | cons y es =>
      simp only [badIter] at hb
      rw [allGe_rel last h] at hb
      rw [← hb]
      obtain ⟨k, x, n⟩ := y
      obtain ⟨v, vs, h1, h2, rfl⟩ := concE_cons.1 h
      simp

theorem next_ok {x : X} {ty : TypeId} (he : nextX hp x = some e) (hw : WR w0 M0 fr m h w) {v : Value} (hv : conc m x = some v) (hb : ∀ b ∈ e.rd, h b = hp.get b) :
    ∃ u w', (Instr.next v false ty).run P w = .ok u w' ∧ Left w0 M0 fr m h id e u w' := by
  unfold nextX at he
  split at he
  · rename_i i
    obtain ⟨p, p1, rfl⟩ := conc_it hv
    split at he
    · rename_i a1 a2 a3 hblk
      simp only [Option.some.injEq] at he
      subst he
      obtain ⟨o, g1, g2⟩ := hw.at ((hb i (by simp)).trans hblk) p1
      simp only [BRel] at g2
      subst g2
      exact ⟨.tuple #[.bool false], w, by simp [Instr.next, getObj, Sem.run, g1], m, Le.refl m, by simp [conc, concL, bX], hw.less fun b hb => hb.1⟩
    · rename_i b since seen last hblk
      split at he
      · rename_i es cl hmap
        cases hbad : badIter seen es last with
        | true => rw [hbad] at he; cases he
        | false =>
          rw [hbad] at he
          simp only [cond_false] at he
          -- what the world holds
          have facts : h i = some (.iter (some b) since seen last) → h b = some (.map es cl) → ∃ q l, m b = some q ∧ w.heap[p.1]? = some (.mapIter (some q.1) since seen.toArray last) ∧ concE m es = some l ∧ w.heap[q.1]? = some (.map l.toArray cl) := by
            intro h1 h2
            obtain ⟨o, g1, g2⟩ := hw.at h1 p1
            obtain ⟨q, g3, rfl⟩ := g2
            obtain ⟨l, g4, g5⟩ := hw.map h2 g3
            exact ⟨q, l, g3, g1, g4, g5⟩
          split at he
          · rename_i hleft
            simp only [Option.some.injEq] at he
            subst he
            obtain ⟨q, l, g3, g1, g4, g5⟩ := facts ((hb i (by simp)).trans hblk) ((hb b (by simp)).trans hmap)
            have hl := leftK_rel (seen := seen) g4
            rw [hleft] at hl
            simp only [concE, Option.some.injEq] at hl
            have hf : l.toArray.filter (fun e => !seen.toArray.contains e.born) = #[] := by
              apply Array.ext'
              simp only [Array.toList_filter, List.contains_toArray]
              exact hl.symm
            refine ⟨.tuple #[.bool false], w, ?_, m, Le.refl m, by simp [conc, concL, bX], hw.less fun b hb => hb.1⟩
            have hb2 := badIter_rel g4 hbad
            simp only [Instr.next, Sem.run_bind, getObj, Sem.run, g1, g5, Result.andThen]
            rw [hb2]
            simp only [hf]
            simp [choose, Sem.run, Question.forced, Result.andThen]
          · rename_i k x n hleft
            replace he := bif_inv he
            obtain ⟨hn, he⟩ := he
            rw [blt_eq, decide_eq_true_eq] at hn
            simp only [Option.some.injEq] at he
            subst he
            have hhi := (hb i (by simp)).trans hblk
            obtain ⟨q, l, g3, g1, g4, g5⟩ := facts hhi ((hb b (by simp)).trans hmap)
            have hl := leftK_rel (seen := seen) g4
            rw [hleft] at hl
            obtain ⟨v, vs, r1, r2, r3⟩ := concE_cons.1 hl
            simp only [concE, Option.some.injEq] at r2
            subst r2
            have hf : l.toArray.filter (fun e => !seen.toArray.contains e.born) = #[⟨k, v, n⟩] := by
              apply Array.ext'
              simp only [Array.toList_filter, List.contains_toArray]
              exact r3
            have hlt := (Array.getElem?_eq_some_iff.1 g1).1
            obtain ⟨k1, k2⟩ := wrote_obj (w := w) (o' := .mapIter (some q.1) since (seen ++ [n]).toArray cl) hlt
            have wr := hw.wrote hhi p1 k1 (.iter (some b) since (seen ++ [n]) cl) _ k2 ⟨q, g3, rfl⟩
            refine ⟨.tuple #[.bool true, k, v], _, ?_, m, Le.refl m, by simp [conc, concL, bX, r1], wr.less fun b hb => hb.1⟩
            have hn' : ¬ since ≤ n := by omega
            have hpush : (seen ++ [n]).toArray = seen.toArray.push n := by simp
            rw [hpush]
            have ho : (#[(⟨k, v, n⟩ : MapEntry)]).filter (fun e => decide (e.born < since)) = #[⟨k, v, n⟩] := by simp [hn]
            have hw' : (#[(⟨k, v, n⟩ : MapEntry)]).filter (fun e => decide (e.born ≥ since)) = #[] := by simp [hn']
            have hb2 := badIter_rel g4 hbad
            simp only [Instr.next, Sem.run_bind, getObj, Sem.run, g1, g5, Result.andThen]
            rw [hb2]
            simp only [hf, ho, hw']
            simp [choose, Sem.run, Question.forced, Result.andThen, setObj, g1]
          · cases he
      · cases he
    · cases he
  · cases he

theorem findN_rel {n : Nat} : ∀ {es : List (Value × X × Nat)} {l : List MapEntry} {k : Value} {x : X}, concE m es = some l → findN n es = some (k, x) → ∃ v, l.find? (·.born == n) = some ⟨k, v, n⟩ ∧ conc m x = some v
  | [], _, _, _, _, h => by simp [findN] at h
  | (k', x', n') :: es, l, k, x, hl, h => by
    obtain ⟨v, vs, h1, h2, rfl⟩ := concE_cons.1 hl
    simp only [findN, beq_eq] at h
    by_cases e : n' = n
    · simp only [e, decide_true, cond_true, Option.some.injEq, Prod.mk.injEq] at h
      obtain ⟨rfl, rfl⟩ := h
      subst e
      exact ⟨v, by simp, h1⟩
    · simp only [e, decide_false, cond_false] at h
      obtain ⟨u, g1, g2⟩ := findN_rel h2 h
      exact ⟨u, by simp only [List.find?_cons, beq_eq_false_iff_ne.2 e]; exact g1, g2⟩
theorem lastN_eq : ∀ {l : List Nat} {n : Nat}, lastN l = some n → l.toArray.back? = some n
  | [], _, h => by simp [lastN] at h
  | [k], n, h => by simp only [lastN, Option.some.injEq] at h; subst h; simp
  | _ :: y :: l, n, h => by
    simp only [lastN] at h
    have := lastN_eq h
    simpa using this

theorem entry_ok {x : X} (he : entryX hp x = some e) (hw : WR w0 M0 fr m h w) {v : Value} (hv : conc m x = some v) (hb : ∀ b ∈ e.rd, h b = hp.get b) : e.up = [] ∧ ∃ u, (Instr.entry v).run P w = .ok u w ∧ conc m e.x = some u := by
  unfold entryX at he
  split at he
  · rename_i i
    obtain ⟨p, p1, rfl⟩ := conc_it hv
    split at he
    · rename_i b since seen st hblk
      split at he
      · rename_i es cl n hmap hlast
        replace he := bif_inv he
        obtain ⟨hc, he⟩ := he
        rw [beq_eq, decide_eq_true_eq] at hc
        subst hc
        split at he
        · rename_i k x hf
          simp only [Option.some.injEq] at he
          subst he
          obtain ⟨o, g1, g2⟩ := hw.at ((hb i (by simp)).trans hblk) p1
          obtain ⟨q, g3, rfl⟩ := g2
          obtain ⟨l, g4, g5⟩ := hw.map ((hb b (by simp)).trans hmap) g3
          obtain ⟨u, r1, r2⟩ := findN_rel g4 hf
          have hl := lastN_eq hlast
          refine ⟨rfl, .tuple #[k, u], ?_, by simp [conc, concL, r2]⟩
          have r1' : l.toArray.find? (fun e => e.born == n) = some ⟨k, u, n⟩ := by simpa using r1
          simp only [Instr.entry, Sem.run_bind, getObj, Sem.run, g1, Result.andThen, hl, g5]
          simp [r1']
        · cases he
      · cases he
    · cases he
  · cases he

theorem assert_ok {xt t : TypeId} {ti : TI} (ht : tiOf P t = some ti) (hs : ti.sh ≠ .iface) {inf : TypeInfo} {z : Value} (hi : P.info? t = some inf) (hz : inf.zero = some z) {ok : Bool} {x : X} (he : assertX t z ok x = some e) {v : Value} (hv : conc m x = some v) :
    e.up = [] ∧ e.rd = [] ∧ ∃ u, (Instr.typeAssert v xt t ok).run P w = .ok u w ∧ conc m e.x = some u := by
  obtain ⟨i, d, z', g1, g2, g3, g4, g5, g6, g7, g8⟩ := tiOf_spec ht
  have hzv : (zeroValue t).run P w = .ok z w := by simp [zeroValue, typeInfo, hi, hz]
  have hd : ∀ a, d ≠ .interface a := fun a hd => by subst hd; exact hs (by rw [← g8]; rfl)
  unfold assertX at he
  split at he
  · rename_i u y
    obtain ⟨vy, h1, rfl⟩ := conc_iface hv
    rw [beq_eq] at he
    by_cases e' : u = t
    · simp only [e', decide_true, cond_true] at he
      have := pX_inv he; subst this
      cases ok with
      | true => exact ⟨rfl, rfl, .tuple #[vy, .bool true], by cases d <;> simp [Instr.typeAssert, run_underlying g2, e'] at hd ⊢, by simp [conc, concL, h1, bX]⟩
      | false => exact ⟨rfl, rfl, vy, by cases d <;> simp [Instr.typeAssert, run_underlying g2, e'] at hd ⊢, by simpa using h1⟩
    · simp only [e', decide_false, cond_false] at he
      cases ok with
      | false => cases he
      | true =>
        simp only [cond_true] at he
        have := pX_inv he; subst this
        exact ⟨rfl, rfl, .tuple #[z, .bool false], by cases d <;> simp [Instr.typeAssert, run_underlying g2, e', hzv, Result.andThen] at hd ⊢, by simp [conc, concL, zeroX_conc, bX]⟩
  · have := conc_v hv; subst this
    cases ok with
    | false => cases he
    | true =>
      simp only [cond_true] at he
      have := pX_inv he; subst this
      exact ⟨rfl, rfl, .tuple #[z, .bool false], by cases d <;> simp [Instr.typeAssert, run_underlying g2, hzv, Result.andThen] at hd ⊢, by simp [conc, concL, zeroX_conc, bX]⟩
  · cases he
end
end Go.Ex
