/- The exact evaluator, part 14: regions. -/
import Derived.Test.YtblbhfnpneliiaaGreatDoorExOpB
namespace Go.Ex
open Go.RowKit
open Go.Ab (reach Clo opsIn opsIn_spec)

/-- The names that are left. -/
def Mn (fr : Nat → Prop) (lo hi : Nat) (b : Nat) : Prop := fr b ∧ ¬ (lo ≤ b ∧ b < hi)
theorem RR.less {w0 : World} {M0 : Nat → Prop} {m0 : Mu} {nt : Nat} {df : List Df} {fr fr' : Nat → Prop} {s : FS} {a : Act} {w : World} (h : RR w0 M0 m0 nt df fr s a w) (hf : ∀ b, fr' b → fr b) : RR w0 M0 m0 nt df fr' s a w := RR.free _ _ _ _ _ h hf

theorem bif_no {α : Type} {a : Bool} {x : O α} {e : List Nat} {y : α} (h : (bif a then .no e else x) = .ok y) : a = false ∧ x = .ok y := by
  cases a
  · exact ⟨rfl, h⟩
  · cases h
theorem bif_yes {α : Type} {a : Bool} {x : O α} {e : List Nat} {y : α} (h : (bif a then x else .no e) = .ok y) : a = true ∧ x = .ok y := by
  cases a
  · cases h
  · exact ⟨rfl, h⟩
theorem bif_tt {a b : Bool} (h : (bif a then b else false) = true) : a = true ∧ b = true := by
  cases a
  · cases h
  · exact ⟨rfl, h⟩
section
variable {c : Cx} {ops : Array Oper} {nt : Nat} {ro : Option Nat} {r : Rec} {rnd : Bool}

def OpsDo (c : Cx) (ops : Array Oper) (nt : Nat) (ro : Option Nat) (l : List Nat) (s s' : S) : Prop :=
  ∀ w0 M0 m0 fr a w Q, GOk c.gl w0 M0 → (∀ b, s.nx ≤ b → b < s'.nx → fr b) → RR w0 M0 m0 nt s.df fr (fsOf s) a w →
    (∀ a' w', RR w0 M0 m0 nt s'.df (Mn fr s.nx s'.nx) (fsOf s') a' w' → Q Exit.normal a' w') → wpOpsIn (Fr ro) 0 c.P ops Q l a w

theorem OpsDo.step {i : Nat} {o : Oper} {l : List Nat} {s s1 s' : S} {k : Sk} {E : EX} (ho : ops[i]? = some o) (hd : ∀ t, o.dst = some t → t < nt) (e : Eff c ops nt ro s o s1 k E) (st : Stat s1 s') (h : OpsDo c ops nt ro l s1 s') : OpsDo c ops nt ro (i :: l) s s' := by
  intro w0 M0 m0 fr a w Q hG hfr hR hQ
  simp only [wpOpsIn, ho]
  refine e.snd w0 M0 m0 s.df hG fr (fsOf s) a w hR (fun b hb => hfr b (e.nm b hb).1 (Nat.lt_of_lt_of_le (e.nm b hb).2 st.nx)) hd (fun _ _ => rfl) (fun _ _ => rfl) _ Q ?_
  intro a' w' hR'
  rw [← e.app] at hR'
  have h1 := e.st.nx
  have h2 := st.nx
  refine h w0 M0 m0 (Mn fr s.nx s1.nx) a' w' Q hG (fun b g1 g2 => ⟨hfr b (by omega) g2, by omega⟩) ?_ fun a'' w'' hR'' => hQ a'' w'' (hR''.less ?_)
  · rw [e.df]
    exact hR'.less fun b hb => ⟨hb.1, fun hn => hb.2 (e.nm b hn)⟩
  · intro b hb
    exact ⟨⟨hb.1, fun g => hb.2 ⟨g.1, by omega⟩⟩, fun g => hb.2 ⟨by omega, g.2⟩⟩

theorem eval_vals {env : Tr X} {m : Mu} {a : Act} (h : ∀ t, conc m (envF env t) = some (a.tmps.getD t undef)) (x : Operand) : conc m (evX env x) = some (a.eval x) := by
  rw [evX_evF]; exact rep_evF h x
theorem concL_fn {m : Mu} {g : FuncId} {fs cs : List X} {v : Value} (h : conc m (.fn g fs cs) = some v) : ∃ us vs, concL m fs = some us ∧ concL m cs = some vs ∧ v = .func (.func g) us.toArray vs.toArray := by
  simp only [conc] at h
  split at h
  · rename_i us vs h1 h2
    simp only [Option.some.injEq] at h
    exact ⟨us, vs, h1, h2, h.symm⟩
  · cases h

theorem opsX_ok (hc : CxOk c) (hr : ∀ f args hp nx q, r.call f args hp nx = .ok q → CallOk c f args hp nx q) (hrnd : rnd = ro.isSome) (hin : opsIn nt ops.toList = true) :
    ∀ (l : List Oper) (i : Nat) (s s' : S), opsX c r rnd ops.toList i l s = .ok s' → ops.toList.drop i = l → Inv s → Stat s s' ∧ OpsDo c ops nt ro (List.range' i l.length) s s'
  | [], i, s, s', h, _, hI => by
    simp only [opsX, O.ok.injEq] at h
    subst h
    exact ⟨Stat.refl hI, fun w0 M0 m0 fr a w Q hG _ hR hQ => hQ a w (hR.less fun b hb => hb.1)⟩
  | o :: l, i, s, s', h, hl, hI => by
    have hlt : i < ops.toList.length := by
      rcases Nat.lt_or_ge i ops.toList.length with h | h
      · exact h
      · rw [List.drop_of_length_le h] at hl; cases hl
    have hcons := List.drop_eq_getElem_cons hlt
    rw [hl] at hcons
    injection hcons with ho hl'
    have ho' : ops[i]? = some o := by
      rw [ho]
      simp at hlt
      simp [hlt]
    have hmem : o ∈ ops.toList := by rw [ho]; exact List.getElem_mem hlt
    have hd := opsIn_spec hin o hmem
    have fin : ∀ (s1 : S) (k : Sk) (E : EX), Eff c ops nt ro s o s1 k E → opsX c r rnd ops.toList (Nat.succ i) l s1 = .ok s' → Stat s s' ∧ OpsDo c ops nt ro (List.range' i (o :: l).length) s s' := by
      intro s1 k E e h
      obtain ⟨st, hdo⟩ := opsX_ok hc hr hrnd hin l (Nat.succ i) s1 s' h hl'.symm e.st.inv
      exact ⟨e.st.trans st, OpsDo.step ho' hd e st hdo⟩
    unfold opsX at h
    split at h
    · rename_i hw
      split at h
      · rename_i f args tys hop
        replace h := bif_no h
        obtain ⟨hrd, h⟩ := h
        split at h
        · rename_i g fs cs hf
          have hI1 : Inv ⟨s.nt, setDst s.env o.dst u0, s.hp, s.nx, .fn g (fs ++ evs (evX s.env) args.toList ++ cs) :: s.df, s.bs, s.wr⟩ := hI
          obtain ⟨st, hdo⟩ := opsX_ok hc hr hrnd hin l (Nat.succ i) _ s' h hl'.symm hI1
          refine ⟨Stat.trans ⟨hI1, rfl, rfl, Nat.le_refl _, fun _ _ h => ⟨h, rfl⟩⟩ st, ?_⟩
          rintro w0 M0 m0 fr a w Q hG hfr ⟨m, hm, R⟩ hQ
          have hro : ro = none := by cases ro with | none => rfl | some x => rw [hrd] at hrnd; cases hrnd
          simp only [List.length_cons, List.range'_succ, wpOpsIn, ho']
          rw [wantX_spec hw (g := envF s.env) (m := m) (fun _ _ => rfl) R.env, if_pos rfl]
          have hab : o.about c.P w a.eval = none := by simp [Oper.about, hop]
          refine ⟨fun f hf => (by rw [hab] at hf; cases hf), ?_⟩
          have hv := eval_vals R.env f
          rw [hf] at hv
          obtain ⟨us, vs, h1, h2, h3⟩ := concL_fn hv
          have hsem : (o.semAt (Fr ro).round a.eval).run c.P w = .ok (.defer { target := .fn (.func g) vs.toArray, args := us.toArray ++ args.map a.eval }) w := by
            rw [hro, Oper.semAt_none]
            unfold execOp
            simp only [hop, resolve, h3, Deferred.ofValue]
            rfl
          rw [hsem]
          have ha : concL m (evs (evX s.env) args.toList) = some (args.toList.map a.eval) := evs_rel fun x _ => eval_vals R.env x
          refine hdo w0 M0 m0 fr _ w Q hG hfr ⟨m, hm, ⟨by rw [put_size]; exact R.size, ?_, ?_, R.w⟩⟩ hQ
          · intro t
            have := conc_put (dst := o.dst) (x := u0) (v := undef) R.size hd R.env (by simp [u0, conc, undef]) t
            simp only [fsOf, envF_setDst]
            cases hdst : o.dst with
            | none => rw [hdst] at this; exact this
            | some k => rw [hdst] at this; exact this
          · rw [put_defers]
            refine ⟨⟨_, _, us ++ args.toList.map a.eval ++ vs, rfl, concL_append (concL_append h1 ha) h2, ?_⟩, R.df⟩
            apply Array.toList_inj.1
            simp
        · cases h
      · split at h
        · rename_i q hq
          obtain ⟨E, e⟩ := opX_ok (nt := nt) (ro := ro) hc hr hI hw hq
          exact fin _ _ _ e h
        · cases h
    · rename_i hw
      exact fin _ _ _ (eff_skip hI hw) h
    · cases h

/-! drawn regions -/
theorem effI_cons (e : EX) (E : List EX) (i : Nat) : effI (e :: E) (i + 1) = effI E i := by simp [effI]
theorem opsD_chain (hc : CxOk c) (hr : ∀ f args hp nx q, r.call f args hp nx = .ok q → CallOk c f args hp nx q) :
    ∀ (l : List Oper) (i : Nat) (s : S) (acc : List Sk) (q : S × List Sk), opsD c r ops.toList i l s acc = .ok q → Inv s →
      ∃ (ks : List Sk) (E : List EX) (st : Nat → S), q.2 = ks.reverse ++ acc ∧ st 0 = s ∧ st l.length = q.1 ∧ ∀ j o, l[j]? = some o → Eff c ops nt ro (st j) o (st (j + 1)) (skAt ks j) (effI E j)
  | [], i, s, acc, q, h, hI => by
    simp only [opsD, O.ok.injEq] at h
    subst h
    exact ⟨[], [], fun _ => s, rfl, rfl, rfl, fun j o h => by simp at h⟩
  | o :: l, i, s, acc, q, h, hI => by
    have fin : ∀ (s1 : S) (k : Sk) (e : EX), Eff c ops nt ro s o s1 k e → opsD c r ops.toList (Nat.succ i) l s1 (k :: acc) = .ok q →
        ∃ (ks : List Sk) (E : List EX) (st : Nat → S), q.2 = ks.reverse ++ acc ∧ st 0 = s ∧ st (o :: l).length = q.1 ∧ ∀ j o', (o :: l)[j]? = some o' → Eff c ops nt ro (st j) o' (st (j + 1)) (skAt ks j) (effI E j) := by
      intro s1 k e he h
      obtain ⟨ks, E, st, h1, h2, h3, h4⟩ := opsD_chain hc hr l (Nat.succ i) s1 (k :: acc) q h he.st.inv
      refine ⟨k :: ks, e :: E, fun j => match j with | 0 => s | j + 1 => st j, by rw [h1]; simp, rfl, h3, ?_⟩
      intro j o' ho
      cases j with
      | zero =>
        simp only [List.getElem?_cons_zero, Option.some.injEq] at ho
        subst ho
        have e2 : effI (e :: E) 0 = e := by simp [effI]
        rw [e2]
        show Eff c ops nt ro s o (st 0) k e
        rw [h2]
        exact he
      | succ j =>
        simp only [List.getElem?_cons_succ] at ho
        rw [effI_cons]
        have e3 : skAt (k :: ks) (j + 1) = skAt ks j := by unfold skAt; rw [nth_eq, nth_eq]; rfl
        rw [e3]
        exact h4 j o' ho
    unfold opsD at h
    split at h
    · rename_i hw
      split at h
      · rename_i q' hq
        obtain ⟨E, e⟩ := opX_ok (nt := nt) (ro := ro) hc hr hI hw hq
        exact fin _ _ _ e h
      · cases h
    · rename_i hw
      exact fin _ _ _ (eff_skip hI hw) h
    · cases h

theorem anyT_spec {k : Sk} : ∀ {l : List Nat} {b : Nat}, anyT k l = false → b ∈ l → touches k b = false
  | [], _, _, h => by cases h
  | c :: l, b, h, hb => by
    simp only [anyT, Bool.or_eq_false_iff] at h
    rcases List.mem_cons.1 hb with rfl | hb
    · exact h.1
    · exact anyT_spec h.2 hb
theorem anyW_spec {k : Sk} : ∀ {l : List Nat} {b : Nat}, anyW k l = false → b ∈ l → within k b = false ∧ b ∉ k.w
  | [], _, _, h => by cases h
  | c :: l, b, h, hb => by
    simp only [anyW, Bool.or_eq_false_iff] at h
    rcases List.mem_cons.1 hb with rfl | hb
    · exact ⟨h.1.1, inL_spec h.1.2⟩
    · exact anyW_spec h.2 hb
theorem within_false {k : Sk} {b : Nat} (h : within k b = false) : ¬ (k.lo ≤ b ∧ b < k.hi) := by
  rintro ⟨h1, h2⟩
  have e1 : Nat.ble k.lo b = true := Nat.ble_eq_true_of_le h1
  have e2 : Nat.blt b k.hi = true := Nat.ble_eq_true_of_le h2
  rw [within, e1, e2] at h
  cases h
theorem touches_false {k : Sk} {b : Nat} (h : touches k b = false) : b ∉ k.w ∧ b ∉ k.r ∧ ¬ (k.lo ≤ b ∧ b < k.hi) ∧ ¬ (k.ra = true ∧ b < k.lo) := by
  simp only [touches, Bool.or_eq_false_iff] at h
  refine ⟨inL_spec h.1.1.1, inL_spec h.1.1.2, within_false h.1.2, ?_⟩
  rintro ⟨h1, h2⟩
  have e2 : Nat.blt b k.lo = true := Nat.ble_eq_true_of_le h2
  rw [h1, e2] at h
  exact absurd h.2 (by simp)
theorem cfS_spec {i j : Sk} {Ei Ej : EX} (h : cfS i j = false) (hiu : ∀ b, Ei.up b ≠ none → b ∈ i.w ∨ (i.lo ≤ b ∧ b < i.hi)) (hir : ∀ b, Ei.rd b → b ∈ i.r ∨ (i.ra = true ∧ b < i.lo))
    (hju : ∀ b, Ej.up b ≠ none → b ∈ j.w ∨ (j.lo ≤ b ∧ b < j.hi)) (hjr : ∀ b, Ej.rd b → b ∈ j.r ∨ (j.ra = true ∧ b < j.lo)) :
    (∀ b, Ei.up b ≠ none → Ej.up b = none ∧ ¬ Ej.rd b) ∧ ∀ b, Ei.rd b → Ej.up b = none := by
  simp only [cfS, Bool.or_eq_false_iff] at h
  obtain ⟨⟨⟨⟨⟨h1, h2⟩, h3⟩, h4⟩, h5⟩, h6⟩ := h
  have h5' : ∀ b, i.lo ≤ b → b < i.hi → j.ra = false ∧ ¬ (j.lo ≤ b ∧ b < j.hi) := by
    intro b g1 g2
    have e1 : Nat.blt i.lo i.hi = true := Nat.ble_eq_true_of_le (by omega)
    rw [e1, Bool.true_and, Bool.or_eq_false_iff] at h5
    refine ⟨h5.1, ?_⟩
    rintro ⟨g3, g4⟩
    have e2 : Nat.blt j.lo j.hi = true := Nat.ble_eq_true_of_le (by omega)
    have e3 : Nat.ble i.hi j.lo = false := by
      cases hb : Nat.ble i.hi j.lo with
      | false => rfl
      | true => have := Nat.le_of_ble_eq_true hb; omega
    rw [e2, e3] at h5
    exact absurd h5.2 (by simp)
  have h6' : ∀ b, i.ra = true → b < i.lo → ¬ (j.lo ≤ b ∧ b < j.hi) := by
    rintro b g1 g2 ⟨g3, g4⟩
    have e1 : Nat.blt j.lo j.hi = true := Nat.ble_eq_true_of_le (by omega)
    have e2 : Nat.blt j.lo i.lo = true := Nat.ble_eq_true_of_le (by omega)
    rw [g1, e1, e2] at h6
    exact absurd h6 (by simp)
  refine ⟨fun b hb => ⟨?_, fun hr => ?_⟩, fun b hb => ?_⟩
  · apply Classical.byContradiction
    intro hj
    rcases hiu b hb with g | g
    · have := touches_false (anyT_spec h1 g)
      rcases hju b hj with g' | g'
      · exact this.1 g'
      · exact this.2.2.1 g'
    · rcases hju b hj with g' | g'
      · exact (touches_false (anyT_spec h2 g')).2.2.1 g
      · exact (h5' b g.1 g.2).2 g'
  · rcases hiu b hb with g | g
    · have := touches_false (anyT_spec h1 g)
      rcases hjr b hr with g' | g'
      · exact this.2.1 g'
      · exact this.2.2.2 g'
    · rcases hjr b hr with g' | g'
      · exact within_false (anyW_spec h4 g').1 g
      · rw [(h5' b g.1 g.2).1] at g'; cases g'.1
  · apply Classical.byContradiction
    intro hj
    rcases hir b hb with g | g
    · have := anyW_spec h3 g
      rcases hju b hj with g' | g'
      · exact this.2 g'
      · exact within_false this.1 g'
    · rcases hju b hj with g' | g'
      · exact (touches_false (anyT_spec h2 g')).2.2.2 g
      · exact h6' b g.1 g.2 g'

theorem fwdJ_spec {j : Nat} : ∀ {l : List Edge}, fwdJ j l = true → ∀ e ∈ l, Region.binds .any e = true → e.on < j
  | [], _, e, he, _ => by cases he
  | x :: l, h, e, he, hb => by
    simp only [fwdJ] at h
    cases hx : (bif Region.binds .any x then Nat.blt x.on j else true) with
    | false => rw [hx] at h; cases h
    | true =>
      rw [hx] at h
      rcases List.mem_cons.1 he with rfl | he
      · rw [hb] at hx
        exact Nat.le_of_ble_eq_true hx
      · exact fwdJ_spec h e he hb
theorem ordJ_spec {sks : List Sk} {n j : Nat} : ∀ {k : Nat}, ordJ ops sks n j k = true → ∀ i, i < k → reach ops n j i = true ∨ cfX ops sks i j = false
  | 0, _, i, hi => by omega
  | k + 1, h, i, hi => by
    simp only [ordJ] at h
    cases hx : (bif reach ops n j k then true else !(cfX ops sks k j)) with
    | false => rw [hx] at h; cases h
    | true =>
      rw [hx] at h
      rcases Nat.lt_or_ge i k with g | g
      · exact ordJ_spec h i g
      · have : i = k := by omega
        subst this
        cases hr : reach ops n j i with
        | true => exact .inl rfl
        | false => rw [hr] at hx; exact .inr (by simpa using hx)
theorem ordX_spec {sks : List Sk} {n : Nat} : ∀ {k : Nat}, ordX ops sks n k = true → ∀ j, j < k → (∀ o, ops[j]? = some o → ∀ e ∈ o.after, Region.binds .any e = true → e.on < j) ∧ ∀ i, i < j → reach ops n j i = true ∨ cfX ops sks i j = false
  | 0, _, j, hj => by omega
  | k + 1, h, j, hj => by
    simp only [ordX] at h
    replace h := bif_tt h
    obtain ⟨hx, h⟩ := h
    rcases Nat.lt_or_ge j k with g | g
    · exact ordX_spec h j g
    · have : j = k := by omega
      subst this
      rw [Bool.and_eq_true] at hx
      refine ⟨fun o ho e he hb => ?_, ordJ_spec hx.2⟩
      have h1 := hx.1
      rw [nth_eq] at h1
      have e1 : ops.toList[j]? = ops[j]? := by simp
      rw [e1, ho] at h1
      exact fwdJ_spec h1 e (by simpa using he) hb

def RegionDo (c : Cx) (ops : Array Oper) (nt : Nat) (ro : Option Nat) (s s' : S) : Prop :=
  ∀ w0 M0 m0 fr a w Q, GOk c.gl w0 M0 → (∀ b, s.nx ≤ b → b < s'.nx → fr b) → RR w0 M0 m0 nt s.df fr (fsOf s) a w →
    (∀ a' w', RR w0 M0 m0 nt s'.df (Mn fr s.nx s'.nx) (fsOf s') a' w' → Q Exit.normal a' w') → wpAnyIn (Fr ro) 0 c.P .any ops Q ops.size (Array.replicate ops.size false) a w

theorem opsD_ok (hc : CxOk c) (hr : ∀ f args hp nx q, r.call f args hp nx = .ok q → CallOk c f args hp nx q) (hin : opsIn nt ops.toList = true) {s : S} {q : S × List Sk} (h : opsD c r ops.toList 0 ops.toList s [] = .ok q) (hord : ordX ops q.2.reverse ops.size ops.size = true) (hI : Inv s) :
    Stat s q.1 ∧ q.1.df = s.df ∧ RegionDo c ops nt ro s q.1 := by
  obtain ⟨ks, E, st, h1, h2, h3, h4⟩ := opsD_chain (nt := nt) (ro := ro) hc hr ops.toList 0 s [] q h hI
  have hks : q.2.reverse = ks := by rw [h1]; simp
  rw [hks] at hord
  have hlen : ops.toList.length = ops.size := by simp
  rw [hlen] at h3
  have h4' : ∀ j o, ops[j]? = some o → Eff c ops nt ro (st j) o (st (j + 1)) (skAt ks j) (effI E j) := fun j o ho => h4 j o (by simpa using ho)
  have hall : ∀ d i, i + d ≤ ops.size → Inv (st i) → Stat (st i) (st (i + d)) ∧ (st (i + d)).df = (st i).df := by
    intro d
    induction d with
    | zero => exact fun i _ hi => ⟨Stat.refl hi, rfl⟩
    | succ d ih =>
      intro i hi hInv
      obtain ⟨g1, g2⟩ := ih i (by omega) hInv
      have e := h4' (i + d) _ (Array.getElem?_eq_getElem (by omega))
      exact ⟨g1.trans e.st, e.df.trans g2⟩
  have hI0 : Inv (st 0) := h2 ▸ hI
  have hinv : ∀ i, i ≤ ops.size → Inv (st i) := fun i hi => by have := (hall i 0 (by omega) hI0).1.inv; rwa [Nat.zero_add] at this
  have hmono : ∀ i j, i ≤ j → j ≤ ops.size → (st i).nx ≤ (st j).nx := fun i j hij hj => by
    have := (hall (j - i) i (by omega) (hinv i (by omega))).1.nx
    rwa [Nat.add_sub_cancel' hij] at this
  have hfs : ∀ i, i ≤ ops.size → foldI ops E (List.range i) (fsOf s) = fsOf (st i) := by
    intro i
    induction i with
    | zero => intro _; rw [h2]; rfl
    | succ i ih =>
      intro hi
      rw [List.range_succ]
      unfold foldI
      rw [List.foldl_append]
      have := ih (by omega)
      unfold foldI at this
      rw [this]
      have ho : ops[i]? = some ops[i] := Array.getElem?_eq_getElem (by omega)
      rw [(h4' i _ ho).app]
      simp [applyI, dstI, ho]
  have hst : Stat s q.1 ∧ q.1.df = s.df := by
    have := hall ops.size 0 (by omega) hI0
    rw [Nat.zero_add, h2, h3] at this
    exact this
  refine ⟨hst.1, hst.2, ?_⟩
  intro w0 M0 m0 fr a w Q hG hfr hR hQ
  have hspec := ordX_spec hord
  have hok : OrdOk ops E (cfX ops ks) := by
    refine ⟨fun j o ho => (hspec j (Array.getElem?_eq_some_iff.1 ho).1).1 o ho, fun i j hij hj hcf => ?_, fun i j x y hij hx hy hcf => ?_, fun i j hi hj hij b hb hb' => ?_⟩
    · rcases (hspec j hj).2 i hij with g | g
      · exact g
      · rw [hcf] at g; cases g
    · unfold cfX at hcf
      rw [nth_eq, nth_eq] at hcf
      have e1 : ops.toList[i]? = some x := by simpa using hx
      have e2 : ops.toList[j]? = some y := by simpa using hy
      rw [e1, e2] at hcf
      simp only [Bool.or_eq_false_iff] at hcf
      exact ⟨by simpa using hcf.1, cfS_spec hcf.2 (h4' i x hx).up (h4' i x hx).rd (h4' j y hy).up (h4' j y hy).rd⟩
    · have g1 := (h4' i _ (Array.getElem?_eq_getElem hi)).nm b hb
      have g2 := (h4' j _ (Array.getElem?_eq_getElem hj)).nm b hb'
      rcases Nat.lt_or_ge i j with g | g
      · have := hmono (i + 1) j (by omega) (by omega); omega
      · have := hmono (j + 1) i (by omega) (by omega); omega
  have hnm : ∀ i, i < ops.size → ∀ b, (effI E i).nm b → s.nx ≤ b ∧ b < q.1.nx := by
    intro i hi b hb
    have g := (h4' i _ (Array.getElem?_eq_getElem hi)).nm b hb
    have g1 := hmono 0 i (by omega) (by omega)
    have g2 := hmono (i + 1) ops.size (by omega) (by omega)
    rw [h2] at g1
    rw [h3] at g2
    omega
  refine any_order E (fsOf s) (cfX ops ks) fr RR.free hok hin (fun i o ho => ?_) (fun i hi b hb => hfr b (hnm i hi b hb).1 (hnm i hi b hb).2) (fun a' w' hR' => ?_) ops.size (Array.replicate ops.size false) a w (by simp) ?_ ?_ (R := RR w0 M0 m0 nt s.df) ?_
  · rw [hfs i (by have := (Array.getElem?_eq_some_iff.1 ho).1; omega)]
    exact (h4' i o ho).snd w0 M0 m0 s.df hG
  · rw [hfs ops.size (Nat.le_refl _), h3] at hR'
    rw [hst.2] at hQ
    exact hQ a' w' (hR'.less fun b hb => ⟨hb.1, fun i hi hn => hb.2 (hnm i hi b hn)⟩)
  · intro j o' hj
    exfalso
    have : (Array.replicate ops.size false).getD j false = false := by
      simp only [Array.getD_eq_getD_getElem?, Array.getElem?_replicate]
      split <;> rfl
    rw [this] at hj; cases hj
  · exact Nat.le_trans (List.length_filter_le _ _) (by simp)
  · have hl : ∀ i, Go.Ab.listedIn (Array.replicate ops.size false) i = false := by
      intro i
      simp only [Go.Ab.listedIn, Array.getD_eq_getD_getElem?, Array.getElem?_replicate]
      split <;> rfl
    have e1 : sg ops E (fsOf s) (Array.replicate ops.size false) = fsOf s := by
      unfold sg
      rw [List.filter_eq_nil_iff.2 fun i _ => by rw [hl i]; simp]
      rfl
    rw [e1]
    exact hR.less fun b hb => hb.1
end
end Go.Ex
