/- The exact evaluator, part 17: calls. -/
import Derived.Test.YtblbhfnpneliiaaGreatDoorExCodeB
namespace Go.Ex
open Go.RowKit
open Go.Ab (reach Clo opsIn opsIn_spec Wrote)

/-- What must be known of the tables, and of the function that recovers. -/
structure FnOk (c : Cx) (rc : FuncId) : Prop where
  fn : ∀ f g, c.fn.get f = some g → c.P.funcs[f]? = some g
  enter : ∀ args w, (callFunc rc args).run c.P w = .ok (.enter rc args) w
  rcv : ∀ args w, CallsDIn Fence.wide 0 c.P rc args .returning w fun e u w' => (∃ v, e = .returned v) ∧ u = .returning ∧ w' = w
structure RecOk (c : Cx) (r : Rec) : Prop where
  call : ∀ f args hp nx q, r.call f args hp nx = .ok q → CallOk c f args hp nx q
  code : ∀ (ro : Option Nat) (nt : Nat) code s x s', r.code ro.isSome code s = .ok (x, s') → inC nt code = true → s.nt = nt → Inv s → CodeOk c ro nt code x s s'

theorem argsE_spec : ∀ (l : List X) (k : Nat) (e : Tr X) (t : Nat), envF (argsE k l e) t = if k ≤ t then (match l[t - k]? with | some x => x | none => envF e t) else envF e t
  | [], k, e, t => by simp [argsE]
  | x :: l, k, e, t => by
    rw [argsE, argsE_spec l (Nat.succ k), envF_set]
    by_cases h1 : k = t
    · subst h1
      rw [if_neg (Nat.not_succ_le_self k), if_pos rfl, if_pos (Nat.le_refl k), Nat.sub_self]
      rfl
    · by_cases h2 : k ≤ t
      · rw [if_pos (show Nat.succ k ≤ t by omega), if_pos h2, if_neg h1]
        have : t - k = (t - Nat.succ k) + 1 := by omega
        rw [this, List.getElem?_cons_succ]
      · rw [if_neg (by omega), if_neg h2, if_neg h1]
theorem conc_u0 (m : Mu) : conc m u0 = some undef := by simp [u0, conc, undef]
theorem start_env {m : Mu} {args : List X} {us : List Value} (h : concL m args = some us) (nt : Nat) (t : Nat) : conc m (envF (argsE 0 args .nil) t) = some ((us.toArray ++ Array.replicate (nt - us.toArray.size) undef).getD t undef) := by
  rw [argsE_spec, if_pos (Nat.zero_le _), Nat.sub_zero]
  have hl := concL_length h
  have hn : envF (.nil : Tr X) t = u0 := rfl
  rw [Array.getD_eq_getD_getElem?]
  cases hx : args[t]? with
  | some x =>
    obtain ⟨v, h1, h2⟩ := concL_get h hx
    have hlt := (List.getElem?_eq_some_iff.1 h1).1
    rw [Array.getElem?_append_left (by simpa using hlt)]
    simp [h1, h2]
  | none =>
    have hge := List.getElem?_eq_none_iff.1 hx
    rw [Array.getElem?_append_right (by simp; omega), hn, conc_u0]
    simp only [Array.getElem?_replicate]
    split <;> rfl

section
variable {c : Cx} {r : Rec} {rc : FuncId}

theorem body_ok (hc : CxOk c) (hr : RecOk c r) {fn : Func} {args : List X} {hp : Tr B} {nx : Nat} {x : Xt} {s' : S} (h : bodyX c r fn args hp nx = .ok (x, s')) (hfree : ∀ b, nx ≤ b → hp.get b = none) :
    ∃ code, fn.body = some code ∧ (fn.name == "runtime.NumGoroutine") = false ∧ Stat ⟨fn.ntmps, argsE 0 args .nil, hp, nx, [], nx, []⟩ s' ∧
      ∀ w0 M0 fr m w us, GOk c.gl w0 M0 → WR w0 M0 fr m hp.get w → (∀ b, nx ≤ b → b < s'.nx → fr b) → concL m args = some us →
        code.wpIn (Fr none) 0 c.P (fun e a' w' => e = xOf x ∧ RR w0 M0 m fn.ntmps s'.df (Mn fr nx s'.nx) (fsOf s') a' w') { tmps := us.toArray ++ Array.replicate (fn.ntmps - us.toArray.size) undef, defers := [] } w := by
  unfold bodyX at h
  split at h
  · rename_i code hcode
    replace h := bif_yes h
    obtain ⟨hb, h⟩ := h
    simp only [Bool.and_eq_true, Bool.not_eq_true'] at hb
    obtain ⟨⟨h1, h2⟩, h3⟩ := hb
    have h2' := Nat.le_of_ble_eq_true h2
    rw [lenL_eq] at h2'
    have k := codeX_ok (ro := none) (nt := fn.ntmps) (rnd := false) hc hr.call rfl (hr.code none fn.ntmps) code _ x s' h h1 rfl ⟨Nat.le_refl _, hfree⟩
    refine ⟨code, hcode, h3, k.1, fun w0 M0 fr m w us hG hW hfr hus => k.wp w0 M0 m fr _ w hG hfr ⟨m, Le.refl m, ⟨?_, fun t => start_env hus fn.ntmps t, trivial, hW⟩⟩⟩
    have := concL_length hus
    simp
    omega
  · cases h

theorem DRel.nil {m : Mu} {ds : List Deferred} (h : DRel m [] ds) : ds = [] := by
  cases ds with
  | nil => rfl
  | cons d ds => exact h.elim
theorem run_enter {P : Program} {f : FuncId} {fn : Func} {code : Code} (hf : P.funcs[f]? = some fn) (hb : fn.body = some code) (hn : (fn.name == "runtime.NumGoroutine") = false) (args : Array Value) (w : World) : (callFunc f args).run P w = .ok (.enter f args) w := by
  have h1 : fn.name ≠ "runtime.NumGoroutine" := by simpa using hn
  simp [callFunc, hf, h1, hb]
theorem Mn.join {fr : Nat → Prop} {lo mid hi b : Nat} (h1 : lo ≤ mid) (h2 : mid ≤ hi) (h : Mn fr lo hi b) : Mn (Mn fr lo mid) mid hi b := ⟨⟨h.1, fun g => h.2 ⟨g.1, by omega⟩⟩, fun g => h.2 ⟨by omega, g.2⟩⟩

theorem defX_ok (hc : CxOk c) (hf : FnOk c rc) (hr : RecOk c r) : ∀ (l : List Df) (hp : Tr B) (nx bs : Nat) (wr : List Nat) (hp' : Tr B) (nx' : Nat) (wr' : List Nat), defX c rc r l hp nx bs wr = .ok (hp', nx', wr') → bs ≤ nx → (∀ b, nx ≤ b → hp.get b = none) →
    nx ≤ nx' ∧ (∀ b, nx' ≤ b → hp'.get b = none) ∧ (∀ b, b < bs → b ∉ wr' → b ∉ wr ∧ hp'.get b = hp.get b) ∧
      ∀ w0 M0 fr m w ds tmps fn R, GOk c.gl w0 M0 → WR w0 M0 fr m hp.get w → (∀ b, nx ≤ b → b < nx' → fr b) → DRel m l ds →
        (∀ m' w', Le m m' → WR w0 M0 (Mn fr nx nx') m' hp'.get w' → LeavesInM (Fr none) 0 c.P fn tmps R [] .returning w') → LeavesInM (Fr none) 0 c.P fn tmps R ds .returning w
  | [], hp, nx, bs, wr, hp', nx', wr', h, hb, hfree => by
    simp only [defX, O.ok.injEq, Prod.mk.injEq] at h
    obtain ⟨rfl, rfl, rfl⟩ := h
    refine ⟨Nat.le_refl _, hfree, fun b _ h => ⟨h, rfl⟩, fun w0 M0 fr m w ds tmps fn R hG hW hfr hd k => ?_⟩
    rw [DRel.nil hd]
    exact k m w (Le.refl m) (hW.less fun b hb => hb.1)
  | .mark b :: l, hp, nx, bs, wr, hp', nx', wr', h, hb, hfree => by
    simp only [defX] at h
    split at h
    · rename_i hget
      have hbn : b < nx := by
        rcases Nat.lt_or_ge b nx with g | g
        · exact g
        · rw [hfree b g] at hget; cases hget
      obtain ⟨k1, k2, k3, k4⟩ := defX_ok hc hf hr l _ nx bs _ hp' nx' wr' h hb (fun y hy => by rw [get_set, if_neg (by omega)]; exact hfree y hy)
      refine ⟨k1, k2, fun y hy h => ?_, fun w0 M0 fr m w ds tmps fn R hG hW hfr hd k => ?_⟩
      · obtain ⟨g1, g2⟩ := k3 y hy h
        rw [List.mem_append, not_or] at g1
        have : b ≠ y := fun e => g1.1 (mem_keepLt (by rw [e]; simp) hy)
        exact ⟨g1.2, by rw [g2, get_set, if_neg this]⟩
      · cases ds with
        | nil => exact hd.elim
        | cons d ds =>
          obtain ⟨⟨p, hp1, hd1⟩, hd2⟩ := hd
          subst hd1
          obtain ⟨o, ho1, ho2⟩ := hW.at hget hp1
          have ho2' : o = .deferred (some []) := ho2
          subst ho2'
          have hW' := hW.wrote hget hp1 (wrote_putObj (o := .deferred none)) (.defd false) (.deferred none) (World.putObj_heap_same (Array.getElem?_eq_some_iff.1 ho1).1) rfl
          rw [← get_set_upd] at hW'
          exact ⟨by simp, .inl ⟨p.1, _, rfl, run_takeDeferred ho1, k4 w0 M0 fr m _ ds tmps fn R hG hW' hfr hd2 k⟩⟩
    · cases h
  | .fn f args :: l, hp, nx, bs, wr, hp', nx', wr', h, hb, hfree => by
    simp only [defX] at h
    cases hfc : Nat.beq f rc with
    | true =>
      have hfr : f = rc := Nat.eq_of_beq_eq_true hfc
      simp only [hfc, cond_true] at h
      obtain ⟨k1, k2, k3, k4⟩ := defX_ok hc hf hr l hp nx bs wr hp' nx' wr' h hb hfree
      refine ⟨k1, k2, k3, fun w0 M0 fr m w ds tmps fn R hG hW hfr' hd k => ?_⟩
      cases ds with
      | nil => exact hd.elim
      | cons d ds =>
        obtain ⟨⟨cap, dargs, us, hd1, hd3, hd4⟩, hd2⟩ := hd
        subst hd1
        subst hfr
        refine ⟨by simp, .inr ⟨fun h => absurd h Bool.false_ne_true, .func f, cap, f, dargs ++ cap, rfl, hf.enter _ w, fun _ _ => trivial, CallsDIn.mono (F := Fr none) (hf.rcv (dargs ++ cap) w) ?_⟩⟩
        rintro e u w' ⟨⟨v, rfl⟩, rfl, rfl⟩
        exact k4 w0 M0 fr m w' ds tmps fn R hG hW hfr' hd2 k
    | false =>
      simp only [hfc, cond_false] at h
      split at h
      · rename_i fn' hfn'
        split at h
        · rename_i hres
          have hres' : fn'.results = #[] := Array.toList_inj.1 hres
          have main : ∀ x s, (x = .normal ∨ x = .ret) → bodyX c r fn' args hp nx = .ok (x, s) → s.df = [] → defX c rc r l s.hp s.nx bs (keepLt bs s.wr ++ wr) = .ok (hp', nx', wr') →
              nx ≤ nx' ∧ (∀ b, nx' ≤ b → hp'.get b = none) ∧ (∀ b, b < bs → b ∉ wr' → b ∉ wr ∧ hp'.get b = hp.get b) ∧
                ∀ w0 M0 fr m w ds tmps fn R, GOk c.gl w0 M0 → WR w0 M0 fr m hp.get w → (∀ b, nx ≤ b → b < nx' → fr b) → DRel m (.fn f args :: l) ds →
                  (∀ m' w', Le m m' → WR w0 M0 (Mn fr nx nx') m' hp'.get w' → LeavesInM (Fr none) 0 c.P fn tmps R [] .returning w') → LeavesInM (Fr none) 0 c.P fn tmps R ds .returning w := by
            intro x s hx hbody hdf h
            obtain ⟨code, b1, b2, b3, b4⟩ := body_ok hc hr hbody hfree
            have hnx : nx ≤ s.nx := b3.nx
            obtain ⟨k1, k2, k3, k4⟩ := defX_ok hc hf hr l s.hp s.nx bs _ hp' nx' wr' h (Nat.le_trans hb hnx) b3.inv.2
            refine ⟨Nat.le_trans hnx k1, k2, fun y hy h => ?_, fun w0 M0 fr m w ds tmps fn R hG hW hfr hd k => ?_⟩
            · obtain ⟨g1, g2⟩ := k3 y hy h
              rw [List.mem_append, not_or] at g1
              have := b3.wr y (Nat.lt_of_lt_of_le hy hb) fun hm => g1.1 (mem_keepLt hm hy)
              exact ⟨g1.2, g2.trans this.2⟩
            · cases ds with
              | nil => exact hd.elim
              | cons d ds =>
                obtain ⟨⟨cap, dargs, us, hd1, hd3, hd4⟩, hd2⟩ := hd
                subst hd1
                have hfP := hf.fn f fn' hfn'
                refine ⟨by simp, .inr ⟨fun h => absurd h Bool.false_ne_true, .func f, cap, f, dargs ++ cap, rfl, run_enter hfP b1 b2 _ w, fun _ _ => trivial, ?_⟩⟩
                rw [hd4]
                refine CallsDIn.mono (callsDIn_of_wp (F := Fr none) (R := fun e w' => e = .returned (.tuple #[]) ∧ ∃ m', Le m m' ∧ WR w0 M0 (Mn fr nx s.nx) m' s.hp.get w') hfP b1 trivial (wpIn_mono (b4 w0 M0 fr m w us hG hW (fun y g1 g2 => hfr y g1 (Nat.lt_of_lt_of_le g2 k1)) hd3) ?_)) ?_
                · rintro e a' w' ⟨rfl, m', hm', R'⟩
                  have hd0 := R'.df
                  rw [hdf] at hd0
                  have : bodyPost c.P fn' (fun e w' => e = .returned (.tuple #[]) ∧ ∃ m', Le m m' ∧ WR w0 M0 (Mn fr nx s.nx) m' s.hp.get w') .normal a' w' := ⟨hd0.nil, _, by simp [results, hres'], rfl, m', hm', R'.w⟩
                  rcases hx with rfl | rfl
                  · exact this
                  · exact this
                · rintro e u w' ⟨rfl, rfl, m', hm', W'⟩
                  refine k4 w0 M0 _ m' w' ds tmps fn R hG W' (fun y g1 g2 => ⟨hfr y (by omega) g2, by omega⟩) (hd2.mono hm') fun m2 w2 g1 g2 => k m2 w2 (hm'.trans g1) (g2.less fun y hy => Mn.join hnx k1 hy)
          split at h
          · rename_i s hbody
            split at h
            · rename_i hdf
              exact main _ s (.inl rfl) hbody hdf h
            · cases h
          · rename_i s hbody
            split at h
            · rename_i hdf
              exact main _ s (.inr rfl) hbody hdf h
            · cases h
          · cases h
          · cases h
        · cases h
      · cases h

/-! results -/
def rsem (tmps : Array Value) : ResultVar → Sem Value
  | .tmp t => pure (tmps.getD t undef)
  | .cell a t => do loadVar t (← asAddr (tmps.getD a undef))
theorem resXs_ok (hc : CxOk c) {env : Tr X} {hp : Tr B} {w0 : World} {M0 fr : Nat → Prop} {m : Mu} {w : World} {a : Act} (hG : GOk c.gl w0 M0) (hW : WR w0 M0 fr m hp.get w) (henv : ∀ t, conc m (envF env t) = some (a.tmps.getD t undef)) :
    ∀ (l : List ResultVar) (xs : List X), resXs c env hp l = some xs → ∃ vs, (l.mapM (rsem a.tmps)).run c.P w = .ok vs w ∧ concL m xs = some vs
  | [], xs, h => by
    simp only [resXs, Option.some.injEq] at h
    subst h
    exact ⟨[], by simp, concL_nil⟩
  | x :: l, xs, h => by
    simp only [resXs] at h
    split at h
    · rename_i y ys h1 h2
      simp only [Option.some.injEq] at h
      subst h
      obtain ⟨vs, k1, k2⟩ := resXs_ok hc hG hW henv l ys h2
      have one : ∃ v, (rsem a.tmps x).run c.P w = .ok v w ∧ conc m y = some v := by
        cases x with
        | tmp t =>
          simp only [resX1, Option.some.injEq] at h1
          subst h1
          exact ⟨_, by simp [rsem], henv t⟩
        | cell b t =>
          simp only [resX1] at h1
          split at h1
          · rename_i ti hti
            split at h1
            · rename_i e he
              simp only [Option.some.injEq] at h1
              subst h1
              obtain ⟨_, v, k, o, g1, g2, g3⟩ := load_ok (hc.ti _ _ hti) he hG hW (henv b) (fun _ _ => rfl)
              refine ⟨v, ?_, g3⟩
              simp only [rsem, g1, asAddr, Sem.run_bind, Sem.run_pure, Result.andThen]
              exact g2
            · cases h1
          · cases h1
      obtain ⟨v, g1, g2⟩ := one
      exact ⟨v :: vs, by simp only [List.mapM_cons, Sem.run_bind, g1, Result.andThen, k1, Sem.run_pure], concL_cons.2 ⟨v, vs, g2, k2, rfl⟩⟩
    · cases h
theorem resX_ok (hc : CxOk c) {env : Tr X} {hp : Tr B} {w0 : World} {M0 fr : Nat → Prop} {m : Mu} {w : World} {a : Act} {fn : Func} (hG : GOk c.gl w0 M0) (hW : WR w0 M0 fr m hp.get w) (henv : ∀ t, conc m (envF env t) = some (a.tmps.getD t undef)) {x : X}
    (h : resX c env hp fn.results.toList = some x) : ∃ v, (results fn a.tmps).run c.P w = .ok v w ∧ conc m x = some v := by
  have hrun : ∀ vs : List Value, (fn.results.toList.mapM (rsem a.tmps)).run c.P w = .ok vs w →
      (results fn a.tmps).run c.P w = .ok (if h : vs.toArray.size = 1 then vs.toArray[0] else .tuple vs.toArray) w := by
    intro vs hvs
    have gen : ∀ F : ResultVar → Sem Value, (∀ x, F x = rsem a.tmps x) → (do let vs ← fn.results.mapM F; pure (if h : vs.size = 1 then vs[0] else .tuple vs) : Sem Value).run c.P w = .ok (if h : vs.toArray.size = 1 then vs.toArray[0] else .tuple vs.toArray) w := by
      intro F hF
      obtain rfl : F = rsem a.tmps := funext hF
      rw [Array.mapM_eq_mapM_toList]
      simp only [Sem.run_bind, Sem.run_map, hvs, Result.andThen, Sem.run_pure]
    exact gen _ fun x => by cases x <;> rfl
  unfold resX at h
  split at h
  · rename_i y hy
    simp only [Option.some.injEq] at h
    subst h
    obtain ⟨vs, k1, k2⟩ := resXs_ok hc hG hW henv _ _ hy
    obtain ⟨v, vs', g1, g2, rfl⟩ := concL_cons.1 k2
    simp only [concL, Option.some.injEq] at g2
    subst g2
    exact ⟨v, by have := hrun _ k1; simpa using this, g1⟩
  · rename_i r' hne hr'
    simp only [Option.some.injEq] at h
    subst h
    obtain ⟨vs, k1, k2⟩ := resXs_ok hc hG hW henv _ _ hr'
    have hl := concL_length k2
    refine ⟨.tuple vs.toArray, ?_, by simp [conc, k2]⟩
    have := hrun _ k1
    rw [dif_neg] at this
    · exact this
    · intro h1
      have : r'.length = 1 := by simpa [hl] using h1
      match r', this with
      | [z], _ => exact hne z rfl
  · cases h
end
end Go.Ex
