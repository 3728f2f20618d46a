/- The exact evaluator, part 18: calls and rounds, all of it. -/
import Derived.Test.YtblbhfnpneliiaaGreatDoorExCall
namespace Go.Ex
open Go.RowKit
open Go.Ab (reach Clo opsIn opsIn_spec Wrote)
section
variable {c : Cx} {r : Rec} {rc : FuncId}

theorem endX_inv {fn : Func} {s : S} {q : Cr} (h : endX c rc r fn s = .ok q) : defX c rc r s.df s.hp s.nx s.bs s.wr = .ok (q.hp, q.nx, q.wr) ∧ resX c s.env q.hp fn.results.toList = some q.x := by
  unfold endX at h
  split at h
  · rename_i hp nx wr h1
    split at h
    · rename_i x h2
      simp only [O.ok.injEq] at h
      subst h
      exact ⟨h1, h2⟩
    · cases h
  · cases h

theorem call_fn (hc : CxOk c) (hf : FnOk c rc) (hr : RecOk c r) {g : FuncId} {fs args cs : List X} {hp : Tr B} {nx : Nat} {q : Cr} {fn : Func} (hfn : c.fn.get g = some fn) {x : Xt} {s : S} (hx : x = .normal ∨ x = .ret)
    (hb : bodyX c r fn (fs ++ args ++ cs) hp nx = .ok (x, s)) (he : endX c rc r fn s = .ok q) : CallOk c (.fn g fs cs) args hp nx q := by
  intro hfree
  obtain ⟨hd, hres⟩ := endX_inv he
  obtain ⟨code, b1, b2, b3, b4⟩ := body_ok hc hr hb hfree
  have hnx : nx ≤ s.nx := b3.nx
  have hbs : s.bs = nx := b3.bs
  obtain ⟨k1, k2, k3, k4⟩ := defX_ok hc hf hr s.df s.hp s.nx s.bs s.wr q.hp q.nx q.wr hd b3.inv.1 b3.inv.2
  refine ⟨Nat.le_trans hnx k1, k2, fun y hy h => ?_, fun w0 M0 fr m w us vf hG hW hfr hvf hus => ?_⟩
  · obtain ⟨g1, g2⟩ := k3 y (by omega) h
    exact g2.trans (b3.wr y hy g1).2
  · obtain ⟨ufs, ucs, h1, h2, rfl⟩ := conc_fn hvf
    have hfP := hf.fn g fn hfn
    refine ⟨.enter g (ufs ++ us ++ ucs).toArray, ?_, fun _ _ _ _ => ⟨_, _, rfl⟩, ?_⟩
    · simp only [Deferred.ofValue, Sem.run_bind, Sem.run_pure, Result.andThen, invoke]
      rw [run_enter hfP b1 b2]
      congr 2
      simp
    · have hall := concL_append (concL_append h1 hus) h2
      refine callsIn_of_wp_marks (F := Fr none) hfP b1 trivial (wpIn_mono (b4 w0 M0 fr m w _ hG hW (fun y g1 g2 => hfr y g1 (Nat.lt_of_lt_of_le g2 k1)) hall) ?_)
      rintro e a' w' ⟨rfl, m1, hm1, R1⟩
      have fin : LeavesInM (Fr none) 0 c.P fn a'.tmps (fun e w' => ∃ v m', e = Ending.returned v ∧ Le m m' ∧ conc m' q.x = some v ∧ WR w0 M0 (fun b => fr b ∧ ¬ (nx ≤ b ∧ b < q.nx)) m' q.hp.get w') a'.defers .returning w' := by
        refine k4 w0 M0 _ m1 w' a'.defers a'.tmps fn _ hG R1.w (fun y g1 g2 => ⟨hfr y (by omega) g2, by omega⟩) R1.df fun m2 w2 hm2 W2 => ?_
        obtain ⟨v, r1, r2⟩ := resX_ok (a := a') (fn := fn) hc hG W2 (fun t => conc_mono hm2 _ _ (R1.env t)) hres
        exact ⟨v, r1, v, m2, rfl, hm1.trans hm2, r2, W2.less fun y hy => Mn.join hnx k1 hy⟩
      rcases hx with rfl | rfl
      · exact fin
      · exact fin

theorem setPs_rel {m : Mu} {k : Nat} : ∀ {ps : List Tmp} {args : List X} {us : List Value} {env : Tr X} {tmps : Array Value}, concL m args = some us → (∀ t, conc m (envF env t) = some (tmps.getD t undef)) → tmps.size = k → psIn k ps = true →
    ((ps.zip us).foldl (fun tmps p => tmps.setIfInBounds p.1 p.2) tmps).size = k ∧ ∀ t, conc m (envF (setPs (ps.zip args) env) t) = some (((ps.zip us).foldl (fun tmps p => tmps.setIfInBounds p.1 p.2) tmps).getD t undef)
  | [], _, _, _, _, _, he, hs, _ => ⟨hs, he⟩
  | p :: ps, [], us, env, tmps, ha, he, hs, _ => by
    simp only [concL, Option.some.injEq] at ha
    subst ha
    exact ⟨hs, he⟩
  | p :: ps, x :: args, us, env, tmps, ha, he, hs, hp => by
    obtain ⟨v, vs, h1, h2, rfl⟩ := concL_cons.1 ha
    simp only [psIn] at hp
    replace hp := bif_tt hp
    obtain ⟨hlt, hp⟩ := hp
    have hlt' : p < k := Nat.le_of_ble_eq_true hlt
    simp only [List.zip_cons_cons, List.foldl_cons, setPs]
    refine setPs_rel h2 (fun t => ?_) (by simpa using hs) hp
    have := conc_put (a := { tmps := tmps, defers := [] }) (dst := some p) (nt := k) (g := envF env) hs (fun t ht => by cases ht; exact hlt') he h1 t
    rw [envF_set]
    simpa [Act.put] using this

theorem call_yld (hc : CxOk c) (hr : RecOk c r) {b : Nat} {args : List X} {hp : Tr B} {nx : Nat} {q : Cr} {pd : Option Code} {g k : Nat} {env : Tr X} {ps : List Tmp} {a bd : Code} {d : Nat} (hget : hp.get b = some (.loop .ready pd g k env ps a bd d))
    (hbn : b < nx) (hlen : ps.length = args.length) (hps : psIn k ps = true) (hia : inC k a = true) (hib : inC k bd = true) {s1 : S} (h1 : codeX c r true a ⟨k, setPs (ps.zip args) env, hp, nx, [], nx, []⟩ = .ok (.normal, s1))
    {pd' : Option Code} {g' k' : Nat} {env' : Tr X} {ps' : List Tmp} {a' bd' : Code} {d' : Nat} (hget1 : s1.hp.get b = some (.loop .ready pd' g' k' env' ps' a' bd' d'))
    {x : Xt} {s2 : S} (h2 : codeX c r true bd ⟨s1.nt, s1.env, s1.hp.set b (some (.loop .busy pd' g' k' env' ps' a' bd' d')), s1.nx, s1.df, nx, b :: s1.wr⟩ = .ok (x, s2)) (h3 : endRound b x s2 = .ok q) : CallOk c (.yld b) args hp nx q := by
  intro hfree
  have hI1 : Inv ⟨k, setPs (ps.zip args) env, hp, nx, [], nx, []⟩ := ⟨Nat.le_refl _, hfree⟩
  have code1 := fun l => codeX_ok (ro := some l) (nt := k) (rnd := true) hc hr.call rfl (hr.code (some l) k) a _ _ _ h1 hia rfl hI1
  have st1 := (code1 0).1
  have hnx1 : nx ≤ s1.nx := st1.nx
  have hnt1 : s1.nt = k := st1.nt
  have hbs1 : s1.bs = nx := st1.bs
  have hI2 : Inv ⟨s1.nt, s1.env, s1.hp.set b (some (.loop .busy pd' g' k' env' ps' a' bd' d')), s1.nx, s1.df, nx, b :: s1.wr⟩ := ⟨hnx1, fun y hy => by
    have hy' : s1.nx ≤ y := hy
    show (s1.hp.set b _).get y = none
    rw [get_set, if_neg (by omega)]
    exact st1.inv.2 y hy'⟩
  have code2 := fun l => codeX_ok (ro := some l) (nt := k) (rnd := true) hc hr.call rfl (hr.code (some l) k) bd _ _ _ h2 hib hnt1 hI2
  have st2 := (code2 0).1
  have hnx2 : s1.nx ≤ s2.nx := st2.nx
  have hend : ∃ (st : LoopState) (pd2 : Option Code) (g2 k2 : Nat) (env2 : Tr X) (ps2 : List Tmp) (a2 bd2 : Code) (d2 : Nat), s2.hp.get b = some (.loop st pd2 g2 k2 env2 ps2 a2 bd2 d2) ∧ (∀ l, x ≠ .goto l) ∧
      q = ⟨bX (jumpOf x).isNone, s2.hp.set b (some (.loop (if (jumpOf x).isNone then .ready else .done) (jumpOf x) g2 k2 env2 ps2 a2 bd2 d2)), s2.nx, b :: s2.wr⟩ := by
    unfold endRound at h3
    split at h3
    · rename_i st pd2 g2 k2 env2 ps2 a2 bd2 d2 hg2
      refine ⟨st, pd2, g2, k2, env2, ps2, a2, bd2, d2, hg2, ?_⟩
      split at h3
      · simp only [O.ok.injEq] at h3
        exact ⟨by simp, h3.symm⟩
      · simp only [O.ok.injEq] at h3
        exact ⟨by simp, h3.symm⟩
      · simp only [O.ok.injEq] at h3
        exact ⟨by simp, h3.symm⟩
      · cases h3
    · cases h3
  obtain ⟨st, pd2, g2, k2, env2, ps2, a2, bd2, d2, hg2, hng, rfl⟩ := hend
  refine ⟨Nat.le_trans hnx1 hnx2, fun y hy => ?_, fun y hy h => ?_, fun w0 M0 fr m w us vf hG hW hfr hvf hus => ?_⟩
  · have hy' : s2.nx ≤ y := hy
    show (s2.hp.set b _).get y = none
    rw [get_set, if_neg (by omega)]
    exact st2.inv.2 y hy'
  · have h' : y ∉ b :: s2.wr := h
    rw [List.mem_cons, not_or] at h'
    show (s2.hp.set b _).get y = _
    rw [get_set, if_neg (fun e => h'.1 e.symm)]
    obtain ⟨e1, e2⟩ := st2.wr y hy h'.2
    rw [List.mem_cons, not_or] at e1
    obtain ⟨e3, e4⟩ := st1.wr y hy e1.2
    rw [e2]
    show (s1.hp.set b _).get y = _
    rw [get_set, if_neg (fun e => h'.1 e.symm)]
    exact e4
  · have hfr' : ∀ y, nx ≤ y → y < s2.nx → fr y := hfr
    simp only [conc, Option.map_eq_some_iff] at hvf
    obtain ⟨p, hp1, rfl⟩ := hvf
    obtain ⟨o, ho1, ho2⟩ := hW.at hget hp1
    obtain ⟨fn2, tmps2, p2, e1, e2, rfl⟩ := ho2
    have hul := concL_length hus
    refine ⟨.round p.1 fn2 ((ps.toArray.zip (#[] ++ us.toArray)).foldl (fun tmps (t, a) => tmps.setIfInBounds t a) tmps2) a bd, ?_, fun _ _ _ h => by simp at h, ?_⟩
    · simp only [Deferred.ofValue, Sem.run_bind, Sem.run_pure, Result.andThen, invoke]
      rw [run_yield ho1 (by simp; omega)]
    · have hfold : (ps.toArray.zip (#[] ++ us.toArray)).foldl (fun tmps (t, a) => tmps.setIfInBounds t a) tmps2 = (ps.zip us).foldl (fun tmps p => tmps.setIfInBounds p.1 p.2) tmps2 := by
        rw [← Array.foldl_toList]
        simp
      rw [hfold]
      obtain ⟨f1, f2⟩ := setPs_rel hus e2.2 e2.1 hps
      refine roundIn_of_wpIn (F := Fr none) trivial (wpIn_mono ((code1 p.1).wp w0 M0 m fr _ w hG (fun y g1 g2 => hfr' y g1 (Nat.lt_of_lt_of_le g2 hnx2)) ⟨m, Le.refl m, ⟨f1, f2, trivial, hW⟩⟩) ?_)
      rintro e act w1 ⟨rfl, m1, hm1, R1⟩
      obtain ⟨o3, q1, q2⟩ := R1.w.at hget1 (hm1 _ _ hp1)
      obtain ⟨fn3, tmps3, p3, q3, q4, rfl⟩ := q2
      have hW1 := R1.w.wrote hget1 (hm1 _ _ hp1) (wrote_putObj (o := .loop { state := .busy, pending := pd', fn := fn3, tmps := tmps3, params := ps'.toArray, assign := a', body := bd', defers := p3.1 })) (.loop .busy pd' g' k' env' ps' a' bd' d') _ (World.putObj_heap_same (Array.getElem?_eq_some_iff.1 q1).1) ⟨fn3, tmps3, p3, q3, q4, rfl⟩
      refine ⟨_, run_beginRound q1 rfl, wpIn_mono ((code2 p.1).wp w0 M0 m (Mn fr nx s1.nx) act _ hG (fun y g1 g2 => ⟨hfr' y (Nat.le_trans hnx1 g1) g2, by have : s1.nx ≤ y := g1; omega⟩) ⟨m1, hm1, ⟨R1.size, R1.env, R1.df, ?_⟩⟩) ?_⟩
      · show WR w0 M0 _ m1 (s1.hp.set b _).get _
        rw [get_set_upd]
        exact hW1
      · rintro e act2 w2 ⟨rfl, m2, hm2, R2⟩
        obtain ⟨o4, u1, u2⟩ := R2.w.at hg2 (hm2 _ _ hp1)
        obtain ⟨fn4, tmps4, p4, u3, u4, rfl⟩ := u2
        have key : ∀ j, jumpOf x = j → ∃ v w', (Instr.endRound p.1 j).run c.P w2 = .ok v w' ∧ ∃ v' m', Ending.returned v = Ending.returned v' ∧ Le m m' ∧ conc m' (bX (jumpOf x).isNone) = some v' ∧
            WR w0 M0 (fun b => fr b ∧ ¬ (nx ≤ b ∧ b < s2.nx)) m' (s2.hp.set b (some (.loop (if (jumpOf x).isNone then .ready else .done) (jumpOf x) g2 k2 env2 ps2 a2 bd2 d2))).get w' := by
          rintro j rfl
          refine ⟨_, _, run_endRound _ u1, _, m2, rfl, hm2, by simp [bX, conc], ?_⟩
          rw [get_set_upd]
          refine (R2.w.wrote hg2 (hm2 _ _ hp1) (wrote_putObj (o := .loop { state := if (jumpOf x).isNone then .ready else .done, pending := jumpOf x, fn := fn4, tmps := tmps4, params := ps2.toArray, assign := a2, body := bd2, defers := p4.1 })) (.loop (if (jumpOf x).isNone then .ready else .done) (jumpOf x) g2 k2 env2 ps2 a2 bd2 d2) _ (World.putObj_heap_same (Array.getElem?_eq_some_iff.1 u1).1) ⟨fn4, tmps4, p4, u3, u4, rfl⟩).less ?_
          intro y hy
          exact Mn.join hnx1 hnx2 hy
        cases x with
        | normal => exact key none rfl
        | ret => exact key (some .ret) rfl
        | exit id => exact key (some (.exit id)) rfl
        | goto l => exact absurd rfl (hng l)

theorem callX_ok (hc : CxOk c) (hf : FnOk c rc) (hr : RecOk c r) {f : X} {args : List X} {hp : Tr B} {nx : Nat} {q : Cr} (h : callX c rc r f args hp nx = .ok q) : CallOk c f args hp nx q := by
  unfold callX at h
  split at h
  · rename_i g fs cs
    split at h
    · rename_i fn hfn
      split at h
      · rename_i s hb
        exact call_fn hc hf hr hfn (.inl rfl) hb h
      · rename_i s hb
        exact call_fn hc hf hr hfn (.inr rfl) hb h
      · cases h
      · cases h
    · cases h
  · rename_i b
    split at h
    · rename_i pd g k env ps a bd d hget
      replace h := bif_yes h
      obtain ⟨hb, h⟩ := h
      simp only [Bool.and_eq_true] at hb
      obtain ⟨⟨⟨⟨h1, h2⟩, h3⟩, h4⟩, h5⟩ := hb
      have h2' := Nat.eq_of_beq_eq_true h2
      rw [lenL_eq, lenL_eq] at h2'
      split at h
      · rename_i s1 hs1
        split at h
        · rename_i pd' g' k' env' ps' a' bd' d' hget1
          split at h
          · rename_i x s2 hs2
            exact call_yld hc hr hget (Nat.le_of_ble_eq_true h1) h2' h3 h4 h5 hs1 hget1 hs2 h
          · cases h
        · cases h
      · cases h
      · cases h
    · cases h
  · cases h

/-- **The evaluator tells the truth.** -/
theorem run_ok (hc : CxOk c) (hf : FnOk c rc) : ∀ n, RecOk c (run c rc n)
  | 0 => ⟨fun _ _ _ _ _ h => by simp [run] at h, fun _ _ _ _ _ _ h => by simp [run] at h⟩
  | n + 1 => ⟨fun f args hp nx q h => callX_ok hc hf (run_ok hc hf n) h, fun ro nt code s x s' h hin hnt hI => codeX_ok hc (run_ok hc hf n).call rfl ((run_ok hc hf n).code ro nt) code s x s' h hin hnt hI⟩
end
end Go.Ex
