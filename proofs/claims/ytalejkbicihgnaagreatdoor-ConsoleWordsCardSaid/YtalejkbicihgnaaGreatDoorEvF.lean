/- The exact evaluator: code, calls; it tells the truth. -/
import Derived.Test.YtalejkbicihgnaaGreatDoorEvFb
set_option maxHeartbeats 4000000
set_option maxRecDepth 20000
set_option linter.unusedVariables false
set_option linter.unusedSimpArgs false
/- The exact evaluator, part 15: code. -/
namespace Go.Ex
noncomputable section
open Go.RowKit
open Go.Ab (reach Clo opsIn opsIn_spec Wrote)

theorem stepR_scope {P : Program} {b : Frame} {a : Act} {k : List Item} {cs : List Frame} {w : World} {c : Code} : step P (lone (b.atR a (.code (.scope c) :: k)) cs w) = .next (lone (b.atR a (.code c :: .inScope c :: k)) cs w) :=
  step_lone_go (by simp [stepG, stepG.exec, Frame.atR])
theorem stepR_inScope {P : Program} {b : Frame} {a : Act} {k : List Item} {cs : List Frame} {w : World} {c : Code} : step P (lone (b.atR a (.inScope c :: k)) cs w) = .next (lone (b.atR a k) cs w) :=
  step_lone_go (by simp [stepG, stepG.exec, Frame.atR])
theorem wpIn_scope {F : Fence} {n : Nat} {P : Program} {Q : Exit → Act → World → Prop} {a : Act} {w : World} {c : Code} (h : c.wpIn F n P (Exit.noGoto Q) a w) : (Code.scope c).wpIn F n P Q a w := by
  intro b k cs hro hb hr
  have h0 : (lone (b.atR a (.code (.scope c) :: k)) cs w).fenced P F := fenced_calm hb hr rfl
  obtain ⟨e, a₁, w₁, hq, harr⟩ := h b (.inScope c :: k) cs hro hb hr
  cases e with
  | normal => exact ⟨.normal, a₁, w₁, hq, .head h0 stepR_scope (StepsIn.trans harr (.one (fenced_calm hb hr rfl) stepR_inScope))⟩
  | exit id =>
    have hx : exitTo id (.inScope c :: k) = exitTo id k := by simp [exitTo]
    exact ⟨_, a₁, w₁, hq, fun k' hk => .head h0 stepR_scope (harr.1 k' (by rw [hx]; exact hk)),
      fun hr' hk => let ⟨k₁, h1, h2⟩ := harr.2 hr' (by rw [hx]; exact hk); ⟨k₁, h1, .head h0 stepR_scope h2⟩⟩
  | goto l => exact hq.elim
  | ret => exact ⟨_, a₁, w₁, hq, .of_steps (.one h0 stepR_scope) harr⟩
  | panic ch => exact ⟨_, a₁, w₁, hq, .of_steps (.one h0 stepR_scope) harr⟩
  | outgrown => exact ⟨_, a₁, w₁, hq, .of_steps (.one h0 stepR_scope) harr⟩
theorem roundsIn_mono {F : Fence} {n : Nat} {P : Program} {c : Code} {Q Q' : Exit → Act → World → Prop} (h : ∀ e a w, Q e a w → Q' e a w) : ∀ {m : Nat} {a : Act} {w : World}, Code.roundsIn F n P c Q m a w → Code.roundsIn F n P c Q' m a w
  | 0, _, _, k => k
  | m + 1, _, _, k => by
    rw [roundsIn_succ] at k ⊢
    refine wpIn_mono k fun e a w hq => ?_
    cases e with
    | normal => exact roundsIn_mono h hq
    | _ => exact h _ _ _ hq

def xOf : Xt → Exit
  | .normal => .normal
  | .exit id => .exit id
  | .goto l => .goto l
  | .ret => .ret
def Post (w0 : World) (M0 : Nat → Prop) (m0 : Mu) (nt : Nat) (fr : Nat → Prop) (s : S) (x : Xt) (s' : S) (e : Exit) (a : Act) (w : World) : Prop := e = xOf x ∧ RR w0 M0 m0 nt s'.df (Mn fr s.nx s'.nx) (fsOf s') a w
def CodeDo (c : Cx) (nt : Nat) (W : (Exit → Act → World → Prop) → Act → World → Prop) (x : Xt) (s s' : S) : Prop :=
  ∀ w0 M0 m0 fr a w, GOk c.gl w0 M0 → (∀ b, s.nx ≤ b → b < s'.nx → fr b) → RR w0 M0 m0 nt s.df fr (fsOf s) a w → W (Post w0 M0 m0 nt fr s x s') a w
def Wk (c : Cx) (ro : Option Nat) (nt : Nat) (x : Xt) (s s' : S) : Code → Prop
  | .loop b => ∃ m, CodeDo c nt (fun Q => b.roundsIn (Fr ro) 0 c.P Q m) x s s'
  | code => CodeDo c nt (code.wpIn (Fr ro) 0 c.P) x s s'
def CodeOk (c : Cx) (ro : Option Nat) (nt : Nat) (code : Code) (x : Xt) (s s' : S) : Prop := Stat s s' ∧ Wk c ro nt x s s' code
section
variable {c : Cx} {nt : Nat} {ro : Option Nat} {r : Rec} {rnd : Bool}
theorem CodeOk.wp {code : Code} {x : Xt} {s s' : S} (h : CodeOk c ro nt code x s s') : CodeDo c nt (code.wpIn (Fr ro) 0 c.P) x s s' := by
  have h2 := h.2
  cases code with
  | loop b =>
    obtain ⟨m, hm⟩ := h2
    intro w0 M0 m0 fr a w hG hfr hR
    exact wpIn_loop_rounds m (hm w0 M0 m0 fr a w hG hfr hR)
  | _ => exact h2
theorem post_chain {W2 : (Exit → Act → World → Prop) → Act → World → Prop} (mono : ∀ {Q Q' : Exit → Act → World → Prop} {a w}, (∀ e a w, Q e a w → Q' e a w) → W2 Q a w → W2 Q' a w) {x : Xt} {s s1 s' : S} (st1 : Stat s s1) (st2 : Stat s1 s')
    (h2 : CodeDo c nt W2 x s1 s') {w0 : World} {M0 : Nat → Prop} {m0 : Mu} {fr : Nat → Prop} (hG : GOk c.gl w0 M0) (hfr : ∀ b, s.nx ≤ b → b < s'.nx → fr b) {e : Exit} {a : Act} {w : World} (p : Post w0 M0 m0 nt fr s .normal s1 e a w) :
    e = .normal ∧ W2 (Post w0 M0 m0 nt fr s x s') a w := by
  have g1 := st1.nx
  have g2 := st2.nx
  refine ⟨p.1, mono ?_ (h2 w0 M0 m0 (Mn fr s.nx s1.nx) a w hG (fun b h1 h2 => ⟨hfr b (by omega) h2, by omega⟩) p.2)⟩
  rintro e' a' w' ⟨rfl, hR⟩
  exact ⟨rfl, hR.less fun b hb => ⟨⟨hb.1, fun g => hb.2 ⟨g.1, by omega⟩⟩, fun g => hb.2 ⟨by omega, g.2⟩⟩⟩

theorem conc_bool {m : Mu} {x : X} {b : Bool} {v : Value} (hx : x = .v (.bool b)) (h : conc m x = some v) : v = .bool b := by
  subst hx; exact conc_v h
theorem WR.drawn {w0 : World} {M0 fr : Nat → Prop} {m : Mu} {h : Nat → Option B} {w : World} (r : WR w0 M0 fr m h w) (n : Nat) : WR w0 M0 fr m h { w with drawn := n } := ⟨r.blk, r.own, r.inj, r.fresh, r.old, r.grown, r.os, r.tape, r.output⟩
theorem wrote_putObj {w : World} {k : Nat} {o : Obj} : Wrote k w (w.putObj k o) := ⟨rfl, rfl, rfl, by simp, fun j hj => World.putObj_heap_other hj⟩
theorem get_set_upd (t : Tr B) (k : Nat) (x : Option B) : (t.set k x).get = upd t.get k x := by
  funext b
  rw [get_set]
  rfl

/-- The jump that a loop's rounds left. -/
def jumpOf : Xt → Option Code
  | .normal => none
  | .exit id => some (.exit id)
  | .goto l => some (.goto l)
  | .ret => some .ret

theorem rangeF_ok (hr : ∀ f args hp nx q, r.call f args hp nx = .ok q → CallOk c f args hp nx q) {f : Operand} {ps : Array Tmp} {a b : Code} {s : S} (hI : Inv s) (hnt : s.nt = nt) {g : FuncId} {fs cs : List X} (hf : evX s.env f = .fn g fs cs) {q : Cr}
    (hq : r.call (evX s.env f) [.yld s.nx] ((s.hp.set s.nx (some (.loop .ready none 0 s.nt s.env ps.toList a b (Nat.succ s.nx)))).set (Nat.succ s.nx) (some (.defd true))) (Nat.succ (Nat.succ s.nx)) = .ok q) {st : LoopState} {pd : Option Code} {k0 k : Nat} {env : Tr X} {ps' : List Tmp} {a' b' : Code} {d : Nat}
    (hl : q.hp.get s.nx = some (.loop st pd k0 k env ps' a' b' d)) (hst : st ≠ .busy) {x : Xt} (hpd : pd = jumpOf x) :
    CodeOk c none nt (.rangeFunc f ps a b) x s ⟨s.nt, s.env, q.hp.set s.nx (some (.loop .exhausted pd k0 k env ps' a' b' d)), q.nx, .mark (Nat.succ s.nx) :: s.df, s.bs, keepLt s.bs q.wr ++ s.wr⟩ := by
  have hget : ∀ y, ((s.hp.set s.nx (some (.loop .ready none 0 s.nt s.env ps.toList a b (Nat.succ s.nx)))).set (Nat.succ s.nx) (some (.defd true))).get y = if Nat.succ s.nx = y then some (.defd true) else if s.nx = y then some (.loop .ready none 0 s.nt s.env ps.toList a b (Nat.succ s.nx)) else s.hp.get y := by
    intro y; rw [get_set, get_set]
  obtain ⟨hnx, hfree, hlog, hcall⟩ := hr _ _ _ _ _ hq (fun y hy => by
    have hy' : s.nx + 2 ≤ y := hy
    rw [hget, if_neg (by omega), if_neg (by omega)]
    exact hI.2 y (by omega))
  have hnx' : s.nx + 2 ≤ q.nx := hnx
  refine ⟨⟨⟨Nat.le_trans hI.1 (by show s.nx ≤ q.nx; omega), fun y hy => ?_⟩, rfl, rfl, by show s.nx ≤ q.nx; omega, fun y hy h => ?_⟩, ?_⟩
  · have hy' : q.nx ≤ y := hy
    show (q.hp.set s.nx _).get y = none
    rw [get_set, if_neg (by omega)]
    exact hfree y hy'
  · have hb' : y < s.bs := hy
    have hb2 := hI.1
    have h' : y ∉ keepLt s.bs q.wr ++ s.wr := h
    rw [List.mem_append, not_or] at h'
    refine ⟨h'.2, ?_⟩
    show (q.hp.set s.nx _).get y = _
    rw [get_set, if_neg (by omega), hlog y (by show y < s.nx + 2; omega) fun hm => h'.1 (mem_keepLt hm hb'), hget, if_neg (by omega), if_neg (by omega)]
  · rintro w0 M0 m0 fr act w hG hfr ⟨m, hm, R⟩
    have hfr' : ∀ y, s.nx ≤ y → y < q.nx → fr y := hfr
    refine wpIn_rangeFunc fun fn _ => ?_
    obtain ⟨r1, le1⟩ := R.w.new (id := s.nx + 1) (hfr' _ (by omega) (by omega)) (.deferred (some [])) 0 (.defd true) rfl
    have hm1 : mset m (s.nx + 1) (w.heap.size, 0) (s.nx + 1) = some (w.heap.size, 0) := mset_self _ _ _
    obtain ⟨r2, le2⟩ := r1.new (id := s.nx) ⟨hfr' _ (by omega) (by omega), by omega⟩ (.loop { state := .ready, pending := none, fn := fn, tmps := act.tmps, params := ps, assign := a, body := b, defers := w.heap.size }) 0 (.loop .ready none 0 s.nt s.env ps.toList a b (s.nx + 1))
      (by
        have le1' : Le (mset m (s.nx + 1) (w.heap.size, 0)) (mset (mset m (s.nx + 1) (w.heap.size, 0)) s.nx ((w.alloc (.deferred (some []))).heap.size, 0)) := mset_le (r1.fresh s.nx ⟨hfr' _ (by omega) (by omega), by omega⟩)
        refine ⟨fn, act.tmps, (w.heap.size, 0), le1' _ _ hm1, ⟨by rw [R.size, hnt], fun t => conc_mono (le1.trans le1') _ _ (R.env t)⟩, ?_⟩
        simp)
    have hsz : (w.alloc (.deferred (some []))).heap.size = w.heap.size + 1 := by simp
    rw [hsz] at r2 le2
    have hupd : upd (upd (fsOf s).hp (s.nx + 1) (some (.defd true))) s.nx (some (.loop .ready none 0 s.nt s.env ps.toList a b (s.nx + 1))) = ((s.hp.set s.nx (some (.loop .ready none 0 s.nt s.env ps.toList a b (Nat.succ s.nx)))).set (Nat.succ s.nx) (some (.defd true))).get := by
      funext y
      rw [hget]
      unfold upd fsOf
      by_cases e1 : s.nx = y
      · rw [if_pos e1, if_neg (by omega), if_pos e1]
      · rw [if_neg e1]
        by_cases e2 : s.nx + 1 = y
        · rw [if_pos e2, if_pos e2]
        · rw [if_neg e2, if_neg e2, if_neg e1]
    rw [hupd] at r2
    have hle := le1.trans le2
    have hv := conc_mono hle _ _ (eval_vals R.env f)
    rw [hf] at hv
    obtain ⟨us, vs, h1, h2, h3⟩ := concL_fn hv
    rw [hf] at hcall
    obtain ⟨nx, hrun, hent, hnxt⟩ := hcall w0 M0 _ _ _ [.func (.yield (w.heap.size + 1)) #[] #[]] (act.eval f) hG r2 (fun y g1 g2 => by
        have g1' : s.nx + 2 ≤ y := g1
        exact ⟨⟨hfr' y (by omega) g2, by omega⟩, by omega⟩) (by rw [h3]; simp only [conc, h1, h2]) (by simp [concL, conc, mset_self])
    obtain ⟨gf, gas, rfl⟩ := hent g _ _ h3
    have hres : ∀ W, (resolve act.eval (rangeCall f (w.heap.size + 1)) 0).run c.P W = .ok { target := .fn (.func g) vs.toArray, args := us.toArray ++ #[.func (.yield (w.heap.size + 1)) #[] #[]] } W := by
      intro W
      simp only [resolve, rangeCall, Deferred.ofValue, h3, Sem.run_pure]
      congr 2
      apply Array.toList_inj.1
      simp [Act.eval]
    rw [h3] at hrun
    simp only [Deferred.ofValue, Sem.run_bind, Sem.run_pure, Result.andThen] at hrun
    refine ⟨_, _, _, _, _, gf, gas, _, run_enterLoop_outer fn act.tmps ps a b, hres _, fun _ _ => trivial, hrun, fun h => absurd h Bool.false_ne_true, CallsIn.mono (F := Fr none) hnxt ?_⟩
    rintro e w' ⟨v, m2, rfl, le3, _, R2⟩
    obtain ⟨o, ho1, ho2⟩ := R2.at hl (le3 _ _ (mset_self _ _ _))
    obtain ⟨fn2, tmps2, p2, g1, g2, rfl⟩ := ho2
    have hend := run_endLoop (P := c.P) ho1 hst
    have R3 := R2.wrote hl (le3 _ _ (mset_self _ _ _)) (wrote_putObj (o := .loop { state := .exhausted, pending := pd, fn := fn2, tmps := tmps2, params := ps'.toArray, assign := a', body := b', defers := p2.1 })) (.loop .exhausted pd k0 k env ps' a' b' d) _ (World.putObj_heap_same (Array.getElem?_eq_some_iff.1 ho1).1) ⟨fn2, tmps2, p2, g1, g2, rfl⟩
    have fin : RR w0 M0 m0 nt (.mark (Nat.succ s.nx) :: s.df) (Mn fr s.nx q.nx) (fsOf ⟨s.nt, s.env, q.hp.set s.nx (some (.loop .exhausted pd k0 k env ps' a' b' d)), q.nx, .mark (Nat.succ s.nx) :: s.df, s.bs, keepLt s.bs q.wr ++ s.wr⟩) { act with defers := [{ target := .collected w.heap.size, args := #[] }] ++ act.defers } (w'.putObj (w.heap.size + 1) (.loop { state := .exhausted, pending := pd, fn := fn2, tmps := tmps2, params := ps'.toArray, assign := a', body := b', defers := p2.1 })) := by
      refine ⟨m2, hm.trans (hle.trans le3), ⟨R.size, fun t => conc_mono (hle.trans le3) _ _ (R.env t), ⟨⟨_, le3 _ _ (le2 _ _ hm1), rfl⟩, R.df.mono (hle.trans le3)⟩, ?_⟩⟩
      show WR w0 M0 _ m2 (q.hp.set s.nx _).get _
      rw [get_set_upd]
      refine R3.less fun y hy => ⟨⟨⟨hy.1, fun e => hy.2 ⟨?_, ?_⟩⟩, fun e => hy.2 ⟨?_, ?_⟩⟩, fun e => hy.2 ⟨?_, e.2⟩⟩
      · omega
      · omega
      · omega
      · omega
      · have : s.nx + 2 ≤ y := e.1
        omega
    refine ⟨pd, _, hend, ?_⟩
    subst hpd
    cases x with
    | normal => exact ⟨rfl, fin⟩
    | exit id => exact wpIn_exit ⟨rfl, fin⟩
    | goto l => exact wpIn_goto ⟨rfl, fin⟩
    | ret => exact wpIn_ret ⟨rfl, fin⟩
end
end
end Go.Ex
/- The exact evaluator, part 16: code, all of it. -/
namespace Go.Ex
noncomputable section
open Go.RowKit
open Go.Ab (reach Clo opsIn opsIn_spec Wrote)
section
variable {c : Cx} {nt : Nat} {ro : Option Nat} {r : Rec} {rnd : Bool}
theorem CodeDo.here {W : (Exit → Act → World → Prop) → Act → World → Prop} {x : Xt} {s : S} (h : ∀ Q a w, Q (xOf x) a w → W Q a w) : CodeDo c nt W x s s :=
  fun w0 M0 m0 fr a w _ _ hR => h _ a w ⟨rfl, hR.less fun b hb => hb.1⟩
theorem Post.same {w0 : World} {M0 : Nat → Prop} {m0 : Mu} {fr : Nat → Prop} {s : S} {x : Xt} {s' : S} {e : Exit} {a : Act} {w : World} (p : Post w0 M0 m0 nt fr s x s' e a w) : e = xOf x := p.1

theorem codeX_ok (hc : CxOk c) (hr : ∀ f args hp nx q, r.call f args hp nx = .ok q → CallOk c f args hp nx q) (hrnd : rnd = ro.isSome)
    (hcode : ∀ code s x s', r.code rnd code s = .ok (x, s') → inC nt code = true → s.nt = nt → Inv s → CodeOk c ro nt code x s s') :
    ∀ (code : Code) (s : S) (x : Xt) (s' : S), codeX c r rnd code s = .ok (x, s') → inC nt code = true → s.nt = nt → Inv s → CodeOk c ro nt code x s s' := by
  intro code
  induction code with
  | skip =>
    intro s x s' h _ _ hI
    simp only [codeX, O.ok.injEq, Prod.mk.injEq] at h
    obtain ⟨rfl, rfl⟩ := h
    exact ⟨Stat.refl hI, CodeDo.here fun Q a w hq => wpIn_skip hq⟩
  | label l =>
    intro s x s' h _ _ hI
    simp only [codeX, O.ok.injEq, Prod.mk.injEq] at h
    obtain ⟨rfl, rfl⟩ := h
    exact ⟨Stat.refl hI, CodeDo.here fun Q a w hq => wpIn_label hq⟩
  | ret =>
    intro s x s' h _ _ hI
    simp only [codeX, O.ok.injEq, Prod.mk.injEq] at h
    obtain ⟨rfl, rfl⟩ := h
    exact ⟨Stat.refl hI, CodeDo.here fun Q a w hq => wpIn_ret hq⟩
  | exit id =>
    intro s x s' h _ _ hI
    simp only [codeX, O.ok.injEq, Prod.mk.injEq] at h
    obtain ⟨rfl, rfl⟩ := h
    exact ⟨Stat.refl hI, CodeDo.here fun Q a w hq => wpIn_exit hq⟩
  | goto l =>
    intro s x s' h _ _ hI
    simp only [codeX, O.ok.injEq, Prod.mk.injEq] at h
    obtain ⟨rfl, rfl⟩ := h
    exact ⟨Stat.refl hI, CodeDo.here fun Q a w hq => wpIn_goto hq⟩
  | refuse why =>
    intro s x s' h _ _ hI
    simp only [codeX] at h
    cases h
  | seq a b iha ihb =>
    intro s x s' h hin hnt hI
    simp only [inC, Bool.and_eq_true] at hin
    simp only [codeX] at h
    split at h
    · rename_i s1 h1
      have k1 := iha s .normal s1 h1 hin.1 hnt hI
      have k2 := ihb s1 x s' h hin.2 (k1.1.nt.trans hnt) k1.1.inv
      refine ⟨k1.1.trans k2.1, fun w0 M0 m0 fr act w hG hfr hR => wpIn_seq (wpIn_mono (k1.wp w0 M0 m0 fr act w hG (fun b g1 g2 => hfr b g1 (Nat.lt_of_lt_of_le g2 k2.1.nx)) hR) ?_)⟩
      intro e a' w' p
      obtain ⟨rfl, q⟩ := post_chain (W2 := b.wpIn (Fr ro) 0 c.P) (fun hm h => wpIn_mono h hm) k1.1 k2.1 k2.wp hG hfr p
      exact q
    · rename_i x1 s1 hx h1
      simp only [O.ok.injEq, Prod.mk.injEq] at h
      obtain ⟨rfl, rfl⟩ := h
      have k1 := iha s x1 s1 h1 hin.1 hnt hI
      refine ⟨k1.1, fun w0 M0 m0 fr act w hG hfr hR => wpIn_seq (wpIn_mono (k1.wp w0 M0 m0 fr act w hG hfr hR) ?_)⟩
      intro e a' w' p
      have hp := p.1
      subst hp
      cases x1 with
      | normal => exact absurd rfl hx
      | _ => exact p
    · cases h
  | cond o a b iha ihb =>
    intro s x s' h hin hnt hI
    simp only [inC, Bool.and_eq_true] at hin
    simp only [codeX] at h
    split at h
    · rename_i hb
      have k1 := iha s x s' h hin.1 hnt hI
      refine ⟨k1.1, fun w0 M0 m0 fr act w hG hfr hR => ?_⟩
      have hv : act.eval o = .bool true := by
        obtain ⟨m, _, R⟩ := hR
        have := eval_vals R.env o
        exact conc_bool hb this
      exact wpIn_cond_true hv (k1.wp w0 M0 m0 fr act w hG hfr hR)
    · rename_i hb
      have k1 := ihb s x s' h hin.2 hnt hI
      refine ⟨k1.1, fun w0 M0 m0 fr act w hG hfr hR => ?_⟩
      have hv : act.eval o = .bool false := by
        obtain ⟨m, _, R⟩ := hR
        have := eval_vals R.env o
        exact conc_bool hb this
      exact wpIn_cond_false hv (k1.wp w0 M0 m0 fr act w hG hfr hR)
    · cases h
  | block id a iha =>
    intro s x s' h hin hnt hI
    simp only [inC] at hin
    simp only [codeX] at h
    split at h
    · rename_i j s1 h1
      have k1 := iha s (.exit j) s1 h1 hin hnt hI
      cases hj : Nat.beq j id with
      | true =>
        have hji : j = id := Nat.eq_of_beq_eq_true hj
        simp only [hj, cond_true, O.ok.injEq, Prod.mk.injEq] at h
        obtain ⟨rfl, rfl⟩ := h
        refine ⟨k1.1, fun w0 M0 m0 fr act w hG hfr hR => wpIn_block (wpIn_mono (k1.wp w0 M0 m0 fr act w hG hfr hR) ?_)⟩
        rintro e a' w' ⟨rfl, p⟩
        simp only [xOf, Exit.inBlock, hji, if_true]
        exact ⟨rfl, p⟩
      | false =>
        have hji : j ≠ id := Nat.ne_of_beq_eq_false hj
        simp only [hj, cond_false, O.ok.injEq, Prod.mk.injEq] at h
        obtain ⟨rfl, rfl⟩ := h
        refine ⟨k1.1, fun w0 M0 m0 fr act w hG hfr hR => wpIn_block (wpIn_mono (k1.wp w0 M0 m0 fr act w hG hfr hR) ?_)⟩
        rintro e a' w' ⟨rfl, p⟩
        simp only [xOf, Exit.inBlock, if_neg hji]
        exact ⟨rfl, p⟩
    · rename_i x1 s1 hx h1
      simp only [O.ok.injEq, Prod.mk.injEq] at h
      obtain ⟨rfl, rfl⟩ := h
      have k1 := iha s x1 s1 h1 hin hnt hI
      refine ⟨k1.1, fun w0 M0 m0 fr act w hG hfr hR => wpIn_block (wpIn_mono (k1.wp w0 M0 m0 fr act w hG hfr hR) ?_)⟩
      rintro e a' w' ⟨rfl, p⟩
      cases x1 with
      | exit j => exact absurd rfl (hx j)
      | _ => exact ⟨rfl, p⟩
    · cases h
  | scope a iha =>
    intro s x s' h hin hnt hI
    simp only [inC] at hin
    simp only [codeX] at h
    split at h
    · cases h
    · rename_i x1 s1 hx h1
      simp only [O.ok.injEq, Prod.mk.injEq] at h
      obtain ⟨rfl, rfl⟩ := h
      have k1 := iha s x1 s1 h1 hin hnt hI
      refine ⟨k1.1, fun w0 M0 m0 fr act w hG hfr hR => wpIn_scope (wpIn_mono (k1.wp w0 M0 m0 fr act w hG hfr hR) ?_)⟩
      rintro e a' w' ⟨rfl, p⟩
      cases x1 with
      | goto j => exact absurd rfl (hx j)
      | _ => exact ⟨rfl, p⟩
    · cases h
  | region id ops draw =>
    intro s x s' h hin hnt hI
    simp only [inC] at hin
    simp only [codeX] at h
    cases hd : draw with
    | true =>
      simp only [hd, cond_true] at h
      cases hl : litQ ops.toList with
      | true =>
        simp only [hl, cond_true] at h
        split at h
        · rename_i s1 h1
          simp only [O.ok.injEq, Prod.mk.injEq] at h
          obtain ⟨rfl, rfl⟩ := h
          obtain ⟨k1, k2, k3⟩ := lit_ok (nt := nt) (ro := ro) hc hin hl h1 hI
          refine ⟨k1, fun w0 M0 m0 fr act w hG hfr hR => wpIn_region_any hc.mix (k3 w0 M0 m0 fr act _ _ hG hfr ?_ fun a' w' hR' => ⟨rfl, hR'⟩)⟩
          obtain ⟨m, hm, R⟩ := hR
          exact ⟨m, hm, ⟨R.size, R.env, R.df, R.w.drawn _⟩⟩
        · cases h
      | false =>
      simp only [hl, cond_false] at h
      split at h
      · rename_i s1 sks h1
        replace h := bif_yes h
        obtain ⟨hord, h⟩ := h
        simp only [O.ok.injEq, Prod.mk.injEq] at h
        obtain ⟨rfl, rfl⟩ := h
        obtain ⟨k1, k2, k3⟩ := opsD_ok (nt := nt) (ro := ro) hc hr hin h1 hord hI
        refine ⟨k1, fun w0 M0 m0 fr act w hG hfr hR => wpIn_region_any hc.mix (k3 w0 M0 m0 fr act _ _ hG hfr ?_ fun a' w' hR' => ⟨rfl, hR'⟩)⟩
        obtain ⟨m, hm, R⟩ := hR
        exact ⟨m, hm, ⟨R.size, R.env, R.df, R.w.drawn _⟩⟩
      · cases h
    | false =>
      simp only [hd, cond_false] at h
      split at h
      · rename_i s1 h1
        simp only [O.ok.injEq, Prod.mk.injEq] at h
        obtain ⟨rfl, rfl⟩ := h
        obtain ⟨k1, k2⟩ := opsX_ok hc hr hrnd hin ops.toList 0 s s1 h1 (by simp) hI
        refine ⟨k1, fun w0 M0 m0 fr act w hG hfr hR => wpIn_region ?_⟩
        rw [List.range_eq_range']
        have hl : ops.toList.length = ops.size := by simp
        rw [hl] at k2
        exact k2 w0 M0 m0 fr act w _ hG hfr hR fun a' w' hR' => ⟨rfl, hR'⟩
      · cases h
  | loop a iha =>
    intro s x s' h hin hnt hI
    have hin' := hin
    simp only [inC] at hin
    simp only [codeX] at h
    split at h
    · rename_i s1 h1
      have k1 := iha s .normal s1 h1 hin hnt hI
      obtain ⟨st2, m, k2⟩ := hcode _ _ _ _ h hin' (k1.1.nt.trans hnt) k1.1.inv
      refine ⟨k1.1.trans st2, m + 1, fun w0 M0 m0 fr act w hG hfr hR => ?_⟩
      simp only [roundsIn_succ]
      refine wpIn_mono (k1.wp w0 M0 m0 fr act w hG (fun b g1 g2 => hfr b g1 (Nat.lt_of_lt_of_le g2 st2.nx)) hR) ?_
      intro e a' w' p
      obtain ⟨rfl, q⟩ := post_chain (W2 := fun Q => a.roundsIn (Fr ro) 0 c.P Q m) (fun hm h => roundsIn_mono hm h) k1.1 st2 k2 hG hfr p
      exact q
    · rename_i x1 s1 hx h1
      simp only [O.ok.injEq, Prod.mk.injEq] at h
      obtain ⟨rfl, rfl⟩ := h
      have k1 := iha s x1 s1 h1 hin hnt hI
      refine ⟨k1.1, 1, fun w0 M0 m0 fr act w hG hfr hR => ?_⟩
      simp only [roundsIn_succ]
      refine wpIn_mono (k1.wp w0 M0 m0 fr act w hG hfr hR) ?_
      rintro e a' w' ⟨rfl, p⟩
      cases x1 with
      | normal => exact absurd rfl hx
      | _ => exact ⟨rfl, p⟩
    · cases h
  | rangeFunc f ps a b iha ihb =>
    intro s x s' h hin hnt hI
    simp only [codeX] at h
    replace h := bif_no h
    obtain ⟨hb, h⟩ := h
    simp only [Bool.or_eq_false_iff] at hb
    have hro : ro = none := by
      cases ro with
      | none => rfl
      | some l => rw [hb.1] at hrnd; cases hrnd
    subst hro
    have hfn : ∃ g fs cs, evX s.env f = .fn g fs cs := by
      have := hb.2
      cases hf : evX s.env f with
      | fn g fs cs => exact ⟨g, fs, cs, rfl⟩
      | _ => rw [hf] at this; cases this
    obtain ⟨g, fs, cs, hfn⟩ := hfn
    split at h
    · rename_i q hq
      split at h
      · cases h
      · rename_i st pd k0 k env ps' a' b' d hst hl
        have hst' : st ≠ .busy := fun e => by subst e; exact hst rfl
        split at h
        · simp only [O.ok.injEq, Prod.mk.injEq] at h
          obtain ⟨rfl, rfl⟩ := h
          exact rangeF_ok hr hI hnt hfn hq hl hst' (x := .normal) rfl
        · simp only [O.ok.injEq, Prod.mk.injEq] at h
          obtain ⟨rfl, rfl⟩ := h
          exact rangeF_ok hr hI hnt hfn hq hl hst' (x := .ret) rfl
        · simp only [O.ok.injEq, Prod.mk.injEq] at h
          obtain ⟨rfl, rfl⟩ := h
          exact rangeF_ok hr hI hnt hfn hq hl hst' (x := .exit _) rfl
        · cases h
      · cases h
    · cases h
end
end
end Go.Ex
/- The exact evaluator, part 17: calls. -/
namespace Go.Ex
noncomputable section
open Go.RowKit
open Go.Ab (reach Clo opsIn opsIn_spec Wrote)

/-- What must be known of the tables, and of the function that recovers. -/
structure FnOk (c : Cx) (rc : List FuncId) : Prop where
  fn : ∀ f g, c.fn.get f = some g → c.P.funcs[f]? = some g
  enter : ∀ f ∈ rc, ∀ args w, (callFunc f args).run c.P w = .ok (.enter f args) w
  rcv : ∀ f ∈ rc, ∀ args w, CallsDIn Fence.wide 0 c.P f args .returning w fun e u w' => (∃ v, e = .returned v) ∧ u = .returning ∧ w' = w
theorem inL_mem {b : Nat} : ∀ {l : List Nat}, inL b l = true → b ∈ l
  | [], h => by simp [inL] at h
  | c :: l, h => by
    unfold inL at h
    cases hb : Nat.beq b c with
    | true => rw [Nat.eq_of_beq_eq_true hb]; simp
    | false => rw [hb, cond_false] at h; exact List.mem_cons_of_mem _ (inL_mem h)
structure RecOk (c : Cx) (r : Rec) : Prop where
  call : ∀ f args hp nx q, r.call f args hp nx = .ok q → CallOk c f args hp nx q
  code : ∀ (ro : Option Nat) (nt : Nat) code s x s', r.code ro.isSome code s = .ok (x, s') → inC nt code = true → s.nt = nt → Inv s → CodeOk c ro nt code x s s'

theorem argsE_spec : ∀ (l : List X) (k : Nat) (e : Tr X) (t : Nat), envF (argsE k l e) t = if k ≤ t then (match l[t - k]? with | some x => x | none => envF e t) else envF e t
  | [], k, e, t => by simp [argsE]
  | x :: l, k, e, t => by
    rw [argsE, argsE_spec l (Nat.succ k), envF_set]
    by_cases h1 : k = t
    · subst h1
      rw [if_neg (Nat.not_succ_le_self k), if_pos rfl, if_pos (Nat.le_refl k), Nat.sub_self]
      rfl
    · by_cases h2 : k ≤ t
      · rw [if_pos (show Nat.succ k ≤ t by omega), if_pos h2, if_neg h1]
        have : t - k = (t - Nat.succ k) + 1 := by omega
        rw [this, List.getElem?_cons_succ]
      · rw [if_neg (by omega), if_neg h2, if_neg h1]
theorem conc_u0 (m : Mu) : conc m u0 = some undef := by simp [u0, conc, undef]
theorem start_env {m : Mu} {args : List X} {us : List Value} (h : concL m args = some us) (nt : Nat) (t : Nat) : conc m (envF (argsE 0 args .nil) t) = some ((us.toArray ++ Array.replicate (nt - us.toArray.size) undef).getD t undef) := by
  rw [argsE_spec, if_pos (Nat.zero_le _), Nat.sub_zero]
  have hl := concL_length h
  have hn : envF (.nil : Tr X) t = u0 := rfl
  rw [Array.getD_eq_getD_getElem?]
  cases hx : args[t]? with
  | some x =>
    obtain ⟨v, h1, h2⟩ := concL_get h hx
    have hlt := (List.getElem?_eq_some_iff.1 h1).1
    rw [Array.getElem?_append_left (by simpa using hlt)]
    simp [h1, h2]
  | none =>
    have hge := List.getElem?_eq_none_iff.1 hx
    rw [Array.getElem?_append_right (by simp; omega), hn, conc_u0]
    simp only [Array.getElem?_replicate]
    split <;> rfl

section
variable {c : Cx} {r : Rec} {rc : List FuncId}

theorem body_ok (hc : CxOk c) (hr : RecOk c r) {fn : Func} {args : List X} {hp : Tr B} {nx : Nat} {x : Xt} {s' : S} (h : bodyX c r fn args hp nx = .ok (x, s')) (hfree : ∀ b, nx ≤ b → hp.get b = none) :
    ∃ code, fn.body = some code ∧ (fn.name == "runtime.NumGoroutine") = false ∧ Stat ⟨fn.ntmps, argsE 0 args .nil, hp, nx, [], nx, []⟩ s' ∧
      ∀ w0 M0 fr m w us, GOk c.gl w0 M0 → WR w0 M0 fr m hp.get w → (∀ b, nx ≤ b → b < s'.nx → fr b) → concL m args = some us →
        code.wpIn (Fr none) 0 c.P (fun e a' w' => e = xOf x ∧ RR w0 M0 m fn.ntmps s'.df (Mn fr nx s'.nx) (fsOf s') a' w') { tmps := us.toArray ++ Array.replicate (fn.ntmps - us.toArray.size) undef, defers := [] } w := by
  unfold bodyX at h
  split at h
  · rename_i code hcode
    replace h := bif_yes h
    obtain ⟨hb, h⟩ := h
    simp only [Bool.and_eq_true, Bool.not_eq_true'] at hb
    obtain ⟨⟨h1, h2⟩, h3⟩ := hb
    have h2' := Nat.le_of_ble_eq_true h2
    rw [lenL_eq] at h2'
    have k := codeX_ok (ro := none) (nt := fn.ntmps) (rnd := false) hc hr.call rfl (hr.code none fn.ntmps) code _ x s' h h1 rfl ⟨Nat.le_refl _, hfree⟩
    refine ⟨code, hcode, h3, k.1, fun w0 M0 fr m w us hG hW hfr hus => k.wp w0 M0 m fr _ w hG hfr ⟨m, Le.refl m, ⟨?_, fun t => start_env hus fn.ntmps t, trivial, hW⟩⟩⟩
    have := concL_length hus
    simp
    omega
  · cases h

theorem DRel.nil {m : Mu} {ds : List Deferred} (h : DRel m [] ds) : ds = [] := by
  cases ds with
  | nil => rfl
  | cons d ds => exact h.elim
theorem run_enter {P : Program} {f : FuncId} {fn : Func} {code : Code} (hf : P.funcs[f]? = some fn) (hb : fn.body = some code) (hn : (fn.name == "runtime.NumGoroutine") = false) (args : Array Value) (w : World) : (callFunc f args).run P w = .ok (.enter f args) w := by
  have h1 : fn.name ≠ "runtime.NumGoroutine" := by simpa using hn
  simp [callFunc, hf, h1, hb]
theorem Mn.join {fr : Nat → Prop} {lo mid hi b : Nat} (h1 : lo ≤ mid) (h2 : mid ≤ hi) (h : Mn fr lo hi b) : Mn (Mn fr lo mid) mid hi b := ⟨⟨h.1, fun g => h.2 ⟨g.1, by omega⟩⟩, fun g => h.2 ⟨by omega, g.2⟩⟩

theorem defX_ok (hc : CxOk c) (hf : FnOk c rc) (hr : RecOk c r) : ∀ (l : List Df) (hp : Tr B) (nx bs : Nat) (wr : List Nat) (hp' : Tr B) (nx' : Nat) (wr' : List Nat), defX c rc r l hp nx bs wr = .ok (hp', nx', wr') → bs ≤ nx → (∀ b, nx ≤ b → hp.get b = none) →
    nx ≤ nx' ∧ (∀ b, nx' ≤ b → hp'.get b = none) ∧ (∀ b, b < bs → b ∉ wr' → b ∉ wr ∧ hp'.get b = hp.get b) ∧
      ∀ w0 M0 fr m w ds tmps fn R, GOk c.gl w0 M0 → WR w0 M0 fr m hp.get w → (∀ b, nx ≤ b → b < nx' → fr b) → DRel m l ds →
        (∀ m' w', Le m m' → WR w0 M0 (Mn fr nx nx') m' hp'.get w' → LeavesInM (Fr none) 0 c.P fn tmps R [] .returning w') → LeavesInM (Fr none) 0 c.P fn tmps R ds .returning w
  | [], hp, nx, bs, wr, hp', nx', wr', h, hb, hfree => by
    simp only [defX, O.ok.injEq, Prod.mk.injEq] at h
    obtain ⟨rfl, rfl, rfl⟩ := h
    refine ⟨Nat.le_refl _, hfree, fun b _ h => ⟨h, rfl⟩, fun w0 M0 fr m w ds tmps fn R hG hW hfr hd k => ?_⟩
    rw [DRel.nil hd]
    exact k m w (Le.refl m) (hW.less fun b hb => hb.1)
  | .mark b :: l, hp, nx, bs, wr, hp', nx', wr', h, hb, hfree => by
    simp only [defX] at h
    split at h
    · rename_i hget
      have hbn : b < nx := by
        rcases Nat.lt_or_ge b nx with g | g
        · exact g
        · rw [hfree b g] at hget; cases hget
      obtain ⟨k1, k2, k3, k4⟩ := defX_ok hc hf hr l _ nx bs _ hp' nx' wr' h hb (fun y hy => by rw [get_set, if_neg (by omega)]; exact hfree y hy)
      refine ⟨k1, k2, fun y hy h => ?_, fun w0 M0 fr m w ds tmps fn R hG hW hfr hd k => ?_⟩
      · obtain ⟨g1, g2⟩ := k3 y hy h
        rw [List.mem_append, not_or] at g1
        have : b ≠ y := fun e => g1.1 (mem_keepLt (by rw [e]; simp) hy)
        exact ⟨g1.2, by rw [g2, get_set, if_neg this]⟩
      · cases ds with
        | nil => exact hd.elim
        | cons d ds =>
          obtain ⟨⟨p, hp1, hd1⟩, hd2⟩ := hd
          subst hd1
          obtain ⟨o, ho1, ho2⟩ := hW.at hget hp1
          have ho2' : o = .deferred (some []) := ho2
          subst ho2'
          have hW' := hW.wrote hget hp1 (wrote_putObj (o := .deferred none)) (.defd false) (.deferred none) (World.putObj_heap_same (Array.getElem?_eq_some_iff.1 ho1).1) rfl
          rw [← get_set_upd] at hW'
          exact ⟨by simp, .inl ⟨p.1, _, rfl, run_takeDeferred ho1, k4 w0 M0 fr m _ ds tmps fn R hG hW' hfr hd2 k⟩⟩
    · cases h
  | .fn f args :: l, hp, nx, bs, wr, hp', nx', wr', h, hb, hfree => by
    simp only [defX] at h
    cases hfc : inL f rc with
    | true =>
      have hfr : f ∈ rc := inL_mem hfc
      simp only [hfc, cond_true] at h
      obtain ⟨k1, k2, k3, k4⟩ := defX_ok hc hf hr l hp nx bs wr hp' nx' wr' h hb hfree
      refine ⟨k1, k2, k3, fun w0 M0 fr m w ds tmps fn R hG hW hfr' hd k => ?_⟩
      cases ds with
      | nil => exact hd.elim
      | cons d ds =>
        obtain ⟨⟨cap, dargs, us, hd1, hd3, hd4⟩, hd2⟩ := hd
        subst hd1
        refine ⟨by simp, .inr ⟨fun h => absurd h Bool.false_ne_true, .func f, cap, f, dargs ++ cap, rfl, hf.enter f hfr _ w, fun _ _ => trivial, CallsDIn.mono (F := Fr none) (hf.rcv f hfr (dargs ++ cap) w) ?_⟩⟩
        rintro e u w' ⟨⟨v, rfl⟩, rfl, rfl⟩
        exact k4 w0 M0 fr m w' ds tmps fn R hG hW hfr' hd2 k
    | false =>
      simp only [hfc, cond_false] at h
      split at h
      · rename_i fn' hfn'
        split at h
        · rename_i hres
          have hres' : fn'.results = #[] := Array.toList_inj.1 hres
          have main : ∀ x s, (x = .normal ∨ x = .ret) → bodyX c r fn' args hp nx = .ok (x, s) → s.df = [] → defX c rc r l s.hp s.nx bs (keepLt bs s.wr ++ wr) = .ok (hp', nx', wr') →
              nx ≤ nx' ∧ (∀ b, nx' ≤ b → hp'.get b = none) ∧ (∀ b, b < bs → b ∉ wr' → b ∉ wr ∧ hp'.get b = hp.get b) ∧
                ∀ w0 M0 fr m w ds tmps fn R, GOk c.gl w0 M0 → WR w0 M0 fr m hp.get w → (∀ b, nx ≤ b → b < nx' → fr b) → DRel m (.fn f args :: l) ds →
                  (∀ m' w', Le m m' → WR w0 M0 (Mn fr nx nx') m' hp'.get w' → LeavesInM (Fr none) 0 c.P fn tmps R [] .returning w') → LeavesInM (Fr none) 0 c.P fn tmps R ds .returning w := by
            intro x s hx hbody hdf h
            obtain ⟨code, b1, b2, b3, b4⟩ := body_ok hc hr hbody hfree
            have hnx : nx ≤ s.nx := b3.nx
            obtain ⟨k1, k2, k3, k4⟩ := defX_ok hc hf hr l s.hp s.nx bs _ hp' nx' wr' h (Nat.le_trans hb hnx) b3.inv.2
            refine ⟨Nat.le_trans hnx k1, k2, fun y hy h => ?_, fun w0 M0 fr m w ds tmps fn R hG hW hfr hd k => ?_⟩
            · obtain ⟨g1, g2⟩ := k3 y hy h
              rw [List.mem_append, not_or] at g1
              have := b3.wr y (Nat.lt_of_lt_of_le hy hb) fun hm => g1.1 (mem_keepLt hm hy)
              exact ⟨g1.2, g2.trans this.2⟩
            · cases ds with
              | nil => exact hd.elim
              | cons d ds =>
                obtain ⟨⟨cap, dargs, us, hd1, hd3, hd4⟩, hd2⟩ := hd
                subst hd1
                have hfP := hf.fn f fn' hfn'
                refine ⟨by simp, .inr ⟨fun h => absurd h Bool.false_ne_true, .func f, cap, f, dargs ++ cap, rfl, run_enter hfP b1 b2 _ w, fun _ _ => trivial, ?_⟩⟩
                rw [hd4]
                refine CallsDIn.mono (callsDIn_of_wp (F := Fr none) (R := fun e w' => e = .returned (.tuple #[]) ∧ ∃ m', Le m m' ∧ WR w0 M0 (Mn fr nx s.nx) m' s.hp.get w') hfP b1 trivial (wpIn_mono (b4 w0 M0 fr m w us hG hW (fun y g1 g2 => hfr y g1 (Nat.lt_of_lt_of_le g2 k1)) hd3) ?_)) ?_
                · rintro e a' w' ⟨rfl, m', hm', R'⟩
                  have hd0 := R'.df
                  rw [hdf] at hd0
                  have : bodyPost c.P fn' (fun e w' => e = .returned (.tuple #[]) ∧ ∃ m', Le m m' ∧ WR w0 M0 (Mn fr nx s.nx) m' s.hp.get w') .normal a' w' := ⟨hd0.nil, _, by simp [results, hres'], rfl, m', hm', R'.w⟩
                  rcases hx with rfl | rfl
                  · exact this
                  · exact this
                · rintro e u w' ⟨rfl, rfl, m', hm', W'⟩
                  refine k4 w0 M0 _ m' w' ds tmps fn R hG W' (fun y g1 g2 => ⟨hfr y (by omega) g2, by omega⟩) (hd2.mono hm') fun m2 w2 g1 g2 => k m2 w2 (hm'.trans g1) (g2.less fun y hy => Mn.join hnx k1 hy)
          split at h
          · rename_i s hbody
            split at h
            · rename_i hdf
              exact main _ s (.inl rfl) hbody hdf h
            · cases h
          · rename_i s hbody
            split at h
            · rename_i hdf
              exact main _ s (.inr rfl) hbody hdf h
            · cases h
          · cases h
          · cases h
        · cases h
      · cases h

/-! results -/
def rsem (tmps : Array Value) : ResultVar → Sem Value
  | .tmp t => pure (tmps.getD t undef)
  | .cell a t => do loadVar t (← asAddr (tmps.getD a undef))
theorem resXs_ok (hc : CxOk c) {env : Tr X} {hp : Tr B} {w0 : World} {M0 fr : Nat → Prop} {m : Mu} {w : World} {a : Act} (hG : GOk c.gl w0 M0) (hW : WR w0 M0 fr m hp.get w) (henv : ∀ t, conc m (envF env t) = some (a.tmps.getD t undef)) :
    ∀ (l : List ResultVar) (xs : List X), resXs c env hp l = some xs → ∃ vs, (l.mapM (rsem a.tmps)).run c.P w = .ok vs w ∧ concL m xs = some vs
  | [], xs, h => by
    simp only [resXs, Option.some.injEq] at h
    subst h
    exact ⟨[], by simp, concL_nil⟩
  | x :: l, xs, h => by
    simp only [resXs] at h
    split at h
    · rename_i y ys h1 h2
      simp only [Option.some.injEq] at h
      subst h
      obtain ⟨vs, k1, k2⟩ := resXs_ok hc hG hW henv l ys h2
      have one : ∃ v, (rsem a.tmps x).run c.P w = .ok v w ∧ conc m y = some v := by
        cases x with
        | tmp t =>
          simp only [resX1, Option.some.injEq] at h1
          subst h1
          exact ⟨_, by simp [rsem], henv t⟩
        | cell b t =>
          simp only [resX1] at h1
          split at h1
          · rename_i ti hti
            split at h1
            · rename_i e he
              simp only [Option.some.injEq] at h1
              subst h1
              obtain ⟨_, v, k, o, g1, g2, g3⟩ := load_ok (hc.ti _ _ hti) he hG hW (henv b) (fun _ _ => rfl)
              refine ⟨v, ?_, g3⟩
              simp only [rsem, g1, asAddr, Sem.run_bind, Sem.run_pure, Result.andThen]
              exact g2
            · cases h1
          · cases h1
      obtain ⟨v, g1, g2⟩ := one
      exact ⟨v :: vs, by simp only [List.mapM_cons, Sem.run_bind, g1, Result.andThen, k1, Sem.run_pure], concL_cons.2 ⟨v, vs, g2, k2, rfl⟩⟩
    · cases h
theorem resX_ok (hc : CxOk c) {env : Tr X} {hp : Tr B} {w0 : World} {M0 fr : Nat → Prop} {m : Mu} {w : World} {a : Act} {fn : Func} (hG : GOk c.gl w0 M0) (hW : WR w0 M0 fr m hp.get w) (henv : ∀ t, conc m (envF env t) = some (a.tmps.getD t undef)) {x : X}
    (h : resX c env hp fn.results.toList = some x) : ∃ v, (results fn a.tmps).run c.P w = .ok v w ∧ conc m x = some v := by
  have hrun : ∀ vs : List Value, (fn.results.toList.mapM (rsem a.tmps)).run c.P w = .ok vs w →
      (results fn a.tmps).run c.P w = .ok (if h : vs.toArray.size = 1 then vs.toArray[0] else .tuple vs.toArray) w := by
    intro vs hvs
    have gen : ∀ F : ResultVar → Sem Value, (∀ x, F x = rsem a.tmps x) → (do let vs ← fn.results.mapM F; pure (if h : vs.size = 1 then vs[0] else .tuple vs) : Sem Value).run c.P w = .ok (if h : vs.toArray.size = 1 then vs.toArray[0] else .tuple vs.toArray) w := by
      intro F hF
      obtain rfl : F = rsem a.tmps := funext hF
      rw [Array.mapM_eq_mapM_toList]
      simp only [Sem.run_bind, Sem.run_map, hvs, Result.andThen, Sem.run_pure]
    exact gen _ fun x => by cases x <;> rfl
  unfold resX at h
  split at h
  · rename_i y hy
    simp only [Option.some.injEq] at h
    subst h
    obtain ⟨vs, k1, k2⟩ := resXs_ok hc hG hW henv _ _ hy
    obtain ⟨v, vs', g1, g2, rfl⟩ := concL_cons.1 k2
    simp only [concL, Option.some.injEq] at g2
    subst g2
    exact ⟨v, by have := hrun _ k1; simpa using this, g1⟩
  · rename_i r' hne hr'
    simp only [Option.some.injEq] at h
    subst h
    obtain ⟨vs, k1, k2⟩ := resXs_ok hc hG hW henv _ _ hr'
    have hl := concL_length k2
    refine ⟨.tuple vs.toArray, ?_, by simp [conc, k2]⟩
    have := hrun _ k1
    rw [dif_neg] at this
    · exact this
    · intro h1
      have : r'.length = 1 := by simpa [hl] using h1
      match r', this with
      | [z], _ => exact hne z rfl
  · cases h
end
end
end Go.Ex
/- The exact evaluator, part 18: calls and rounds, all of it. -/
namespace Go.Ex
noncomputable section
open Go.RowKit
open Go.Ab (reach Clo opsIn opsIn_spec Wrote)
section
variable {c : Cx} {r : Rec} {rc : List FuncId}

theorem endX_inv {fn : Func} {s : S} {q : Cr} (h : endX c rc r fn s = .ok q) : defX c rc r s.df s.hp s.nx s.bs s.wr = .ok (q.hp, q.nx, q.wr) ∧ resX c s.env q.hp fn.results.toList = some q.x := by
  unfold endX at h
  split at h
  · rename_i hp nx wr h1
    split at h
    · rename_i x h2
      simp only [O.ok.injEq] at h
      subst h
      exact ⟨h1, h2⟩
    · cases h
  · cases h

theorem call_fn (hc : CxOk c) (hf : FnOk c rc) (hr : RecOk c r) {g : FuncId} {fs args cs : List X} {hp : Tr B} {nx : Nat} {q : Cr} {fn : Func} (hfn : c.fn.get g = some fn) {x : Xt} {s : S} (hx : x = .normal ∨ x = .ret)
    (hb : bodyX c r fn (fs ++ args ++ cs) hp nx = .ok (x, s)) (he : endX c rc r fn s = .ok q) : CallOk c (.fn g fs cs) args hp nx q := by
  intro hfree
  obtain ⟨hd, hres⟩ := endX_inv he
  obtain ⟨code, b1, b2, b3, b4⟩ := body_ok hc hr hb hfree
  have hnx : nx ≤ s.nx := b3.nx
  have hbs : s.bs = nx := b3.bs
  obtain ⟨k1, k2, k3, k4⟩ := defX_ok hc hf hr s.df s.hp s.nx s.bs s.wr q.hp q.nx q.wr hd b3.inv.1 b3.inv.2
  refine ⟨Nat.le_trans hnx k1, k2, fun y hy h => ?_, fun w0 M0 fr m w us vf hG hW hfr hvf hus => ?_⟩
  · obtain ⟨g1, g2⟩ := k3 y (by omega) h
    exact g2.trans (b3.wr y hy g1).2
  · obtain ⟨ufs, ucs, h1, h2, rfl⟩ := conc_fn hvf
    have hfP := hf.fn g fn hfn
    refine ⟨.enter g (ufs ++ us ++ ucs).toArray, ?_, fun _ _ _ _ => ⟨_, _, rfl⟩, ?_⟩
    · simp only [Deferred.ofValue, Sem.run_bind, Sem.run_pure, Result.andThen, invoke]
      rw [run_enter hfP b1 b2]
      congr 2
      simp
    · have hall := concL_append (concL_append h1 hus) h2
      refine callsIn_of_wp_marks (F := Fr none) hfP b1 trivial (wpIn_mono (b4 w0 M0 fr m w _ hG hW (fun y g1 g2 => hfr y g1 (Nat.lt_of_lt_of_le g2 k1)) hall) ?_)
      rintro e a' w' ⟨rfl, m1, hm1, R1⟩
      have fin : LeavesInM (Fr none) 0 c.P fn a'.tmps (fun e w' => ∃ v m', e = Ending.returned v ∧ Le m m' ∧ conc m' q.x = some v ∧ WR w0 M0 (fun b => fr b ∧ ¬ (nx ≤ b ∧ b < q.nx)) m' q.hp.get w') a'.defers .returning w' := by
        refine k4 w0 M0 _ m1 w' a'.defers a'.tmps fn _ hG R1.w (fun y g1 g2 => ⟨hfr y (by omega) g2, by omega⟩) R1.df fun m2 w2 hm2 W2 => ?_
        obtain ⟨v, r1, r2⟩ := resX_ok (a := a') (fn := fn) hc hG W2 (fun t => conc_mono hm2 _ _ (R1.env t)) hres
        exact ⟨v, r1, v, m2, rfl, hm1.trans hm2, r2, W2.less fun y hy => Mn.join hnx k1 hy⟩
      rcases hx with rfl | rfl
      · exact fin
      · exact fin

theorem setPs_rel {m : Mu} {k : Nat} : ∀ {ps : List Tmp} {args : List X} {us : List Value} {env : Tr X} {tmps : Array Value}, concL m args = some us → (∀ t, conc m (envF env t) = some (tmps.getD t undef)) → tmps.size = k → psIn k ps = true →
    ((ps.zip us).foldl (fun tmps p => tmps.setIfInBounds p.1 p.2) tmps).size = k ∧ ∀ t, conc m (envF (setPs (ps.zip args) env) t) = some (((ps.zip us).foldl (fun tmps p => tmps.setIfInBounds p.1 p.2) tmps).getD t undef)
  | [], _, _, _, _, _, he, hs, _ => ⟨hs, he⟩
  | p :: ps, [], us, env, tmps, ha, he, hs, _ => by
    simp only [concL, Option.some.injEq] at ha
    subst ha
    exact ⟨hs, he⟩
  | p :: ps, x :: args, us, env, tmps, ha, he, hs, hp => by
    obtain ⟨v, vs, h1, h2, rfl⟩ := concL_cons.1 ha
    simp only [psIn] at hp
    replace hp := bif_tt hp
    obtain ⟨hlt, hp⟩ := hp
    have hlt' : p < k := Nat.le_of_ble_eq_true hlt
    simp only [List.zip_cons_cons, List.foldl_cons, setPs]
    refine setPs_rel h2 (fun t => ?_) (by simpa using hs) hp
    have := conc_put (a := { tmps := tmps, defers := [] }) (dst := some p) (nt := k) (g := envF env) hs (fun t ht => by cases ht; exact hlt') he h1 t
    rw [envF_set]
    simpa [Act.put] using this

theorem call_yld (hc : CxOk c) (hr : RecOk c r) {b : Nat} {args : List X} {hp : Tr B} {nx : Nat} {q : Cr} {pd : Option Code} {g k : Nat} {env : Tr X} {ps : List Tmp} {a bd : Code} {d : Nat} (hget : hp.get b = some (.loop .ready pd g k env ps a bd d))
    (hbn : b < nx) (hlen : ps.length = args.length) (hps : psIn k ps = true) (hia : inC k a = true) (hib : inC k bd = true) {s1 : S} (h1 : codeX c r true a ⟨k, setPs (ps.zip args) env, hp, nx, [], nx, []⟩ = .ok (.normal, s1))
    {pd' : Option Code} {g' k' : Nat} {env' : Tr X} {ps' : List Tmp} {a' bd' : Code} {d' : Nat} (hget1 : s1.hp.get b = some (.loop .ready pd' g' k' env' ps' a' bd' d'))
    {x : Xt} {s2 : S} (h2 : codeX c r true bd ⟨s1.nt, s1.env, s1.hp.set b (some (.loop .busy pd' g' k' env' ps' a' bd' d')), s1.nx, s1.df, nx, b :: s1.wr⟩ = .ok (x, s2)) (h3 : endRound b x s2 = .ok q) : CallOk c (.yld b) args hp nx q := by
  intro hfree
  have hI1 : Inv ⟨k, setPs (ps.zip args) env, hp, nx, [], nx, []⟩ := ⟨Nat.le_refl _, hfree⟩
  have code1 := fun l => codeX_ok (ro := some l) (nt := k) (rnd := true) hc hr.call rfl (hr.code (some l) k) a _ _ _ h1 hia rfl hI1
  have st1 := (code1 0).1
  have hnx1 : nx ≤ s1.nx := st1.nx
  have hnt1 : s1.nt = k := st1.nt
  have hbs1 : s1.bs = nx := st1.bs
  have hI2 : Inv ⟨s1.nt, s1.env, s1.hp.set b (some (.loop .busy pd' g' k' env' ps' a' bd' d')), s1.nx, s1.df, nx, b :: s1.wr⟩ := ⟨hnx1, fun y hy => by
    have hy' : s1.nx ≤ y := hy
    show (s1.hp.set b _).get y = none
    rw [get_set, if_neg (by omega)]
    exact st1.inv.2 y hy'⟩
  have code2 := fun l => codeX_ok (ro := some l) (nt := k) (rnd := true) hc hr.call rfl (hr.code (some l) k) bd _ _ _ h2 hib hnt1 hI2
  have st2 := (code2 0).1
  have hnx2 : s1.nx ≤ s2.nx := st2.nx
  have hend : ∃ (st : LoopState) (pd2 : Option Code) (g2 k2 : Nat) (env2 : Tr X) (ps2 : List Tmp) (a2 bd2 : Code) (d2 : Nat), s2.hp.get b = some (.loop st pd2 g2 k2 env2 ps2 a2 bd2 d2) ∧ (∀ l, x ≠ .goto l) ∧
      q = ⟨bX (jumpOf x).isNone, s2.hp.set b (some (.loop (if (jumpOf x).isNone then .ready else .done) (jumpOf x) g2 k2 env2 ps2 a2 bd2 d2)), s2.nx, b :: s2.wr⟩ := by
    unfold endRound at h3
    split at h3
    · rename_i st pd2 g2 k2 env2 ps2 a2 bd2 d2 hg2
      refine ⟨st, pd2, g2, k2, env2, ps2, a2, bd2, d2, hg2, ?_⟩
      split at h3
      · simp only [O.ok.injEq] at h3
        exact ⟨by simp, h3.symm⟩
      · simp only [O.ok.injEq] at h3
        exact ⟨by simp, h3.symm⟩
      · simp only [O.ok.injEq] at h3
        exact ⟨by simp, h3.symm⟩
      · cases h3
    · cases h3
  obtain ⟨st, pd2, g2, k2, env2, ps2, a2, bd2, d2, hg2, hng, rfl⟩ := hend
  refine ⟨Nat.le_trans hnx1 hnx2, fun y hy => ?_, fun y hy h => ?_, fun w0 M0 fr m w us vf hG hW hfr hvf hus => ?_⟩
  · have hy' : s2.nx ≤ y := hy
    show (s2.hp.set b _).get y = none
    rw [get_set, if_neg (by omega)]
    exact st2.inv.2 y hy'
  · have h' : y ∉ b :: s2.wr := h
    rw [List.mem_cons, not_or] at h'
    show (s2.hp.set b _).get y = _
    rw [get_set, if_neg (fun e => h'.1 e.symm)]
    obtain ⟨e1, e2⟩ := st2.wr y hy h'.2
    rw [List.mem_cons, not_or] at e1
    obtain ⟨e3, e4⟩ := st1.wr y hy e1.2
    rw [e2]
    show (s1.hp.set b _).get y = _
    rw [get_set, if_neg (fun e => h'.1 e.symm)]
    exact e4
  · have hfr' : ∀ y, nx ≤ y → y < s2.nx → fr y := hfr
    simp only [conc, Option.map_eq_some_iff] at hvf
    obtain ⟨p, hp1, rfl⟩ := hvf
    obtain ⟨o, ho1, ho2⟩ := hW.at hget hp1
    obtain ⟨fn2, tmps2, p2, e1, e2, rfl⟩ := ho2
    have hul := concL_length hus
    refine ⟨.round p.1 fn2 ((ps.toArray.zip (#[] ++ us.toArray)).foldl (fun tmps (t, a) => tmps.setIfInBounds t a) tmps2) a bd, ?_, fun _ _ _ h => by simp at h, ?_⟩
    · simp only [Deferred.ofValue, Sem.run_bind, Sem.run_pure, Result.andThen, invoke]
      rw [run_yield ho1 (by simp; omega)]
    · have hfold : (ps.toArray.zip (#[] ++ us.toArray)).foldl (fun tmps (t, a) => tmps.setIfInBounds t a) tmps2 = (ps.zip us).foldl (fun tmps p => tmps.setIfInBounds p.1 p.2) tmps2 := by
        rw [← Array.foldl_toList]
        simp
      rw [hfold]
      obtain ⟨f1, f2⟩ := setPs_rel hus e2.2 e2.1 hps
      refine roundIn_of_wpIn (F := Fr none) trivial (wpIn_mono ((code1 p.1).wp w0 M0 m fr _ w hG (fun y g1 g2 => hfr' y g1 (Nat.lt_of_lt_of_le g2 hnx2)) ⟨m, Le.refl m, ⟨f1, f2, trivial, hW⟩⟩) ?_)
      rintro e act w1 ⟨rfl, m1, hm1, R1⟩
      obtain ⟨o3, q1, q2⟩ := R1.w.at hget1 (hm1 _ _ hp1)
      obtain ⟨fn3, tmps3, p3, q3, q4, rfl⟩ := q2
      have hW1 := R1.w.wrote hget1 (hm1 _ _ hp1) (wrote_putObj (o := .loop { state := .busy, pending := pd', fn := fn3, tmps := tmps3, params := ps'.toArray, assign := a', body := bd', defers := p3.1 })) (.loop .busy pd' g' k' env' ps' a' bd' d') _ (World.putObj_heap_same (Array.getElem?_eq_some_iff.1 q1).1) ⟨fn3, tmps3, p3, q3, q4, rfl⟩
      refine ⟨_, run_beginRound q1 rfl, wpIn_mono ((code2 p.1).wp w0 M0 m (Mn fr nx s1.nx) act _ hG (fun y g1 g2 => ⟨hfr' y (Nat.le_trans hnx1 g1) g2, by have : s1.nx ≤ y := g1; omega⟩) ⟨m1, hm1, ⟨R1.size, R1.env, R1.df, ?_⟩⟩) ?_⟩
      · show WR w0 M0 _ m1 (s1.hp.set b _).get _
        rw [get_set_upd]
        exact hW1
      · rintro e act2 w2 ⟨rfl, m2, hm2, R2⟩
        obtain ⟨o4, u1, u2⟩ := R2.w.at hg2 (hm2 _ _ hp1)
        obtain ⟨fn4, tmps4, p4, u3, u4, rfl⟩ := u2
        have key : ∀ j, jumpOf x = j → ∃ v w', (Instr.endRound p.1 j).run c.P w2 = .ok v w' ∧ ∃ v' m', Ending.returned v = Ending.returned v' ∧ Le m m' ∧ conc m' (bX (jumpOf x).isNone) = some v' ∧
            WR w0 M0 (fun b => fr b ∧ ¬ (nx ≤ b ∧ b < s2.nx)) m' (s2.hp.set b (some (.loop (if (jumpOf x).isNone then .ready else .done) (jumpOf x) g2 k2 env2 ps2 a2 bd2 d2))).get w' := by
          rintro j rfl
          refine ⟨_, _, run_endRound _ u1, _, m2, rfl, hm2, by simp [bX, conc], ?_⟩
          rw [get_set_upd]
          refine (R2.w.wrote hg2 (hm2 _ _ hp1) (wrote_putObj (o := .loop { state := if (jumpOf x).isNone then .ready else .done, pending := jumpOf x, fn := fn4, tmps := tmps4, params := ps2.toArray, assign := a2, body := bd2, defers := p4.1 })) (.loop (if (jumpOf x).isNone then .ready else .done) (jumpOf x) g2 k2 env2 ps2 a2 bd2 d2) _ (World.putObj_heap_same (Array.getElem?_eq_some_iff.1 u1).1) ⟨fn4, tmps4, p4, u3, u4, rfl⟩).less ?_
          intro y hy
          exact Mn.join hnx1 hnx2 hy
        cases x with
        | normal => exact key none rfl
        | ret => exact key (some .ret) rfl
        | exit id => exact key (some (.exit id)) rfl
        | goto l => exact absurd rfl (hng l)

theorem callX_ok (hc : CxOk c) (hf : FnOk c rc) (hr : RecOk c r) {f : X} {args : List X} {hp : Tr B} {nx : Nat} {q : Cr} (h : callX c rc r f args hp nx = .ok q) : CallOk c f args hp nx q := by
  unfold callX at h
  split at h
  · rename_i g fs cs
    split at h
    · rename_i fn hfn
      split at h
      · rename_i s hb
        exact call_fn hc hf hr hfn (.inl rfl) hb h
      · rename_i s hb
        exact call_fn hc hf hr hfn (.inr rfl) hb h
      · cases h
      · cases h
    · cases h
  · rename_i b
    split at h
    · rename_i pd g k env ps a bd d hget
      replace h := bif_yes h
      obtain ⟨hb, h⟩ := h
      simp only [Bool.and_eq_true] at hb
      obtain ⟨⟨⟨⟨h1, h2⟩, h3⟩, h4⟩, h5⟩ := hb
      have h2' := Nat.eq_of_beq_eq_true h2
      rw [lenL_eq, lenL_eq] at h2'
      split at h
      · rename_i s1 hs1
        split at h
        · rename_i pd' g' k' env' ps' a' bd' d' hget1
          split at h
          · rename_i x s2 hs2
            exact call_yld hc hr hget (Nat.le_of_ble_eq_true h1) h2' h3 h4 h5 hs1 hget1 hs2 h
          · cases h
        · cases h
      · cases h
      · cases h
    · cases h
  · cases h

/-- **The evaluator tells the truth.** -/
theorem run_ok (hc : CxOk c) (hf : FnOk c rc) : ∀ n, RecOk c (run c rc n)
  | 0 => ⟨fun _ _ _ _ _ h => by simp [run] at h, fun _ _ _ _ _ _ h => by simp [run] at h⟩
  | n + 1 => ⟨fun f args hp nx q h => callX_ok hc hf (run_ok hc hf n) h, fun ro nt code s x s' h hin hnt hI => codeX_ok hc (run_ok hc hf n).call rfl ((run_ok hc hf n).code ro nt) code s x s' h hin hnt hI⟩
end
end
end Go.Ex
