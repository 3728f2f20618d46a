/- The exact evaluator, part 15: code. -/
import Derived.Test.YtblbhfnpneliiaaGreatDoorExOpC
import Derived.LoopNIn
import Derived.RangeFuncRecord
import Derived.Scope
namespace Go.Ex
open Go.RowKit
open Go.Ab (reach Clo opsIn opsIn_spec Wrote)

theorem stepR_scope {P : Program} {b : Frame} {a : Act} {k : List Item} {cs : List Frame} {w : World} {c : Code} : step P (lone (b.atR a (.code (.scope c) :: k)) cs w) = .next (lone (b.atR a (.code c :: .inScope c :: k)) cs w) :=
  step_lone_go (by simp [stepG, stepG.exec, Frame.atR])
theorem stepR_inScope {P : Program} {b : Frame} {a : Act} {k : List Item} {cs : List Frame} {w : World} {c : Code} : step P (lone (b.atR a (.inScope c :: k)) cs w) = .next (lone (b.atR a k) cs w) :=
  step_lone_go (by simp [stepG, stepG.exec, Frame.atR])
theorem wpIn_scope {F : Fence} {n : Nat} {P : Program} {Q : Exit → Act → World → Prop} {a : Act} {w : World} {c : Code} (h : c.wpIn F n P (Exit.noGoto Q) a w) : (Code.scope c).wpIn F n P Q a w := by
  intro b k cs hro hb hr
  have h0 : (lone (b.atR a (.code (.scope c) :: k)) cs w).fenced P F := fenced_calm hb hr rfl
  obtain ⟨e, a₁, w₁, hq, harr⟩ := h b (.inScope c :: k) cs hro hb hr
  cases e with
  | normal => exact ⟨.normal, a₁, w₁, hq, .head h0 stepR_scope (StepsIn.trans harr (.one (fenced_calm hb hr rfl) stepR_inScope))⟩
  | exit id =>
    have hx : exitTo id (.inScope c :: k) = exitTo id k := by simp [exitTo]
    exact ⟨_, a₁, w₁, hq, fun k' hk => .head h0 stepR_scope (harr.1 k' (by rw [hx]; exact hk)),
      fun hr' hk => let ⟨k₁, h1, h2⟩ := harr.2 hr' (by rw [hx]; exact hk); ⟨k₁, h1, .head h0 stepR_scope h2⟩⟩
  | goto l => exact hq.elim
  | ret => exact ⟨_, a₁, w₁, hq, .of_steps (.one h0 stepR_scope) harr⟩
  | panic ch => exact ⟨_, a₁, w₁, hq, .of_steps (.one h0 stepR_scope) harr⟩
  | outgrown => exact ⟨_, a₁, w₁, hq, .of_steps (.one h0 stepR_scope) harr⟩
theorem roundsIn_mono {F : Fence} {n : Nat} {P : Program} {c : Code} {Q Q' : Exit → Act → World → Prop} (h : ∀ e a w, Q e a w → Q' e a w) : ∀ {m : Nat} {a : Act} {w : World}, Code.roundsIn F n P c Q m a w → Code.roundsIn F n P c Q' m a w
  | 0, _, _, k => k
  | m + 1, _, _, k => by
    rw [roundsIn_succ] at k ⊢
    refine wpIn_mono k fun e a w hq => ?_
    cases e with
    | normal => exact roundsIn_mono h hq
    | _ => exact h _ _ _ hq

def xOf : Xt → Exit
  | .normal => .normal
  | .exit id => .exit id
  | .goto l => .goto l
  | .ret => .ret
def Post (w0 : World) (M0 : Nat → Prop) (m0 : Mu) (nt : Nat) (fr : Nat → Prop) (s : S) (x : Xt) (s' : S) (e : Exit) (a : Act) (w : World) : Prop := e = xOf x ∧ RR w0 M0 m0 nt s'.df (Mn fr s.nx s'.nx) (fsOf s') a w
def CodeDo (c : Cx) (nt : Nat) (W : (Exit → Act → World → Prop) → Act → World → Prop) (x : Xt) (s s' : S) : Prop :=
  ∀ w0 M0 m0 fr a w, GOk c.gl w0 M0 → (∀ b, s.nx ≤ b → b < s'.nx → fr b) → RR w0 M0 m0 nt s.df fr (fsOf s) a w → W (Post w0 M0 m0 nt fr s x s') a w
def Wk (c : Cx) (ro : Option Nat) (nt : Nat) (x : Xt) (s s' : S) : Code → Prop
  | .loop b => ∃ m, CodeDo c nt (fun Q => b.roundsIn (Fr ro) 0 c.P Q m) x s s'
  | code => CodeDo c nt (code.wpIn (Fr ro) 0 c.P) x s s'
def CodeOk (c : Cx) (ro : Option Nat) (nt : Nat) (code : Code) (x : Xt) (s s' : S) : Prop := Stat s s' ∧ Wk c ro nt x s s' code
section
variable {c : Cx} {nt : Nat} {ro : Option Nat} {r : Rec} {rnd : Bool}
theorem CodeOk.wp {code : Code} {x : Xt} {s s' : S} (h : CodeOk c ro nt code x s s') : CodeDo c nt (code.wpIn (Fr ro) 0 c.P) x s s' := by
  have h2 := h.2
  cases code with
  | loop b =>
    obtain ⟨m, hm⟩ := h2
    intro w0 M0 m0 fr a w hG hfr hR
    exact wpIn_loop_rounds m (hm w0 M0 m0 fr a w hG hfr hR)
  | _ => exact h2
theorem post_chain {W2 : (Exit → Act → World → Prop) → Act → World → Prop} (mono : ∀ {Q Q' : Exit → Act → World → Prop} {a w}, (∀ e a w, Q e a w → Q' e a w) → W2 Q a w → W2 Q' a w) {x : Xt} {s s1 s' : S} (st1 : Stat s s1) (st2 : Stat s1 s')
    (h2 : CodeDo c nt W2 x s1 s') {w0 : World} {M0 : Nat → Prop} {m0 : Mu} {fr : Nat → Prop} (hG : GOk c.gl w0 M0) (hfr : ∀ b, s.nx ≤ b → b < s'.nx → fr b) {e : Exit} {a : Act} {w : World} (p : Post w0 M0 m0 nt fr s .normal s1 e a w) :
    e = .normal ∧ W2 (Post w0 M0 m0 nt fr s x s') a w := by
  have g1 := st1.nx
  have g2 := st2.nx
  refine ⟨p.1, mono ?_ (h2 w0 M0 m0 (Mn fr s.nx s1.nx) a w hG (fun b h1 h2 => ⟨hfr b (by omega) h2, by omega⟩) p.2)⟩
  rintro e' a' w' ⟨rfl, hR⟩
  exact ⟨rfl, hR.less fun b hb => ⟨⟨hb.1, fun g => hb.2 ⟨g.1, by omega⟩⟩, fun g => hb.2 ⟨by omega, g.2⟩⟩⟩

theorem conc_bool {m : Mu} {x : X} {b : Bool} {v : Value} (hx : x = .v (.bool b)) (h : conc m x = some v) : v = .bool b := by
  subst hx; exact conc_v h
theorem WR.drawn {w0 : World} {M0 fr : Nat → Prop} {m : Mu} {h : Nat → Option B} {w : World} (r : WR w0 M0 fr m h w) (n : Nat) : WR w0 M0 fr m h { w with drawn := n } := ⟨r.blk, r.own, r.inj, r.fresh, r.old, r.grown, r.os, r.tape, r.output⟩
theorem wrote_putObj {w : World} {k : Nat} {o : Obj} : Wrote k w (w.putObj k o) := ⟨rfl, rfl, rfl, by simp, fun j hj => World.putObj_heap_other hj⟩
theorem get_set_upd (t : Tr B) (k : Nat) (x : Option B) : (t.set k x).get = upd t.get k x := by
  funext b
  rw [get_set]
  rfl

/-- The jump that a loop's rounds left. -/
def jumpOf : Xt → Option Code
  | .normal => none
  | .exit id => some (.exit id)
  | .goto l => some (.goto l)
  | .ret => some .ret

theorem rangeF_ok (hr : ∀ f args hp nx q, r.call f args hp nx = .ok q → CallOk c f args hp nx q) {f : Operand} {ps : Array Tmp} {a b : Code} {s : S} (hI : Inv s) (hnt : s.nt = nt) {g : FuncId} {fs cs : List X} (hf : evX s.env f = .fn g fs cs) {q : Cr}
    (hq : r.call (evX s.env f) [.yld s.nx] ((s.hp.set s.nx (some (.loop .ready none 0 s.nt s.env ps.toList a b (Nat.succ s.nx)))).set (Nat.succ s.nx) (some (.defd true))) (Nat.succ (Nat.succ s.nx)) = .ok q) {st : LoopState} {pd : Option Code} {k0 k : Nat} {env : Tr X} {ps' : List Tmp} {a' b' : Code} {d : Nat}
    (hl : q.hp.get s.nx = some (.loop st pd k0 k env ps' a' b' d)) (hst : st ≠ .busy) {x : Xt} (hpd : pd = jumpOf x) :
    CodeOk c none nt (.rangeFunc f ps a b) x s ⟨s.nt, s.env, q.hp.set s.nx (some (.loop .exhausted pd k0 k env ps' a' b' d)), q.nx, .mark (Nat.succ s.nx) :: s.df, s.bs, keepLt s.bs q.wr ++ s.wr⟩ := by
  have hget : ∀ y, ((s.hp.set s.nx (some (.loop .ready none 0 s.nt s.env ps.toList a b (Nat.succ s.nx)))).set (Nat.succ s.nx) (some (.defd true))).get y = if Nat.succ s.nx = y then some (.defd true) else if s.nx = y then some (.loop .ready none 0 s.nt s.env ps.toList a b (Nat.succ s.nx)) else s.hp.get y := by
    intro y; rw [get_set, get_set]
  obtain ⟨hnx, hfree, hlog, hcall⟩ := hr _ _ _ _ _ hq (fun y hy => by
    have hy' : s.nx + 2 ≤ y := hy
    rw [hget, if_neg (by omega), if_neg (by omega)]
    exact hI.2 y (by omega))
  have hnx' : s.nx + 2 ≤ q.nx := hnx
  refine ⟨⟨⟨Nat.le_trans hI.1 (by show s.nx ≤ q.nx; omega), fun y hy => ?_⟩, rfl, rfl, by show s.nx ≤ q.nx; omega, fun y hy h => ?_⟩, ?_⟩
  · have hy' : q.nx ≤ y := hy
    show (q.hp.set s.nx _).get y = none
    rw [get_set, if_neg (by omega)]
    exact hfree y hy'
  · have hb' : y < s.bs := hy
    have hb2 := hI.1
    have h' : y ∉ keepLt s.bs q.wr ++ s.wr := h
    rw [List.mem_append, not_or] at h'
    refine ⟨h'.2, ?_⟩
    show (q.hp.set s.nx _).get y = _
    rw [get_set, if_neg (by omega), hlog y (by show y < s.nx + 2; omega) fun hm => h'.1 (mem_keepLt hm hb'), hget, if_neg (by omega), if_neg (by omega)]
  · rintro w0 M0 m0 fr act w hG hfr ⟨m, hm, R⟩
    have hfr' : ∀ y, s.nx ≤ y → y < q.nx → fr y := hfr
    refine wpIn_rangeFunc fun fn _ => ?_
    obtain ⟨r1, le1⟩ := R.w.new (id := s.nx + 1) (hfr' _ (by omega) (by omega)) (.deferred (some [])) 0 (.defd true) rfl
    have hm1 : mset m (s.nx + 1) (w.heap.size, 0) (s.nx + 1) = some (w.heap.size, 0) := mset_self _ _ _
    obtain ⟨r2, le2⟩ := r1.new (id := s.nx) ⟨hfr' _ (by omega) (by omega), by omega⟩ (.loop { state := .ready, pending := none, fn := fn, tmps := act.tmps, params := ps, assign := a, body := b, defers := w.heap.size }) 0 (.loop .ready none 0 s.nt s.env ps.toList a b (s.nx + 1))
      (by
        have le1' : Le (mset m (s.nx + 1) (w.heap.size, 0)) (mset (mset m (s.nx + 1) (w.heap.size, 0)) s.nx ((w.alloc (.deferred (some []))).heap.size, 0)) := mset_le (r1.fresh s.nx ⟨hfr' _ (by omega) (by omega), by omega⟩)
        refine ⟨fn, act.tmps, (w.heap.size, 0), le1' _ _ hm1, ⟨by rw [R.size, hnt], fun t => conc_mono (le1.trans le1') _ _ (R.env t)⟩, ?_⟩
        simp)
    have hsz : (w.alloc (.deferred (some []))).heap.size = w.heap.size + 1 := by simp
    rw [hsz] at r2 le2
    have hupd : upd (upd (fsOf s).hp (s.nx + 1) (some (.defd true))) s.nx (some (.loop .ready none 0 s.nt s.env ps.toList a b (s.nx + 1))) = ((s.hp.set s.nx (some (.loop .ready none 0 s.nt s.env ps.toList a b (Nat.succ s.nx)))).set (Nat.succ s.nx) (some (.defd true))).get := by
      funext y
      rw [hget]
      unfold upd fsOf
      by_cases e1 : s.nx = y
      · rw [if_pos e1, if_neg (by omega), if_pos e1]
      · rw [if_neg e1]
        by_cases e2 : s.nx + 1 = y
        · rw [if_pos e2, if_pos e2]
        · rw [if_neg e2, if_neg e2, if_neg e1]
    rw [hupd] at r2
    have hle := le1.trans le2
    have hv := conc_mono hle _ _ (eval_vals R.env f)
    rw [hf] at hv
    obtain ⟨us, vs, h1, h2, h3⟩ := concL_fn hv
    rw [hf] at hcall
    obtain ⟨nx, hrun, hent, hnxt⟩ := hcall w0 M0 _ _ _ [.func (.yield (w.heap.size + 1)) #[] #[]] (act.eval f) hG r2 (fun y g1 g2 => by
        have g1' : s.nx + 2 ≤ y := g1
        exact ⟨⟨hfr' y (by omega) g2, by omega⟩, by omega⟩) (by rw [h3]; simp only [conc, h1, h2]) (by simp [concL, conc, mset_self])
    obtain ⟨gf, gas, rfl⟩ := hent g _ _ h3
    have hres : ∀ W, (resolve act.eval (rangeCall f (w.heap.size + 1)) 0).run c.P W = .ok { target := .fn (.func g) vs.toArray, args := us.toArray ++ #[.func (.yield (w.heap.size + 1)) #[] #[]] } W := by
      intro W
      simp only [resolve, rangeCall, Deferred.ofValue, h3, Sem.run_pure]
      congr 2
      apply Array.toList_inj.1
      simp [Act.eval]
    rw [h3] at hrun
    simp only [Deferred.ofValue, Sem.run_bind, Sem.run_pure, Result.andThen] at hrun
    refine ⟨_, _, _, _, _, gf, gas, _, run_enterLoop_outer fn act.tmps ps a b, hres _, fun _ _ => trivial, hrun, fun h => absurd h Bool.false_ne_true, CallsIn.mono (F := Fr none) hnxt ?_⟩
    rintro e w' ⟨v, m2, rfl, le3, _, R2⟩
    obtain ⟨o, ho1, ho2⟩ := R2.at hl (le3 _ _ (mset_self _ _ _))
    obtain ⟨fn2, tmps2, p2, g1, g2, rfl⟩ := ho2
    have hend := run_endLoop (P := c.P) ho1 hst
    have R3 := R2.wrote hl (le3 _ _ (mset_self _ _ _)) (wrote_putObj (o := .loop { state := .exhausted, pending := pd, fn := fn2, tmps := tmps2, params := ps'.toArray, assign := a', body := b', defers := p2.1 })) (.loop .exhausted pd k0 k env ps' a' b' d) _ (World.putObj_heap_same (Array.getElem?_eq_some_iff.1 ho1).1) ⟨fn2, tmps2, p2, g1, g2, rfl⟩
    have fin : RR w0 M0 m0 nt (.mark (Nat.succ s.nx) :: s.df) (Mn fr s.nx q.nx) (fsOf ⟨s.nt, s.env, q.hp.set s.nx (some (.loop .exhausted pd k0 k env ps' a' b' d)), q.nx, .mark (Nat.succ s.nx) :: s.df, s.bs, keepLt s.bs q.wr ++ s.wr⟩) { act with defers := [{ target := .collected w.heap.size, args := #[] }] ++ act.defers } (w'.putObj (w.heap.size + 1) (.loop { state := .exhausted, pending := pd, fn := fn2, tmps := tmps2, params := ps'.toArray, assign := a', body := b', defers := p2.1 })) := by
      refine ⟨m2, hm.trans (hle.trans le3), ⟨R.size, fun t => conc_mono (hle.trans le3) _ _ (R.env t), ⟨⟨_, le3 _ _ (le2 _ _ hm1), rfl⟩, R.df.mono (hle.trans le3)⟩, ?_⟩⟩
      show WR w0 M0 _ m2 (q.hp.set s.nx _).get _
      rw [get_set_upd]
      refine R3.less fun y hy => ⟨⟨⟨hy.1, fun e => hy.2 ⟨?_, ?_⟩⟩, fun e => hy.2 ⟨?_, ?_⟩⟩, fun e => hy.2 ⟨?_, e.2⟩⟩
      · omega
      · omega
      · omega
      · omega
      · have : s.nx + 2 ≤ y := e.1
        omega
    refine ⟨pd, _, hend, ?_⟩
    subst hpd
    cases x with
    | normal => exact ⟨rfl, fin⟩
    | exit id => exact wpIn_exit ⟨rfl, fin⟩
    | goto l => exact wpIn_goto ⟨rfl, fin⟩
    | ret => exact wpIn_ret ⟨rfl, fin⟩
end
end Go.Ex
