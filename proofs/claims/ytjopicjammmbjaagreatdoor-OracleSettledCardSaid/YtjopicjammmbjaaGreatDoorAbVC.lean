/- The abstract layer, part 15: conditions of whole bodies; states that tell less; loops. -/
import Derived.Test.YtjopicjammmbjaaGreatDoorAbSimp
set_option maxHeartbeats 4000000
set_option maxRecDepth 20000
set_option linter.unusedVariables false
set_option linter.unusedSimpArgs false
namespace Go.Ab
open Go.RowKit

/-- What a branch asks. -/
def CondVC (d : D) (x y : Prop) : Prop :=
  match d with
  | .val (.bool b) => bsplit b x y
  | _ => False
/-- The order of a region that draws it. -/
def ordB (ops : Array Oper) (E : List Eff) : Prop := ordered ops (skOf E) = true
@[congr] theorem ordB_congr {ops : Array Oper} {E : List Eff} {u : Unit} (h : tick () = u) : ordB ops E = ordB ops E := rfl
/-- One piece behind another; what comes behind both is named once. -/
def seqW (R : (AE → St → Prop) → St → Prop) (Q : AE → St → Prop) : AE → St → Prop
  | .normal, s => R Q s
  | e, s => Q e s
/-- What a piece of code asks, as far as the evaluator goes. -/
def VC (P : Program) (nt : Nat) : Code → (AE → St → Prop) → St → Prop
  | .skip, Q, s => Q .normal s
  | .ret, Q, s => Q .ret s
  | .exit id, Q, s => Q (.exit id) s
  | .label _, Q, s => Q .normal s
  | .seq a b, Q, s => VC P nt a (seqW (VC P nt b) Q) s
  | .block id c, Q, s => VC P nt c (blockQ id Q) s
  | .cond c a b, Q, s => CondVC (evO s.env.get c) (VC P nt a Q s) (VC P nt b Q s)
  | .region _ ops draw, Q, s => Go P ops s.nx ops.toList 0 [] s (fun E s' => cond draw (ordB ops E ∧ Q .normal ⟨s'.env, s'.hp, s.nx + ops.size⟩) (Q .normal ⟨s'.env, s'.hp, s.nx + ops.size⟩))
  | .loop c, Q, s => AWp P nt (.loop c) Q s
  | .scope c, Q, s => AWp P nt (.scope c) Q s
  | .rangeFunc f ps a b, Q, s => AWp P nt (.rangeFunc f ps a b) Q s
  | .goto l, Q, s => AWp P nt (.goto l) Q s
  | .refuse w, Q, s => AWp P nt (.refuse w) Q s

noncomputable section
/-- The same, told by its equations. -/
def VCS : Program → Nat → Code → (AE → St → Prop) → St → Prop := sealed VC
theorem VCS_eq : VCS = VC := sealed_eq VC
section
variable (P : Program) (nt : Nat) (Q : AE → St → Prop) (s : St)
theorem VCS_skip : VCS P nt .skip Q s = Q .normal s := by rw [VCS_eq]; rfl
theorem VCS_ret : VCS P nt .ret Q s = Q .ret s := by rw [VCS_eq]; rfl
theorem VCS_exit (id : Nat) : VCS P nt (.exit id) Q s = Q (.exit id) s := by rw [VCS_eq]; rfl
theorem VCS_label (l : Nat) : VCS P nt (.label l) Q s = Q .normal s := by rw [VCS_eq]; rfl
theorem VCS_seq (a b : Code) : VCS P nt (.seq a b) Q s = VCS P nt a (seqW (VCS P nt b) Q) s := by rw [VCS_eq]; rfl
theorem VCS_block (id : Nat) (c : Code) : VCS P nt (.block id c) Q s = VCS P nt c (blockQ id Q) s := by rw [VCS_eq]; rfl
theorem VCS_cond (c : Operand) (a b : Code) : VCS P nt (.cond c a b) Q s = CondVC (evO s.env.get c) (VCS P nt a Q s) (VCS P nt b Q s) := by rw [VCS_eq]; rfl
theorem VCS_region (id : Nat) (ops : Array Oper) (draw : Bool) : VCS P nt (.region id ops draw) Q s = GoS P ops s.nx ops.toList 0 [] s (fun E s' => cond draw (ordB ops E ∧ Q .normal ⟨s'.env, s'.hp, s.nx + ops.size⟩) (Q .normal ⟨s'.env, s'.hp, s.nx + ops.size⟩)) := by rw [VCS_eq, GoS_eq]; rfl
theorem VCS_region1t (id : Nat) (l : List Oper) : VCS P nt (.region id l.toArray true) Q s = GoS P l.toArray s.nx l 0 [] s (fun E s' => ordB l.toArray E ∧ Q .normal ⟨s'.env, s'.hp, s.nx + l.length⟩) := by rw [VCS_eq, GoS_eq]; rfl
theorem VCS_region1f (id : Nat) (l : List Oper) : VCS P nt (.region id l.toArray false) Q s = GoS P l.toArray s.nx l 0 [] s (fun E s' => Q .normal ⟨s'.env, s'.hp, s.nx + l.length⟩) := by rw [VCS_eq, GoS_eq]; rfl
theorem VCS_region2t (id : Nat) (l : List Oper) : VCS P nt (.region id (Array.mk l) true) Q s = GoS P (Array.mk l) s.nx l 0 [] s (fun E s' => ordB (Array.mk l) E ∧ Q .normal ⟨s'.env, s'.hp, s.nx + l.length⟩) := by rw [VCS_eq, GoS_eq]; rfl
theorem VCS_region2f (id : Nat) (l : List Oper) : VCS P nt (.region id (Array.mk l) false) Q s = GoS P (Array.mk l) s.nx l 0 [] s (fun E s' => Q .normal ⟨s'.env, s'.hp, s.nx + l.length⟩) := by rw [VCS_eq, GoS_eq]; rfl
theorem VCS_loop (c : Code) : VCS P nt (.loop c) Q s = AWp P nt (.loop c) Q s := by rw [VCS_eq]; rfl
theorem VCS_scope (c : Code) : VCS P nt (.scope c) Q s = AWp P nt (.scope c) Q s := by rw [VCS_eq]; rfl
theorem VCS_rangeFunc (f : Operand) (ps : Array Nat) (a b : Code) : VCS P nt (.rangeFunc f ps a b) Q s = AWp P nt (.rangeFunc f ps a b) Q s := by rw [VCS_eq]; rfl
end
theorem seqW_normal (R : (AE → St → Prop) → St → Prop) (Q : AE → St → Prop) (s : St) : seqW R Q .normal s = R Q s := rfl
theorem seqW_exit (R : (AE → St → Prop) → St → Prop) (Q : AE → St → Prop) (s : St) (i : Nat) : seqW R Q (.exit i) s = Q (.exit i) s := rfl
theorem seqW_goto (R : (AE → St → Prop) → St → Prop) (Q : AE → St → Prop) (s : St) (i : Nat) : seqW R Q (.goto i) s = Q (.goto i) s := rfl
theorem seqW_ret (R : (AE → St → Prop) → St → Prop) (Q : AE → St → Prop) (s : St) : seqW R Q .ret s = Q .ret s := rfl
theorem seqW_panic (R : (AE → St → Prop) → St → Prop) (Q : AE → St → Prop) (s : St) (d : D) : seqW R Q (.panic d) s = Q (.panic d) s := rfl
@[congr] theorem VCS_congr {P : Program} {nt : Nat} {c : Code} {Q : AE → St → Prop} {s s' : St} (h : tick s = s') : VCS P nt c Q s = VCS P nt c Q s' := by rw [← h]; rfl
end
@[congr] theorem CondVC_congr {d d' : D} {x y : Prop} (h : tick d = d') : CondVC d x y = CondVC d' x y := by rw [← h]; rfl

theorem AWp.same {P : Program} {nt : Nat} {c : Code} {Q : AE → St → Prop} {s : St} (h : AWp P nt c (fun e s => ∃ s', s'.fs = s.fs ∧ s'.nx = s.nx ∧ Q e s') s) : AWp P nt c Q s := fun w0 M0 I0 I mu a w r b k cs => by
  obtain ⟨e, a', w', ⟨x, s', I', mu', ⟨s'', h1, h2, h3⟩, he, r'⟩, harr⟩ := h w0 M0 I0 I mu a w r b k cs
  exact ⟨e, a', w', ⟨x, s'', I', mu', h3, he, by rw [h1, h2]; exact r'⟩, harr⟩
theorem Run.mono {P : Program} {ops : Array Oper} {nx : Nat} {K K' : List Eff → St → Prop} (hK : ∀ E s, K E s → K' E s) : ∀ {l : List Oper} {pos : Nat} {acc : List Eff} {s : St}, Run P ops nx l pos acc s K → Run P ops nx l pos acc s K'
  | [], _, _, _, h => hK _ _ h
  | _ :: _, _, _, _, ⟨e, h1, h2⟩ => ⟨e, h1, Run.mono hK h2⟩

/-- The code writes only slots that there are. -/
def codeIn (nt : Nat) : Code → Bool
  | .seq a b => codeIn nt a && codeIn nt b
  | .block _ c => codeIn nt c
  | .cond _ a b => codeIn nt a && codeIn nt b
  | .region _ ops _ => opsIn nt ops.toList
  | _ => true

theorem VC.sound0 {P : Program} {nt : Nat} (hm : P.follows .mixedOrders = true) : ∀ {c : Code} {Q : AE → St → Prop} {s : St}, codeIn nt c = true → VC P nt c Q s → AWp P nt c Q s
  | .skip, _, _, _, h => AWp.skip h
  | .ret, _, _, _, h => AWp.ret h
  | .exit _, _, _, _, h => AWp.exit h
  | .label _, _, _, _, h => AWp.label h
  | .seq a b, Q, s, hc, h => by
    simp only [codeIn, Bool.and_eq_true] at hc
    exact AWp.seq (AWp.mono (VC.sound0 hm (c := a) hc.1 h) fun e s hq => by
      cases e with
      | normal => exact VC.sound0 hm (c := b) hc.2 hq
      | _ => exact hq)
  | .block _ c, _, _, hc, h => AWp.block (VC.sound0 hm (c := c) hc h)
  | .cond c a b, Q, s, hc, h => by
    simp only [codeIn, Bool.and_eq_true] at hc
    simp only [VC] at h
    unfold CondVC at h
    split at h
    · rename_i x hx
      exact AWp.cond hx (fun hb => VC.sound0 hm (c := a) hc.1 (h.1 hb)) (fun hb => VC.sound0 hm (c := b) hc.2 (h.2 hb))
    · exact h.elim
  | .region id ops draw, Q, s, hc, h => by
    simp only [VC] at h
    have hgo := h
    have hin : opsIn nt ops.toList = true := hc
    obtain ⟨l⟩ := ops
    have hr := (Go.run hgo).out
    cases draw with
    | false => exact AWp.same (AWp.region hin (Run.mono (fun E t h => by obtain ⟨s', h1, h2⟩ := h; exact ⟨⟨s'.env, s'.hp, s.nx + l.length⟩, h1, rfl, h2⟩) hr))
    | true => exact AWp.same (AWp.region_draw hm hin (Run.mono (fun E t h => by obtain ⟨s', h1, h2, h3⟩ := h; exact ⟨h2, ⟨s'.env, s'.hp, s.nx + l.length⟩, h1, rfl, h3⟩) hr))
  | .loop _, _, _, _, h => h
  | .scope _, _, _, _, h => h
  | .rangeFunc _ _ _ _, _, _, _, h => h
  | .goto _, _, _, _, h => h
  | .refuse _, _, _, _, h => h

theorem VC.sound {P : Program} {nt : Nat} (hm : P.follows .mixedOrders = true) {c : Code} {Q : AE → St → Prop} {s : St} (hc : codeIn nt c = true) (h : VCS P nt c Q s) : AWp P nt c Q s := by
  rw [VCS_eq] at h; exact VC.sound0 hm hc h
/-! states that tell less, blocks named anew -/
mutual
def renD (r : Nat → Nat) : D → D
  | .any => .any
  | .val v => .val v
  | .cond g d => .cond g (renD r d)
  | .agg cs => .agg (renL r cs)
  | .tup cs => .tup (renL r cs)
  | .slice es t => .slice (renLL r es) t
  | .ptr cs o => .ptr (renL r cs) o
  | .func fn fs cs => .func fn (renL r fs) (renL r cs)
  | .iface t d => .iface t (renD r d)
  | .ref b i o s => .ref (r b) i o s
  | .sref b i l c s => .sref (r b) i l c s
  | .gref b l => .gref (r b) l
  | .mref b => .mref (r b)
def renL (r : Nat → Nat) : List D → List D
  | [] => []
  | d :: l => renD r d :: renL r l
def renLL (r : Nat → Nat) : List (List D) → List (List D)
  | [] => []
  | d :: l => renL r d :: renLL r l
end
mutual
def ltD (n : Nat) : D → Bool
  | .any => true
  | .val _ => true
  | .cond _ d => ltD n d
  | .agg cs => ltL n cs
  | .tup cs => ltL n cs
  | .slice es _ => ltLL n es
  | .ptr cs _ => ltL n cs
  | .func _ fs cs => ltL n fs && ltL n cs
  | .iface _ d => ltD n d
  | .ref b _ _ _ => decide (b < n)
  | .sref b _ _ _ _ => decide (b < n)
  | .gref b _ => decide (b < n)
  | .mref b => decide (b < n)
def ltL (n : Nat) : List D → Bool
  | [] => true
  | d :: l => ltD n d && ltL n l
def ltLL (n : Nat) : List (List D) → Bool
  | [] => true
  | d :: l => ltL n d && ltLL n l
end
mutual
theorem renD_pure (r : Nat → Nat) : ∀ (d : D), d.pure = true → renD r d = d
  | .any, _ => rfl
  | .val _, _ => rfl
  | .cond g d, h => by simp only [renD]; rw [renD_pure r d (by simpa [D.pure] using h)]
  | .agg cs, h => by simp only [renD]; rw [renL_pure r cs (by simpa [D.pure] using h)]
  | .tup cs, h => by simp only [renD]; rw [renL_pure r cs (by simpa [D.pure] using h)]
  | .slice es _, h => by simp only [renD]; rw [renLL_pure r es (by simpa [D.pure] using h)]
  | .ptr cs _, h => by simp only [renD]; rw [renL_pure r cs (by simpa [D.pure] using h)]
  | .func _ fs cs, h => by
    simp only [D.pure, Bool.and_eq_true] at h
    simp only [renD]; rw [renL_pure r fs h.1, renL_pure r cs h.2]
  | .iface _ d, h => by simp only [renD]; rw [renD_pure r d (by simpa [D.pure] using h)]
  | .ref _ _ _ _, h => by simp [D.pure] at h
  | .sref _ _ _ _ _, h => by simp [D.pure] at h
  | .gref _ _, h => by simp [D.pure] at h
  | .mref _, h => by simp [D.pure] at h
theorem renL_pure (r : Nat → Nat) : ∀ (l : List D), pureL l = true → renL r l = l
  | [], _ => rfl
  | d :: l, h => by
    simp only [pureL, Bool.and_eq_true] at h
    simp only [renL]; rw [renD_pure r d h.1, renL_pure r l h.2]
theorem renLL_pure (r : Nat → Nat) : ∀ (l : List (List D)), pureLL l = true → renLL r l = l
  | [], _ => rfl
  | d :: l, h => by
    simp only [pureLL, Bool.and_eq_true] at h
    simp only [renLL]; rw [renL_pure r d h.1, renLL_pure r l h.2]
end
mutual
theorem ltD_pure (n : Nat) : ∀ (d : D), d.pure = true → ltD n d = true
  | .any, _ => rfl
  | .val _, _ => rfl
  | .cond g d, h => by simp only [ltD]; exact ltD_pure n d (by simpa [D.pure] using h)
  | .agg cs, h => by simp only [ltD]; exact ltL_pure n cs (by simpa [D.pure] using h)
  | .tup cs, h => by simp only [ltD]; exact ltL_pure n cs (by simpa [D.pure] using h)
  | .slice es _, h => by simp only [ltD]; exact ltLL_pure n es (by simpa [D.pure] using h)
  | .ptr cs _, h => by simp only [ltD]; exact ltL_pure n cs (by simpa [D.pure] using h)
  | .func _ fs cs, h => by
    simp only [D.pure, Bool.and_eq_true] at h
    simp only [ltD, Bool.and_eq_true]; exact ⟨ltL_pure n fs h.1, ltL_pure n cs h.2⟩
  | .iface _ d, h => by simp only [ltD]; exact ltD_pure n d (by simpa [D.pure] using h)
  | .ref _ _ _ _, h => by simp [D.pure] at h
  | .sref _ _ _ _ _, h => by simp [D.pure] at h
  | .gref _ _, h => by simp [D.pure] at h
  | .mref _, h => by simp [D.pure] at h
theorem ltL_pure (n : Nat) : ∀ (l : List D), pureL l = true → ltL n l = true
  | [], _ => rfl
  | d :: l, h => by
    simp only [pureL, Bool.and_eq_true] at h
    simp only [ltL, Bool.and_eq_true]; exact ⟨ltD_pure n d h.1, ltL_pure n l h.2⟩
theorem ltLL_pure (n : Nat) : ∀ (l : List (List D)), pureLL l = true → ltLL n l = true
  | [], _ => rfl
  | d :: l, h => by
    simp only [pureLL, Bool.and_eq_true] at h
    simp only [ltLL, Bool.and_eq_true]; exact ⟨ltL_pure n d h.1, ltLL_pure n l h.2⟩
end
theorem renL_eq (r : Nat → Nat) : ∀ l : List D, renL r l = l.map (renD r)
  | [] => rfl
  | d :: l => by simp [renL, renL_eq r l]
theorem renLL_eq (r : Nat → Nat) : ∀ l : List (List D), renLL r l = l.map (renL r)
  | [] => rfl
  | d :: l => by simp [renLL, renLL_eq r l]
theorem ltL_nd {n : Nat} : ∀ {cs : List D}, ltL n cs = true → ∀ i, ltD n (nd cs i) = true
  | [], _, i => by simp [nd, ltD]
  | d :: r, h, 0 => by simp only [ltL, Bool.and_eq_true] at h; simpa [nd] using h.1
  | d :: r, h, i + 1 => by simp only [ltL, Bool.and_eq_true] at h; have := ltL_nd h.2 i; simpa [nd] using this
theorem ltLL_nr {n : Nat} : ∀ {es : List (List D)}, ltLL n es = true → ∀ i, ltL n (nr es i) = true
  | [], _, i => by simp [nr, ltL]
  | d :: r, h, 0 => by simp only [ltLL, Bool.and_eq_true] at h; simpa [nr] using h.1
  | d :: r, h, i + 1 => by simp only [ltLL, Bool.and_eq_true] at h; have := ltLL_nr h.2 i; simpa [nr] using this

theorem nd_renL {r : Nat → Nat} {cs : List D} {i : Nat} (hi : i < cs.length) : nd (renL r cs) i = renD r (nd cs i) := by rw [renL_eq]; exact nd_map hi
theorem nr_renLL {r : Nat → Nat} {es : List (List D)} {i : Nat} (hi : i < es.length) : nr (renLL r es) i = renL r (nr es i) := by rw [renLL_eq]; simp [nr, List.getD_eq_getElem?_getD, hi]
theorem renL_length (r : Nat → Nat) (cs : List D) : (renL r cs).length = cs.length := by rw [renL_eq]; simp
theorem renLL_length (r : Nat → Nat) (cs : List (List D)) : (renLL r cs).length = cs.length := by rw [renLL_eq]; simp

theorem Rep.ren {w : World} {I : Nat → Prop} {mu mu' : Nat → Option Value} {r : Nat → Nat} {n : Nat} (hmu : ∀ b, b < n → mu' b = mu (r b)) {d' : D} {v : Value} (h : Rep w I mu d' v) : ∀ {d : D}, d' = renD r d → ltD n d = true → Rep w I mu' d v := by
  induction h with
  | any v => intro d he hl; cases d <;> simp only [renD, reduceCtorEq] at he; exact .any v
  | val v ok => intro d he hl; cases d <;> simp only [renD, reduceCtorEq, D.val.injEq] at he; subst he; exact .val v ok
  | cond g d v _ h' ih =>
    intro d he hl; cases d <;> simp only [renD, reduceCtorEq, D.cond.injEq] at he
    obtain ⟨rfl, he⟩ := he
    exact .cond _ _ v (fun hg => ih hg he (by simpa [ltD] using hl)) h'
  | agg cs us hl _ ih =>
    intro d he hlt; cases d <;> simp only [renD, reduceCtorEq, D.agg.injEq] at he
    subst he
    rw [renL_length] at hl ih
    exact .agg _ us hl fun i hi => ih i hi (nd_renL hi) (ltL_nd (by simpa [ltD] using hlt) i)
  | tup cs us hl _ ih =>
    intro d he hlt; cases d <;> simp only [renD, reduceCtorEq, D.tup.injEq] at he
    subst he
    rw [renL_length] at hl ih
    exact .tup _ us hl fun i hi => ih i hi (nd_renL hi) (ltL_nd (by simpa [ltD] using hlt) i)
  | slice es tight A k o sz cap u hA hc ht hm hlen hcell _ ih =>
    intro d he hlt; cases d <;> simp only [renD, reduceCtorEq, D.slice.injEq] at he
    obtain ⟨rfl, rfl⟩ := he
    rw [renLL_length] at hA hc ht hlen hcell ih
    rename_i es t
    have := Rep.slice (w := w) (I := I) (mu := mu') es tight A k o sz cap u hA hc ht hm (fun i hi => by have := hlen i hi; rw [nr_renLL hi, renL_length] at this; exact this) hcell (fun i j hi hj => ih i j hi hj (by
        have h1 := hlen i hi
        rw [nr_renLL hi, renL_length] at h1
        rw [nr_renLL hi, nd_renL (by omega)]) (ltL_nd (ltLL_nr (by simpa [ltD] using hlt) i) j))
    rw [renLL_length]
    exact this
  | ptr cs off k o u hk hcell _ ih =>
    intro d he hlt; cases d <;> simp only [renD, reduceCtorEq, D.ptr.injEq] at he
    obtain ⟨rfl, rfl⟩ := he
    rw [renL_length] at hcell ih
    exact .ptr _ _ k o u hk hcell fun j hj => ih j hj (nd_renL hj) (ltL_nd (by simpa [ltD] using hlt) j)
  | ref b i off sz k h =>
    intro d he hlt; cases d <;> simp only [renD, reduceCtorEq, D.ref.injEq] at he
    obtain ⟨rfl, rfl, rfl, rfl⟩ := he
    exact .ref _ _ _ _ k (by rw [hmu _ (by simpa [ltD] using hlt)]; exact h)
  | sref b i len cap sz k h =>
    intro d he hlt; cases d <;> simp only [renD, reduceCtorEq, D.sref.injEq] at he
    obtain ⟨rfl, rfl, rfl, rfl, rfl⟩ := he
    exact .sref _ _ _ _ _ k (by rw [hmu _ (by simpa [ltD] using hlt)]; exact h)
  | gref b len A cap h =>
    intro d he hlt; cases d <;> simp only [renD, reduceCtorEq, D.gref.injEq] at he
    obtain ⟨rfl, rfl⟩ := he
    exact .gref _ _ A cap (by rw [hmu _ (by simpa [ltD] using hlt)]; exact h)
  | mref b k h =>
    intro d he hlt; cases d <;> simp only [renD, reduceCtorEq, D.mref.injEq] at he
    subst he
    exact .mref _ k (by rw [hmu _ (by simpa [ltD] using hlt)]; exact h)
  | func fn fs cs us vs hl hk _ _ ih ih' =>
    intro d he hlt; cases d <;> simp only [renD, reduceCtorEq, D.func.injEq] at he
    obtain ⟨rfl, rfl, rfl⟩ := he
    rw [renL_length] at hl hk ih ih'
    simp only [ltD, Bool.and_eq_true] at hlt
    exact .func _ _ _ us vs hl hk (fun i hi => ih i hi (nd_renL hi) (ltL_nd hlt.1 i)) fun i hi => ih' i hi (nd_renL hi) (ltL_nd hlt.2 i)
  | iface t d v _ ih =>
    intro d he hlt; cases d <;> simp only [renD, reduceCtorEq, D.iface.injEq] at he
    obtain ⟨rfl, rfl⟩ := he
    exact .iface _ _ v (ih rfl (by simpa [ltD] using hlt))

def renB (r : Nat → Nat) : Blk → Blk
  | .rows es sz => .rows (renLL r es) sz
  | .grow es sz => .grow (renLL r es) sz
  | .map es => .map (es.map fun p => (p.1, renD r p.2))
def ltB (n : Nat) : Blk → Bool
  | .rows es _ => ltLL n es
  | .grow es _ => ltLL n es
  | .map es => es.all fun p => ltD n p.2

theorem BRep.ren {w : World} {I : Nat → Prop} {mu mu' : Nat → Option Value} {r : Nat → Nat} {n b : Nat} (hmu : ∀ b, b < n → mu' b = mu (r b)) {x : Blk} (hb : b < n) (h : BRep w I mu (r b) (renB r x)) (hl : ltB n x = true) : BRep w I mu' b x := by
  cases x with
  | rows es sz =>
    obtain ⟨k, T, us, h1, h2, h3, h4, h5⟩ := h
    rw [renLL_length] at h3 h4 h5
    have h4' : ∀ i, i < es.length → (nr es i).length = sz := fun i hi => by have := h4 i hi; rw [nr_renLL hi, renL_length] at this; exact this
    exact ⟨k, T, us, by rw [hmu b hb]; exact h1, h2, h3, h4', fun i j hi hj => (h5 i j hi hj).ren hmu (by rw [nr_renLL hi, nd_renL (by rw [h4' i hi]; exact hj)]) (ltL_nd (ltLL_nr hl i) j)⟩
  | grow es sz =>
    obtain ⟨A, cap, T, us, h1, h2, h3, h4⟩ := h
    rw [renLL_length] at h1 h2 h4
    have h2' : ∀ i, i < es.length → (nr es i).length = sz := fun i hi => by have := h2 i hi; rw [nr_renLL hi, renL_length] at this; exact this
    refine ⟨A, cap, T, us, by rw [hmu b hb]; exact h1, h2', h3, ?_⟩
    rcases h4 with ⟨h5, h6⟩ | ⟨k, g0, g1, g2, g3, g4, g5⟩
    · refine .inl ⟨h5, ?_⟩
      rw [renLL_eq] at h6
      exact List.map_eq_nil_iff.1 h6
    · exact .inr ⟨k, g0, g1, g2, g3, g4, fun i j hi hj => (g5 i j hi hj).ren hmu (by rw [nr_renLL hi, nd_renL (by rw [h2' i hi]; exact hj)]) (ltL_nd (ltLL_nr hl i) j)⟩
  | map es =>
    obtain ⟨k, l, clock, h1, h2, h3, h4⟩ := h
    refine ⟨k, l, clock, by rw [hmu b hb]; exact h1, h2, by rw [h3]; simp [Function.comp_def], fun i x y hx hy => (h4 i x (y.1, renD r y.2) hx (by simp [hy])).ren hmu rfl (List.all_eq_true.1 hl y (List.mem_of_getElem? hy))⟩

/-- The slots of the second state are, blocks named anew, in the first. -/
def subEnv (r : Nat → Nat) (e : Env) : Env → Prop
  | [] => True
  | (t, d) :: l => lo (e.get t) (renD r d) ∧ subEnv r e l
def subHp (r : Nat → Nat) (h : Hp) : Hp → Prop
  | [] => True
  | (b, x) :: l => (match look h (r b) with
    | some y => loB y (renB r x)
    | none => False) ∧ subHp r h l
def okEnv (n : Nat) : Env → Bool
  | [] => true
  | (_, d) :: l => ltD n d && okEnv n l
def okHp (n : Nat) : Hp → Bool
  | [] => true
  | (b, x) :: l => decide (b < n) && ltB n x && okHp n l
def injOn (r : Nat → Nat) (h : Hp) : Bool := (h.map (·.1)).all fun b => (h.map (·.1)).all fun c => !(r b == r c) || b == c

theorem subEnv_get {r : Nat → Nat} {e : Env} {n : Nat} : ∀ {l : Env}, subEnv r e l → okEnv n l = true → ∀ t, (∃ d, l.get t = d ∧ lo (e.get t) (renD r d) ∧ ltD n d = true) ∨ l.get t = .any
  | [], _, _, t => .inr rfl
  | (k, d) :: l, h, ho, t => by
    simp only [okEnv, Bool.and_eq_true] at ho
    by_cases hk : k = t
    · subst hk; exact .inl ⟨d, by simp [Env.get], h.1, ho.1⟩
    · have : (k == t) = false := by simp [hk]
      simp only [Env.get, this, cond_false]
      exact subEnv_get h.2 ho.2 t
theorem subHp_look {r : Nat → Nat} {e : Hp} {n : Nat} : ∀ {l : Hp}, subHp r e l → okHp n l = true → ∀ b x, look l b = some x → (∃ y, look e (r b) = some y ∧ loB y (renB r x)) ∧ b < n ∧ ltB n x = true ∧ b ∈ l.map (·.1)
  | [], _, _, b, x, hx => by simp [look] at hx
  | (k, y) :: l, h, ho, b, x, hx => by
    simp only [okHp, Bool.and_eq_true] at ho
    by_cases hk : k = b
    · subst hk
      simp only [look, beq_self_eq_true, cond_true, Option.some.injEq] at hx
      subst hx
      refine ⟨?_, ?_⟩
      · have h1 := h.1
        split at h1
        · rename_i y hy; exact ⟨y, hy, h1⟩
        · exact h1.elim
      exact ⟨of_decide_eq_true ho.1.1, ho.1.2, by simp⟩
    · have : (k == b) = false := by simp [hk]
      simp only [look, this, cond_false] at hx
      have := subHp_look h.2 ho.2 b x hx
      exact ⟨this.1, this.2.1, this.2.2.1, List.mem_cons_of_mem _ this.2.2.2⟩

theorem Weak.sub {s S : St} (r : Nat → Nat) (he : subEnv r s.env S.env) (hh : subHp r s.hp S.hp) (hok : okEnv S.nx S.env = true) (hokh : okHp S.nx S.hp = true) (hinj : injOn r S.hp = true) : Weak s S := by
  intro w0 M0 I0 nt I mu a w rel
  let mu' : Nat → Option Value := fun b => if b < S.nx then mu (r b) else none
  have hmu : ∀ b, b < S.nx → mu' b = mu (r b) := fun b hb => by simp [mu', hb]
  refine ⟨mu', rel.size, rel.defers, fun t => ?_, ⟨fun b x hx => ?_, fun b x v k hx hv hk => ?_, fun b c x y v u k hx hy hv hu hk hk' => ?_, fun b hb => ?_, rel.w.lt, rel.w.os, rel.w.tape, rel.w.output, rel.w.grown, rel.w.old, rel.w.iold, rel.w.inew⟩⟩
  · rcases subEnv_get he hok t with ⟨d, h1, h2, h3⟩ | h1
    · have := rel.env t
      have e1 : s.fs.env t = s.env.get t := rfl
      rw [e1] at this
      show Rep w I mu' (S.env.get t) _
      rw [h1]
      exact (this.lo h2).ren hmu rfl h3
    · show Rep w I mu' (S.env.get t) _
      rw [h1]; exact .any _
  · obtain ⟨⟨y, h1, h1'⟩, h2, h3, _⟩ := subHp_look hh hokh b x hx
    exact (BRep.lo (rel.w.blk (r b) _ h1) h1').ren hmu h2 h3
  · obtain ⟨⟨y, h1, _⟩, h2, h3, _⟩ := subHp_look hh hokh b x hx
    rw [hmu b h2] at hv
    exact rel.w.loc (r b) _ v k h1 hv hk
  · obtain ⟨⟨_, h1, _⟩, h2, h3, m1⟩ := subHp_look hh hokh b x hx
    obtain ⟨⟨_, g1, _⟩, g2, g3, m2⟩ := subHp_look hh hokh c y hy
    rw [hmu b h2] at hv
    rw [hmu c g2] at hu
    have := rel.w.inj (r b) (r c) _ _ v u k h1 g1 hv hu hk hk'
    have := List.all_eq_true.1 (List.all_eq_true.1 hinj b m1) c m2
    simp_all
  · have : ¬ b < S.nx := Nat.not_lt.2 hb
    simp [mu', this]

/-! what the kinds of things tell by themselves -/
mutual
def szD : D → Prop
  | .val v => okP v
  | .agg cs => szL cs
  | .tup cs => szL cs
  | .slice es _ => es.length ≤ 9223372036854775807 ∧ szLL es
  | .ptr cs _ => szL cs
  | .iface _ d => szD d
  | .func _ fs cs => szL fs ∧ szL cs
  | _ => True
def szL : List D → Prop
  | [] => True
  | d :: l => szD d ∧ szL l
def szLL : List (List D) → Prop
  | [] => True
  | d :: l => szL d ∧ szLL l
end
theorem szL_of : ∀ {l : List D}, (∀ i, i < l.length → szD (nd l i)) → szL l
  | [], _ => trivial
  | d :: l, h => ⟨by simpa [nd] using h 0 (by simp), szL_of fun i hi => by simpa [nd] using h (i + 1) (by simpa using hi)⟩
theorem szLL_of : ∀ {l : List (List D)}, (∀ i, i < l.length → szL (nr l i)) → szLL l
  | [], _ => trivial
  | d :: l, h => ⟨by simpa [nr] using h 0 (by simp), szLL_of fun i hi => by simpa [nr] using h (i + 1) (by simpa using hi)⟩
theorem szL_map {α : Type} {f : α → D} {l : List α} : szL (l.map f) ↔ ∀ x ∈ l, szD (f x) := by
  induction l <;> simp [szL, *]
theorem szLL_map {α : Type} {f : α → List D} {l : List α} : szLL (l.map f) ↔ ∀ x ∈ l, szL (f x) := by
  induction l <;> simp [szLL, *]
theorem Rep.sz {w : World} {I : Nat → Prop} {mu : Nat → Option Value} {d : D} {v : Value} (h : Rep w I mu d v) : szD d := by
  induction h with
  | any v => trivial
  | val v ok => exact ok
  | cond g d v _ _ _ => trivial
  | agg cs us hl _ ih => exact szL_of ih
  | tup cs us hl _ ih => exact szL_of ih
  | slice es t A k o sz cap u hA hc ht hm hlen hcell _ ih =>
    exact ⟨Nat.le_trans hc hm, szLL_of fun i hi => szL_of fun j hj => ih i j hi (by rw [hlen i hi] at hj; exact hj)⟩
  | ptr cs off k o u hk hcell _ ih => exact szL_of ih
  | ref _ _ _ _ _ _ => trivial
  | sref _ _ _ _ _ _ _ => trivial
  | gref _ _ _ _ _ => trivial
  | mref _ _ _ => trivial
  | func fn fs cs us vs hl hk _ _ ih ih' => exact ⟨szL_of ih, szL_of ih'⟩
  | iface t d v _ ih => exact ih
def szB : Blk → Prop
  | .rows es _ => szLL es
  | .grow es _ => es.length ≤ 9223372036854775807 ∧ szLL es
  | .map es => ∀ p ∈ es, szD p.2
theorem BRep.sz {w : World} {I : Nat → Prop} {mu : Nat → Option Value} {b : Nat} {x : Blk} (h : BRep w I mu b x) : szB x := by
  cases x with
  | rows es sz =>
    obtain ⟨k, T, us, h1, h2, h3, h4, h5⟩ := h
    exact szLL_of fun i hi => szL_of fun j hj => (h5 i j hi (by rw [h4 i hi] at hj; exact hj)).sz
  | grow es sz =>
    obtain ⟨A, cap, T, us, h1, h2, h3, h4⟩ := h
    rcases h4 with ⟨h5, h6⟩ | ⟨k, q0, q1, q2, q3, q4, q5⟩
    · subst h6; exact ⟨by simp, trivial⟩
    · exact ⟨Nat.le_trans q3 h3, szLL_of fun i hi => szL_of fun j hj => (q5 i j hi (by rw [h2 i hi] at hj; exact hj)).sz⟩
  | map es =>
    obtain ⟨k, l, clock, h1, h2, h3, h4⟩ := h
    intro p hp
    obtain ⟨i, hi⟩ := List.getElem?_of_mem hp
    have hl : l.length = es.length := by have := congrArg List.length h3; simpa using this
    have hlt := (List.getElem?_eq_some_iff.1 hi).1
    exact (h4 i (l[i]'(by omega)) p (List.getElem?_eq_getElem (by omega)) hi).sz
theorem AWp.sz {P : Program} {nt : Nat} {c : Code} {Q : AE → St → Prop} {s : St} (h : (∀ t, szD (s.env.get t)) → (∀ b x, look s.hp b = some x → szB x) → AWp P nt c Q s) : AWp P nt c Q s := fun w0 M0 I0 I mu a w r =>
  h (fun t => (r.env t).sz) (fun b x hx => BRep.sz (r.w.blk b x hx)) w0 M0 I0 I mu a w r
attribute [push_cast] szD szL szLL szB szLL_map szL_map okP
attribute [push_cast] VCS_skip VCS_ret VCS_exit VCS_label VCS_seq VCS_block VCS_cond VCS_region1t VCS_region1f VCS_region2t VCS_region2f VCS_loop VCS_scope VCS_rangeFunc seqW_normal seqW_exit seqW_goto seqW_ret seqW_panic CondVC subEnv subHp okEnv okHp injOn ltD ltL ltLL ltB renD renL renLL renB
end Go.Ab
