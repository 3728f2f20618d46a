/- The abstract layer: calls through function values; functions without a text. -/
import Derived.Test.YtjopicjammmbjaaGreatDoorEvB
set_option maxHeartbeats 4000000
set_option maxRecDepth 20000
set_option linter.unusedVariables false
set_option linter.unusedSimpArgs false
namespace Go.Ab
open Go.RowKit

/-- Two lists, entry by entry. -/
def RepL (w : World) (I : Nat → Prop) (mu : Nat → Option Value) (ds : List D) (vs : List Value) : Prop := vs.length = ds.length ∧ ∀ i, i < ds.length → Rep w I mu (nd ds i) (nv vs i)
theorem RepL.append {w : World} {I : Nat → Prop} {mu : Nat → Option Value} {ds es : List D} {vs us : List Value} (h : RepL w I mu ds vs) (k : RepL w I mu es us) : RepL w I mu (ds ++ es) (vs ++ us) := by
  refine ⟨by simp [h.1, k.1], fun i hi => ?_⟩
  by_cases hlt : i < ds.length
  · have e1 : nd (ds ++ es) i = nd ds i := by simp [nd, List.getD_eq_getElem?_getD, List.getElem?_append_left hlt]
    have e2 : nv (vs ++ us) i = nv vs i := by simp [nv, List.getD_eq_getElem?_getD, List.getElem?_append_left (show i < vs.length by rw [h.1]; exact hlt)]
    rw [e1, e2]; exact h.2 i hlt
  · have hge : ds.length ≤ i := Nat.le_of_not_lt hlt
    have e1 : nd (ds ++ es) i = nd es (i - ds.length) := by simp [nd, List.getD_eq_getElem?_getD, List.getElem?_append_right hge]
    have e2 : nv (vs ++ us) i = nv us (i - ds.length) := by
      have : vs.length ≤ i := by rw [h.1]; exact hge
      simp [nv, List.getD_eq_getElem?_getD, List.getElem?_append_right this, h.1]
    rw [e1, e2]; exact k.2 _ (by simp at hi; omega)
theorem RepL.args {w : World} {I : Nat → Prop} {mu : Nat → Option Value} {ev : Operand → D} {a : Act} {args : Array Operand} (h : ∀ x ∈ args.toList, Rep w I mu (ev x) (a.eval x)) : RepL w I mu (args.toList.map ev) (args.toList.map a.eval) := by
  refine ⟨by simp, fun i hi => ?_⟩
  simp only [List.length_map, Array.length_toList] at hi
  have h1 : nd (args.toList.map ev) i = ev args[i] := by simp [nd, List.getD_eq_getElem?_getD, hi]
  have h2 : nv (args.toList.map a.eval) i = a.eval args[i] := by simp [nv, List.getD_eq_getElem?_getD, hi]
  rw [h1, h2]; exact h _ (by simp)
theorem RepL.unmu {w : World} {I : Nat → Prop} {mu mu' : Nat → Option Value} {ds : List D} {vs : List Value} (h : RepL w I mu ds vs) (hp : pureL ds = true) : RepL w I mu' ds vs :=
  ⟨h.1, fun i hi => (h.2 i hi).unmu (pureL_nd hp i)⟩

/-- What a call that leaves all that was there does to the world's part. -/
theorem WRel.below {w0 w w' : World} {M0 I0 fr I I' : Nat → Prop} {mu : Nat → Option Value} {h : Nat → Option Blk} (hw : WRel w0 M0 I0 fr I mu h w) (h1 : ∀ k, I k → I' k) (h2 : ∀ k, I' k → I k ∨ w.heap.size ≤ k) (h3 : ∀ k, I' k → k < w'.heap.size) (h4 : Below w.heap.size w w') : WRel w0 M0 I0 fr I' mu h w' := by
  have hbl : ∀ k, k < w.heap.size → w'.heap[k]? = w.heap[k]? := fun k hk => h4.block k hk
  have hext : Ext I mu w I' mu w' := ⟨h1, fun _ _ h => h, fun k hk => hbl k (hw.lt k hk)⟩
  refine ⟨fun b x hx => (hw.blk b x hx).mono hext.w hext.i hext.m fun u k hu hk => hbl k (hw.loc b x u k hx hu hk).2.2, fun b x u k hx hu hk => ?_, hw.inj, hw.fresh, h3, h4.os.trans hw.os, h4.tape.trans hw.tape, h4.output.trans hw.output, Nat.le_trans hw.grown h4.size, fun k hk hnm => (hbl k (by have := hw.grown; omega)).trans (hw.old k hk hnm), fun k hk => h1 k (hw.iold k hk), fun k hk => ?_⟩
  · have := hw.loc b x u k hx hu hk
    exact ⟨this.1, fun hI => by rcases h2 k hI with h5 | h5; exact this.2.1 h5; omega, Nat.lt_of_lt_of_le this.2.2 h4.size⟩
  · rcases h2 k hk with h5 | h5
    · exact hw.inew k h5
    · exact .inr (.inr (Nat.le_trans hw.grown h5))
theorem WRel.drop_id {w0 w : World} {M0 I0 fr I : Nat → Prop} {mu : Nat → Option Value} {h : Nat → Option Blk} (hw : WRel w0 M0 I0 fr I mu h w) {id : Nat} : WRel w0 M0 I0 (fun b => fr b ∧ b ≠ id) I mu h w :=
  ⟨hw.blk, hw.loc, hw.inj, fun b hb => hw.fresh b hb.1, hw.lt, hw.os, hw.tape, hw.output, hw.grown, hw.old, hw.iold, hw.inew⟩

/-- A call through a function value. -/
theorem does_callV {P : Program} {id : Nat} {ev : Operand → D} {hp : Nat → Option Blk} {dst : Option Tmp} {T : TypeId} {pos : String} {af : Array Edge} {gd : Option (Nat × Bool)} {x : Operand} {f : FuncId} {args : Array Operand} {ts : Array TypeId} {fs cs ds : List D} {r : D}
    (hx : ev x = .func (.func f) fs cs) (ha : fs ++ args.toList.map ev ++ cs = ds) (hpu : pureL ds = true) (hc : PCall P f ds r) : Does P ⟨dst, .call { callee := .value x, args := args, argTypes := ts }, T, pos, af, gd⟩ id ev hp ⟨r, [], []⟩ := by
  intro w0 M0 I0 fr I mu h a w hw hid hxs hb K Q hK
  subst ha
  have hxr := hxs x (by simp [Op.operands, Call.operands])
  rw [hx] at hxr
  have hargs := RepL.args (w := w) (I := I) (mu := mu) (ev := ev) (a := a) (args := args) fun y hy => hxs y (by simp [Op.operands, Call.operands]; exact .inr (by simpa using hy))
  generalize he : a.eval x = fv at hxr
  cases hxr with
  | func _ _ _ us vs hl hk h1 h2 =>
  have hall := ((RepL.append (RepL.append ⟨hl, h1⟩ hargs) ⟨hk, h2⟩).unmu (mu' := fun _ => none) hpu)
  unfold PCall at hc
  have hcall := hc.2 w I _ hw.lt hall.1 hall.2
  unfold Oper.wp
  have hrun : (execOp a.eval ⟨dst, .call { callee := .value x, args := args, argTypes := ts }, T, pos, af, gd⟩).run P w = .ok (.enter f (us ++ args.toList.map a.eval ++ vs).toArray) w := by
    have e1 : us.toArray ++ args.map a.eval ++ vs.toArray = (us ++ args.toList.map a.eval ++ vs).toArray := by apply Array.ext'; simp
    simp only [execOp, resolve, he, Deferred.ofValue, Sem.run_bind, Sem.run_pure, Result.andThen, invoke]
    exact (congrArg (fun z => (callFunc f z).run P w) e1).trans (run_callFunc hc.1 _ w)
  rw [hrun, Oper.upon_enter]
  refine hcall.mono fun e w' ⟨v, I', he, hv, h1, h2, h3, h4⟩ => ?_
  subst he
  have hext : Ext I mu w I' mu w' := ⟨h1, fun _ _ h => h, fun k hk => h4.block k (hw.lt k hk)⟩
  exact hK v w' I' mu hext (hw.below h1 h2 h3 h4).drop_id (hv.mono (fun _ _ => rfl) (fun _ h => h) (fun _ _ h => by cases h))

theorem RunX.callV {P : Program} {ops : Array Oper} {nx : Nat} {dst : Option Tmp} {T : TypeId} {ps : String} {af : Array Edge} {gd : Option (Nat × Bool)} {x : Operand} {f : FuncId} {args : Array Operand} {ts : Array TypeId} {fs cs ds : List D} {r : D} {l : List Oper} {pos : Nat} {acc : List Eff} {s : St} {K : List Eff → St → Prop}
    (hx : evO s.env.get x = .func (.func f) fs cs) (hc : PCall P f ds r) (hg : gd = none ∨ ∃ j want t, gd = some (j, want) ∧ guardT ops j = some t ∧ gOf (s.env.get t) want = some true) (ha : fs ++ args.toList.map (evO s.env.get) ++ cs = ds) (hpu : pureL ds = true)
    (hk : Go P ops nx l (pos + 1) (⟨r, [], []⟩ :: acc) (s.app dst ⟨r, [], []⟩) K) : RunX P ops nx (⟨dst, .call { callee := .value x, args := args, argTypes := ts }, T, ps, af, gd⟩ :: l) pos acc s K := by
  unfold RunX
  refine ⟨_, ?_, by have := Go.run hk; unfold RunX at this; exact this⟩
  rcases hg with rfl | ⟨j, want, t, rfl, ht, hg⟩
  · exact Sound.plain rfl (does_callV hx ha hpu hc)
  · exact Sound.guard_true rfl ht hg (does_callV hx ha hpu hc)

/-- A function without a text that yields a value and does nothing. -/
def Pext (P : Program) (f : FuncId) (ds : List D) (r : D) : Prop :=
  ∀ (w : World) (I : Nat → Prop) (mu : Nat → Option Value) (vs : List Value), RepL w I mu ds vs → ∃ v, (callFunc f vs.toArray).run P w = .ok (.value v) w ∧ Rep w I mu r v
theorem does_ext {P : Program} {id : Nat} {ev : Operand → D} {hp : Nat → Option Blk} {dst : Option Tmp} {T : TypeId} {pos : String} {af : Array Edge} {gd : Option (Nat × Bool)} {f : FuncId} {args : Array Operand} {ts : Array TypeId} {ds : List D} {r : D}
    (ha : args.toList.map ev = ds) (hc : Pext P f ds r) : Does P ⟨dst, .call { callee := .value (.func f), args := args, argTypes := ts }, T, pos, af, gd⟩ id ev hp ⟨r, [], []⟩ := by
  subst ha
  refine Does.quiet fun _ _ _ _ I mu _ a w hw hx _ => ?_
  have hargs := RepL.args (w := w) (I := I) (mu := mu) (ev := ev) (a := a) (args := args) fun y hy => hx y (by simp [Op.operands, Call.operands]; exact .inr (by simpa using hy))
  obtain ⟨v, h1, h2⟩ := hc w I mu _ hargs
  refine ⟨v, ?_, h2⟩
  have e1 : args.map a.eval = (args.toList.map a.eval).toArray := by apply Array.ext'; simp
  simp only [execOp, resolve, Act.eval, Deferred.ofValue, Sem.run_bind, Sem.run_pure, Result.andThen, invoke]
  have e2 : #[] ++ args.map a.eval ++ #[] = (args.toList.map a.eval).toArray := by rw [e1]; simp
  exact (congrArg (fun z => (callFunc f z).run P w) e2).trans h1
theorem RunX.ext {P : Program} {ops : Array Oper} {nx : Nat} {dst : Option Tmp} {T : TypeId} {ps : String} {af : Array Edge} {gd : Option (Nat × Bool)} {f : FuncId} {args : Array Operand} {ts : Array TypeId} {ds : List D} {r : D} {l : List Oper} {pos : Nat} {acc : List Eff} {s : St} {K : List Eff → St → Prop}
    (hc : Pext P f ds r) (hg : gd = none ∨ ∃ j want t, gd = some (j, want) ∧ guardT ops j = some t ∧ gOf (s.env.get t) want = some true) (ha : args.toList.map (evO s.env.get) = ds)
    (hk : Go P ops nx l (pos + 1) (⟨r, [], []⟩ :: acc) (s.app dst ⟨r, [], []⟩) K) : RunX P ops nx (⟨dst, .call { callee := .value (.func f), args := args, argTypes := ts }, T, ps, af, gd⟩ :: l) pos acc s K := by
  unfold RunX
  refine ⟨_, ?_, by have := Go.run hk; unfold RunX at this; exact this⟩
  rcases hg with rfl | ⟨j, want, t, rfl, ht, hg⟩
  · exact Sound.plain rfl (does_ext ha hc)
  · exact Sound.guard_true rfl ht hg (does_ext ha hc)
theorem Pext.of {P : Program} {k : FuncId} {fn : Func} {e : Array Value → Sem Value} {ds : List D} {r : D} (hf : P.funcs[k]? = some fn) (hn : (fn.name == "runtime.NumGoroutine") = false) (hb : fn.body.isNone = true) (h1 : Extern.findNext fn = none) (h2 : Extern.find fn = some e)
    (h : ∀ (w : World) (I : Nat → Prop) (mu : Nat → Option Value) (vs : List Value), RepL w I mu ds vs → ∃ v, (e vs.toArray).run P w = .ok v w ∧ Rep w I mu r v) : Pext P k ds r := by
  intro w I mu vs hr
  obtain ⟨v, g1, g2⟩ := h w I mu vs hr
  refine ⟨v, ?_, g2⟩
  have hn' : fn.name ≠ "runtime.NumGoroutine" := by simpa using hn
  have hb' : fn.body = none := by simpa using hb
  simp [callFunc, hf, hn', hb', h1, h2, g1, Result.andThen]
theorem RepL.two {w : World} {I : Nat → Prop} {mu : Nat → Option Value} {d e : D} {vs : List Value} (h : RepL w I mu [d, e] vs) : ∃ v u, vs = [v, u] ∧ Rep w I mu d v ∧ Rep w I mu e u := by
  obtain ⟨h1, h2⟩ := h
  match vs, h1 with
  | [v, u], _ => exact ⟨v, u, rfl, h2 0 (by simp), h2 1 (by simp)⟩
end Go.Ab
