/- The abstract layer, part 12: the evaluator of regions. -/
import Derived.Test.YtblbhfnpneliiaaGreatDoorAbOps8
namespace Go.Ab
open Go.RowKit

def nilE : D → Res
  | .ptr cs off => pv (.ptr cs off)
  | .ref b i off sz => pv (.ref b i off sz)
  | .func (.func f) fs cs => pv (.func (.func f) fs cs)
  | _ => none

def tq (P : Program) (t : TypeId) (k : TI → Res) : Res :=
  match tiOf P t with
  | some ti => k ti
  | none => none
def elemQ (P : Program) (t : TypeId) (k : TI → TI → Res) : Res := tq P t fun ti => match ti.sh with
  | .slice e => tq P e fun te => k ti te
  | _ => none
theorem tq_spec {P : Program} {t : TypeId} {k : TI → Res} {e : Eff} {c : Prop} (h : tq P t k = some (e, c)) : ∃ ti, tiOf P t = some ti ∧ k ti = some (e, c) := by
  unfold tq at h
  split at h
  · rename_i ti ht; exact ⟨ti, ht, h⟩
  · cases h
theorem elemQ_spec {P : Program} {t : TypeId} {k : TI → TI → Res} {e : Eff} {c : Prop} (h : elemQ P t k = some (e, c)) : ∃ ti te e', tiOf P t = some ti ∧ ti.sh = .slice e' ∧ tiOf P e' = some te ∧ k ti te = some (e, c) := by
  obtain ⟨ti, h1, h2⟩ := tq_spec h
  split at h2
  · rename_i e' hs
    obtain ⟨te, h3, h4⟩ := tq_spec h2
    exact ⟨ti, te, e', h1, hs, h3, h4⟩
  · cases h2

def callE (P : Program) (id : Nat) (ev : Operand → D) (hp : Nat → Option Blk) (b : Builtin) (args : List Operand) (ts : List TypeId) : Res :=
  match b, args, ts with
  | .len, [x], [t] => tq P t fun ti => lenE hp ti (ev x)
  | .min, [x, y], _ => minE (ev x) (ev y)
  | .max, [x, y], _ => maxE (ev x) (ev y)
  | .append, [x, y], [t, t'] => if t = t' then elemQ P t fun _ te => appendE id hp te (ev x) (ev y) else none
  | _, _, _ => none

def stepE (P : Program) (id : Nat) (ev : Operand → D) (hp : Nat → Option Blk) (op : Op) : Res :=
  match op with
  | .move x => pv (ev x)
  | .assign x => pv (ev x)
  | .alloc t => tq P t fun ti => allocE id ti
  | .box _ x => boxE id (ev x)
  | .build t ps => tq P t fun ti => buildE ti (ps.toList.map fun p => (p.1, ev p.2))
  | .buildSlice t n ps => elemQ P t fun _ te => buildSE id te n (ps.toList.map fun p => (p.1, ev p.2))
  | .load t a => tq P t fun ti => loadE ti hp (ev a)
  | .store t a x => tq P t fun ti => storeE ti hp (ev a) (ev x)
  | .nilCheck x => nilE (ev x)
  | .binOp op T x y _ => binE P op T (ev x) (ev y)
  | .unOp op _ x => unE op (ev x)
  | .convert s d x => tq P s fun ts => tq P d fun td => convE ts td (ev x)
  | .field t x i => tq P t fun ti => fieldE ti i (ev x)
  | .fieldAddr t x i => tq P t fun ti => fieldAddrE ti i (ev x)
  | .indexAddr t x i => elemQ P t fun _ te => indexAddrE ti0 te (ev x) (ev i)
  | .index t x i => tq P t fun ti => indexE ti (ev x) (ev i)
  | .slice t x lo hi none => tq P t fun ti => match ti.sh with
    | .str => sliceE ti ti (ev x) (lo.map ev) (hi.map ev)
    | .slice e => tq P e fun te => sliceE ti te (ev x) (lo.map ev) (hi.map ev)
    | _ => none
  | .extract x i => extractE i (ev x)
  | .makeSlice t l c => elemQ P t fun _ te => makeE id te (ev l) (ev c)
  | .makeFunc fn fs cs => pv (.func fn (fs.toList.map ev) (cs.toList.map ev))
  | .makeInterface t x => pvc (.iface t (ev x)) (P.concrete t = true)
  | .call c => match c.callee with
    | .builtin b => callE P id ev hp b c.args.toList c.argTypes.toList
    | _ => none
  | _ => none
where ti0 : TI := ⟨0, false, [], 0, .other⟩

theorem run_v {P : Program} (s : Sem Value) (w : World) : (do pure (Next.value (← s)) : Sem Next).run P w = (s.run P w).andThen fun v w' => .ok (.value v) w' := by simp
theorem run_u {P : Program} (s : Sem Unit) (w : World) : (do s; pure Next.skip : Sem Next).run P w = (s.run P w).andThen fun _ w' => .ok .skip w' := by simp

section
variable {P : Program} {id : Nat} {ev : Operand → D} {hp : Nat → Option Blk} {dst : Option Tmp} {T : TypeId} {pos : String} {af : Array Edge} {gd : Option (Nat × Bool)} {e : Eff} {c : Prop}

theorem pairs_rep {w : World} {I : Nat → Prop} {mu : Nat → Option Value} {ps : Array (Nat × Operand)} {a : Act} (hx : ∀ x, x ∈ (ps.toList.map (·.2)).toArray → Rep w I mu (ev x) (a.eval x)) :
    (ps.toList.map fun p => (p.1, a.eval p.2)).length = (ps.toList.map fun p => (p.1, ev p.2)).length ∧
    ∀ (i : Nat) (p : Nat × D) (q : Nat × Value), (ps.toList.map fun p => (p.1, ev p.2))[i]? = some p → (ps.toList.map fun p => (p.1, a.eval p.2))[i]? = some q → p.1 = q.1 ∧ Rep w I mu p.2 q.2 := by
  refine ⟨by simp, fun i p q hp hq => ?_⟩
  simp only [List.getElem?_map, Option.map_eq_some_iff] at hp hq
  obtain ⟨x, hx1, rfl⟩ := hp
  obtain ⟨y, hy1, rfl⟩ := hq
  rw [hx1] at hy1
  cases hy1
  have hm := List.mem_of_getElem? hx1
  exact ⟨rfl, hx x.2 (by simp; exact ⟨x.1, by simpa using hm⟩)⟩

theorem call_does {b : Builtin} {args : Array Operand} {ts : Array TypeId} (he : callE P id ev hp b args.toList ts.toList = some (e, c)) (hc : c) : Does P ⟨dst, .call { callee := .builtin b, args := args, argTypes := ts }, T, pos, af, gd⟩ id ev hp e := by
  have hops : ∀ x, x ∈ args.toList → x ∈ (Op.call { callee := .builtin b, args := args, argTypes := ts }).operands := fun x hx => by simpa [Op.operands, Call.operands] using hx
  have hex : ∀ (a : Act) (w : World) (F : Array Value → Sem Value), (∀ cs, builtin b ts T cs (args.map a.eval) = do pure (.value (← F (args.map a.eval)))) →
      (execOp a.eval ⟨dst, .call { callee := .builtin b, args := args, argTypes := ts }, T, pos, af, gd⟩).run P w = ((F (args.map a.eval)).run P w).andThen fun v w' => .ok (.value v) w' := by
    intro a w F hF
    simp only [execOp, resolve, Sem.run_bind, Sem.run_pure, Result.andThen, invoke]
    rw [hF]
    exact run_v _ w
  unfold callE at he
  split at he
  · rename_i x t ha hts
    obtain ⟨ti, ht, he⟩ := tq_spec he
    refine Does.of_runs (fun ρ => Builtin.len_ ts T (args.map ρ)) (fun a w => hex a w (fun vs => Builtin.len_ ts T vs) fun _ => rfl) ?_
    intro w0 M0 I0 fr I mu h a w hw _ hx hb
    have e1 : args.map a.eval = #[a.eval x] := by apply Array.ext'; simp [ha]
    have e2 : ts = #[t] := by apply Array.ext'; simpa using hts
    rw [e1, e2]
    exact runs_len ht he hc hw (hx x (hops x (by simp [ha]))) hb id
  · rename_i x y ha
    refine Does.of_runs (fun ρ => Builtin.min_ ts T (args.map ρ)) (fun a w => hex a w (fun vs => Builtin.min_ ts T vs) fun _ => rfl) ?_
    intro w0 M0 I0 fr I mu h a w hw _ hx hb
    have e1 : args.map a.eval = #[a.eval x, a.eval y] := by apply Array.ext'; simp [ha]
    rw [e1]
    exact runs_min he hw (hx x (hops x (by simp [ha]))) (hx y (hops y (by simp [ha]))) id
  · rename_i x y ha
    refine Does.of_runs (fun ρ => Builtin.max_ ts T (args.map ρ)) (fun a w => hex a w (fun vs => Builtin.max_ ts T vs) fun _ => rfl) ?_
    intro w0 M0 I0 fr I mu h a w hw _ hx hb
    have e1 : args.map a.eval = #[a.eval x, a.eval y] := by apply Array.ext'; simp [ha]
    rw [e1]
    exact runs_max he hw (hx x (hops x (by simp [ha]))) (hx y (hops y (by simp [ha]))) id
  · rename_i x y t t' ha hts
    split at he
    · rename_i htt
      subst htt
      obtain ⟨ti, te, e', ht, hs, hte, he⟩ := elemQ_spec he
      refine Does.of_runs (fun ρ => Builtin.append_ ts T (args.map ρ)) (fun a w => hex a w (fun vs => Builtin.append_ ts T vs) fun _ => rfl) ?_
      intro w0 M0 I0 fr I mu h a w hw hid hx hb
      have e1 : args.map a.eval = #[a.eval x, a.eval y] := by apply Array.ext'; simp [ha]
      have e2 : ts = #[t, t] := by apply Array.ext'; simpa using hts
      rw [e1, e2]
      exact runs_append ht hs hte he hc hw hid (hx x (hops x (by simp [ha]))) (hx y (hops y (by simp [ha]))) hb
    · cases he
  · cases he

theorem optRep_map {w : World} {I : Nat → Prop} {mu : Nat → Option Value} {o : Option Operand} {a : Act} (h : ∀ x, o = some x → Rep w I mu (ev x) (a.eval x)) : OptRep w I mu (o.map ev) (o.map a.eval) := by
  cases o with
  | none => trivial
  | some x => exact h x rfl

theorem stepE_does {op : Op} (he : stepE P id ev hp op = some (e, c)) (hc : c) : Does P ⟨dst, op, T, pos, af, gd⟩ id ev hp e := by
  cases op <;> simp only [stepE] at he <;> try (cases he; done)
  case move x => simp only [pv, Option.some.injEq, Prod.mk.injEq] at he; obtain ⟨rfl, rfl⟩ := he; exact does_move x
  case assign x => simp only [pv, Option.some.injEq, Prod.mk.injEq] at he; obtain ⟨rfl, rfl⟩ := he; exact does_assign x
  case alloc t =>
    obtain ⟨ti, ht, he⟩ := tq_spec he
    exact Does.of_runs (fun _ => Instr.alloc t true (.tuple #[])) (fun a w => run_v _ w) fun w0 M0 I0 fr I mu h a w hw hid hx hb => runs_alloc ht he hc hw hid
  case box t x =>
    exact Does.of_runs (fun ρ => Instr.box t (ρ x)) (fun a w => run_v _ w) fun w0 M0 I0 fr I mu h a w hw hid hx hb => runs_box he hw hid (hx x (by simp [Op.operands]))
  case build t ps =>
    obtain ⟨ti, ht, he⟩ := tq_spec he
    refine Does.of_runs (fun ρ => Instr.build t (ps.toList.map fun p => (p.1, ρ p.2)).toArray) (fun a w => ?_) fun w0 M0 I0 fr I mu h a w hw hid hx hb => ?_
    · have : (ps.map fun (i, x) => (i, a.eval x)) = (ps.toList.map fun p => (p.1, a.eval p.2)).toArray := by apply Array.ext'; simp
      simp only [execOp]
      rw [this]
      exact run_v _ w
    · have := pairs_rep (ev := ev) (ps := ps) (a := a) (fun x hx' => hx x (by simpa [Op.operands] using hx'))
      exact runs_build ht he hc hw _ this.1 this.2 id
  case buildSlice t n ps =>
    obtain ⟨ti, te, e', ht, hs, hte, he⟩ := elemQ_spec he
    refine Does.of_runs (fun ρ => Instr.buildSlice t n (ps.toList.map fun p => (p.1, ρ p.2)).toArray) (fun a w => ?_) fun w0 M0 I0 fr I mu h a w hw hid hx hb => ?_
    · have : (ps.map fun (i, x) => (i, a.eval x)) = (ps.toList.map fun p => (p.1, a.eval p.2)).toArray := by apply Array.ext'; simp
      simp only [execOp]
      rw [this]
      exact run_v _ w
    · have := pairs_rep (ev := ev) (ps := ps) (a := a) (fun x hx' => hx x (by simpa [Op.operands] using hx'))
      exact runs_buildS ht hs hte he hc hw hid _ this.1 this.2
  case load t x =>
    obtain ⟨ti, ht, he⟩ := tq_spec he
    exact Does.of_runs (fun ρ => Instr.loadAt t (ρ x)) (fun a w => run_v _ w) fun w0 M0 I0 fr I mu h a w hw hid hx hb => runs_load ht he hc hw (hx x (by simp [Op.operands])) hb id
  case store t x y =>
    obtain ⟨ti, ht, he⟩ := tq_spec he
    have hd : e.d = .any := by
      unfold storeE at he
      split at he
      · split at he
        · split at he
          · simp only [Option.some.injEq, Prod.mk.injEq] at he; obtain ⟨rfl, _⟩ := he; rfl
          · cases he
        · cases he
      · cases he
    have he' : e = ⟨.any, e.up, e.rd⟩ := by cases e; simp at hd; simp [hd]
    rw [he']
    exact Does.of_runs_u (fun ρ => Instr.storeAt t (ρ x) (ρ y)) (fun a w => run_u _ w) fun w0 M0 I0 fr I mu h a w hw hid hx hb => (runs_store ht he hc hw (hx x (by simp [Op.operands])) (hx y (by simp [Op.operands])) hb id).2
  case nilCheck x =>
    unfold nilE at he
    split at he <;> first | (cases he; done) | skip
    all_goals
      rename_i hd
      simp only [pv, Option.some.injEq, Prod.mk.injEq] at he
      obtain ⟨rfl, rfl⟩ := he
      refine Does.quiet fun _ _ _ _ I mu _ a w _ hx _ => ⟨a.eval x, ?_, ?_⟩
      · have hx' := hx x (by simp [Op.operands])
        rw [hd] at hx'
        simp only [execOp]
        generalize a.eval x = v at hx' ⊢
        cases hx' <;> rfl
      · have hx' := hx x (by simp [Op.operands])
        rw [hd] at hx'
        exact hx'
  case binOp op t x y t' =>
    exact Does.of_runs (fun ρ => do eqGuard op t x y (ρ x) (ρ y); binOp op t (ρ x) (ρ y)) (fun a w => run_v _ w) fun w0 M0 I0 fr I mu h a w hw hid hx hb => runs_bin he hc hw (hx x (by simp [Op.operands])) (hx y (by simp [Op.operands])) id
  case unOp op t x =>
    exact Does.of_runs (fun ρ => Op.unary op (ρ x)) (fun a w => run_v _ w) fun w0 M0 I0 fr I mu h a w hw hid hx hb => runs_un he hw (hx x (by simp [Op.operands])) id
  case convert s d x =>
    obtain ⟨ts, hts, he⟩ := tq_spec he
    obtain ⟨td, htd, he⟩ := tq_spec he
    exact Does.of_runs (fun ρ => convert s d (ρ x)) (fun a w => run_v _ w) fun w0 M0 I0 fr I mu h a w hw hid hx hb => runs_conv hts htd he hw (hx x (by simp [Op.operands])) id
  case field t x i =>
    obtain ⟨ti, ht, he⟩ := tq_spec he
    exact Does.of_runs (fun ρ => Instr.field t (ρ x) i) (fun a w => run_v _ w) fun w0 M0 I0 fr I mu h a w hw hid hx hb => runs_field ht he hc hw (hx x (by simp [Op.operands])) id
  case fieldAddr t x i =>
    obtain ⟨ti, ht, he⟩ := tq_spec he
    exact Does.of_runs (fun ρ => Instr.fieldAt t (ρ x) i) (fun a w => run_v _ w) fun w0 M0 I0 fr I mu h a w hw hid hx hb => runs_fieldAddr ht he hc hw (hx x (by simp [Op.operands])) id
  case indexAddr t x i =>
    obtain ⟨ti, te, e', ht, hs, hte, he⟩ := elemQ_spec he
    exact Does.of_runs (fun ρ => Instr.indexAt t (ρ x) (ρ i)) (fun a w => run_v _ w) fun w0 M0 I0 fr I mu h a w hw hid hx hb => runs_indexAddr (ti := ti) ht hs hte he hc hw (hx x (by simp [Op.operands])) (hx i (by simp [Op.operands])) id
  case index t x i =>
    obtain ⟨ti, ht, he⟩ := tq_spec he
    exact Does.of_runs (fun ρ => Instr.index t (ρ x) (ρ i)) (fun a w => run_v _ w) fun w0 M0 I0 fr I mu h a w hw hid hx hb => runs_index ht he hc hw (hx x (by simp [Op.operands])) (hx i (by simp [Op.operands])) id
  case slice t x lo hi mx =>
    cases mx with
    | some m => cases he
    | none =>
      simp only at he
      obtain ⟨ti, ht, he⟩ := tq_spec he
      refine Does.of_runs (fun ρ => Instr.sliceAt t (ρ x) (lo.map ρ) (hi.map ρ) none) (fun a w => run_v _ w) fun w0 M0 I0 fr I mu h a w hw hid hx hb => ?_
      have hlo : OptRep w I mu (lo.map ev) (lo.map a.eval) := optRep_map fun y hy => hx y (by simp [Op.operands, hy])
      have hhi : OptRep w I mu (hi.map ev) (hi.map a.eval) := optRep_map fun y hy => hx y (by simp [Op.operands, hy])
      split at he
      · rename_i hsh
        exact runs_slice (e' := 0) ht (.inl ⟨_, rfl, hsh⟩) he hc hw (hx x (by simp [Op.operands])) hlo hhi id
      · rename_i e' hsh
        obtain ⟨te, hte, he⟩ := tq_spec he
        exact runs_slice ht (.inr ⟨hsh, hte⟩) he hc hw (hx x (by simp [Op.operands])) hlo hhi id
      · cases he
  case extract x i =>
    exact Does.of_runs (fun ρ => Instr.extract (ρ x) i) (fun a w => run_v _ w) fun w0 M0 I0 fr I mu h a w hw hid hx hb => runs_extract he hc hw (hx x (by simp [Op.operands])) id
  case makeSlice t l n =>
    obtain ⟨ti, te, e', ht, hs, hte, he⟩ := elemQ_spec he
    exact Does.of_runs (fun ρ => Instr.makeSlice t (ρ l) (ρ n)) (fun a w => run_v _ w) fun w0 M0 I0 fr I mu h a w hw hid hx hb => runs_make ht hs hte he hc hw hid (hx l (by simp [Op.operands])) (hx n (by simp [Op.operands]))
  case makeFunc fn fs cs =>
    simp only [pv, Option.some.injEq, Prod.mk.injEq] at he
    obtain ⟨rfl, rfl⟩ := he
    refine Does.quiet fun _ _ _ _ I mu _ a w _ hx _ => ⟨.func fn (fs.map a.eval) (cs.map a.eval), by simp [execOp, Instr.makeFunc], ?_⟩
    have e1 : fs.map a.eval = (fs.toList.map a.eval).toArray := by apply Array.ext'; simp
    have e2 : cs.map a.eval = (cs.toList.map a.eval).toArray := by apply Array.ext'; simp
    rw [e1, e2]
    refine .func fn _ _ _ _ (by simp) (by simp) (fun i hi => ?_) fun i hi => ?_
    · simp only [List.length_map, Array.length_toList] at hi
      have h1 : nd (fs.toList.map ev) i = ev fs[i] := by simp [nd, List.getD_eq_getElem?_getD, hi]
      have h2 : nv (fs.toList.map a.eval) i = a.eval fs[i] := by simp [nv, List.getD_eq_getElem?_getD, hi]
      rw [h1, h2]; exact hx _ (by simp [Op.operands])
    · simp only [List.length_map, Array.length_toList] at hi
      have h1 : nd (cs.toList.map ev) i = ev cs[i] := by simp [nd, List.getD_eq_getElem?_getD, hi]
      have h2 : nv (cs.toList.map a.eval) i = a.eval cs[i] := by simp [nv, List.getD_eq_getElem?_getD, hi]
      rw [h1, h2]; exact hx _ (by simp [Op.operands])
  case makeInterface t x =>
    simp only [pvc, Option.some.injEq, Prod.mk.injEq] at he
    obtain ⟨rfl, rfl⟩ := he
    exact Does.quiet fun _ _ _ _ I mu _ a w _ hx _ => ⟨.iface t (a.eval x), by simp [execOp, run_makeInterface w t (a.eval x) hc], .iface t _ _ (hx x (by simp [Op.operands]))⟩
  case call k =>
    obtain ⟨callee, args, ts⟩ := k
    cases callee with
    | builtin b => exact call_does he hc
    | _ => cases he
end
end Go.Ab
