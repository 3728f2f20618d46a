/- The exact evaluator, part 10: one operation. -/
import Derived.Test.YtblbhfnpneliiaaGreatDoorExOps6
namespace Go.Ex
open Go.RowKit
open Go.Ab (TI Sh tiOf)
/-- What the evaluator is given is right. -/
structure CxOk (c : Cx) : Prop where
  ti : ∀ t i, c.ti.get t = some i → tiOf c.P t = some i
  mix : c.P.follows .mixedOrders = true
section
variable {G : Tr (List Value)} {id : Nat} {ev : Operand → X} {hp : Tr B} {e : Ef} {c : Cx}

theorem OpOk.qv {P : Program} {o : Oper} (hup : e.up = []) (s : (Operand → Value) → Sem Value) (hs : ∀ (a : Act) w, (execOp a.eval o).run P w = ((s a.eval).run P w).andThen fun v w' => .ok (.value v) w')
    (hq : ∀ w0 M0 fr m h (a : Act) w, GOk G w0 M0 → WR w0 M0 fr m h w → (∀ y ∈ o.op.operands, conc m (ev y) = some (a.eval y)) → (∀ b ∈ e.rd, h b = hp.get b) → ∃ v, (s a.eval).run P w = .ok v w ∧ conc m e.x = some v) : OpOk P G o id ev hp e := by
  obtain ⟨x, up, rd⟩ := e
  simp only at hup
  subst hup
  exact OpOk.of s hs hq
theorem OpOk.lv {P : Program} {o : Oper} (s : (Operand → Value) → Sem Value) (hs : ∀ (a : Act) w, (execOp a.eval o).run P w = ((s a.eval).run P w).andThen fun v w' => .ok (.value v) w')
    (hq : ∀ w0 M0 fr m h (a : Act) w, GOk G w0 M0 → WR w0 M0 fr m h w → fr id → (∀ y ∈ o.op.operands, conc m (ev y) = some (a.eval y)) → (∀ b ∈ e.rd, h b = hp.get b) → ∃ v w', (s a.eval).run P w = .ok v w' ∧ Left w0 M0 fr m h id e v w') : OpOk P G o id ev hp e := by
  intro w0 M0 fr m h a w hG hw hid hx hb
  obtain ⟨v, w', h1, m', h2, h3, h4⟩ := hq w0 M0 fr m h a w hG hw hid hx hb
  exact ⟨.value v, v, w', m', by rw [hs, h1]; rfl, .inl rfl, h2, h3, h4⟩
theorem OpOk.lu {P : Program} {o : Oper} (s : (Operand → Value) → Sem Unit) (hs : ∀ (a : Act) w, (execOp a.eval o).run P w = ((s a.eval).run P w).andThen fun _ w' => .ok .skip w')
    (hq : ∀ w0 M0 fr m h (a : Act) w, GOk G w0 M0 → WR w0 M0 fr m h w → fr id → (∀ y ∈ o.op.operands, conc m (ev y) = some (a.eval y)) → (∀ b ∈ e.rd, h b = hp.get b) → ∃ w', (s a.eval).run P w = .ok () w' ∧ Left w0 M0 fr m h id e undef w') : OpOk P G o id ev hp e := by
  intro w0 M0 fr m h a w hG hw hid hx hb
  obtain ⟨w', h1, m', h2, h3, h4⟩ := hq w0 M0 fr m h a w hG hw hid hx hb
  exact ⟨.skip, undef, w', m', by rw [hs, h1]; rfl, .inr ⟨rfl, rfl⟩, h2, h3, h4⟩

theorem elq_inv {t : TypeId} {k : TypeId → TI → Rs} (hc : CxOk c) (h : elq c t k = some e) : ∃ ti e' te, tiOf c.P t = some ti ∧ ti.sh = .slice e' ∧ tiOf c.P e' = some te ∧ k e' te = some e := by
  obtain ⟨ti, h1, h2⟩ := tyq_inv h
  split at h2
  · rename_i e' hs
    obtain ⟨te, h3, h4⟩ := tyq_inv h2
    exact ⟨ti, e', te, hc.ti _ _ h1, hs, hc.ti _ _ h3, h4⟩
  · cases h2
theorem mpq_inv {t : TypeId} {k : Sh → TypeId → Rs} (hc : CxOk c) (h : mpq c t k = some e) : ∃ ti a b tk, tiOf c.P t = some ti ∧ ti.sh = .map a b ∧ tiOf c.P a = some tk ∧ k tk.sh b = some e := by
  obtain ⟨ti, h1, h2⟩ := tyq_inv h
  split at h2
  · rename_i a b hs
    obtain ⟨tk, h3, h4⟩ := tyq_inv h2
    exact ⟨ti, a, b, tk, hc.ti _ _ h1, hs, hc.ti _ _ h3, h4⟩
  · cases h2

theorem psX_rel {m : Mu} {a : Act} : ∀ {ps : List (Nat × Operand)}, (∀ x ∈ ps.map (·.2), conc m (ev x) = some (a.eval x)) →
    (ps.map fun p => (p.1, a.eval p.2)).length = (psX ev ps).length ∧ ∀ (i : Nat) (p : Nat × X) (q : Nat × Value), (psX ev ps)[i]? = some p → (ps.map fun p => (p.1, a.eval p.2))[i]? = some q → p.1 = q.1 ∧ conc m p.2 = some q.2
  | [], _ => ⟨rfl, fun i p q h => by simp [psX] at h⟩
  | (j, o) :: ps, h => by
    obtain ⟨h1, h2⟩ := psX_rel (ps := ps) fun x hx => h x (by simp at hx ⊢; exact .inr hx)
    refine ⟨by simp [psX] at h1 ⊢; omega, fun i p q hp hq => ?_⟩
    cases i with
    | zero =>
      simp [psX] at hp hq
      subst hp; subst hq
      exact ⟨rfl, h o (by simp)⟩
    | succ i => exact h2 i p q (by simpa [psX] using hp) (by simpa using hq)
theorem evs_rel {m : Mu} {a : Act} : ∀ {l : List Operand}, (∀ x ∈ l, conc m (ev x) = some (a.eval x)) → concL m (evs ev l) = some (l.map a.eval)
  | [], _ => concL_nil
  | o :: l, h => concL_cons.2 ⟨_, _, h o (by simp), evs_rel fun x hx => h x (by simp [hx]), rfl⟩

section
variable {dst : Option Tmp} {T : TypeId} {pos : String} {af : Array Edge} {gd : Option (Nat × Bool)}

theorem built_ok (hc : CxOk c) {b : Builtin} {args : Array Operand} {ts : Array TypeId} (he : builtX c id ev hp b args.toList ts.toList = some e) : OpOk c.P c.gl ⟨dst, .call { callee := .builtin b, args := args, argTypes := ts }, T, pos, af, gd⟩ id ev hp e := by
  have hops : ∀ x, x ∈ args.toList → x ∈ (Op.call { callee := .builtin b, args := args, argTypes := ts }).operands := fun x hx => by simpa [Op.operands, Call.operands] using hx
  have hex : ∀ (a : Act) (w : World) (F : Array Value → Sem Value), (∀ cs, builtin b ts T cs (args.map a.eval) = do pure (.value (← F (args.map a.eval)))) →
      (execOp a.eval ⟨dst, .call { callee := .builtin b, args := args, argTypes := ts }, T, pos, af, gd⟩).run c.P w = ((F (args.map a.eval)).run c.P w).andThen fun v w' => .ok (.value v) w' := by
    intro a w F hF
    simp only [execOp, resolve, Sem.run_bind, Sem.run_pure, Result.andThen, invoke]
    rw [hF]
    exact run_v _ w
  have one : ∀ x, args.toList = [x] → ∀ a : Act, args.map a.eval = #[a.eval x] := fun x ha a => by apply Array.ext'; simp [ha]
  have two : ∀ x y, args.toList = [x, y] → ∀ a : Act, args.map a.eval = #[a.eval x, a.eval y] := fun x y ha a => by apply Array.ext'; simp [ha]
  unfold builtX at he
  split at he
  · rename_i x t ha hts
    obtain ⟨ti, ht, he⟩ := tyq_inv he
    have e2 : ts = #[t] := by apply Array.ext'; simpa using hts
    have hup : e.up = [] := by
      unfold lenX at he
      repeat' split at he
      all_goals first | (cases he; done) | (have := pX_inv he; subst this; rfl) | (simp only [Option.some.injEq] at he; subst he; rfl)
    refine OpOk.qv hup (fun ρ => Builtin.len_ ts T (args.map ρ)) (fun a w => hex a w (fun vs => Builtin.len_ ts T vs) fun _ => rfl) ?_
    intro w0 M0 fr m h a w hG hw hx hb
    rw [one x ha, e2]
    exact (len_ok (hc.ti _ _ ht) he hw (hx x (hops x (by simp [ha]))) hb).2
  · rename_i x t ha hts
    obtain ⟨ti, ht, he⟩ := tyq_inv he
    have e2 : ts = #[t] := by apply Array.ext'; simpa using hts
    have hup : e.up = [] := by
      unfold capX at he
      repeat' split at he
      all_goals first | (cases he; done) | (have := pX_inv he; subst this; rfl)
    refine OpOk.qv hup (fun ρ => Builtin.cap_ ts T (args.map ρ)) (fun a w => hex a w (fun vs => Builtin.cap_ ts T vs) fun _ => rfl) ?_
    intro w0 M0 fr m h a w hG hw hx hb
    rw [one x ha, e2]
    exact (cap_ok (hc.ti _ _ ht) he (hx x (hops x (by simp [ha])))).2.2
  · rename_i x y ha
    have hup : e.up = [] := by
      unfold minX at he
      split at he
      · have := pX_inv (bif_inv he).2; subst this; rfl
      · cases he
    refine OpOk.qv hup (fun ρ => Builtin.min_ ts T (args.map ρ)) (fun a w => hex a w (fun vs => Builtin.min_ ts T vs) fun _ => rfl) ?_
    intro w0 M0 fr m h a w hG hw hx hb
    rw [two x y ha]
    exact (min_ok he (hx x (hops x (by simp [ha]))) (hx y (hops y (by simp [ha])))).2.2
  · rename_i x y ha
    have hup : e.up = [] := by
      unfold maxX at he
      split at he
      · have := pX_inv (bif_inv he).2; subst this; rfl
      · cases he
    refine OpOk.qv hup (fun ρ => Builtin.max_ ts T (args.map ρ)) (fun a w => hex a w (fun vs => Builtin.max_ ts T vs) fun _ => rfl) ?_
    intro w0 M0 fr m h a w hG hw hx hb
    rw [two x y ha]
    exact (max_ok he (hx x (hops x (by simp [ha]))) (hx y (hops y (by simp [ha])))).2.2
  · rename_i x y t t' ha hts
    replace he := bif_inv he
    obtain ⟨htt, he⟩ := he
    rw [beq_eq, decide_eq_true_eq] at htt
    subst htt
    obtain ⟨ti, e', te, h1, h2, h3, he⟩ := elq_inv hc he
    have e2 : ts = #[t, t] := by apply Array.ext'; simpa using hts
    refine OpOk.lv (fun ρ => Builtin.append_ ts T (args.map ρ)) (fun a w => hex a w (fun vs => Builtin.append_ ts T vs) fun _ => rfl) ?_
    intro w0 M0 fr m h a w hG hw hid hx hb
    rw [two x y ha, e2]
    exact append_ok h1 h2 h3 he hw hid (hx x (hops x (by simp [ha]))) (hx y (hops y (by simp [ha]))) hb
  · rename_i x y t t' ha hts
    obtain ⟨ti, a', b', tk, h1, h2, h3, he⟩ := mpq_inv hc he
    have e2 : ts = #[t, t'] := by apply Array.ext'; simpa using hts
    refine OpOk.lv (fun ρ => Builtin.delete_ ts T (args.map ρ)) (fun a w => hex a w (fun vs => Builtin.delete_ ts T vs) fun _ => rfl) ?_
    intro w0 M0 fr m h a w hG hw hid hx hb
    rw [two x y ha, e2]
    exact delete_ok h1 h2 h3 he hw (hx x (hops x (by simp [ha]))) (hx y (hops y (by simp [ha]))) hb
  · cases he

theorem optM_rel {m : Mu} {o : Option Operand} {a : Act} {l : Array Operand} (h : ∀ y ∈ l, conc m (ev y) = some (a.eval y)) (ho : ∀ x, o = some x → x ∈ l) : ∀ x, o = some x → conc m (ev x) = some (a.eval x) := fun x hx => h x (ho x hx)

theorem stepX_ok (hc : CxOk c) {op : Op} (he : stepX c id ev hp op = some e) : OpOk c.P c.gl ⟨dst, op, T, pos, af, gd⟩ id ev hp e := by
  cases op <;> simp only [stepX] at he <;> try (cases he; done)
  case move x =>
    have := pX_inv he; subst this
    exact OpOk.quiet fun w0 M0 fr m h a w _ hw hx _ => ⟨a.eval x, by simp [execOp], hx x (by simp [Op.operands])⟩
  case assign x =>
    have := pX_inv he; subst this
    exact OpOk.quiet fun w0 M0 fr m h a w _ hw hx _ => ⟨a.eval x, by simp [execOp], hx x (by simp [Op.operands])⟩
  case pick b x y =>
    split at he
    · rename_i hb
      have := pX_inv he; subst this
      refine OpOk.quiet fun w0 M0 fr m h a w _ hw hx _ => ⟨a.eval x, ?_, hx x (by simp [Op.operands])⟩
      have h1 := hx b (by simp [Op.operands])
      rw [hb] at h1
      have := conc_v h1
      simp [execOp, this, asBool]
    · rename_i hb
      have := pX_inv he; subst this
      refine OpOk.quiet fun w0 M0 fr m h a w _ hw hx _ => ⟨a.eval y, ?_, hx y (by simp [Op.operands])⟩
      have h1 := hx b (by simp [Op.operands])
      rw [hb] at h1
      have := conc_v h1
      simp [execOp, this, asBool]
    · cases he
  case alloc t =>
    obtain ⟨ti, ht, he⟩ := tyq_inv he
    exact OpOk.lv (fun _ => Instr.alloc t true (.tuple #[])) (fun a w => run_v _ w) fun w0 M0 fr m h a w _ hw hid _ _ => alloc_ok (hc.ti _ _ ht) he hw hid
  case box t x =>
    exact OpOk.lv (fun ρ => Instr.box t (ρ x)) (fun a w => run_v _ w) fun w0 M0 fr m h a w _ hw hid hx _ => box_ok he hw hid (hx x (by simp [Op.operands]))
  case build t ps =>
    obtain ⟨ti, ht, he⟩ := tyq_inv he
    have hup : e.up = [] := by
      unfold buildX at he
      repeat' split at he
      all_goals first | (cases he; done) | (have := pX_inv he; subst this; rfl)
    refine OpOk.qv hup (fun ρ => Instr.build t (ps.toList.map fun p => (p.1, ρ p.2)).toArray) (fun a w => ?_) fun w0 M0 fr m h a w _ hw hx _ => ?_
    · have : (ps.map fun (i, x) => (i, a.eval x)) = (ps.toList.map fun p => (p.1, a.eval p.2)).toArray := by apply Array.ext'; simp
      simp only [execOp]
      rw [this]
      exact run_v _ w
    · have := psX_rel (ev := ev) (m := m) (a := a) (ps := ps.toList) (fun x hx' => hx x (by simpa [Op.operands] using hx'))
      exact (build_ok (hc.ti _ _ ht) he _ this.1 this.2).2.2
  case buildSlice t n ps =>
    obtain ⟨ti, e', te, h1, h2, h3, he⟩ := elq_inv hc he
    refine OpOk.lv (fun ρ => Instr.buildSlice t n (ps.toList.map fun p => (p.1, ρ p.2)).toArray) (fun a w => ?_) fun w0 M0 fr m h a w _ hw hid hx _ => ?_
    · have : (ps.map fun (i, x) => (i, a.eval x)) = (ps.toList.map fun p => (p.1, a.eval p.2)).toArray := by apply Array.ext'; simp
      simp only [execOp]
      rw [this]
      exact run_v _ w
    · have := psX_rel (ev := ev) (m := m) (a := a) (ps := ps.toList) (fun x hx' => hx x (by simpa [Op.operands] using hx'))
      exact buildS_ok h1 h2 h3 he hw hid _ this.1 this.2
  case load t x =>
    obtain ⟨ti, ht, he⟩ := tyq_inv he
    have hup : e.up = [] := by
      unfold loadX at he
      repeat' split at he
      all_goals first | (cases he; done) | skip
      all_goals cases hag : ti.ag <;> simp only [hag, cond_true, cond_false] at he <;> first | (cases he; done) | (have := pX_inv he; subst this; rfl) | (simp only [Option.some.injEq] at he; subst he; rfl)
    refine OpOk.qv hup (fun ρ => Instr.loadAt t (ρ x)) (fun a w => run_v _ w) fun w0 M0 fr m h a w hG hw hx hb => ?_
    obtain ⟨_, v, k, o, h1, h2, h3⟩ := load_ok (hc.ti _ _ ht) he hG hw (hx x (by simp [Op.operands])) hb
    exact ⟨v, by simp [Instr.loadAt, h1, Instr.sureAddr, h2], h3⟩
  case store t x y =>
    obtain ⟨ti, ht, he⟩ := tyq_inv he
    exact OpOk.lu (fun ρ => Instr.storeAt t (ρ x) (ρ y)) (fun a w => run_u _ w) fun w0 M0 fr m h a w _ hw hid hx hb => store_ok (hc.ti _ _ ht) he hw (hx x (by simp [Op.operands])) (hx y (by simp [Op.operands])) hb id
  case nilCheck x =>
    split at he <;> try (cases he; done)
    all_goals
      rename_i hd
      have := pX_inv he; subst this
      refine OpOk.quiet fun w0 M0 fr m h a w _ hw hx _ => ⟨a.eval x, ?_, by rw [← hd]; exact hx x (by simp [Op.operands])⟩
      have hx' := hx x (by simp [Op.operands])
      rw [hd] at hx'
      simp only [execOp]
    · obtain ⟨p, _, h1⟩ := conc_ptr hx'
      rw [h1]; rfl
    · obtain ⟨p, q, _, _, h1⟩ := conc_fn hx'
      rw [h1]; rfl
    · have h1 := conc_v hx'
      rw [h1]; rfl
  case binOp op t x y t' =>
    obtain ⟨ti, ht, he⟩ := tyq_inv he
    unfold optS at he
    split at he
    · rename_i r hr
      have := pX_inv he; subst this
      refine OpOk.of (fun ρ => do eqGuard op t x y (ρ x) (ρ y); binOp op t (ρ x) (ρ y)) (fun a w => run_v _ w) fun w0 M0 fr m h a w _ hw hx _ => ?_
      exact bin_ok (hc.ti _ _ ht) hr (hx x (by simp [Op.operands])) (hx y (by simp [Op.operands]))
    · cases he
  case unOp op t x =>
    unfold optS at he
    split at he
    · rename_i r hr
      have := pX_inv he; subst this
      exact OpOk.of (fun ρ => Op.unary op (ρ x)) (fun a w => run_v _ w) fun w0 M0 fr m h a w _ hw hx _ => un_ok hr (hx x (by simp [Op.operands]))
    · cases he
  case convert s d x =>
    obtain ⟨ts, hts, he⟩ := tyq_inv he
    obtain ⟨td, htd, he⟩ := tyq_inv he
    have hup : e.up = [] := by
      unfold convX at he
      repeat' split at he
      all_goals first | (cases he; done) | (have := pX_inv he; subst this; rfl)
    exact OpOk.qv hup (fun ρ => convert s d (ρ x)) (fun a w => run_v _ w) fun w0 M0 fr m h a w _ hw hx _ => (conv_ok (hc.ti _ _ hts) (hc.ti _ _ htd) he (hx x (by simp [Op.operands]))).2
  case field t x i =>
    obtain ⟨ti, ht, he⟩ := tyq_inv he
    have hup : e.up = [] := by
      unfold fieldX at he
      repeat' split at he
      all_goals first | (cases he; done) | skip
      all_goals
        have bb : ∀ (b : Bool) (x y : Rs), (bif b then x else y) = some e → x = some e ∨ y = some e := by intro b x y h; cases b <;> simp at h <;> simp [h]
        rcases bb _ _ _ he with he | he <;> first | (cases he; done) | (have := pX_inv he; subst this; rfl)
    exact OpOk.qv hup (fun ρ => Instr.field t (ρ x) i) (fun a w => run_v _ w) fun w0 M0 fr m h a w _ hw hx _ => (field_ok (hc.ti _ _ ht) he (hx x (by simp [Op.operands]))).2.2
  case fieldAddr t x i =>
    obtain ⟨ti, ht, he⟩ := tyq_inv he
    have hup : e.up = [] := by
      unfold fieldAddrX at he
      split at he
      · rename_i o n ag _
        cases hn : Nat.beq n 0 <;> simp only [hn, cond_true, cond_false] at he
        · split at he <;> first | (cases he; done) | (have := pX_inv he; subst this; rfl)
        · cases he
      · cases he
    exact OpOk.qv hup (fun ρ => Instr.fieldAt t (ρ x) i) (fun a w => run_v _ w) fun w0 M0 fr m h a w _ hw hx _ => (fieldAddr_ok (hc.ti _ _ ht) he (hx x (by simp [Op.operands]))).2.2
  case indexAddr t x i =>
    obtain ⟨ti, ht, he⟩ := tyq_inv he
    split at he
    · rename_i e' hs
      obtain ⟨te, hte, he⟩ := tyq_inv he
      have hup : e.up = [] := by
        unfold indexAddrX at he
        repeat' split at he
        all_goals first | (cases he; done) | (have := pX_inv (bif_inv he).2; subst this; rfl) | (have := pX_inv (and_inv he).2.2; subst this; rfl)
      exact OpOk.qv hup (fun ρ => Instr.indexAt t (ρ x) (ρ i)) (fun a w => run_v _ w) fun w0 M0 fr m h a w _ hw hx _ => (indexAddr_ok (hc.ti _ _ ht) hs (hc.ti _ _ hte) he (hx x (by simp [Op.operands])) (hx i (by simp [Op.operands]))).2.2
    · rename_i n e' hs
      obtain ⟨te, hte, he⟩ := tyq_inv he
      have hup : e.up = [] := by
        unfold indexArrX at he
        split at he
        · have he := (and_inv he).2.2
          split at he <;> first | (cases he; done) | (have := pX_inv he; subst this; rfl)
        · cases he
      exact OpOk.qv hup (fun ρ => Instr.indexAt t (ρ x) (ρ i)) (fun a w => run_v _ w) fun w0 M0 fr m h a w _ hw hx _ => (indexArr_ok (hc.ti _ _ ht) hs (hc.ti _ _ hte) he (hx x (by simp [Op.operands])) (hx i (by simp [Op.operands]))).2.2
    · cases he
  case index t x i =>
    obtain ⟨ti, ht, he⟩ := tyq_inv he
    split at he
    · rename_i hs
      have hup : e.up = [] := by
        unfold indexX at he
        repeat' split at he
        all_goals first | (cases he; done) | (have := pX_inv he; subst this; rfl)
      exact OpOk.qv hup (fun ρ => Instr.index t (ρ x) (ρ i)) (fun a w => run_v _ w) fun w0 M0 fr m h a w _ hw hx _ => (index_ok (hc.ti _ _ ht) hs he (hx x (by simp [Op.operands])) (hx i (by simp [Op.operands]))).2.2
    · cases he
  case slice t x lo hi mx =>
    cases mx with
    | some q => cases he
    | none =>
      simp only at he
      obtain ⟨ti, ht, he⟩ := tyq_inv he
      have hlo : ∀ (m : Mu) (a : Act), (∀ y ∈ (Op.slice t x lo hi none).operands, conc m (ev y) = some (a.eval y)) → (∀ y, lo = some y → conc m (ev y) = some (a.eval y)) ∧ (∀ y, hi = some y → conc m (ev y) = some (a.eval y)) := fun m a hx => ⟨fun y hy => hx y (by simp [Op.operands, hy]), fun y hy => hx y (by simp [Op.operands, hy])⟩
      split at he
      · rename_i hs
        have hup : e.up = [] := by
          unfold strSliceX at he
          repeat' split at he
          all_goals first | (cases he; done) | skip
          all_goals
            have he := (bif_inv he).2
            first | (cases he; done) | (have := pX_inv he; subst this; rfl)
        exact OpOk.qv hup (fun ρ => Instr.sliceAt t (ρ x) (lo.map ρ) (hi.map ρ) none) (fun a w => run_v _ w) fun w0 M0 fr m h a w _ hw hx _ => (strSlice_ok (hc.ti _ _ ht) hs he (hx x (by simp [Op.operands])) (hlo m a hx).1 (hlo m a hx).2).2.2
      · rename_i e' hs
        obtain ⟨te, hte, he⟩ := tyq_inv he
        have hup : e.up = [] := by
          unfold sliceX at he
          repeat' split at he
          all_goals first | (cases he; done) | (have := pX_inv (and_inv he).2.2; subst this; rfl) | (have he := (and_inv he).2.2; simp only [Option.some.injEq] at he; subst he; rfl)
        exact OpOk.qv hup (fun ρ => Instr.sliceAt t (ρ x) (lo.map ρ) (hi.map ρ) none) (fun a w => run_v _ w) fun w0 M0 fr m h a w _ hw hx hb => (slice_ok (hc.ti _ _ ht) hs (hc.ti _ _ hte) he hw (hx x (by simp [Op.operands])) (hlo m a hx).1 (hlo m a hx).2 hb).2
      · rename_i n e' hs
        obtain ⟨te, hte, he⟩ := tyq_inv he
        have hup : e.up = [] := by
          unfold arrSliceX at he
          repeat' split at he
          all_goals first | (cases he; done) | (have := pX_inv (and_inv he).2.2; subst this; rfl)
        exact OpOk.qv hup (fun ρ => Instr.sliceAt t (ρ x) (lo.map ρ) (hi.map ρ) none) (fun a w => run_v _ w) fun w0 M0 fr m h a w _ hw hx hb => (arrSlice_ok (hc.ti _ _ ht) hs (hc.ti _ _ hte) he (hx x (by simp [Op.operands])) (hlo m a hx).1 (hlo m a hx).2).2
      · cases he
  case extract x i =>
    split at he
    · rename_i l hl
      split at he
      · rename_i y hy
        have := pX_inv he; subst this
        refine OpOk.of (fun ρ => Instr.extract (ρ x) i) (fun a w => run_v _ w) fun w0 M0 fr m h a w _ hw hx _ => ?_
        have hx' := hx x (by simp [Op.operands])
        rw [hl] at hx'
        exact extract_ok hy hx'
      · cases he
    · cases he
  case makeSlice t l n =>
    obtain ⟨ti, e', te, h1, h2, h3, he⟩ := elq_inv hc he
    exact OpOk.lv (fun ρ => Instr.makeSlice t (ρ l) (ρ n)) (fun a w => run_v _ w) fun w0 M0 fr m h a w _ hw hid hx _ => makeS_ok h1 h2 h3 he hw hid (hx l (by simp [Op.operands])) (hx n (by simp [Op.operands]))
  case makeFunc fn fs cs =>
    cases fn <;> simp only at he <;> try (cases he; done)
    rename_i f
    have := pX_inv he; subst this
    refine OpOk.quiet fun w0 M0 fr m h a w _ hw hx _ => ⟨.func (.func f) (fs.map a.eval) (cs.map a.eval), by simp [execOp, Instr.makeFunc], ?_⟩
    have h1 := evs_rel (ev := ev) (m := m) (a := a) (l := fs.toList) fun x hx' => hx x (by simp [Op.operands]; exact .inl (by simpa using hx'))
    have h2 := evs_rel (ev := ev) (m := m) (a := a) (l := cs.toList) fun x hx' => hx x (by simp [Op.operands]; exact .inr (by simpa using hx'))
    have e1 : fs.map a.eval = (fs.toList.map a.eval).toArray := by apply Array.ext'; simp
    have e2 : cs.map a.eval = (cs.toList.map a.eval).toArray := by apply Array.ext'; simp
    simp only [conc, h1, h2]
    rw [e1, e2]
  case makeInterface t x =>
    replace he := bif_inv he
    obtain ⟨hcn, he⟩ := he
    have := pX_inv he; subst this
    refine OpOk.quiet fun w0 M0 fr m h a w _ hw hx _ => ⟨.iface t (a.eval x), ?_, ?_⟩
    · simp only [execOp]
      rw [run_v, run_makeInterface w t _ hcn]
      rfl
    · simp [conc, hx x (by simp [Op.operands])]
  case makeMap t r =>
    cases r with
    | some q => cases he
    | none =>
      simp only [Option.some.injEq] at he
      subst he
      exact OpOk.lv (fun _ => Instr.makeMap t none) (fun a w => run_v _ w) fun w0 M0 fr m h a w _ hw hid _ _ => makeMap_ok hw hid
  case lookup t x k ok =>
    obtain ⟨ti, a', b', tk, h1, h2, h3, he⟩ := mpq_inv hc he
    obtain ⟨inf, z, hi, hz, he⟩ := zq_inv he
    have hup : e.up = [] := by
      unfold lookupX at he
      repeat' split at he
      all_goals first | (cases he; done) | (have := pX_inv he; subst this; rfl) | (simp only [Option.some.injEq] at he; subst he; rfl)
    exact OpOk.qv hup (fun ρ => Instr.lookup t (ρ x) (ρ k) ok) (fun a w => run_v _ w) fun w0 M0 fr m h a w _ hw hx hb => (lookup_ok h1 h2 h3 hi hz he hw (hx x (by simp [Op.operands])) (hx k (by simp [Op.operands])) hb).2
  case mapUpdate t x k y =>
    obtain ⟨ti, a', b', tk, h1, h2, h3, he⟩ := mpq_inv hc he
    exact OpOk.lu (fun ρ => Instr.mapUpdate t (ρ x) (ρ k) (ρ y)) (fun a w => run_u _ w) fun w0 M0 fr m h a w _ hw hid hx hb => update_ok h1 h2 h3 he hw (hx x (by simp [Op.operands])) (hx k (by simp [Op.operands])) (hx y (by simp [Op.operands])) hb
  case insert t x k y =>
    obtain ⟨ti, a', b', tk, h1, h2, h3, he⟩ := mpq_inv hc he
    exact OpOk.lu (fun ρ => Instr.mapUpdate t (ρ x) (ρ k) (ρ y)) (fun a w => run_u _ w) fun w0 M0 fr m h a w _ hw hid hx hb => update_ok h1 h2 h3 he hw (hx x (by simp [Op.operands])) (hx k (by simp [Op.operands])) (hx y (by simp [Op.operands])) hb
  case range t x =>
    obtain ⟨ti, ht, he⟩ := tyq_inv he
    split at he
    · rename_i kt et hs
      exact OpOk.lv (fun ρ => Instr.range t (ρ x)) (fun a w => run_v _ w) fun w0 M0 fr m h a w _ hw hid hx hb => range_ok (hc.ti _ _ ht) hs he hw hid (hx x (by simp [Op.operands])) hb
    · cases he
  case next i isS =>
    cases isS with
    | true => cases he
    | false => exact OpOk.lv (fun ρ => Instr.next (ρ i) false T) (fun a w => run_v _ w) fun w0 M0 fr m h a w _ hw hid hx hb => next_ok he hw (hx i (by simp [Op.operands])) hb
  case entry i =>
    have hup : e.up = [] := by
      unfold entryX at he
      repeat' split at he
      all_goals first | (cases he; done) | skip
      all_goals
        have he := (bif_inv he).2
        first | (cases he; done) | (simp only [Option.some.injEq] at he; subst he; rfl)
    exact OpOk.qv hup (fun ρ => Instr.entry (ρ i)) (fun a w => run_v _ w) fun w0 M0 fr m h a w _ hw hx hb => (entry_ok he hw (hx i (by simp [Op.operands])) hb).2
  case typeAssert x xt t ok =>
    obtain ⟨ti, ht, he⟩ := tyq_inv he
    split at he
    · cases he
    · rename_i hs
      obtain ⟨inf, z, hi, hz, he⟩ := zq_inv he
      have hup : e.up = [] := by
        unfold assertX at he
        split at he
        · have bb : ∀ (b : Bool) (x y : Rs), (bif b then x else y) = some e → x = some e ∨ y = some e := by intro b x y h; cases b <;> simp at h <;> simp [h]
          rcases bb _ _ _ he with he | he
          · have := pX_inv he; subst this; rfl
          · have he := (bif_inv he).2
            have := pX_inv he; subst this; rfl
        · have he := (bif_inv he).2
          have := pX_inv he; subst this; rfl
        · cases he
      exact OpOk.qv hup (fun ρ => Instr.typeAssert (ρ x) xt t ok) (fun a w => run_v _ w) fun w0 M0 fr m h a w _ hw hx hb => (assert_ok (hc.ti _ _ ht) (fun hh => hs hh) hi hz he (hx x (by simp [Op.operands]))).2.2
  case call k =>
    split at he
    · rename_i b hcal
      obtain ⟨cal, args, ats⟩ := k
      simp only at hcal he
      subst hcal
      exact built_ok hc he
    · cases he
end
end
end Go.Ex
