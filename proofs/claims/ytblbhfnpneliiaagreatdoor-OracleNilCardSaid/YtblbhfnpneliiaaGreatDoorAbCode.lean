/- The abstract layer, part 2: weakest preconditions over abstract states, the rules for code, regions in the order of the text and in any order. -/
import Derived.Test.YtblbhfnpneliiaaGreatDoorAbBase
namespace Go.Ab
open Go.RowKit

/-- A constant as an abstract value: the nil slice is the empty list. -/
def ofV : Value → D
  | .slice none 0 0 => .slice [] true
  | v => bif okB v then .val v else .any
/-- An operand's abstract value. -/
def evO (env : Nat → D) : Operand → D
  | .tmp t => env t
  | .const v => ofV v
  | .global g => .val (.pointer (some ⟨g, 0, none⟩))
  | .func f => .func (.func f) [] []

theorem rep_ofV (w : World) (I : Nat → Prop) (mu : Nat → Option Value) (v : Value) : Rep w I mu (ofV v) v := by
  unfold ofV
  split
  · exact .slice [] true none 0 0 0 0 (fun _ _ => .nilFunc) (fun h => absurd h (by simp)) (Nat.le_refl _) (fun _ => rfl) (Nat.zero_le _) (fun i h => absurd h (by simp)) (fun i j h => absurd h (by simp)) (fun i j h => absurd h (by simp))
  · cases h : okB v with
    | true => exact .val v (okB_spec h)
    | false => exact .any v

theorem rep_evO {w : World} {I : Nat → Prop} {mu : Nat → Option Value} {env : Nat → D} {a : Act} (h : ∀ t, Rep w I mu (env t) (a.tmps.getD t undef)) (x : Operand) : Rep w I mu (evO env x) (a.eval x) := by
  cases x with
  | tmp t => exact h t
  | const v => exact rep_ofV w I mu v
  | global g => exact .val _ trivial
  | func f => exact .func (.func f) [] [] [] [] rfl rfl (fun i h => absurd h (by simp)) (fun i h => absurd h (by simp))

/-- How a piece of code ends. -/
inductive AE where
  | normal
  | exit (id : Nat)
  | goto (l : Nat)
  | ret
  | panic (d : D)

def ERep (w : World) (I : Nat → Prop) (mu : Nat → Option Value) : AE → Exit → Prop
  | .normal, .normal => True
  | .exit i, .exit j => i = j
  | .goto i, .goto j => i = j
  | .ret, .ret => True
  | .panic d, .panic ch => ∃ v, ch = [{ v, recovered := false }] ∧ Rep w I mu d v
  | _, _ => False

def APost (w0 : World) (M0 I0 : Nat → Prop) (nt : Nat) (Q : AE → St → Prop) (e : Exit) (a' : Act) (w' : World) : Prop :=
  ∃ x s' I' mu', Q x s' ∧ ERep w' I' mu' x e ∧ Rel w0 M0 I0 nt (s'.nx ≤ ·) I' mu' s'.fs a' w'

/-- From whatever activation and world that a state describes, the code ends as Q says. -/
def AWp (P : Program) (nt : Nat) (c : Code) (Q : AE → St → Prop) (s : St) : Prop :=
  ∀ w0 M0 I0 I mu a w, Rel w0 M0 I0 nt (s.nx ≤ ·) I mu s.fs a w → c.wp P (APost w0 M0 I0 nt Q) a w

section rules
variable {P : Program} {nt : Nat} {Q : AE → St → Prop} {s : St}

theorem AWp.mono {c : Code} {Q' : AE → St → Prop} (h : AWp P nt c Q s) (hq : ∀ e s, Q e s → Q' e s) : AWp P nt c Q' s :=
  fun w0 M0 I0 I mu a w r => wp_mono (h w0 M0 I0 I mu a w r) fun _ _ _ ⟨x, s', I', mu', q, rest⟩ => ⟨x, s', I', mu', hq _ _ q, rest⟩

/-- One state tells less than another. -/
def Weak (s s' : St) : Prop := ∀ w0 M0 I0 nt I mu a w, Rel w0 M0 I0 nt (s.nx ≤ ·) I mu s.fs a w → ∃ mu', Rel w0 M0 I0 nt (s'.nx ≤ ·) I mu' s'.fs a w
theorem Weak.refl (s : St) : Weak s s := fun _ _ _ _ _ mu _ _ r => ⟨mu, r⟩
theorem Weak.trans {s s' s'' : St} (h : Weak s s') (k : Weak s' s'') : Weak s s'' := fun w0 M0 I0 nt I mu a w r =>
  let ⟨mu', r'⟩ := h w0 M0 I0 nt I mu a w r
  k w0 M0 I0 nt I mu' a w r'
theorem AWp.weak {c : Code} {s' : St} (hs : Weak s s') (h : AWp P nt c Q s') : AWp P nt c Q s := fun w0 M0 I0 I mu a w r =>
  let ⟨mu', r'⟩ := hs w0 M0 I0 nt I mu a w r
  h w0 M0 I0 I mu' a w r'

def seqQ (next : St → Prop) (Q : AE → St → Prop) : AE → St → Prop
  | .normal, s => next s
  | e, s => Q e s
theorem AWp.seq {x y : Code} (h : AWp P nt x (seqQ (fun s => AWp P nt y Q s) Q) s) : AWp P nt (.seq x y) Q s := fun w0 M0 I0 I mu a w r =>
  wp_seq (wp_mono (h w0 M0 I0 I mu a w r) fun e a' w' hx => by
    obtain ⟨x, s', I', mu', q, he, r'⟩ := hx
    cases x <;> cases e <;> simp only [ERep] at he
    case normal.normal => exact q w0 M0 I0 I' mu' a' w' r'
    all_goals exact ⟨_, s', I', mu', q, he, r'⟩)
theorem AWp.seq_k {x y : Code} (h : ∀ K : St → Prop, (∀ s, AWp P nt y Q s → K s) → AWp P nt x (seqQ K Q) s) : AWp P nt (.seq x y) Q s := AWp.seq (h _ fun _ h => h)

def blockQ (id : Nat) (Q : AE → St → Prop) : AE → St → Prop
  | .exit j, s => if j = id then Q .normal s else Q (.exit j) s
  | e, s => Q e s
theorem AWp.block {id : Nat} {c : Code} (h : AWp P nt c (blockQ id Q) s) : AWp P nt (.block id c) Q s := fun w0 M0 I0 I mu a w r =>
  wp_block (wp_mono (h w0 M0 I0 I mu a w r) fun e a' w' hx => by
    obtain ⟨x, s', I', mu', q, he, r'⟩ := hx
    cases x <;> cases e <;> simp only [ERep] at he
    case exit.exit =>
      rename_i i j
      subst he
      simp only [blockQ] at q
      simp only [Exit.inBlock]
      by_cases hi : i = id
      · rw [if_pos hi] at q ⊢; exact ⟨.normal, s', I', mu', q, trivial, r'⟩
      · rw [if_neg hi] at q ⊢; exact ⟨.exit i, s', I', mu', q, rfl, r'⟩
    all_goals exact ⟨_, s', I', mu', q, he, r'⟩)

theorem AWp.ret (h : Q .ret s) : AWp P nt .ret Q s := fun _ _ _ I mu _ _ r => wp_ret ⟨.ret, s, I, mu, h, trivial, r⟩
theorem AWp.skip (h : Q .normal s) : AWp P nt .skip Q s := fun _ _ _ I mu _ _ r => wp_skip ⟨.normal, s, I, mu, h, trivial, r⟩
theorem AWp.exit {id : Nat} (h : Q (.exit id) s) : AWp P nt (.exit id) Q s := fun _ _ _ I mu _ _ r => wp_exit ⟨.exit id, s, I, mu, h, rfl, r⟩
theorem AWp.label {l : Nat} (h : Q .normal s) : AWp P nt (.label l) Q s := fun _ _ _ I mu _ _ r => wp_label ⟨.normal, s, I, mu, h, trivial, r⟩

/-- A scope that no goto leaves for a label within. -/
theorem AWp.scope {c : Code} (h : AWp P nt c (fun e s => match e with | .goto _ => False | e => Q e s) s) : AWp P nt (.scope c) Q s := fun w0 M0 I0 I mu a w r =>
  wp_scope_straight (wp_mono (h w0 M0 I0 I mu a w r) fun e a' w' hx => by
    obtain ⟨x, s', I', mu', q, he, r'⟩ := hx
    cases x <;> cases e <;> simp only [ERep] at he
    case goto.goto => exact q.elim
    all_goals exact ⟨_, s', I', mu', q, he, r'⟩)

theorem AWp.cond {c : Operand} {x y : Code} {b : Bool} (hc : evO s.env.get c = .val (.bool b)) (ht : b = true → AWp P nt x Q s) (hf : b = false → AWp P nt y Q s) : AWp P nt (.cond c x y) Q s := fun w0 M0 I0 I mu a w r => by
  have hv : a.eval c = .bool b := by
    have := rep_evO (env := s.env.get) r.env c
    rw [hc] at this
    exact this.val_inv
  cases b with
  | true => exact wp_cond_true hv (ht rfl w0 M0 I0 I mu a w r)
  | false => exact wp_cond_false hv (hf rfl w0 M0 I0 I mu a w r)

/-- A loop whose heads are the states S i; m goes down. -/
theorem AWp.loop {c : Code} {ι : Type} (S : ι → St) (m : ι → Nat) (i0 : ι) (h0 : Weak s (S i0))
    (round : ∀ i, AWp P nt c (fun e s' => match e with | .normal => ∃ j, m j < m i ∧ Weak s' (S j) | e => Q e s') (S i)) : AWp P nt (.loop c) Q s := fun w0 M0 I0 I mu a w r => by
  obtain ⟨mu', r'⟩ := h0 w0 M0 I0 nt I mu a w r
  intro b k cs
  have key : ∀ n i I mu a w, m i = n → Rel w0 M0 I0 nt ((S i).nx ≤ ·) I mu (S i).fs a w →
      ∃ e a' w', APost w0 M0 I0 nt Q e a' w' ∧ Arrives P (lone (b.at a (.code c :: .inLoop c :: k)) cs w) b k cs e a' w' := by
    intro n
    induction n using Nat.strongRecOn with
    | _ n ih =>
      intro i I mu a w hn r
      obtain ⟨e, a₁, w₁, ⟨x, s', I', mu', q, he, r'⟩, harr⟩ := round i w0 M0 I0 I mu a w r b (.inLoop c :: k) cs
      cases x <;> cases e <;> simp only [ERep] at he
      case normal.normal =>
        obtain ⟨j, hlt, hw⟩ := q
        obtain ⟨mu'', r''⟩ := hw w0 M0 I0 nt I' mu' a₁ w₁ r'
        obtain ⟨e₂, a₂, w₂, hq₂, harr₂⟩ := ih (m j) (hn ▸ hlt) j I' mu'' a₁ w₁ rfl r''
        exact ⟨e₂, a₂, w₂, hq₂, .of_steps (Steps.trans harr (.one step_inLoop)) harr₂⟩
      all_goals
        refine ⟨_, a₁, w₁, ?_, .pass (x := .inLoop c) rfl (fun _ _ => .inl (by simp)) harr⟩
        exact ⟨_, s', I', mu', q, he, r'⟩
  obtain ⟨e, a', w', hq, harr⟩ := key _ i0 I mu' a w rfl r'
  exact ⟨e, a', w', hq, .of_steps (.one step_loop) harr⟩
end rules
end Go.Ab
