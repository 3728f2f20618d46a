/- The exact evaluator, part 3: what its values, blocks and states stand for. -/
import Derived.Test.YtblbhfnpneliiaaGreatDoorExRun
import Derived.RangeFuncLeaves
import Derived.OrdersIn
import Derived.RecoverIn
import Derived.WalkKit
namespace Go.Ex
open Go.RowKit
open Go.Ab (TI Sh setL tiOf Wrote)

/-- Where a name's block lies, and how many rows it has room for. -/
abbrev Mu := Nat → Option (Nat × Nat)
mutual
def conc (m : Mu) : X → Option Value
  | .v x => some x
  | .agg l => (concL m l).map fun us => .agg us.toArray
  | .tup l => (concL m l).map fun us => .tuple us.toArray
  | .ptr b o => (m b).map fun p => .pointer (some ⟨p.1, o, none⟩)
  | .slc b o len cap => (m b).map fun p => .slice (some ⟨p.1, o, none⟩) len cap
  | .gsl b i len sz => (m b).map fun p => .slice (some ⟨p.1, i * sz, none⟩) len (p.2 - i)
  | .mp b => (m b).map fun p => .map (some p.1)
  | .it b => (m b).map fun p => .pointer (some ⟨p.1, 0, none⟩)
  | .fn f fs cs => match concL m fs, concL m cs with
    | some us, some vs => some (.func (.func f) us.toArray vs.toArray)
    | _, _ => none
  | .yld b => (m b).map fun p => .func (.yield p.1) #[] #[]
  | .iface t x => (conc m x).map (.iface t)
def concL (m : Mu) : List X → Option (List Value)
  | [] => some []
  | x :: l => match conc m x, concL m l with
    | some v, some vs => some (v :: vs)
    | _, _ => none
end
def Le (m m' : Mu) : Prop := ∀ b p, m b = some p → m' b = some p
theorem Le.refl (m : Mu) : Le m m := fun _ _ h => h
theorem Le.trans {a b c : Mu} (h : Le a b) (k : Le b c) : Le a c := fun x p hx => k x p (h x p hx)
mutual
theorem conc_mono {m m' : Mu} (h : Le m m') : ∀ (x : X) (v : Value), conc m x = some v → conc m' x = some v
  | .v x, v, e => by simpa [conc] using e
  | .agg l, v, e => by
    simp only [conc, Option.map_eq_some_iff] at e ⊢
    obtain ⟨us, h1, h2⟩ := e
    exact ⟨us, concL_mono h l us h1, h2⟩
  | .tup l, v, e => by
    simp only [conc, Option.map_eq_some_iff] at e ⊢
    obtain ⟨us, h1, h2⟩ := e
    exact ⟨us, concL_mono h l us h1, h2⟩
  | .ptr b o, v, e => by
    simp only [conc, Option.map_eq_some_iff] at e ⊢
    obtain ⟨p, h1, h2⟩ := e
    exact ⟨p, h b p h1, h2⟩
  | .slc b o _ _, v, e => by
    simp only [conc, Option.map_eq_some_iff] at e ⊢
    obtain ⟨p, h1, h2⟩ := e
    exact ⟨p, h b p h1, h2⟩
  | .gsl b o _ _, v, e => by
    simp only [conc, Option.map_eq_some_iff] at e ⊢
    obtain ⟨p, h1, h2⟩ := e
    exact ⟨p, h b p h1, h2⟩
  | .mp b, v, e => by
    simp only [conc, Option.map_eq_some_iff] at e ⊢
    obtain ⟨p, h1, h2⟩ := e
    exact ⟨p, h b p h1, h2⟩
  | .it b, v, e => by
    simp only [conc, Option.map_eq_some_iff] at e ⊢
    obtain ⟨p, h1, h2⟩ := e
    exact ⟨p, h b p h1, h2⟩
  | .yld b, v, e => by
    simp only [conc, Option.map_eq_some_iff] at e ⊢
    obtain ⟨p, h1, h2⟩ := e
    exact ⟨p, h b p h1, h2⟩
  | .fn f fs cs, v, e => by
    simp only [conc] at e ⊢
    split at e
    · rename_i us vs h1 h2
      rw [concL_mono h fs us h1, concL_mono h cs vs h2]
      exact e
    · cases e
  | .iface t x, v, e => by
    simp only [conc, Option.map_eq_some_iff] at e ⊢
    obtain ⟨u, h1, h2⟩ := e
    exact ⟨u, conc_mono h x u h1, h2⟩
theorem concL_mono {m m' : Mu} (h : Le m m') : ∀ (l : List X) (us : List Value), concL m l = some us → concL m' l = some us
  | [], us, e => by simpa [concL] using e
  | x :: l, us, e => by
    simp only [concL] at e ⊢
    split at e
    · rename_i v vs h1 h2
      rw [conc_mono h x v h1, concL_mono h l vs h2]
      exact e
    · cases e
end
theorem concL_cons {m : Mu} {x : X} {l : List X} {us : List Value} : concL m (x :: l) = some us ↔ ∃ v vs, conc m x = some v ∧ concL m l = some vs ∧ us = v :: vs := by
  simp only [concL]
  constructor
  · intro h
    split at h
    · rename_i v vs h1 h2
      simp only [Option.some.injEq] at h
      exact ⟨v, vs, h1, h2, h.symm⟩
    · cases h
  · rintro ⟨v, vs, h1, h2, rfl⟩
    rw [h1, h2]
theorem concL_nil {m : Mu} : concL m [] = some [] := by simp [concL]
theorem concL_length {m : Mu} : ∀ {l : List X} {us : List Value}, concL m l = some us → us.length = l.length
  | [], us, h => by simp [concL] at h; subst h; rfl
  | x :: l, us, h => by
    obtain ⟨v, vs, _, h2, rfl⟩ := concL_cons.1 h
    simp [concL_length h2]
theorem concL_get {m : Mu} : ∀ {l : List X} {us : List Value} {i : Nat} {x : X}, concL m l = some us → l[i]? = some x → ∃ v, us[i]? = some v ∧ conc m x = some v
  | [], us, i, x, h, hx => by simp at hx
  | y :: l, us, i, x, h, hx => by
    obtain ⟨v, vs, h1, h2, rfl⟩ := concL_cons.1 h
    cases i with
    | zero => simp at hx; subst hx; exact ⟨v, rfl, h1⟩
    | succ i => simpa using concL_get h2 (by simpa using hx)
theorem concL_append {m : Mu} : ∀ {a b : List X} {us vs : List Value}, concL m a = some us → concL m b = some vs → concL m (a ++ b) = some (us ++ vs)
  | [], b, us, vs, h, k => by simp [concL] at h; subst h; simpa using k
  | x :: a, b, us, vs, h, k => by
    obtain ⟨v, ws, h1, h2, rfl⟩ := concL_cons.1 h
    exact concL_cons.2 ⟨v, ws ++ vs, h1, concL_append h2 k, rfl⟩
theorem concL_take {m : Mu} : ∀ {n : Nat} {l : List X} {us : List Value}, concL m l = some us → concL m (l.take n) = some (us.take n)
  | 0, l, us, h => by simp [concL]
  | n + 1, [], us, h => by simp [concL] at h; subst h; simp [concL]
  | n + 1, x :: l, us, h => by
    obtain ⟨v, vs, h1, h2, rfl⟩ := concL_cons.1 h
    exact concL_cons.2 ⟨v, vs.take n, h1, concL_take h2, rfl⟩
theorem concL_drop {m : Mu} : ∀ {n : Nat} {l : List X} {us : List Value}, concL m l = some us → concL m (l.drop n) = some (us.drop n)
  | 0, l, us, h => by simpa using h
  | n + 1, [], us, h => by simp [concL] at h; subst h; simp [concL]
  | n + 1, x :: l, us, h => by
    obtain ⟨v, vs, h1, h2, rfl⟩ := concL_cons.1 h
    simpa using concL_drop (n := n) h2
theorem concL_mapV {m : Mu} : ∀ l : List Value, concL m (mapV l) = some l
  | [] => concL_nil
  | v :: l => concL_cons.2 ⟨v, l, by simp [conc], concL_mapV l, rfl⟩
theorem concL_setL {m : Mu} {l ns : List X} {us vs : List Value} {o : Nat} (h : concL m l = some us) (k : concL m ns = some vs) : concL m (setL l o ns) = some (setL us o vs) := by
  unfold setL
  have hl := concL_length k
  rw [hl]
  exact concL_append (concL_take h) (concL_append k (concL_drop h))

/-! plain functions on lists -/
theorem nth_eq {α : Type} : ∀ (l : List α) (k : Nat), nth l k = l[k]?
  | [], k => by simp [nth]
  | x :: l, k => by
    cases k with
    | zero => rfl
    | succ k => exact nth_eq l k
theorem takeN_eq {α : Type} : ∀ {n : Nat} {l r : List α}, takeN n l = some r → r = l.take n ∧ n ≤ l.length
  | 0, l, r, h => by simp [takeN] at h; subst h; simp
  | n + 1, [], r, h => by simp [takeN] at h
  | n + 1, x :: l, r, h => by
    simp only [takeN] at h
    split at h
    · rename_i q hq
      simp only [Option.some.injEq] at h
      subst h
      obtain ⟨h1, h2⟩ := takeN_eq hq
      exact ⟨by simp [h1], by simpa using h2⟩
    · cases h
theorem dropN_eq {α : Type} : ∀ {n : Nat} {l r : List α}, dropN n l = some r → r = l.drop n ∧ n ≤ l.length
  | 0, l, r, h => by simp [dropN] at h; subst h; simp
  | n + 1, [], r, h => by simp [dropN] at h
  | n + 1, x :: l, r, h => by
    simp only [dropN] at h
    obtain ⟨h1, h2⟩ := dropN_eq h
    exact ⟨by simp [h1], by simpa using h2⟩
theorem piece_eq {α : Type} {l r : List α} {o n : Nat} (h : piece l o n = some r) : r = (l.drop o).take n ∧ o + n ≤ l.length := by
  unfold piece at h
  split at h
  · rename_i q hq
    obtain ⟨h1, h2⟩ := dropN_eq hq
    obtain ⟨h3, h4⟩ := takeN_eq h
    subst h1
    refine ⟨h3, ?_⟩
    simp only [List.length_drop] at h4
    omega
  · cases h
theorem setL_nil {α : Type} (l : List α) (o : Nat) : setL l o [] = l := by simp [setL]
theorem put_eq {α : Type} : ∀ {l : List α} {o : Nat} {ys r : List α}, put l o ys = some r → r = setL l o ys ∧ o + ys.length ≤ l.length
  | l, 0, [], r, h => by
    have : r = l := by cases l <;> simp only [put, Option.some.injEq] at h <;> exact h.symm
    subst this
    simp [setL]
  | [], 0, _ :: _, r, h => by simp [put] at h
  | _ :: l, 0, y :: ys, r, h => by
    simp only [put] at h
    split at h
    · rename_i q hq
      simp only [Option.some.injEq] at h
      subst h
      obtain ⟨h1, h2⟩ := put_eq hq
      refine ⟨by simp [h1, setL], by simp at h2 ⊢; omega⟩
    · cases h
  | [], _ + 1, ys, r, h => by simp [put] at h
  | x :: l, o + 1, ys, r, h => by
    simp only [put] at h
    split at h
    · rename_i q hq
      simp only [Option.some.injEq] at h
      subst h
      obtain ⟨h1, h2⟩ := put_eq hq
      refine ⟨?_, by simp at h2 ⊢; omega⟩
      rw [h1]
      simp only [setL, List.take_succ_cons, List.cons_append]
      have : o + 1 + ys.length = (o + ys.length) + 1 := by omega
      rw [this, List.drop_succ_cons]
    · cases h
theorem lenL_eq {α : Type} : ∀ l : List α, lenL l = l.length
  | [] => rfl
  | _ :: l => by simp [lenL, lenL_eq l]

/-! finite maps -/
theorem get_nil {α : Type} (k : Nat) : (Tr.nil : Tr α).get k = none := rfl
theorem get_setF {α : Type} : ∀ (n : Nat) (t : Tr α) (k : Nat) (x : Option α) (j : Nat), k < n → (Tr.setF n t k x).get j = if k = j then x else t.get j := by
  intro n
  induction n with
  | zero => intro t k x j h; omega
  | succ n ih =>
    intro t k x j h
    have key : ∀ (v : Option α) (l r : Tr α), (bif Nat.beq k 0 then Tr.node x l r else bif Nat.beq (Nat.mod k 2) 1 then .node v (Tr.setF n l (Nat.div k 2) x) r else .node v l (Tr.setF n r (Nat.pred (Nat.div k 2)) x)).get j = if k = j then x else (Tr.node v l r).get j := by
      intro v l r
      by_cases hk : k = 0
      · subst hk
        simp only [Nat.beq_refl, cond_true, Tr.get]
        by_cases hj : j = 0
        · subst hj; simp
        · have h1 : Nat.beq j 0 = false := by cases j with | zero => exact absurd rfl hj | succ j => rfl
          simp only [h1, cond_false]
          rw [if_neg (fun e => hj e.symm)]
      · have h1 : Nat.beq k 0 = false := by cases k with | zero => exact absurd rfl hk | succ k => rfl
        simp only [h1, cond_false]
        have hdiv : Nat.div k 2 = k / 2 := rfl
        have hmod : Nat.mod k 2 = k % 2 := rfl
        have hdivj : Nat.div j 2 = j / 2 := rfl
        have hmodj : Nat.mod j 2 = j % 2 := rfl
        rw [hdiv, hmod]
        cases hm : Nat.beq (k % 2) 1 with
        | true =>
          have hm' : k % 2 = 1 := Nat.eq_of_beq_eq_true hm
          simp only [cond_true, Tr.get]
          by_cases hj : j = 0
          · subst hj; simp [hk]
          · have h2 : Nat.beq j 0 = false := by cases j with | zero => exact absurd rfl hj | succ j => rfl
            simp only [h2, cond_false, hdivj, hmodj]
            cases hn : Nat.beq (j % 2) 1 with
            | true =>
              have hn' : j % 2 = 1 := Nat.eq_of_beq_eq_true hn
              simp only [cond_true]
              rw [ih l (k / 2) x (j / 2) (by omega)]
              by_cases e : k = j
              · subst e; simp
              · rw [if_neg e, if_neg (by omega)]
            | false =>
              have hn' : j % 2 ≠ 1 := fun e => by rw [e] at hn; cases hn
              simp only [cond_false]
              rw [if_neg (fun e => by subst e; exact hn' hm')]
        | false =>
          have hm' : k % 2 ≠ 1 := fun e => by rw [e] at hm; cases hm
          simp only [cond_false, Tr.get]
          by_cases hj : j = 0
          · subst hj; simp [hk]
          · have h2 : Nat.beq j 0 = false := by cases j with | zero => exact absurd rfl hj | succ j => rfl
            simp only [h2, cond_false, hdivj, hmodj]
            cases hn : Nat.beq (j % 2) 1 with
            | true =>
              have hn' : j % 2 = 1 := Nat.eq_of_beq_eq_true hn
              simp only [cond_true]
              rw [if_neg (fun e => by subst e; exact hm' hn')]
            | false =>
              have hn' : j % 2 ≠ 1 := fun e => by rw [e] at hn; cases hn
              simp only [cond_false, Nat.pred_eq_sub_one]
              rw [ih r (k / 2 - 1) x (j / 2 - 1) (by omega)]
              by_cases e : k = j
              · subst e; simp
              · rw [if_neg e, if_neg (by omega)]
    cases t with
    | node v l r => exact key v l r
    | nil =>
      have := key none .nil .nil
      have hn : ∀ i, (Tr.node none (.nil : Tr α) .nil).get i = none := by
        intro i
        simp only [Tr.get]
        cases Nat.beq i 0 <;> cases Nat.beq (Nat.mod i 2) 1 <;> rfl
      rw [hn] at this
      rw [get_nil, ← this]
      simp only [Tr.setF]
theorem get_set {α : Type} (t : Tr α) (k : Nat) (x : Option α) (j : Nat) : (t.set k x).get j = if k = j then x else t.get j := get_setF _ _ _ _ _ (Nat.lt_succ_self k)

/-! blocks -/
def concE (m : Mu) : List (Value × X × Nat) → Option (List MapEntry)
  | [] => some []
  | (k, x, n) :: l => match conc m x, concE m l with
    | some v, some r => some (⟨k, v, n⟩ :: r)
    | _, _ => none
theorem concE_cons {m : Mu} {k : Value} {x : X} {n : Nat} {l : List (Value × X × Nat)} {us : List MapEntry} : concE m ((k, x, n) :: l) = some us ↔ ∃ v vs, conc m x = some v ∧ concE m l = some vs ∧ us = ⟨k, v, n⟩ :: vs := by
  simp only [concE]
  constructor
  · intro h
    split at h
    · rename_i v vs h1 h2
      simp only [Option.some.injEq] at h
      exact ⟨v, vs, h1, h2, h.symm⟩
    · cases h
  · rintro ⟨v, vs, h1, h2, rfl⟩
    rw [h1, h2]
theorem concE_mono {m m' : Mu} (h : Le m m') : ∀ (l : List (Value × X × Nat)) (us : List MapEntry), concE m l = some us → concE m' l = some us
  | [], us, e => by simpa [concE] using e
  | (k, x, n) :: l, us, e => by
    obtain ⟨v, vs, h1, h2, rfl⟩ := concE_cons.1 e
    exact concE_cons.2 ⟨v, vs, conc_mono h x v h1, concE_mono h l vs h2, rfl⟩
/-- An activation's slots. -/
def ERel (m : Mu) (nt : Nat) (env : Tr X) (tmps : Array Value) : Prop := tmps.size = nt ∧ ∀ t, conc m (evX env (.tmp t)) = some (tmps.getD t undef)
theorem ERel.mono {m m' : Mu} {nt : Nat} {env : Tr X} {tmps : Array Value} (h : ERel m nt env tmps) (hm : Le m m') : ERel m' nt env tmps := ⟨h.1, fun t => conc_mono hm _ _ (h.2 t)⟩
def BRel (m : Mu) (c : Nat) : B → Obj → Prop
  | .row T l fz, o => ∃ us, concL m l = some us ∧ o = .cells us.toArray T fz
  | .grow T l sz fz, o => ∃ us tail, concL m l = some us ∧ o = .cells (us ++ tail).toArray T fz ∧ (us ++ tail).length = c * sz
  | .map es clock, o => ∃ l, concE m es = some l ∧ o = .map l.toArray clock
  | .iter none since seen st, o => o = .mapIter none since seen.toArray st
  | .iter (some b) since seen st, o => ∃ p, m b = some p ∧ o = .mapIter (some p.1) since seen.toArray st
  | .loop st pd _ nt env ps a b d, o => ∃ (f : FuncId) (tmps : Array Value) (p : Nat × Nat), m d = some p ∧ ERel m nt env tmps ∧ o = .loop { state := st, pending := pd, fn := f, tmps, params := ps.toArray, assign := a, body := b, defers := p.1 }
  | .defd true, o => o = .deferred (some [])
  | .defd false, o => o = .deferred none
theorem BRel.mono {m m' : Mu} {c : Nat} {x : B} {o : Obj} (h : BRel m c x o) (hm : Le m m') : BRel m' c x o := by
  cases x with
  | row T l fz => obtain ⟨us, h1, h2⟩ := h; exact ⟨us, concL_mono hm _ _ h1, h2⟩
  | grow T l sz fz => obtain ⟨us, tl, h1, h2, h3⟩ := h; exact ⟨us, tl, concL_mono hm _ _ h1, h2, h3⟩
  | map es c => obtain ⟨l, h1, h2⟩ := h; exact ⟨l, concE_mono hm _ _ h1, h2⟩
  | iter b s n st => cases b with
    | none => exact h
    | some b => obtain ⟨p, h1, h2⟩ := h; exact ⟨p, hm _ _ h1, h2⟩
  | loop st pd g nt env ps a b d => obtain ⟨f, tmps, p, h1, h2, h3⟩ := h; exact ⟨f, tmps, p, hm _ _ h1, h2.mono hm, h3⟩
  | defd b => cases b <;> exact h

/-- What the world holds. -/
structure WR (w0 : World) (M0 fr : Nat → Prop) (m : Mu) (h : Nat → Option B) (w : World) : Prop where
  blk : ∀ b x, h b = some x → ∃ k c o, m b = some (k, c) ∧ w.heap[k]? = some o ∧ BRel m c x o
  own : ∀ b x k c, h b = some x → m b = some (k, c) → M0 k ∨ w0.heap.size ≤ k
  inj : ∀ b b' x x' k c c', h b = some x → h b' = some x' → m b = some (k, c) → m b' = some (k, c') → b = b'
  fresh : ∀ b, fr b → m b = none
  old : ∀ k, k < w0.heap.size → ¬ M0 k → w.heap[k]? = w0.heap[k]?
  grown : w0.heap.size ≤ w.heap.size
  os : w.os = w0.os
  tape : w.tape = w0.tape
  output : w.output = w0.output

def upd (h : Nat → Option B) (b : Nat) (x : Option B) : Nat → Option B := fun c => if b = c then x else h c
def mset (m : Mu) (b : Nat) (p : Nat × Nat) : Mu := fun c => if b = c then some p else m c
theorem mset_le {m : Mu} {b : Nat} {p : Nat × Nat} (h : m b = none) : Le m (mset m b p) := by
  intro c q hc
  unfold mset
  rw [if_neg (by rintro rfl; rw [h] at hc; cases hc)]
  exact hc
theorem mset_self (m : Mu) (b : Nat) (p : Nat × Nat) : mset m b p b = some p := by simp [mset]

section
variable {w0 : World} {M0 fr : Nat → Prop} {m : Mu} {h : Nat → Option B} {w : World}
theorem WR.less {fr' : Nat → Prop} (r : WR w0 M0 fr m h w) (hf : ∀ b, fr' b → fr b) : WR w0 M0 fr' m h w := { r with fresh := fun b hb => r.fresh b (hf b hb) }
theorem WR.drop {h' : Nat → Option B} (r : WR w0 M0 fr m h w) (hh : ∀ b x, h' b = some x → h b = some x) : WR w0 M0 fr m h' w :=
  { r with blk := fun b x hb => r.blk b x (hh b x hb), own := fun b x k c hb => r.own b x k c (hh b x hb), inj := fun b b' x x' k c c' hb hb' => r.inj b b' x x' k c c' (hh b x hb) (hh b' x' hb') }
theorem WR.lt (r : WR w0 M0 fr m h w) {b : Nat} {x : B} {k c : Nat} (hb : h b = some x) (hm : m b = some (k, c)) : k < w.heap.size := by
  obtain ⟨k', c', o, h1, h2, _⟩ := r.blk b x hb
  rw [hm] at h1
  simp only [Option.some.injEq, Prod.mk.injEq] at h1
  obtain ⟨rfl, rfl⟩ := h1
  exact (Array.getElem?_eq_some_iff.1 h2).1
/-- A new block. -/
theorem WR.new (r : WR w0 M0 fr m h w) {id : Nat} (hid : fr id) (o : Obj) (c : Nat) (x : B) (hb : BRel (mset m id (w.heap.size, c)) c x o) :
    WR w0 M0 (fun b => fr b ∧ b ≠ id) (mset m id (w.heap.size, c)) (upd h id (some x)) (w.alloc o) ∧ Le m (mset m id (w.heap.size, c)) := by
  have hle := mset_le (p := (w.heap.size, c)) (r.fresh id hid)
  refine ⟨⟨fun b y hy => ?_, fun b y k c' hy hm => ?_, fun b b' y y' k c1 c2 hy hy' hm hm' => ?_, fun b hb => ?_, fun k hk hn => ?_, ?_, r.os, r.tape, r.output⟩, hle⟩
  · unfold upd at hy
    by_cases e : id = b
    · rw [if_pos e] at hy; cases hy; subst e
      exact ⟨w.heap.size, c, o, mset_self _ _ _, heap_alloc_new w o, hb⟩
    · rw [if_neg e] at hy
      obtain ⟨k, c', o', h1, h2, h3⟩ := r.blk b y hy
      exact ⟨k, c', o', hle _ _ h1, by rw [Below.heap_alloc w o k (Array.getElem?_eq_some_iff.1 h2).1]; exact h2, h3.mono hle⟩
  · unfold upd at hy
    by_cases e : id = b
    · subst e
      rw [mset_self] at hm
      simp only [Option.some.injEq, Prod.mk.injEq] at hm
      exact .inr (hm.1 ▸ r.grown)
    · rw [if_neg e] at hy
      simp only [mset, if_neg e] at hm
      exact r.own b y k c' hy hm
  · unfold upd at hy hy'
    by_cases e : id = b <;> by_cases e' : id = b'
    · rw [← e, ← e']
    · exfalso
      rw [if_neg e'] at hy'
      simp only [mset, if_pos e, if_neg e', Option.some.injEq, Prod.mk.injEq] at hm hm'
      have := r.lt hy' hm'
      omega
    · exfalso
      rw [if_neg e] at hy
      simp only [mset, if_pos e', if_neg e, Option.some.injEq, Prod.mk.injEq] at hm hm'
      have := r.lt hy hm
      omega
    · rw [if_neg e] at hy
      rw [if_neg e'] at hy'
      simp only [mset, if_neg e, if_neg e'] at hm hm'
      exact r.inj b b' y y' k c1 c2 hy hy' hm hm'
  · simp only [mset, if_neg (fun e => hb.2 (Eq.symm e))]
    exact r.fresh b hb.1
  · rw [Below.heap_alloc w o k (by have := r.grown; omega)]
    exact r.old k hk hn
  · have := r.grown; simp; omega
/-- A block that is written. -/
theorem WR.wrote (r : WR w0 M0 fr m h w) {b k c : Nat} {x : B} (hx : h b = some x) (hm : m b = some (k, c)) {w' : World} (hw : Wrote k w w') (x' : B) (o' : Obj) (ho : w'.heap[k]? = some o') (hb : BRel m c x' o') :
    WR w0 M0 fr m (upd h b (some x')) w' := by
  have key : ∀ d y, upd h b (some x') d = some y → ∃ y', h d = some y' := by
    intro d y hy
    unfold upd at hy
    by_cases e : b = d
    · subst e; exact ⟨x, hx⟩
    · rw [if_neg e] at hy; exact ⟨y, hy⟩
  refine ⟨fun d y hy => ?_, fun d y k' c' hy hm' => ?_, fun d d' y y' k' c1 c2 hy hy' h1 h2 => ?_, r.fresh, fun j hj hn => ?_, by rw [hw.size]; exact r.grown, hw.os.trans r.os, hw.tape.trans r.tape, hw.output.trans r.output⟩
  · have hy0 := hy
    unfold upd at hy
    by_cases e : b = d
    · rw [if_pos e] at hy; cases hy; subst e
      exact ⟨k, c, o', hm, ho, hb⟩
    · rw [if_neg e] at hy
      obtain ⟨k', c', o, h1, h2, h3⟩ := r.blk d y hy
      refine ⟨k', c', o, h1, ?_, h3⟩
      rw [hw.other k' (fun hk => ?_)]
      · exact h2
      · subst hk
        exact e (r.inj b d x y k' c c' hx hy hm h1)
  · obtain ⟨y', hy'⟩ := key d y hy
    exact r.own d y' k' c' hy' hm'
  · obtain ⟨z, hz⟩ := key d y hy
    obtain ⟨z', hz'⟩ := key d' y' hy'
    exact r.inj d d' z z' k' c1 c2 hz hz' h1 h2
  · rw [hw.other j (fun hk => ?_)]
    · exact r.old j hj hn
    · subst hk
      rcases r.own b x j c hx hm with h1 | h1
      · exact hn h1
      · omega
/-- A block that takes another name. -/
theorem WR.take (r : WR w0 M0 fr m h w) {b k c id : Nat} {x : B} (hx : h b = some x) (hm : m b = some (k, c)) (hid : fr id) {w' : World} (hw : Wrote k w w') (x' : B) (o' : Obj) (ho : w'.heap[k]? = some o') (hb : BRel m c x' o') :
    WR w0 M0 (fun b => fr b ∧ b ≠ id) (mset m id (k, c)) (upd (upd h id (some x')) b none) w' ∧ Le m (mset m id (k, c)) := by
  have hle := mset_le (p := (k, c)) (r.fresh id hid)
  have hne : b ≠ id := fun e => by rw [e, r.fresh id hid] at hm; cases hm
  have key : ∀ d y, upd (upd h id (some x')) b none d = some y → (d = id ∧ y = x') ∨ (d ≠ id ∧ d ≠ b ∧ h d = some y) := by
    intro d y hy
    unfold upd at hy
    by_cases e : b = d
    · rw [if_pos e] at hy; cases hy
    · rw [if_neg e] at hy
      by_cases e' : id = d
      · rw [if_pos e'] at hy; cases hy; exact .inl ⟨e'.symm, rfl⟩
      · rw [if_neg e'] at hy; exact .inr ⟨Ne.symm e', Ne.symm e, hy⟩
  have ms : ∀ d, d ≠ id → mset m id (k, c) d = m d := fun d hd => by simp only [mset]; rw [if_neg (fun e => hd e.symm)]
  refine ⟨⟨fun d y hy => ?_, fun d y k' c' hy hm' => ?_, fun d d' y y' k' c1 c2 hy hy' h1 h2 => ?_, fun d hd => ?_, fun j hj hn => ?_, by rw [hw.size]; exact r.grown, hw.os.trans r.os, hw.tape.trans r.tape, hw.output.trans r.output⟩, hle⟩
  · rcases key d y hy with ⟨rfl, rfl⟩ | ⟨h1, h2, h3⟩
    · exact ⟨k, c, o', mset_self _ _ _, ho, hb.mono hle⟩
    · obtain ⟨k', c', o, g1, g2, g3⟩ := r.blk d y h3
      refine ⟨k', c', o, hle _ _ g1, ?_, g3.mono hle⟩
      rw [hw.other k' (fun hk => ?_)]
      · exact g2
      · subst hk
        exact h2 (r.inj b d x y k' c c' hx h3 hm g1).symm
  · rcases key d y hy with ⟨rfl, rfl⟩ | ⟨h1, h2, h3⟩
    · rw [mset_self] at hm'
      simp only [Option.some.injEq, Prod.mk.injEq] at hm'
      obtain ⟨rfl, rfl⟩ := hm'
      exact r.own b x k c hx hm
    · rw [ms d h1] at hm'
      exact r.own d y k' c' h3 hm'
  · rcases key d y hy with ⟨rfl, rfl⟩ | ⟨g1, g2, g3⟩ <;> rcases key d' y' hy' with ⟨e1, e2⟩ | ⟨g1', g2', g3'⟩
    · exact e1.symm
    · exfalso
      rw [mset_self] at h1
      simp only [Option.some.injEq, Prod.mk.injEq] at h1
      obtain ⟨rfl, rfl⟩ := h1
      rw [ms d' g1'] at h2
      exact g2' (r.inj b d' x y' k c c2 hx g3' hm h2).symm
    · exfalso
      subst e1
      rw [mset_self] at h2
      simp only [Option.some.injEq, Prod.mk.injEq] at h2
      obtain ⟨rfl, rfl⟩ := h2
      rw [ms d g1] at h1
      exact g2 (r.inj b d x y k c c1 hx g3 hm h1).symm
    · rw [ms d g1] at h1
      rw [ms d' g1'] at h2
      exact r.inj d d' y y' k' c1 c2 g3 g3' h1 h2
  · rw [ms d hd.2]; exact r.fresh d hd.1
  · rw [hw.other j (fun hk => ?_)]
    · exact r.old j hj hn
    · subst hk
      rcases r.own b x j c hx hm with h1 | h1
      · exact hn h1
      · omega
end
end Go.Ex
