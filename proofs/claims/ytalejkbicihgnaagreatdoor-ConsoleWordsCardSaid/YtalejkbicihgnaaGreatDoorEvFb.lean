/- The exact evaluator: maps that are written out. -/
import Derived.Test.YtalejkbicihgnaaGreatDoorEvFa
set_option maxHeartbeats 4000000
set_option maxRecDepth 20000
set_option linter.unusedVariables false
set_option linter.unusedSimpArgs false
/- The exact evaluator, part 14b: a map that is written out in a region that draws its order. -/
namespace Go.Ex
noncomputable section
open Go.RowKit
open Go.Ab (Sh reach Clo opsIn opsIn_spec)

theorem litQl_inv : ∀ {l : List Oper} {n : Nat}, litQl l n = true → ∀ o ∈ l, o.guard = none ∧ (∀ k, o.op ≠ .call k) ∧ (∀ k, o.op ≠ .defer k) ∧ ∀ t m k y, o.op = .insert t m k y → o.dst = none
  | [], _, _, _, ho => by cases ho
  | o :: l, n, h, x, hx => by
    have rest : ∀ n', litQl l n' = true → (o.guard = none ∧ (∀ k, o.op ≠ .call k) ∧ (∀ k, o.op ≠ .defer k) ∧ ∀ t m k y, o.op = .insert t m k y → o.dst = none) →
        (x.guard = none ∧ (∀ k, x.op ≠ .call k) ∧ (∀ k, x.op ≠ .defer k) ∧ ∀ t m k y, x.op = .insert t m k y → x.dst = none) := fun n' h' k => by
      rcases List.mem_cons.1 hx with rfl | hx
      · exact k
      · exact litQl_inv h' x hx
    unfold litQl at h
    split at h
    · cases h
    · rename_i hg
      split at h
      · rename_i t m s y hop
        split at h
        · rename_i hd
          exact rest _ h ⟨hg, fun k e => (by rw [hop] at e; cases e), fun k e => (by rw [hop] at e; cases e), fun _ _ _ _ _ => hd⟩
        · cases h
      · cases h
      · cases h
      · cases h
      · rename_i h1 h2 h3 h4
        exact rest _ h ⟨hg, fun k e => h3 _ e, fun k e => h4 _ e, fun t m k y e => (h2 _ _ _ _ e).elim⟩

theorem keyEq_str (a b : ByteArray) : keyEq (.string a) (.string b) = some (decide (a = b)) := by
  simp only [keyEq, beqL_eq, Option.some.injEq]
  by_cases h : a = b
  · subst h; simp
  · have : strL a ≠ strL b := fun e => h (by cases a; cases b; simp only [strL] at e; congr; exact Array.ext' e)
    simp [h, this]
theorem findK_none {k : ByteArray} : ∀ {es : List (Value × X × Nat)}, findK (.string k) es = some none ↔ ∀ e ∈ es, ∃ s, e.1 = .string s ∧ s ≠ k
  | [] => by simp [findK]
  | (k', x, n) :: es => by
    cases k' with
    | string s =>
      simp only [findK, keyEq_str]
      by_cases h : k = s
      · subst h; simp
      · have h2 : ¬ s = k := fun e => h e.symm
        simp only [h, decide_false]
        rw [findK_none]
        simp [h2]
    | _ => simp [findK, keyEq]
theorem tyq_to {c : Cx} {t : TypeId} {ti : Go.Ab.TI} (h : c.ti.get t = some ti) (F : Go.Ab.TI → Rs) : tyq c t F = F ti := by simp [tyq, h]
theorem mpq_to {c : Cx} {t : TypeId} {K K' : Sh → TypeId → Rs} {e : Ef} (h : mpq c t K = some e) : ∃ ks ty, K ks ty = some e ∧ mpq c t K' = K' ks ty := by
  unfold mpq at h
  obtain ⟨ti, ht, h⟩ := tyq_inv h
  split at h
  · rename_i a b hs
    obtain ⟨tk, hk, h⟩ := tyq_inv h
    refine ⟨tk.sh, b, h, ?_⟩
    unfold mpq
    rw [tyq_to ht]
    simp only [hs]
    rw [tyq_to hk]
  · cases h
theorem isStr_inv {ks : Sh} (h : isStr ks = true) : ks = .str := by cases ks <;> first | rfl | cases h
theorem ordM_len (es : List (Value × X × Nat)) : ordM es es.length = true := by cases es <;> rfl

section
variable {c : Cx} {hp : Tr B} {b0 : Nat}
theorem litOp_inv {o : Oper} {q q' : Lt} (h : litOp c hp b0 o q = some q') :
    (∃ t m k y, o.op = .insert t m (.const (.string k)) y ∧ evX q.env m = .mp b0 ∧ findK (.string k) q.es = some none ∧ (∃ ty : TypeId, ∀ K : Sh → TypeId → Rs, ∃ ty, mpq c t K = K .str ty) ∧
      q' = ⟨q.env, Nat.succ q.nx, q.es ++ [(.string k, evX q.env y, 0)], ⟨[q.nx], q.nx, q.nx, [b0], false⟩ :: q.sk⟩) ∨
    ((∀ t m k y, o.op ≠ .insert t m (.const (.string k)) y) ∧ ∃ x, stepX c q.nx (evX q.env) hp o.op = some ⟨x, [], []⟩ ∧
      q' = ⟨setDst q.env o.dst x, Nat.succ q.nx, q.es, ⟨[], q.nx, q.nx, [], false⟩ :: q.sk⟩) := by
  unfold litOp at h
  split at h
  · rename_i t m k y hop
    split at h
    · rename_i b e hm hf hq
      replace h := bif_inv h
      obtain ⟨hb, h⟩ := h
      have hb := Nat.eq_of_beq_eq_true hb
      subst hb
      simp only [Option.some.injEq] at h
      refine .inl ⟨t, m, k, y, hop, hm, hf, ⟨0, fun K => ?_⟩, h.symm⟩
      obtain ⟨ks, ty, h1, h2⟩ := mpq_to (K' := K) hq
      have := isStr_inv (bif_inv h1).1
      subst this
      exact ⟨ty, h2⟩
    · cases h
  · rename_i hop
    split at h
    · rename_i x hx
      simp only [Option.some.injEq] at h
      exact .inr ⟨hop, x, hx, h.symm⟩
    · cases h
theorem litOps_chain : ∀ {l : List Oper} {q q' : Lt}, litOps c hp b0 l q = some q' → ∃ qs : Nat → Lt, qs 0 = q ∧ qs l.length = q' ∧ ∀ j o, l[j]? = some o → litOp c hp b0 o (qs j) = some (qs (j + 1))
  | [], q, q', h => by
    simp only [litOps, Option.some.injEq] at h
    exact ⟨fun _ => q, rfl, h, fun j o ho => by simp at ho⟩
  | o :: l, q, q', h => by
    simp only [litOps] at h
    split at h
    · rename_i q1 h1
      obtain ⟨qs, k1, k2, k3⟩ := litOps_chain h
      refine ⟨fun j => match j with | 0 => q | j + 1 => qs j, rfl, k2, fun j o' ho => ?_⟩
      cases j with
      | zero =>
        simp only [List.getElem?_cons_zero, Option.some.injEq] at ho
        subst ho
        show litOp c hp b0 o q = some (qs 0)
        rw [k1]; exact h1
      | succ j => exact k3 j o' (by simpa using ho)
    · cases h
def entO (o : Oper) (q : Lt) : Option (Value × X) := match o.op with
  | .insert _ _ (.const (.string k)) y => some (.string k, evX q.env y)
  | _ => none
def skO (b0 : Nat) (o : Oper) (q : Lt) : Sk := match o.op with
  | .insert _ _ (.const (.string _)) _ => ⟨[q.nx], q.nx, q.nx, [b0], false⟩
  | _ => ⟨[], q.nx, q.nx, [], false⟩
def litE (c : Cx) (hp : Tr B) (b0 : Nat) (o : Oper) (q : Lt) : EX := match o.op with
  | .insert _ _ (.const (.string _)) _ => ⟨u0, fun b => if b = q.nx then some (some (.defd true)) else none, fun b => b = b0, fun b => b = q.nx⟩
  | op => match stepX c q.nx (evX q.env) hp op with
    | some e => ⟨e.x, fun _ => none, fun _ => False, fun b => b = q.nx⟩
    | none => noE
/-- What an operation of it is: an entry, or plain. -/
theorem litOp_is {o : Oper} {q q' : Lt} (h : litOp c hp b0 o q = some q') : q'.nx = q.nx + 1 ∧ q'.sk = skO b0 o q :: q.sk ∧
    ((∃ t m k y, o.op = .insert t m (.const (.string k)) y ∧ evX q.env m = .mp b0 ∧ (∀ K : Sh → TypeId → Rs, ∃ ty, mpq c t K = K .str ty) ∧ entO o q = some (.string k, evX q.env y) ∧ (∀ e ∈ q.es, ∃ s, e.1 = .string s ∧ s ≠ k) ∧ q'.env = q.env ∧ q'.es = q.es ++ [(.string k, evX q.env y, 0)] ∧
      litE c hp b0 o q = ⟨u0, fun b => if b = q.nx then some (some (.defd true)) else none, fun b => b = b0, fun b => b = q.nx⟩ ∧ skO b0 o q = ⟨[q.nx], q.nx, q.nx, [b0], false⟩) ∨
     (∃ x, stepX c q.nx (evX q.env) hp o.op = some ⟨x, [], []⟩ ∧ entO o q = none ∧ q'.env = setDst q.env o.dst x ∧ q'.es = q.es ∧ litE c hp b0 o q = ⟨x, fun _ => none, fun _ => False, fun b => b = q.nx⟩ ∧ skO b0 o q = ⟨[], q.nx, q.nx, [], false⟩)) := by
  rcases litOp_inv h with ⟨t, m, k, y, h1, h2, h3, ⟨_, h4⟩, rfl⟩ | ⟨h1, x, h2, rfl⟩
  · have e1 : skO b0 o q = ⟨[q.nx], q.nx, q.nx, [b0], false⟩ := by unfold skO; rw [h1]
    exact ⟨rfl, by rw [e1], .inl ⟨t, m, k, y, h1, h2, h4, by unfold entO; rw [h1], findK_none.1 h3, rfl, rfl, by unfold litE; rw [h1], e1⟩⟩
  · have e0 : skO b0 o q = ⟨[], q.nx, q.nx, [], false⟩ := by
      unfold skO
      split
      · rename_i t m k y hop; exact absurd hop (h1 t m k y)
      · rfl
    refine ⟨rfl, by rw [e0], .inr ⟨x, h2, ?_, rfl, rfl, ?_, e0⟩⟩
    · unfold entO
      split
      · rename_i t m k y hop; exact absurd hop (h1 t m k y)
      · rfl
    · unfold litE
      split
      · rename_i t m k y hop; exact absurd hop (h1 t m k y)
      · rw [h2]
end

theorem WR.reb {w0 : World} {M0 fr : Nat → Prop} {m : Mu} {h : Nat → Option B} {w : World} (r : WR w0 M0 fr m h w) {b0 : Nat} {x y : B} (hx : h b0 = some x) (hb : ∀ cc o, BRel m cc x o → BRel m cc y o) : WR w0 M0 fr m (upd h b0 (some y)) w := by
  have key : ∀ b z, upd h b0 (some y) b = some z → ∃ z', h b = some z' ∧ ∀ cc o, BRel m cc z' o → BRel m cc z o := by
    intro b z hz
    unfold upd at hz
    by_cases e : b0 = b
    · subst e
      rw [if_pos rfl, Option.some.injEq] at hz
      subst hz
      exact ⟨x, hx, hb⟩
    · rw [if_neg e] at hz
      exact ⟨z, hz, fun _ _ h => h⟩
  refine ⟨fun b z hz => ?_, fun b z k cc hz hm => ?_, fun b b' z z' k cc cc' hz hz' => ?_, r.fresh, r.old, r.grown, r.os, r.tape, r.output⟩
  · obtain ⟨z', h1, h2⟩ := key b z hz
    obtain ⟨k, cc, o, g1, g2, g3⟩ := r.blk b z' h1
    exact ⟨k, cc, o, g1, g2, h2 _ _ g3⟩
  · obtain ⟨z', h1, _⟩ := key b z hz
    exact r.own b z' k cc h1 hm
  · obtain ⟨y1, h1, _⟩ := key b z hz
    obtain ⟨y2, h2, _⟩ := key b' z' hz'
    exact r.inj b b' y1 y2 k cc cc' h1 h2
def pr2 (e : Value × X × Nat) : Value × X := (e.1, e.2.1)
def prE (e : MapEntry) : Value × Value := (e.key, e.val)
theorem concE_at {m : Mu} : ∀ {es : List (Value × X × Nat)} {l : List MapEntry}, concE m es = some l → es.map pr2 = es.map pr2 ∧ ∃ us, concL m (es.map fun e => e.2.1) = some us ∧ l.map prE = (es.map (·.1)).zip us ∧ us.length = es.length
  | [], l, h => by
    simp only [concE, Option.some.injEq] at h
    subst h
    exact ⟨rfl, [], concL_nil, rfl, rfl⟩
  | (k, x, n) :: es, l, h => by
    obtain ⟨v, vs, h1, h2, rfl⟩ := concE_cons.1 h
    obtain ⟨_, us, k1, k2, k3⟩ := concE_at h2
    exact ⟨rfl, v :: us, concL_cons.2 ⟨v, us, h1, k1, rfl⟩, by simp [prE, k2], by simp [k3]⟩
/-- Entries in another order. -/
theorem concE_perm {m : Mu} {es es' : List (Value × X × Nat)} (h : (es.map pr2).Perm (es'.map pr2)) {l : List MapEntry} (hl : concE m es = some l) : ∃ l', concE m es' = some l' ∧ (l.map prE).Perm (l'.map prE) := by
  have gen : ∀ {a b : List (Value × X)}, a.Perm b → ∀ {ea : List (Value × X × Nat)} {l : List MapEntry}, ea.map pr2 = a → concE m ea = some l → ∀ {eb : List (Value × X × Nat)}, eb.map pr2 = b → ∃ l', concE m eb = some l' ∧ (l.map prE).Perm (l'.map prE) := by
    intro a b hp
    induction hp with
    | nil =>
      intro ea l h1 h2 eb h3
      have := List.map_eq_nil_iff.1 h1; subst this
      have := List.map_eq_nil_iff.1 h3; subst this
      simp only [concE, Option.some.injEq] at h2
      subst h2
      exact ⟨[], rfl, .refl _⟩
    | cons x hp ih =>
      intro ea l h1 h2 eb h3
      obtain ⟨e, ea', rfl, h4, h5⟩ := List.map_eq_cons_iff.1 h1
      obtain ⟨f, eb', rfl, h6, h7⟩ := List.map_eq_cons_iff.1 h3
      obtain ⟨k, y, n⟩ := e
      obtain ⟨k', y', n'⟩ := f
      obtain ⟨v, vs, g1, g2, rfl⟩ := concE_cons.1 h2
      obtain ⟨l', g3, g4⟩ := ih h5 g2 h7
      have e : (k, y) = (k', y') := h4.trans h6.symm
      simp only [Prod.mk.injEq] at e
      obtain ⟨rfl, rfl⟩ := e
      exact ⟨⟨k, v, n'⟩ :: l', concE_cons.2 ⟨v, l', g1, g3, rfl⟩, by simpa [prE] using g4⟩
    | swap x y l0 =>
      intro ea l h1 h2 eb h3
      obtain ⟨e, ea', rfl, h4, h5⟩ := List.map_eq_cons_iff.1 h1
      obtain ⟨e2, ea2, rfl, h4', h5'⟩ := List.map_eq_cons_iff.1 h5
      obtain ⟨f, eb', rfl, h6, h7⟩ := List.map_eq_cons_iff.1 h3
      obtain ⟨f2, eb2, rfl, h6', h7'⟩ := List.map_eq_cons_iff.1 h7
      obtain ⟨k, z, n⟩ := e
      obtain ⟨k2, z2, n2⟩ := e2
      obtain ⟨k', z', n'⟩ := f
      obtain ⟨k2', z2', n2'⟩ := f2
      obtain ⟨v, vs, g1, g2, rfl⟩ := concE_cons.1 h2
      obtain ⟨v2, vs2, g1', g2', rfl⟩ := concE_cons.1 g2
      have ea : (k, z) = (k2', z2') := h4.trans h6'.symm
      have eb : (k2, z2) = (k', z') := h4'.trans h6.symm
      simp only [Prod.mk.injEq] at ea eb
      obtain ⟨rfl, rfl⟩ := ea
      obtain ⟨rfl, rfl⟩ := eb
      obtain ⟨l', q1, q2⟩ : ∃ l', concE m eb2 = some l' ∧ vs2.map prE = l'.map prE := by
        have hs : ∀ {ea eb : List (Value × X × Nat)} {l : List MapEntry}, ea.map pr2 = eb.map pr2 → concE m ea = some l → ∃ l', concE m eb = some l' ∧ l.map prE = l'.map prE := by
          intro ea
          induction ea with
          | nil =>
            intro eb l h1 h2
            have := List.map_eq_nil_iff.1 h1.symm; subst this
            exact ⟨l, h2, rfl⟩
          | cons e ea ih =>
            intro eb l h1 h2
            obtain ⟨f, eb', rfl, h6, h7⟩ := List.map_eq_cons_iff.1 h1.symm
            obtain ⟨k, y, n⟩ := e
            obtain ⟨k', y', n'⟩ := f
            obtain ⟨v, vs, g1, g2, rfl⟩ := concE_cons.1 h2
            obtain ⟨l', g3, g4⟩ := ih h7.symm g2
            have e : (k', y') = (k, y) := h6
            simp only [Prod.mk.injEq] at e
            obtain ⟨rfl, rfl⟩ := e
            exact ⟨⟨k', v, n'⟩ :: l', concE_cons.2 ⟨v, l', g1, g3, rfl⟩, by simpa [prE] using g4⟩
        exact hs (h5'.trans h7'.symm) g2'
      exact ⟨⟨k2, v2, n'⟩ :: ⟨k, v, n2'⟩ :: l', concE_cons.2 ⟨v2, _, g1', concE_cons.2 ⟨v, l', g1, q1, rfl⟩, rfl⟩, by
        simp only [List.map_cons, prE, q2]
        exact .swap _ _ _⟩
    | trans p1 p2 ih1 ih2 =>
      rename_i a b d
      intro ea l h1 h2 eb h3
      obtain ⟨l1, g1, g2⟩ := ih1 h1 h2 (eb := b.map fun p => (p.1, p.2, 0)) (by simp [List.map_map, Function.comp_def, pr2])
      obtain ⟨l2, g3, g4⟩ := ih2 (by simp [List.map_map, Function.comp_def, pr2]) g1 h3
      exact ⟨l2, g3, g2.trans g4⟩
  exact gen h rfl hl rfl

theorem concE_keys {m : Mu} : ∀ {es : List (Value × X × Nat)} {l : List MapEntry}, concE m es = some l → l.map (·.key) = es.map (·.1)
  | [], l, h => by
    simp only [concE, Option.some.injEq] at h
    subst h; rfl
  | (k, x, n) :: es, l, h => by
    obtain ⟨v, vs, h1, h2, rfl⟩ := concE_cons.1 h
    simp [concE_keys h2]
def entA (l : List Oper) (qs : Nat → Lt) (j : Nat) : Option (Value × X) := (l[j]?).bind fun o => entO o (qs j)
def presA (b0 : Nat) (l : List Oper) (qs : Nat → Lt) (st : FS) : List (Value × X) := (List.range l.length).filterMap fun j => if (st.hp (b0 + 1 + j)).isSome then entA l qs j else none
def realA (s : S) (st : FS) (es : List (Value × X × Nat)) : FS := ⟨st.env, fun b => if b = s.nx then (if (st.hp s.nx).isSome then some (.map es es.length) else none) else s.hp.get b⟩
/-- What an activation and the world have to do with a state in which entries are marks. -/
def RL (w0 : World) (M0 : Nat → Prop) (m0 : Mu) (nt : Nat) (s : S) (l : List Oper) (qs : Nat → Lt) (fr : Nat → Prop) (st : FS) (a : Act) (w : World) : Prop :=
  (∀ b, fr b → s.nx ≤ b → st.hp b = none) ∧ (st.hp s.nx = none → ∀ b, s.nx < b → st.hp b = none) ∧ ∃ es, (es.map pr2).Perm (presA s.nx l qs st) ∧ RR w0 M0 m0 nt s.df fr (realA s st es) a w
def litEI (c : Cx) (s : S) (l : List Oper) (qs : Nat → Lt) : Nat → EX
  | 0 => ⟨.mp s.nx, fun b => if b = s.nx then some (some (.defd true)) else none, fun _ => False, fun b => b = s.nx⟩
  | j + 1 => match l[j]? with
    | some o => litE c s.hp s.nx o (qs j)
    | none => noE
def skI (b0 : Nat) (l : List Oper) (qs : Nat → Lt) (j : Nat) : Sk := match l[j]? with
  | some o => skO b0 o (qs j)
  | none => noSk
theorem wantX_none {ops : List Oper} {env : Tr X} {o : Oper} (h : o.guard = none) : wantX ops env o = some true := by unfold wantX; rw [h]
theorem fm_congr {α β : Type} {f g : α → Option β} : ∀ {l : List α}, (∀ x ∈ l, f x = g x) → l.filterMap f = l.filterMap g
  | [], _ => rfl
  | x :: l, h => by rw [List.filterMap_cons, List.filterMap_cons, h x List.mem_cons_self, fm_congr fun y hy => h y (List.mem_cons_of_mem _ hy)]
theorem pres_more {n jj : Nat} {f : Nat → Option (Value × X)} {p p' : Nat → Bool} {v : Value × X} (hj : jj < n) (hv : f jj = some v) (h0 : p jj = false) (h1 : p' jj = true) (h2 : ∀ j, j ≠ jj → p' j = p j) :
    (v :: (List.range n).filterMap fun j => if p j then f j else none).Perm ((List.range n).filterMap fun j => if p' j then f j else none) := by
  rw [Go.Ab.range_split hj, List.filterMap_append, List.filterMap_append, List.filterMap_cons, List.filterMap_cons]
  have e1 : (List.range jj).filterMap (fun j => if p' j then f j else none) = (List.range jj).filterMap fun j => if p j then f j else none := by
    refine fm_congr fun j hj => ?_
    have := List.mem_range.1 hj
    rw [h2 j (by omega)]
  have e2 : (List.range' (jj + 1) (n - jj - 1)).filterMap (fun j => if p' j then f j else none) = (List.range' (jj + 1) (n - jj - 1)).filterMap fun j => if p j then f j else none := by
    refine fm_congr fun j hj => ?_
    have := List.mem_range'_1.1 hj
    rw [h2 j (by omega)]
  rw [e1, e2]
  simp only [h0, h1, hv, if_true]
  exact List.perm_middle.symm

section
variable {c : Cx} {ops : Array Oper} {nt : Nat} {ro : Option Nat}
theorem lit_ok (hc : CxOk c) (hin : opsIn nt ops.toList = true) (hl : litQ ops.toList = true) {s s' : S} (h : litX c ops s = some s') (hI : Inv s) : Stat s s' ∧ s'.df = s.df ∧ RegionDo c ops nt ro s s' := by
  unfold litX at h
  split at h
  case h_2 => cases h
  rename_i tm t T ps af l hops
  split at h
  case h_2 => cases h
  rename_i q hq
  replace h := bif_inv h
  obtain ⟨hord, h⟩ := h
  simp only [Option.some.injEq] at h
  subst h
  rw [hops] at hl
  have hst := litQl_inv (show litQl l 0 = true from hl)
  obtain ⟨qs, k0, k1, k2⟩ := litOps_chain hq
  have hn : ops.size = l.length + 1 := by rw [← Array.length_toList, hops]; rfl
  have hop : ∀ j, ops[j + 1]? = l[j]? := fun j => by rw [← Array.getElem?_toList, hops]; rfl
  have hop0 : ops[0]? = some ⟨some tm, .makeMap t none, T, ps, af, none⟩ := by rw [← Array.getElem?_toList, hops]; rfl
  have is := fun j o (ho : l[j]? = some o) => litOp_is (k2 j o ho)
  have hnx : ∀ j, j ≤ l.length → (qs j).nx = s.nx + 1 + j := by
    intro j
    induction j with
    | zero => intro _; rw [k0]; rfl
    | succ j ih =>
      intro hj
      have := (is j _ (List.getElem?_eq_getElem (by omega))).1
      rw [this, ih (by omega)]; omega
  have hsk : ∀ j, j ≤ l.length → (qs j).sk.reverse = ⟨[s.nx], s.nx, s.nx, [], false⟩ :: (List.range j).map (skI s.nx l qs) := by
    intro j
    induction j with
    | zero => intro _; rw [k0]; rfl
    | succ j ih =>
      intro hj
      have ho : l[j]? = some l[j] := List.getElem?_eq_getElem (by omega)
      rw [(is j _ ho).2.1, List.reverse_cons, ih (by omega), List.range_succ, List.map_append, List.cons_append]
      simp [skI, ho]
  have hes : ∀ j, j ≤ l.length → (qs j).es = ((List.range j).filterMap (entA l qs)).map fun p => (p.1, p.2, 0) := by
    intro j
    induction j with
    | zero => intro _; rw [k0]; rfl
    | succ j ih =>
      intro hj
      have ho : l[j]? = some l[j] := List.getElem?_eq_getElem (by omega)
      have ea : entA l qs j = entO l[j] (qs j) := by simp [entA, ho]
      rw [List.range_succ, List.filterMap_append, List.map_append, ← ih (by omega)]
      rcases (is j _ ho).2.2 with ⟨_, _, k, y, _, _, _, e1, _, _, e2, _⟩ | ⟨x, _, e1, _, e2, _⟩
      · rw [e2]; simp [List.filterMap_cons, ea, e1]
      · rw [e2]; simp [List.filterMap_cons, ea, e1]
  have hnd : ∀ j, j ≤ l.length → ((qs j).es.map (·.1)).Nodup ∧ ∀ e ∈ (qs j).es, ∃ s, e.1 = .string s := by
    intro j
    induction j with
    | zero => intro _; rw [k0]; exact ⟨List.nodup_nil, fun e he => by cases he⟩
    | succ j ih =>
      intro hj
      obtain ⟨i1, i2⟩ := ih (by omega)
      have ho : l[j]? = some l[j] := List.getElem?_eq_getElem (by omega)
      rcases (is j _ ho).2.2 with ⟨_, _, k, y, _, _, _, _, e1, _, e2, _⟩ | ⟨x, _, _, _, e2, _⟩
      · rw [e2]
        refine ⟨?_, fun e he => ?_⟩
        · rw [List.map_append, List.nodup_append]
          refine ⟨i1, by simp, fun a ha b hb hab => ?_⟩
          obtain ⟨e, h1, rfl⟩ := List.mem_map.1 ha
          obtain ⟨s', h3, h4⟩ := e1 e h1
          simp only [List.map_cons, List.map_nil, List.mem_singleton] at hb
          subst hb
          rw [h3] at hab
          exact h4 (by injection hab)
        · rcases List.mem_append.1 he with he | he
          · exact i2 e he
          · simp only [List.mem_singleton] at he; subst he; exact ⟨k, rfl⟩
      · rw [e2]; exact ⟨i1, i2⟩
  have hapart : ∀ i j ki xi kj xj, i < j → entA l qs i = some (ki, xi) → entA l qs j = some (kj, xj) → ∃ a b, ki = .string a ∧ kj = .string b ∧ a ≠ b := by
    intro i j ki xi kj xj hij hi hj
    have hjl : j < l.length := by
      rcases Nat.lt_or_ge j l.length with h | h
      · exact h
      · simp [entA, List.getElem?_eq_none h] at hj
    have ho : l[j]? = some l[j] := List.getElem?_eq_getElem hjl
    have ea : entA l qs j = entO l[j] (qs j) := by simp [entA, ho]
    rcases (is j _ ho).2.2 with ⟨_, _, k, y, _, _, _, e1, e2, _⟩ | ⟨x, _, e1, _⟩
    · rw [ea, e1] at hj
      simp only [Option.some.injEq, Prod.mk.injEq] at hj
      obtain ⟨rfl, rfl⟩ := hj
      have hm : (ki, xi, 0) ∈ (qs j).es := by
        rw [hes j (by omega)]
        exact List.mem_map.2 ⟨(ki, xi), List.mem_filterMap.2 ⟨i, List.mem_range.2 hij, hi⟩, rfl⟩
      obtain ⟨a, h1, h2⟩ := e2 _ hm
      exact ⟨a, k, h1, rfl, h2⟩
    · rw [ea, e1] at hj; cases hj
  -- effects
  obtain ⟨E, hEd⟩ : ∃ E, E = (List.range ops.size).map (litEI c s l qs) := ⟨_, rfl⟩
  have hE : ∀ i, i < ops.size → effI E i = litEI c s l qs i := fun i hi => by simp [effI, hEd, List.getD, hi]
  have hE1 : ∀ j o, l[j]? = some o → effI E (j + 1) = litE c s.hp s.nx o (qs j) := fun j o ho => by
    have hjl := (List.getElem?_eq_some_iff.1 ho).1
    rw [hE _ (by omega)]
    simp [litEI, ho]
  have hE0 : effI E 0 = ⟨.mp s.nx, fun b => if b = s.nx then some (some (.defd true)) else none, fun _ => False, fun b => b = s.nx⟩ := hE 0 (by omega)
  have hfold : ∀ i, i ≤ l.length → (foldI ops E (List.range (i + 1)) (fsOf s)).env = envF (qs i).env ∧ (foldI ops E (List.range (i + 1)) (fsOf s)).hp s.nx = some (.defd true) ∧
      ∀ j, j < i → (∃ p, entA l qs j = some p) → (foldI ops E (List.range (i + 1)) (fsOf s)).hp (s.nx + 1 + j) = some (.defd true) := by
    intro i
    induction i with
    | zero =>
      intro _
      have e : foldI ops E (List.range (0 + 1)) (fsOf s) = (fsOf s).app (some tm) (effI E 0) := by
        show applyI ops E (fsOf s) 0 = _
        simp [applyI, dstI, hop0]
      rw [e, hE0, k0]
      refine ⟨?_, by simp [FS.app], fun j hj => by omega⟩
      funext t
      simp only [FS.app, fsOf, lit0, envF_set, Option.some.injEq]
    | succ i ih =>
      intro hi
      obtain ⟨i1, i2, i3⟩ := ih (by omega)
      have ho : l[i]? = some l[i] := List.getElem?_eq_getElem (by omega)
      have e : foldI ops E (List.range (i + 1 + 1)) (fsOf s) = (foldI ops E (List.range (i + 1)) (fsOf s)).app l[i].dst (litE c s.hp s.nx l[i] (qs i)) := by
        rw [List.range_succ (n := i + 1)]
        unfold foldI
        rw [List.foldl_append]
        show applyI ops E _ (i + 1) = _
        rw [applyI, hE1 i _ ho]
        simp [dstI, hop, ho]
      rw [e]
      have hx := hnx i (by omega)
      have hd := (hst _ (List.mem_of_getElem? ho)).2.2.2
      rcases (is i _ ho).2.2 with ⟨t', m', k, y, g1, _, _, g2, _, g3, _, g4, _⟩ | ⟨x, _, g2, g3, _, g4, _⟩
      · rw [g4, hd _ _ _ _ g1, g3]
        refine ⟨by rw [← i1]; rfl, ?_, fun j hj hp => ?_⟩
        · show (match (if s.nx = (qs i).nx then some (some (B.defd true)) else none) with | some x => x | none => _) = _
          rw [if_neg (by omega)]; exact i2
        · show (match (if s.nx + 1 + j = (qs i).nx then some (some (B.defd true)) else none) with | some x => x | none => _) = _
          by_cases hji : j = i
          · subst hji; rw [if_pos hx.symm]
          · rw [if_neg (by omega)]; exact i3 j (by omega) hp
      · rw [g4, g3]
        refine ⟨?_, i2, fun j hj hp => ?_⟩
        · rw [envF_setDst]
          funext t
          simp only [FS.app, i1]
        · by_cases hji : j = i
          · subst hji
            obtain ⟨p, hp⟩ := hp
            simp [entA, ho, g2] at hp
          · exact i3 j (by omega) hp
  have hh : (s.hp.set s.nx (some (.map q.es 0))).get = upd s.hp.get s.nx (some (.map q.es 0)) := by
    funext b; rw [get_set]; rfl
  have hqx : q.nx = s.nx + 1 + l.length := by rw [← k1]; exact hnx _ (Nat.le_refl _)
  refine ⟨⟨⟨by show s.bs ≤ q.nx; have := hI.1; omega, fun b hb => ?_⟩, rfl, rfl, by show s.nx ≤ q.nx; omega, fun b hb hw => ⟨hw, ?_⟩⟩, rfl, ?_⟩
  · have hb : q.nx ≤ b := hb
    show (s.hp.set s.nx (some (.map q.es 0))).get b = none
    rw [hh, upd, if_neg (by omega)]
    exact hI.2 b (by omega)
  · show (s.hp.set s.nx (some (.map q.es 0))).get b = s.hp.get b
    have := hI.1
    rw [hh, upd, if_neg (by omega)]
  intro w0 M0 m0 fr a w Q hG hfr hR hQ
  have hspec := ordX_spec hord
  have hsks : q.sk.reverse = ⟨[s.nx], s.nx, s.nx, [], false⟩ :: (List.range l.length).map (skI s.nx l qs) := by rw [← k1]; exact hsk _ (Nat.le_refl _)
  have hsk0 : skAt q.sk.reverse 0 = ⟨[s.nx], s.nx, s.nx, [], false⟩ := by rw [hsks]; rfl
  have hskj : ∀ j o, l[j]? = some o → skAt q.sk.reverse (j + 1) = skO s.nx o (qs j) := fun j o ho => by
    have hjl := (List.getElem?_eq_some_iff.1 ho).1
    rw [hsks]
    unfold skAt
    rw [nth_eq]
    rw [List.getElem?_cons_succ, List.getElem?_map, List.getElem?_range hjl]
    simp only [Option.map_some, skI, ho]
  -- what an effect turns and looks at lies in its skeleton
  have hup : ∀ i, i < ops.size → (∀ b, (effI E i).up b ≠ none → b ∈ (skAt q.sk.reverse i).w ∨ ((skAt q.sk.reverse i).lo ≤ b ∧ b < (skAt q.sk.reverse i).hi)) ∧ (∀ b, (effI E i).rd b → b ∈ (skAt q.sk.reverse i).r ∨ ((skAt q.sk.reverse i).ra = true ∧ b < (skAt q.sk.reverse i).lo)) ∧ ∀ b, (effI E i).nm b ↔ b = s.nx + i := by
    intro i hi
    cases i with
    | zero =>
      rw [hE0, hsk0]
      exact ⟨fun b hb => .inl (by by_cases e : b = s.nx <;> simp [e] at hb ⊢), fun b hb => hb.elim, fun b => Iff.rfl⟩
    | succ j =>
      have ho : l[j]? = some l[j] := List.getElem?_eq_getElem (by omega)
      have hx := hnx j (by omega)
      rw [hE1 j _ ho, hskj j _ ho]
      rcases (is j _ ho).2.2 with ⟨t', m', k, y, _, _, _, _, _, _, _, g4, g5⟩ | ⟨x, _, _, _, _, g4, g5⟩
      · rw [g4, g5]
        exact ⟨fun b hb => .inl (by by_cases e : b = (qs j).nx <;> simp [e] at hb ⊢), fun b hb => .inl (by simpa using hb), fun b => by rw [hx]; constructor <;> intro h <;> omega⟩
      · rw [g4, g5]
        exact ⟨fun b hb => (hb rfl).elim, fun b hb => hb.elim, fun b => by rw [hx]; constructor <;> intro h <;> omega⟩
  have hok : OrdOk ops E (cfX ops q.sk.reverse) := by
    refine ⟨fun j o ho => (hspec j (Array.getElem?_eq_some_iff.1 ho).1).1 o ho, fun i j hij hj hcf => ?_, fun i j x y hij hx hy hcf => ?_, fun i j hi hj hij b hb hb' => ?_⟩
    · rcases (hspec j hj).2 i hij with g | g
      · exact g
      · rw [hcf] at g; cases g
    · unfold cfX at hcf
      rw [nth_eq, nth_eq] at hcf
      have e1 : ops.toList[i]? = some x := by simpa using hx
      have e2 : ops.toList[j]? = some y := by simpa using hy
      rw [e1, e2] at hcf
      simp only [Bool.or_eq_false_iff] at hcf
      have u1 := hup i (Array.getElem?_eq_some_iff.1 hx).1
      have u2 := hup j (Array.getElem?_eq_some_iff.1 hy).1
      exact ⟨by simpa using hcf.1, cfS_spec hcf.2 u1.1 u1.2.1 u2.1 u2.2.1⟩
    · have g1 := ((hup i hi).2.2 b).1 hb
      have g2 := ((hup j hj).2.2 b).1 hb'
      omega
  have hnil : ∀ b, s.nx ≤ b → s.hp.get b = none := hI.2
  refine any_order E (fsOf s) (cfX ops q.sk.reverse) fr (R := RL w0 M0 m0 nt s l qs) (fun fr fr' st a w ⟨h1, h2, es, h3, h4⟩ hf => ⟨fun b hb => h1 b (hf b hb), h2, es, h3, RR.free _ _ _ _ _ h4 hf⟩) hok hin (fun i o ho => ?_) (fun i hi b hb => ?_) (fun a' w' hR' => ?_) ops.size (Array.replicate ops.size false) a w (by simp) ?_ ?_ ?_
  · cases i with
    | zero =>
      rw [hop0, Option.some.injEq] at ho
      subst ho
      rw [hE0]
      rintro fr st a w ⟨r1, r2, es, r3, r4⟩ hnm hd ht hrd K Q hK
      have hb : st.hp s.nx = none := r1 _ (hnm s.nx rfl) (Nat.le_refl _)
      have hall := r2 hb
      have hes0 : es = [] := by
        have : presA s.nx l qs st = [] := by
          unfold presA
          rw [List.filterMap_eq_nil_iff]
          intro j _
          rw [hall _ (by omega)]; rfl
        rw [this] at r3
        exact List.map_eq_nil_iff.1 r3.eq_nil
      subst hes0
      have snd := sound_simple (c := c) (ops := ops) (nt := nt) (ro := ro) (w0 := w0) (M0 := M0) (m0 := m0) (df := s.df) (o := ⟨some tm, .makeMap t none, T, ps, af, none⟩) (id := s.nx) (env := s.env) (hp := s.hp) (e := ⟨.mp s.nx, [(s.nx, some (.map [] 0))], []⟩)
        (fun k hk => by cases hk) (wantX_none rfl) (stepX_ok hc rfl) hG
      refine snd fr (realA s st []) a w r4 (fun b hb => hnm b hb) hd ht (fun b hb => by cases hb) K Q fun a' w' hR => hK a' w' ⟨fun b hb hle => ?_, fun hn => ?_, [], ?_, ?_⟩
      · have h1 : b ≠ s.nx := hb.2
        show (match (if b = s.nx then some (some (B.defd true)) else none) with | some x => x | none => st.hp b) = none
        rw [if_neg h1]
        exact r1 b hb.1 hle
      · exfalso
        have hn : (match (if s.nx = s.nx then some (some (B.defd true)) else none) with | some x => x | none => st.hp s.nx) = none := hn
        rw [if_pos rfl] at hn
        cases hn
      · have : presA s.nx l qs (st.app (some tm) ⟨.mp s.nx, fun b => if b = s.nx then some (some (.defd true)) else none, fun _ => False, fun b => b = s.nx⟩) = [] := by
          unfold presA
          rw [List.filterMap_eq_nil_iff]
          intro j _
          have e : (st.app (some tm) ⟨.mp s.nx, fun b => if b = s.nx then some (some (.defd true)) else none, fun _ => False, fun b => b = s.nx⟩).hp (s.nx + 1 + j) = none := by
            show (match (if s.nx + 1 + j = s.nx then some (some (B.defd true)) else none) with | some x => x | none => st.hp (s.nx + 1 + j)) = none
            rw [if_neg (by omega)]
            exact hall _ (by omega)
          rw [e]; rfl
        rw [this]
        exact .refl _
      · have e : (realA s st []).app (some tm) (simpleE s.nx ⟨.mp s.nx, [(s.nx, some (.map [] 0))], []⟩) = realA s (st.app (some tm) ⟨.mp s.nx, fun b => if b = s.nx then some (some (.defd true)) else none, fun _ => False, fun b => b = s.nx⟩) [] := by
          rw [simple_app]
          unfold realA FS.app
          congr 1
          funext b
          by_cases hbb : b = s.nx
          · subst hbb; simp [upL, upd]
          · have : ¬ s.nx = b := fun e => hbb e.symm
            simp [upL, upd, hbb, this]
        rw [← e]
        exact hR
    | succ j =>
      rw [hop] at ho
      have hjl := (List.getElem?_eq_some_iff.1 ho).1
      have hx := hnx j (by omega)
      obtain ⟨f1, f2, f3⟩ := hfold j (by omega)
      obtain ⟨q1, q2, q3, q4⟩ := hst _ (List.mem_of_getElem? ho)
      rw [hE1 j _ ho]
      rcases (is j _ ho).2.2 with ⟨t', m', k, y, g1, g2, g3, g4, g5, _, _, g6, _⟩ | ⟨x, g1, g2, _, _, g6, _⟩
      · rw [g6]
        rintro fr st a w ⟨r1, r2, es, r3, r4⟩ hnm hd ht hrd K Q hK
        have hdst := q4 _ _ _ _ g1
        have hj0 : st.hp (qs j).nx = none := r1 _ (hnm _ rfl) (by omega)
        have hb0 : st.hp s.nx = some (.defd true) := (hrd s.nx rfl).trans f2
        have ea : entA l qs j = some (.string k, evX (qs j).env y) := by simp [entA, ho, g4]
        have hfn : findK (.string k) es = some none := findK_none.2 fun e he => by
          have hm := r3.mem_iff.1 (List.mem_map.2 ⟨e, he, rfl⟩)
          unfold presA at hm
          obtain ⟨i, h1, h2⟩ := List.mem_filterMap.1 hm
          split at h2
          · rename_i hs
            have hij : i ≠ j := by
              rintro rfl
              rw [← hx, hj0] at hs
              cases hs
            have h2 : entA l qs i = some (e.1, e.2.1) := h2
            rcases Nat.lt_or_ge i j with hlt | hge
            · obtain ⟨a', b', u1, u2, u3⟩ := hapart i j _ _ _ _ hlt h2 ea
              exact ⟨a', u1, fun h => u3 (by rw [h]; injection u2)⟩
            · obtain ⟨a', b', u1, u2, u3⟩ := hapart j i _ _ _ _ (by omega) ea h2
              exact ⟨b', u2, fun h => u3 (by rw [h]; injection u1 with u1; exact u1.symm)⟩
          · cases h2
        obtain ⟨hp', hhp'⟩ : ∃ hp', hp' = s.hp.set s.nx (some (.map es es.length)) := ⟨_, rfl⟩
        have hget : hp'.get s.nx = some (.map es es.length) := by rw [hhp', get_set, if_pos rfl]
        have hstep : stepX c (qs j).nx (evX (qs j).env) hp' o.op = some ⟨u0, [(s.nx, some (.map (es ++ [(.string k, evX (qs j).env y, es.length)]) (Nat.succ es.length)))], [s.nx]⟩ := by
          rw [g1]
          show mpq c t' (fun ks _ => updateX ks hp' (evX (qs j).env m') (evX (qs j).env (.const (.string k))) (evX (qs j).env y)) = _
          obtain ⟨ty, hK⟩ := g3 fun ks _ => updateX ks hp' (evX (qs j).env m') (evX (qs j).env (.const (.string k))) (evX (qs j).env y)
          rw [hK, g2]
          show updateX .str hp' (.mp s.nx) (.v (.string k)) (evX (qs j).env y) = _
          simp [updateX, keyOk, hget, ordM_len, hfn]
        obtain ⟨od, oo, oT, op, oa, og⟩ := o
        have snd := sound_simple (c := c) (ops := ops) (nt := nt) (ro := ro) (w0 := w0) (M0 := M0) (m0 := m0) (df := s.df) (o := ⟨od, oo, oT, op, oa, og⟩) (id := (qs j).nx) (env := (qs j).env) (hp := hp') q3 (wantX_none q1) (stepX_ok hc hstep) hG
        have hreal : (realA s st es).hp s.nx = some (.map es es.length) := by simp [realA, hb0]
        refine snd fr (realA s st es) a w r4 (fun b hb => hnm b hb) hd (fun t ht' => (ht t ht').trans (congrFun f1 t)) (fun b hb => by
          have : b = s.nx := by simpa [simpleE] using hb
          subst this
          exact hreal.trans hget.symm) K Q fun a' w' hR => hK a' w' ⟨fun b hb hle => ?_, fun hn => ?_, es ++ [(.string k, evX (qs j).env y, es.length)], ?_, ?_⟩
        · have h1 : b ≠ (qs j).nx := hb.2
          show (match (if b = (qs j).nx then some (some (B.defd true)) else none) with | some x => x | none => st.hp b) = none
          rw [if_neg h1]
          exact r1 b hb.1 hle
        · exfalso
          have hn : (match (if s.nx = (qs j).nx then some (some (B.defd true)) else none) with | some x => x | none => st.hp s.nx) = none := hn
          rw [if_neg (by omega), hb0] at hn
          cases hn
        · rw [List.map_append]
          have hpm := pres_more (n := l.length) (jj := j) (f := entA l qs) (p := fun i => (st.hp (s.nx + 1 + i)).isSome) (p' := fun i => ((st.app od ⟨u0, fun b => if b = (qs j).nx then some (some (.defd true)) else none, fun b => b = s.nx, fun b => b = (qs j).nx⟩).hp (s.nx + 1 + i)).isSome) hjl ea (by rw [← hx, hj0]; rfl)
            (by
              show (match (if s.nx + 1 + j = (qs j).nx then some (some (B.defd true)) else none) with | some x => x | none => st.hp (s.nx + 1 + j)).isSome = true
              rw [if_pos hx.symm]; rfl)
            (fun i hi => by
              show (match (if s.nx + 1 + i = (qs j).nx then some (some (B.defd true)) else none) with | some x => x | none => st.hp (s.nx + 1 + i)).isSome = _
              rw [if_neg (by omega)])
          exact (List.perm_append_comm.trans (r3.cons _)).trans hpm
        · have e : (realA s st es).app od (simpleE (qs j).nx ⟨u0, [(s.nx, some (.map (es ++ [(.string k, evX (qs j).env y, es.length)]) (Nat.succ es.length)))], [s.nx]⟩) = realA s (st.app od ⟨u0, fun b => if b = (qs j).nx then some (some (.defd true)) else none, fun b => b = s.nx, fun b => b = (qs j).nx⟩) (es ++ [(.string k, evX (qs j).env y, es.length)]) := by
            rw [simple_app]
            unfold realA FS.app
            congr 1
            funext b
            have hne : ¬ s.nx = (qs j).nx := by omega
            by_cases hbb : b = s.nx
            · subst hbb; simp [upL, upd, hne, hb0]
            · have : ¬ s.nx = b := fun e => hbb e.symm
              simp [upL, upd, hbb, this]
          rw [← e]
          exact hR
      · rw [g6]
        rintro fr st a w ⟨r1, r2, es, r3, r4⟩ hnm hd ht hrd K Q hK
        obtain ⟨od, oo, oT, op, oa, og⟩ := o
        have snd := sound_simple (c := c) (ops := ops) (nt := nt) (ro := ro) (w0 := w0) (M0 := M0) (m0 := m0) (df := s.df) (o := ⟨od, oo, oT, op, oa, og⟩) (id := (qs j).nx) (env := (qs j).env) (hp := s.hp) q3 (wantX_none q1) (stepX_ok hc g1) hG
        refine snd fr (realA s st es) a w r4 (fun b hb => hnm b hb) hd (fun t ht' => (ht t ht').trans (congrFun f1 t)) (fun b hb => by simp [simpleE] at hb) K Q fun a' w' hR => hK a' w' ⟨fun b hb hle => r1 b hb.1 hle, r2, es, r3, ?_⟩
        have e : (realA s st es).app od (simpleE (qs j).nx ⟨x, [], []⟩) = realA s (st.app od ⟨x, fun _ => none, fun _ => False, fun b => b = (qs j).nx⟩) es := by
          rw [simple_app]
          rfl
        rw [← e]
        exact hR
  · have := ((hup i hi).2.2 b).1 hb
    exact hfr b (by omega) (by show b < q.nx; omega)
  · obtain ⟨r1, r2, es, r3, m, hm, R⟩ := hR'
    obtain ⟨f1, f2, f3⟩ := hfold l.length (Nat.le_refl _)
    rw [hn] at r3 R
    refine hQ a' w' ⟨m, hm, ⟨R.size, fun t => ?_, R.df, ?_⟩⟩
    · have := R.env t
      rw [show (realA s (foldI ops E (List.range (l.length + 1)) (fsOf s)) es).env = envF (qs l.length).env from f1, k1] at this
      exact this
    · have hpres : presA s.nx l qs (foldI ops E (List.range (l.length + 1)) (fsOf s)) = (List.range l.length).filterMap (entA l qs) := by
        unfold presA
        refine fm_congr fun j hj => ?_
        cases he : entA l qs j with
        | none => simp
        | some p => rw [f3 j (List.mem_range.1 hj) ⟨p, he⟩]; rfl
      have hq2 : q.es.map pr2 = (List.range l.length).filterMap (entA l qs) := by
        rw [← k1, hes _ (Nat.le_refl _), List.map_map]
        exact (List.map_congr_left fun p _ => rfl).trans (List.map_id _)
      rw [hpres, ← hq2] at r3
      have hb0 : (realA s (foldI ops E (List.range (l.length + 1)) (fsOf s)) es).hp s.nx = some (.map es es.length) := by simp [realA, f2]
      have hr := R.w.reb (b0 := s.nx) (y := .map q.es 0) hb0 fun cc o ⟨le, h1, h2⟩ => by
        have h2 : o = .map le.toArray es.length := by
          rcases h2 with h2 | ⟨h3, h4, _⟩
          · exact h2
          · exfalso
            have : es = [] := List.length_eq_zero_iff.1 h3
            subst this
            simp only [concE, Option.some.injEq] at h1
            exact h4 h1.symm
        obtain ⟨lc, h3, h4⟩ := concE_perm r3 h1
        refine ⟨lc, h3, ?_⟩
        by_cases hlc : lc = []
        · subst hlc
          have : le = [] := by simpa using h4.eq_nil
          subst this
          have hes0 : es = [] := by
            cases es with
            | nil => rfl
            | cons e es' => obtain ⟨k', x', n'⟩ := e; obtain ⟨v, vs, _, _, h⟩ := concE_cons.1 h1; cases h
          subst hes0
          exact .inl h2
        · have hk := concE_keys h3
          obtain ⟨n1, n2⟩ := hnd l.length (Nat.le_refl _)
          rw [k1] at n1 n2
          refine .inr ⟨rfl, hlc, fun e he => ?_, by rw [hk]; exact n1, le, es.length, h2, h4⟩
          have : e.key ∈ q.es.map (·.1) := by rw [← hk]; exact List.mem_map.2 ⟨e, he, rfl⟩
          obtain ⟨e', h5, h6⟩ := List.mem_map.1 this
          obtain ⟨s', h7⟩ := n2 e' h5
          exact ⟨s', h6.symm.trans h7⟩
      have hfs : upd (realA s (foldI ops E (List.range (l.length + 1)) (fsOf s)) es).hp s.nx (some (.map q.es 0)) = (s.hp.set s.nx (some (.map q.es 0))).get := by
        rw [hh]
        funext b
        unfold upd realA
        by_cases e : s.nx = b
        · simp [e]
        · have : ¬ b = s.nx := fun h => e h.symm
          simp [e, this]
      rw [hfs] at hr
      refine hr.less fun b hb => ⟨hb.1, fun i hi hn' => hb.2 ?_⟩
      have := ((hup i (by omega)).2.2 b).1 hn'
      exact ⟨by omega, by show b < q.nx; omega⟩
  · intro j o' hj
    exfalso
    have : (Array.replicate ops.size false).getD j false = false := by
      simp only [Array.getD_eq_getD_getElem?, Array.getElem?_replicate]
      split <;> rfl
    rw [this] at hj; cases hj
  · exact Nat.le_trans (List.length_filter_le _ _) (by simp)
  · have hl0 : ∀ i, Go.Ab.listedIn (Array.replicate ops.size false) i = false := by
      intro i
      simp only [Go.Ab.listedIn, Array.getD_eq_getD_getElem?, Array.getElem?_replicate]
      split <;> rfl
    have e1 : sg ops E (fsOf s) (Array.replicate ops.size false) = fsOf s := by
      unfold sg
      rw [List.filter_eq_nil_iff.2 fun i _ => by rw [hl0 i]; simp]
      rfl
    rw [e1]
    refine ⟨fun b _ hle => hnil b hle, fun _ b hb => hnil b (by omega), [], ?_, ?_⟩
    · have : presA s.nx l qs (fsOf s) = [] := by
        unfold presA
        rw [List.filterMap_eq_nil_iff]
        intro j _
        rw [show (fsOf s).hp (s.nx + 1 + j) = none from hnil _ (by omega)]; rfl
      rw [this]
      exact .refl _
    · have e : realA s (fsOf s) [] = fsOf s := by
        unfold realA fsOf
        congr 1
        funext b
        by_cases hb : b = s.nx
        · subst hb; simp [hnil s.nx (Nat.le_refl _)]
        · simp [hb]
      rw [e]
      exact RR.free _ _ _ _ _ hR fun b hb => hb.1
end
end
end Go.Ex
