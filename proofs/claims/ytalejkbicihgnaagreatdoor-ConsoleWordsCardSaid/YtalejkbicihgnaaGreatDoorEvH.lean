/- Known calls; laws that answer true; what a row lays. -/
import Derived.Test.YtalejkbicihgnaaGreatDoorEvG
import Derived.Test.YtalejkbicihgnaaGreatDoorEvF
import Derived.Test.YtalejkbicihgnaaGreatDoorEvB
import Derived.RecoverIn
import Derived.WideLaws
import Derived.WalkKit
import Derived.ProofKit
import Derived.OpenShut
import Derived.ReadAgain
import Derived.Below
import Derived.Deep.DeepHandedRow
import Derived.Deep.DeepLaidRun
import Derived.Lib.LaidTab
set_option maxHeartbeats 4000000
set_option maxRecDepth 20000
set_option linter.unusedVariables false
set_option linter.unusedSimpArgs false
/- Calls that are known: alike, by looking. -/
namespace Go.Ex
noncomputable section
open Go.Ab (TI Sh reach)

def smU : List UInt8 → List UInt8 → Bool
  | [], [] => true
  | a :: l, b :: r => bif Nat.beq a.toNat b.toNat then smU l r else false
  | _, _ => false
def smNs : List Nat → List Nat → Bool
  | [], [] => true
  | a :: l, b :: r => bif Nat.beq a b then smNs l r else false
  | _, _ => false
def smV : Value → Value → Bool
  | .bool a, .bool b => bif a then b else !b
  | .int k n, .int k' n' => kEq k k' && ieq n n'
  | .string a, .string b => smU (strL a) (strL b)
  | .pointer none, .pointer none => true
  | .pointer (some ⟨g, p, none⟩), .pointer (some ⟨g', p', none⟩) => Nat.beq g g' && Nat.beq p p'
  | .slice none 0 0, .slice none 0 0 => true
  | .map none, .map none => true
  | .chan none, .chan none => true
  | .nilFunc, .nilFunc => true
  | .nilIface, .nilIface => true
  | .tuple ⟨[]⟩, .tuple ⟨[]⟩ => true
  | _, _ => false
mutual
def smX : X → X → Bool
  | .v a, .v b => smV a b
  | .agg a, .agg b => smXs a b
  | .tup a, .tup b => smXs a b
  | .ptr b o, .ptr b' o' => Nat.beq b b' && Nat.beq o o'
  | .slc a b c d, .slc a' b' c' d' => Nat.beq a a' && Nat.beq b b' && Nat.beq c c' && Nat.beq d d'
  | .gsl a b c d, .gsl a' b' c' d' => Nat.beq a a' && Nat.beq b b' && Nat.beq c c' && Nat.beq d d'
  | .esl a b c d, .esl a' b' c' d' => Nat.beq a a' && Nat.beq b b' && Nat.beq c c' && Nat.beq d d'
  | .mp b, .mp b' => Nat.beq b b'
  | .it b, .it b' => Nat.beq b b'
  | .fn f a b, .fn f' a' b' => Nat.beq f f' && smXs a a' && smXs b b'
  | .yld b, .yld b' => Nat.beq b b'
  | .iface t x, .iface t' x' => Nat.beq t t' && smX x x'
  | _, _ => false
def smXs : List X → List X → Bool
  | [], [] => true
  | a :: l, b :: r => bif smX a b then smXs l r else false
  | _, _ => false
end
def smEs : List (Value × X × Nat) → List (Value × X × Nat) → Bool
  | [], [] => true
  | (a, x, n) :: l, (b, y, m) :: r => bif smV a b && smX x y && Nat.beq n m then smEs l r else false
  | _, _ => false
def smO : Option Nat → Option Nat → Bool
  | none, none => true
  | some a, some b => Nat.beq a b
  | _, _ => false
def smB : B → B → Bool
  | .row T l (a, b), .row T' l' (a', b') => Nat.beq T T' && smXs l l' && Nat.beq a a' && Nat.beq b b'
  | .grow T l s (a, b), .grow T' l' s' (a', b') => Nat.beq T T' && smXs l l' && Nat.beq s s' && Nat.beq a a' && Nat.beq b b'
  | .byts T l, .byts T' l' => Nat.beq T T' && smXs l l'
  | .map es c, .map es' c' => smEs es es' && Nat.beq c c'
  | .iter m s l n, .iter m' s' l' n' => smO m m' && Nat.beq s s' && smNs l l' && Nat.beq n n'
  | .defd a, .defd b => bif a then b else !b
  | _, _ => false

theorem nbeq {a b : Nat} (h : Nat.beq a b = true) : a = b := Nat.eq_of_beq_eq_true h
theorem smU_eq : ∀ {a b : List UInt8}, smU a b = true → a = b
  | [], [], _ => rfl
  | a :: l, b :: r, h => by
    unfold smU at h
    cases hb : Nat.beq a.toNat b.toNat with
    | false => rw [hb] at h; cases h
    | true =>
      rw [hb, cond_true] at h
      rw [UInt8.toNat_inj.1 (nbeq hb), smU_eq h]
  | [], _ :: _, h => by cases h
  | _ :: _, [], h => by cases h
theorem smNs_eq : ∀ {a b : List Nat}, smNs a b = true → a = b
  | [], [], _ => rfl
  | a :: l, b :: r, h => by
    unfold smNs at h
    cases hb : Nat.beq a b with
    | false => rw [hb] at h; cases h
    | true =>
      rw [hb, cond_true] at h
      rw [nbeq hb, smNs_eq h]
  | [], _ :: _, h => by cases h
  | _ :: _, [], h => by cases h
theorem eqBool {a b : Bool} (h : (bif a then b else !b) = true) : a = b := by cases a <;> cases b <;> first | rfl | cases h
theorem smV_eq {a b : Value} (h : smV a b = true) : a = b := by
  unfold smV at h
  split at h
  · rw [eqBool h]
  · rw [Bool.and_eq_true, kEq_eq, ieq_eq, decide_eq_true_eq, decide_eq_true_eq] at h
    rw [h.1, h.2]
  · have := smU_eq h
    rename_i a b
    obtain ⟨⟨a⟩⟩ := a
    obtain ⟨⟨b⟩⟩ := b
    have : a = b := this
    rw [this]
  · rfl
  · rw [Bool.and_eq_true] at h
    rw [nbeq h.1, nbeq h.2]
  · rfl
  · rfl
  · rfl
  · rfl
  · rfl
  · rfl
  · cases h
mutual
theorem smX_eq : ∀ (a : X) {b : X}, smX a b = true → a = b
  | .v a, b, h => by
    cases b <;> simp only [smX, Bool.false_eq_true] at h
    rw [smV_eq h]
  | .agg a, b, h => by
    cases b <;> simp only [smX, Bool.false_eq_true] at h
    rw [smXs_eq a h]
  | .tup a, b, h => by
    cases b <;> simp only [smX, Bool.false_eq_true] at h
    rw [smXs_eq a h]
  | .ptr _ _, b, h => by
    cases b <;> simp only [smX, Bool.false_eq_true, Bool.and_eq_true] at h
    rw [nbeq h.1, nbeq h.2]
  | .slc _ _ _ _, b, h => by
    cases b <;> simp only [smX, Bool.false_eq_true, Bool.and_eq_true] at h
    rw [nbeq h.1.1.1, nbeq h.1.1.2, nbeq h.1.2, nbeq h.2]
  | .gsl _ _ _ _, b, h => by
    cases b <;> simp only [smX, Bool.false_eq_true, Bool.and_eq_true] at h
    rw [nbeq h.1.1.1, nbeq h.1.1.2, nbeq h.1.2, nbeq h.2]
  | .esl _ _ _ _, b, h => by
    cases b <;> simp only [smX, Bool.false_eq_true, Bool.and_eq_true] at h
    rw [nbeq h.1.1.1, nbeq h.1.1.2, nbeq h.1.2, nbeq h.2]
  | .mp _, b, h => by
    cases b <;> simp only [smX, Bool.false_eq_true] at h
    rw [nbeq h]
  | .it _, b, h => by
    cases b <;> simp only [smX, Bool.false_eq_true] at h
    rw [nbeq h]
  | .fn _ a a', b, h => by
    cases b <;> simp only [smX, Bool.false_eq_true, Bool.and_eq_true] at h
    rw [nbeq h.1.1, smXs_eq a h.1.2, smXs_eq a' h.2]
  | .yld _, b, h => by
    cases b <;> simp only [smX, Bool.false_eq_true] at h
    rw [nbeq h]
  | .iface _ x, b, h => by
    cases b <;> simp only [smX, Bool.false_eq_true, Bool.and_eq_true] at h
    rw [nbeq h.1, smX_eq x h.2]
theorem smXs_eq : ∀ (a : List X) {b : List X}, smXs a b = true → a = b
  | [], [], _ => rfl
  | a :: l, b :: r, h => by
    rw [smXs] at h
    cases hb : smX a b with
    | false => rw [hb] at h; cases h
    | true =>
      rw [hb, cond_true] at h
      rw [smX_eq a hb, smXs_eq l h]
  | [], _ :: _, h => by simp [smXs] at h
  | _ :: _, [], h => by simp [smXs] at h
end
theorem smEs_eq : ∀ {a b : List (Value × X × Nat)}, smEs a b = true → a = b
  | [], [], _ => rfl
  | (a, x, n) :: l, (b, y, m) :: r, h => by
    unfold smEs at h
    cases hb : (smV a b && smX x y && Nat.beq n m) with
    | false => rw [hb] at h; cases h
    | true =>
      rw [hb, cond_true] at h
      rw [Bool.and_eq_true, Bool.and_eq_true] at hb
      rw [smV_eq hb.1.1, smX_eq x hb.1.2, nbeq hb.2, smEs_eq h]
  | [], _ :: _, h => by cases h
  | _ :: _, [], h => by cases h
theorem smO_eq {a b : Option Nat} (h : smO a b = true) : a = b := by
  cases a <;> cases b <;> first | rfl | (cases h; done) | (rw [nbeq h])
theorem smB_eq {a b : B} (h : smB a b = true) : a = b := by
  unfold smB at h
  split at h
  · simp only [Bool.and_eq_true] at h
    rw [nbeq h.1.1.1, smXs_eq _ h.1.1.2, nbeq h.1.2, nbeq h.2]
  · simp only [Bool.and_eq_true] at h
    rw [nbeq h.1.1.1.1, smXs_eq _ h.1.1.1.2, nbeq h.1.1.2, nbeq h.1.2, nbeq h.2]
  · simp only [Bool.and_eq_true] at h
    rw [nbeq h.1, smXs_eq _ h.2]
  · simp only [Bool.and_eq_true] at h
    rw [smEs_eq h.1, nbeq h.2]
  · simp only [Bool.and_eq_true] at h
    rw [smO_eq h.1.1.1, nbeq h.1.1.2, smNs_eq h.1.2, nbeq h.2]
  · rw [eqBool h]
  · cases h
end
end Go.Ex
/- Calls that are known: what is told once holds wherever it is met. -/
namespace Go.Ex
noncomputable section
open Go.RowKit
open Go.Ab (TI Sh reach)

/-- A call that is known: what it is given (blocks it may look at with them), what it comes to. -/
structure En where
  f : X
  args : List X
  key : List (Nat × B)
  nx : Nat
  x : X
  up : List (Nat × Option B)
  hi : Nat
  wr : List Nat

def keysIn (hp : Tr B) : List (Nat × B) → Bool
  | [] => true
  | (b, x) :: l => match hp.get b with
    | some y => bif smB y x then keysIn hp l else false
    | none => false
def ofK : List (Nat × B) → Tr B → Tr B
  | [], t => t
  | (b, x) :: l, t => ofK l (t.set b (some x))
def hit (e : En) (f : X) (args : List X) (hp : Tr B) (nx : Nat) : Bool := bif Nat.beq nx e.nx then (bif smX f e.f && smXs args e.args then keysIn hp e.key else false) else false
def findE (f : X) (args : List X) (hp : Tr B) (nx : Nat) : List En → Option En
  | [] => none
  | e :: l => bif hit e f args hp nx then some e else findE f args hp nx l
def callM (t : Tr (List En)) (r : Rec) (f : X) (args : List X) (hp : Tr B) (nx : Nat) : O Cr := match f with
  | .fn g fs cs => (match t.get g with
    | some es => (match findE (.fn g fs cs) args hp nx es with
      | some e => .ok ⟨e.x, setAll hp e.up, e.hi, e.wr⟩
      | none => r.call (.fn g fs cs) args hp nx)
    | none => r.call (.fn g fs cs) args hp nx)
  | f => r.call f args hp nx
def patch (t : Tr (List En)) (r : Rec) : Rec := ⟨r.code, callM t r⟩

def inK (b : Nat) : List (Nat × B) → Bool
  | [] => false
  | (k, _) :: l => bif Nat.beq b k then true else inK b l
/-- What is told of the blocks is so. -/
def upOk (e : En) (hp : Tr B) : List (Nat × Option B) → Bool
  | [] => true
  | (b, o) :: l => bif Nat.blt b e.hi && (inK b e.key || Nat.ble e.nx b) && (Nat.ble e.nx b || inL b e.wr) && (match o with
      | none => true
      | some x => match hp.get b with
        | some y => smB y x
        | none => false) then upOk e hp l else false
/-- Those looked at, and not told anew, stay as they are. -/
def stay (e : En) (hp : Tr B) : List (Nat × B) → Bool
  | [] => true
  | (b, x) :: l => bif Nat.blt b e.nx && (inL b (namesU e.up) || (match hp.get b with
      | some y => smB y x
      | none => false)) then stay e hp l else false
def chk (e : En) (q : O Cr) : Bool := match q with
  | .ok ⟨x, hp, nx, _⟩ => smX x e.x && Nat.beq nx e.hi && upOk e hp e.up && stay e hp e.key
  | .no _ => false
def En.Good (c : Cx) (e : En) : Prop := ∃ q, CallOk c e.f e.args (ofK e.key .nil) e.nx q ∧ chk e (.ok q) = true

theorem inK_mem {b : Nat} : ∀ {l : List (Nat × B)}, inK b l = true → ∃ x, (b, x) ∈ l
  | [], h => by cases h
  | (k, y) :: l, h => by
    unfold inK at h
    cases hb : Nat.beq b k with
    | true => exact ⟨y, by rw [nbeq hb]; simp⟩
    | false =>
      rw [hb, cond_false] at h
      obtain ⟨x, hx⟩ := inK_mem h
      exact ⟨x, List.mem_cons_of_mem _ hx⟩
theorem mem_inL {b : Nat} : ∀ {l : List Nat}, b ∈ l → inL b l = true
  | [], h => by simp at h
  | c :: l, h => by
    unfold inL
    cases hb : Nat.beq b c with
    | true => rfl
    | false =>
      rw [cond_false]
      rw [List.mem_cons] at h
      rcases h with rfl | h
      · rw [show Nat.beq b b = true from Nat.beq_refl b] at hb; cases hb
      · exact mem_inL h
theorem inL_mem' {b : Nat} {l : List Nat} (h : inL b l = true) : b ∈ l := inL_mem h
theorem keysIn_all {hp : Tr B} : ∀ {l : List (Nat × B)}, keysIn hp l = true → ∀ b x, (b, x) ∈ l → hp.get b = some x
  | [], _, b, x, h => by simp at h
  | (k, z) :: l, hk, b, x, h => by
    unfold keysIn at hk
    split at hk
    · rename_i y hy
      cases hs : smB y z with
      | false => rw [hs] at hk; cases hk
      | true =>
        rw [hs, cond_true] at hk
        rw [List.mem_cons] at h
        rcases h with h | h
        · cases h; rw [hy, smB_eq hs]
        · exact keysIn_all hk b x h
    · cases hk
theorem ofK_get : ∀ {l : List (Nat × B)} {t : Tr B} {b : Nat}, (ofK l t).get b = t.get b ∨ ∃ x, (b, x) ∈ l ∧ (ofK l t).get b = some x
  | [], t, b => .inl rfl
  | (k, z) :: l, t, b => by
    show (ofK l (t.set k (some z))).get b = _ ∨ ∃ x, _ ∧ (ofK l (t.set k (some z))).get b = _
    rcases ofK_get (l := l) (t := t.set k (some z)) (b := b) with h | ⟨x, h1, h2⟩
    · rw [get_set] at h
      by_cases hk : k = b
      · rw [if_pos hk] at h
        exact .inr ⟨z, by rw [hk]; simp, h⟩
      · rw [if_neg hk] at h
        exact .inl h
    · exact .inr ⟨x, List.mem_cons_of_mem _ h1, h2⟩
theorem ofK_some : ∀ {l : List (Nat × B)} {t : Tr B} {b : Nat}, (∃ x, (b, x) ∈ l) → ∃ x, (ofK l t).get b = some x
  | [], t, b, h => by simp at h
  | (k, z) :: l, t, b, h => by
    show ∃ x, (ofK l (t.set k (some z))).get b = some x
    by_cases hl : ∃ x, (b, x) ∈ l
    · exact ofK_some hl
    · rcases ofK_get (l := l) (t := t.set k (some z)) (b := b) with h1 | ⟨x, h1, h2⟩
      · obtain ⟨x, hx⟩ := h
        rw [List.mem_cons] at hx
        rcases hx with hx | hx
        · cases hx
          rw [h1, get_set, if_pos rfl]
          exact ⟨_, rfl⟩
        · exact absurd ⟨x, hx⟩ hl
      · exact absurd ⟨x, h1⟩ hl
theorem upL_mem : ∀ {up : List (Nat × Option B)} {b : Nat} {x : B}, upL up (fun _ => none) b = some x → (b, some x) ∈ up := by
  have main : ∀ (up : List (Nat × Option B)) (h : Nat → Option B) (b : Nat) (x : B), upL up h b = some x → (b, some x) ∈ up ∨ h b = some x := by
    intro up
    induction up with
    | nil => intro h b x hx; exact .inr hx
    | cons p up ih =>
      obtain ⟨k, o⟩ := p
      intro h b x hx
      rcases ih (upd h k o) b x hx with g | g
      · exact .inl (List.mem_cons_of_mem _ g)
      · unfold upd at g
        by_cases e : k = b
        · rw [if_pos e] at g
          exact .inl (by rw [e, g]; simp)
        · rw [if_neg e] at g
          exact .inr g
  intro up b x hx
  rcases main up _ b x hx with g | g
  · exact g
  · cases g
theorem mem_namesU : ∀ {up : List (Nat × Option B)} {b : Nat}, b ∈ namesU up → ∃ o, (b, o) ∈ up
  | [], b, h => by simp [namesU] at h
  | (k, o) :: up, b, h => by
    rw [namesU, List.mem_cons] at h
    rcases h with rfl | h
    · exact ⟨o, by simp⟩
    · obtain ⟨o', h'⟩ := mem_namesU h
      exact ⟨o', List.mem_cons_of_mem _ h'⟩
theorem upOk_all {e : En} {hp : Tr B} : ∀ {l : List (Nat × Option B)}, upOk e hp l = true → ∀ b o, (b, o) ∈ l → b < e.hi ∧ ((∃ x, (b, x) ∈ e.key) ∨ e.nx ≤ b) ∧ (e.nx ≤ b ∨ b ∈ e.wr) ∧ ∀ x, o = some x → hp.get b = some x
  | [], _, b, o, h => by simp at h
  | (k, o') :: l, hk, b, o, h => by
    unfold upOk at hk
    have hk := bif_tt hk
    obtain ⟨h1, h2⟩ := hk
    rw [List.mem_cons] at h
    rcases h with h | h
    · cases h
      rw [Bool.and_eq_true, Bool.and_eq_true, Bool.and_eq_true, Bool.or_eq_true, Bool.or_eq_true] at h1
      obtain ⟨⟨⟨g1, g2⟩, g3⟩, g4⟩ := h1
      refine ⟨Nat.le_of_ble_eq_true g1, g2.imp inK_mem Nat.le_of_ble_eq_true, g3.imp Nat.le_of_ble_eq_true inL_mem, ?_⟩
      rintro x rfl
      simp only at g4
      split at g4
      · rename_i y hy; rw [hy, smB_eq g4]
      · cases g4
    · exact upOk_all h2 b o h
theorem stay_all {e : En} {hp : Tr B} : ∀ {l : List (Nat × B)}, stay e hp l = true → ∀ b x, (b, x) ∈ l → b < e.nx ∧ (b ∈ namesU e.up ∨ hp.get b = some x)
  | [], _, b, x, h => by simp at h
  | (k, z) :: l, hk, b, x, h => by
    unfold stay at hk
    have hk := bif_tt hk
    obtain ⟨h1, h2⟩ := hk
    rw [List.mem_cons] at h
    rcases h with h | h
    · cases h
      rw [Bool.and_eq_true, Bool.or_eq_true] at h1
      obtain ⟨g1, g2⟩ := h1
      refine ⟨Nat.le_of_ble_eq_true g1, g2.imp inL_mem fun g => ?_⟩
      split at g
      · rename_i y hy; rw [hy, smB_eq g]
      · cases g
    · exact stay_all h2 b x h

/-- The part of the world that a call with a key is handed. -/
def MK (m : Mu) (h : Nat → Option B) (K : Nat → Prop) (k : Nat) : Prop := ∃ b x cc, K b ∧ h b = some x ∧ m b = some (k, cc)
section
variable {w0 : World} {M0 : Nat → Prop}
theorem WR.subK {fr : Nat → Prop} {m : Mu} {h : Nat → Option B} {w : World} (r : WR w0 M0 fr m h w) (K : Nat → Prop) {hk : Nat → Option B} (h1 : ∀ b x, hk b = some x → K b ∧ h b = some x) : WR w (MK m h K) fr m hk w := by
  exact ⟨fun b x hb => r.blk b x (h1 b x hb).2, fun b x k cc hb hm => .inl ⟨b, x, cc, (h1 b x hb).1, (h1 b x hb).2, hm⟩, fun b b' x x' k cc cc' hb hb' => r.inj b b' x x' k cc cc' (h1 b x hb).2 (h1 b' x' hb').2, r.fresh, fun _ _ _ => rfl, Nat.le_refl _, rfl, rfl, rfl⟩
theorem MK_own {fr : Nat → Prop} {m : Mu} {h : Nat → Option B} {w : World} (r : WR w0 M0 fr m h w) {K : Nat → Prop} {k : Nat} (hk : MK m h K k) : M0 k ∨ w0.heap.size ≤ k := by
  obtain ⟨b, x, cc, _, h2, h3⟩ := hk
  exact r.own b x k cc h2 h3
theorem GOk.subK {G : Tr (List Value)} {fr : Nat → Prop} {m : Mu} {h : Nat → Option B} {w : World} (hG : GOk G w0 M0) (r : WR w0 M0 fr m h w) (K : Nat → Prop) : GOk G w (MK m h K) := by
  intro g l hg
  obtain ⟨h1, h2, T, fz, h3⟩ := hG g l hg
  refine ⟨Nat.lt_of_lt_of_le h1 r.grown, fun hk => ?_, T, fz, by rw [r.old g h1 h2]; exact h3⟩
  rcases MK_own r hk with h4 | h4
  · exact h2 h4
  · omega
theorem WR.joinK {fr fr' : Nat → Prop} {m m' : Mu} {h h' h'' : Nat → Option B} {w w' : World} {K N : Nat → Prop} (r : WR w0 M0 fr m h w) (r' : WR w (MK m h K) fr' m' h' w') (hm : Le m m')
    (hN : ∀ b, K b → N b) (h1 : ∀ b x, h'' b = some x → (N b ∧ h' b = some x) ∨ (¬ N b ∧ h b = some x)) : WR w0 M0 fr' m' h'' w' := by
  have hold : ∀ b x, h b = some x → ¬ N b → ∀ k cc, m b = some (k, cc) → ¬ MK m h K k ∧ k < w.heap.size := by
    intro b x hb hn k cc hk
    refine ⟨?_, r.lt hb hk⟩
    rintro ⟨b', x', cc', g1, g2, g3⟩
    have := r.inj b b' x x' k cc cc' hb g2 hk g3
    subst this
    exact hn (hN _ g1)
  have keep : ∀ b x, ¬ N b → h b = some x → ∀ k cc, m' b = some (k, cc) → m b = some (k, cc) ∧ ¬ MK m h K k ∧ k < w.heap.size := by
    intro b x hb hx k cc hk
    obtain ⟨k', cc', o, g1, g2, g3⟩ := r.blk b x hx
    have := hm _ _ g1
    rw [hk] at this
    simp only [Option.some.injEq, Prod.mk.injEq] at this
    obtain ⟨rfl, rfl⟩ := this
    exact ⟨g1, hold b x hx hb _ _ g1⟩
  have w1 : ∀ k, MK m h K k ∨ w.heap.size ≤ k → M0 k ∨ w0.heap.size ≤ k := by
    intro k hk
    rcases hk with hk | hk
    · exact MK_own r hk
    · exact .inr (Nat.le_trans r.grown hk)
  refine ⟨fun b x hb => ?_, fun b x k cc hb hk => ?_, fun b b' x x' k cc cc' hb hb' hk hk' => ?_, r'.fresh, fun k hk hn => ?_, Nat.le_trans r.grown r'.grown, r'.os.trans r.os, r'.tape.trans r.tape, r'.output.trans r.output⟩
  · rcases h1 b x hb with ⟨_, hx⟩ | ⟨e, hx⟩
    · exact r'.blk b x hx
    · obtain ⟨k, cc, o, g1, g2, g3⟩ := r.blk b x hx
      obtain ⟨g4, g5⟩ := hold b x hx e k cc g1
      exact ⟨k, cc, o, hm _ _ g1, by rw [r'.old k g5 g4]; exact g2, g3.mono hm⟩
  · rcases h1 b x hb with ⟨_, hx⟩ | ⟨e, hx⟩
    · exact w1 k (r'.own b x k cc hx hk)
    · exact r.own b x k cc hx (keep b x e hx k cc hk).1
  · rcases h1 b x hb with ⟨_, hx⟩ | ⟨e, hx⟩ <;> rcases h1 b' x' hb' with ⟨_, hx'⟩ | ⟨e', hx'⟩
    · exact r'.inj b b' x x' k cc cc' hx hx' hk hk'
    · exfalso
      obtain ⟨_, g2, g3⟩ := keep b' x' e' hx' k cc' hk'
      rcases r'.own b x k cc hx hk with h | h
      · exact g2 h
      · omega
    · exfalso
      obtain ⟨_, g2, g3⟩ := keep b x e hx k cc hk
      rcases r'.own b' x' k cc' hx' hk' with h | h
      · exact g2 h
      · omega
    · exact r.inj b b' x x' k cc cc' hx hx' (keep b x e hx k cc hk).1 (keep b' x' e' hx' k cc' hk').1
  · have hk' : k < w.heap.size := Nat.lt_of_lt_of_le hk r.grown
    rw [r'.old k hk' (fun hM => by
      rcases MK_own r hM with h | h
      · exact hn h
      · omega)]
    exact r.old k hk hn
end
theorem Called.mono {P : Program} {vf : Value} {args : Array Value} {w : World} {R R' : Ending → World → Prop} (h : Called P vf args w R) (k : ∀ e w', R e w' → R' e w') : Called P vf args w R' := by
  obtain ⟨nx, h1, h2, h3⟩ := h
  refine ⟨nx, h1, h2, ?_⟩
  cases nx with
  | enter g as => exact CallsIn.mono (F := Fence.wide) h3 k
  | round l f tmps a b => exact RoundIn.mono (F := Fence.wide) h3 k
  | _ => exact h3.elim
/-- What is known holds wherever it is met. -/
theorem hit_ok {c : Cx} {e : En} (hg : e.Good c) {f : X} {args : List X} {hp : Tr B} {nx : Nat} (hh : hit e f args hp nx = true) : CallOk c f args hp nx ⟨e.x, setAll hp e.up, e.hi, e.wr⟩ := by
  obtain ⟨q, hq, hc⟩ := hg
  unfold hit at hh
  obtain ⟨hn, hh⟩ := bif_tt hh
  obtain ⟨hfa, hkey⟩ := bif_tt hh
  rw [Bool.and_eq_true] at hfa
  have en := nbeq hn
  have ef := smX_eq _ hfa.1
  have ea := smXs_eq _ hfa.2
  subst en ef ea
  have hkey := keysIn_all hkey
  obtain ⟨qx, qhp, qnx, qwr⟩ := q
  simp only [chk, Bool.and_eq_true] at hc
  obtain ⟨⟨⟨c1, c2⟩, c3⟩, c4⟩ := hc
  have ex := smX_eq _ c1
  have eh := nbeq c2
  subst ex eh
  have hup := upOk_all c3
  have hst := stay_all c4
  intro hfree
  obtain ⟨k1, k2, k3, k4⟩ := hq fun b hb => by
    rcases ofK_get (l := e.key) (t := .nil) (b := b) with h | ⟨x, h1, _⟩
    · exact h
    · have := (hst b x h1).1
      have : e.nx ≤ b := hb
      omega
  have hget : ∀ b, (setAll hp e.up).get b = if b ∈ namesU e.up then upL e.up (fun _ => none) b else hp.get b := fun b => by
    rw [get_setAll]; exact upL_get e.up hp.get b
  refine ⟨k1, fun b hb => ?_, fun b hb hw => ?_, fun w0 M0 fr m w us vf hG hW hfr hf ha => ?_⟩
  · show (setAll hp e.up).get b = none
    rw [hget]
    have hb : e.hi ≤ b := hb
    have : b ∉ namesU e.up := fun h => by
      obtain ⟨o, ho⟩ := mem_namesU h
      have := (hup b o ho).1
      omega
    rw [if_neg this]
    exact hfree b (Nat.le_trans k1 hb)
  · show (setAll hp e.up).get b = hp.get b
    rw [hget]
    have : b ∉ namesU e.up := fun h => by
      obtain ⟨o, ho⟩ := mem_namesU h
      rcases (hup b o ho).2.2.1 with h | h
      · omega
      · exact hw h
    rw [if_neg this]
  · have hkg : ∀ b x, (ofK e.key .nil).get b = some x → (∃ x, (b, x) ∈ e.key) ∧ hp.get b = some x := by
      intro b x hx
      rcases ofK_get (l := e.key) (t := .nil) (b := b) with h | ⟨y, h1, h2⟩
      · rw [h] at hx; cases hx
      · rw [h2] at hx
        cases hx
        exact ⟨⟨_, h1⟩, hkey b _ h1⟩
    have hsub := hW.subK (fun b => ∃ x, (b, x) ∈ e.key) hkg
    refine (k4 w (MK m hp.get fun b => ∃ x, (b, x) ∈ e.key) fr m w us vf (hG.subK hW _) hsub hfr hf ha).mono ?_
    rintro en w' ⟨v, m', rfl, h3, h4, h5⟩
    refine ⟨v, m', rfl, h3, h4, hW.joinK (N := fun b => (∃ x, (b, x) ∈ e.key) ∨ (e.nx ≤ b)) h5 h3 (fun b hb => .inl hb) fun b x hx => ?_⟩
    have hx : (setAll hp e.up).get b = some x := hx
    rw [hget] at hx
    by_cases hb : b ∈ namesU e.up
    · rw [if_pos hb] at hx
      obtain ⟨g1, g2, g3, g4⟩ := hup b _ (upL_mem hx)
      exact .inl ⟨g2, g4 x rfl⟩
    · rw [if_neg hb] at hx
      have hbn : b < e.nx := by
        rcases Nat.lt_or_ge b e.nx with g | g
        · exact g
        · rw [hfree b g] at hx; cases hx
      by_cases hk : ∃ x, (b, x) ∈ e.key
      · obtain ⟨y, hy⟩ := hk
        have h6 := hkey b y hy
        rw [hx] at h6
        cases h6
        rcases (hst b _ hy).2 with g | g
        · exact absurd g hb
        · exact .inl ⟨.inl ⟨_, hy⟩, g⟩
      · exact .inr ⟨fun g => g.elim hk fun g => by omega, hx⟩
theorem findE_spec {f : X} {args : List X} {hp : Tr B} {nx : Nat} : ∀ {l : List En} {e : En}, findE f args hp nx l = some e → e ∈ l ∧ hit e f args hp nx = true
  | [], e, h => by cases h
  | a :: l, e, h => by
    unfold findE at h
    cases hh : hit a f args hp nx with
    | true => rw [hh] at h; cases h; exact ⟨by simp, hh⟩
    | false =>
      rw [hh, cond_false] at h
      obtain ⟨h1, h2⟩ := findE_spec h
      exact ⟨List.mem_cons_of_mem _ h1, h2⟩
/-- All that are known tell the truth. -/
def Goods (c : Cx) (t : Tr (List En)) : Prop := ∀ g es, t.get g = some es → ∀ e ∈ es, e.Good c
theorem patch_ok {c : Cx} {t : Tr (List En)} (ht : Goods c t) {r : Rec} (hr : RecOk c r) : RecOk c (patch t r) := by
  refine ⟨fun f args hp nx q h => ?_, hr.code⟩
  have h : callM t r f args hp nx = .ok q := h
  cases f with
  | fn g fs cs =>
    unfold callM at h
    simp only at h
    cases hes : t.get g with
    | none => rw [hes] at h; exact hr.call _ _ _ _ _ h
    | some es =>
      rw [hes] at h
      simp only at h
      cases he : findE (.fn g fs cs) args hp nx es with
      | none => rw [he] at h; exact hr.call _ _ _ _ _ h
      | some e =>
        rw [he] at h
        obtain ⟨h1, h2⟩ := findE_spec he
        cases h
        exact hit_ok (ht g es hes e h1) h2
  | _ => exact hr.call _ _ _ _ _ h
theorem patch_le {t : Tr (List En)} {rK rX : Rec} (h : RLe rK rX) : RLe (patch t rK) (patch t rX) := by
  refine ⟨h.code, fun f args hp nx q hq => ?_⟩
  have hq : callM t rK f args hp nx = .ok q := hq
  show callM t rX f args hp nx = .ok q
  cases f with
  | fn g fs cs =>
    unfold callM at hq ⊢
    simp only at hq ⊢
    cases hes : t.get g with
    | none => rw [hes] at hq; exact h.call _ _ _ _ _ hq
    | some es =>
      rw [hes] at hq
      simp only at hq ⊢
      cases he : findE (.fn g fs cs) args hp nx es with
      | none => rw [he] at hq; exact h.call _ _ _ _ _ hq
      | some e => rw [he] at hq; exact hq
  | _ => exact h.call _ _ _ _ _ hq
theorem runP_ok {c : Cx} {rc : List FuncId} {ps : Rec → Rec} (hc : CxOk c) (hf : FnOk c rc) (hps : ∀ r, RecOk c r → RecOk c (ps r)) : ∀ n, RecOk c (runP c rc ps n)
  | 0 => ⟨fun _ _ _ _ _ h => by simp [runP] at h, fun _ _ _ _ _ _ h => by simp [runP] at h⟩
  | n + 1 => ⟨fun f args hp nx q h => callX_ok hc hf (hps _ (runP_ok hc hf hps n)) h, fun ro nt code s x s' h hin hnt hI => codeX_ok hc (hps _ (runP_ok hc hf hps n)).call rfl ((hps _ (runP_ok hc hf hps n)).code ro nt) code s x s' h hin hnt hI⟩
/-- A run of the staged evaluator, with calls that are known. -/
def runE (c : Cx) (rc : List FuncId) (t : Tr (List En)) (n : Nat) : Rec := runK c rc (patch t) n
theorem runE_call {c : Cx} {rc : List FuncId} {t : Tr (List En)} (hc : CxOk c) (hf : FnOk c rc) (ht : Goods c t) {n : Nat} {f : X} {args : List X} {hp : Tr B} {nx : Nat} {q : Cr} (h : (runE c rc t n).call f args hp nx = .ok q) : CallOk c f args hp nx q :=
  (runP_ok hc hf (fun _ => patch_ok ht) n).call _ _ _ _ _ ((runK_le (patch t) (fun _ _ => patch_le) n).call _ _ _ _ _ h)
/-- One more that is known. -/
theorem good_of {c : Cx} {rc : List FuncId} {t : Tr (List En)} (hc : CxOk c) (hf : FnOk c rc) (ht : Goods c t) {n : Nat} {e : En} (h : chk e ((runE c rc t n).call e.f e.args (ofK e.key .nil) e.nx) = true) : e.Good c := by
  cases hq : (runE c rc t n).call e.f e.args (ofK e.key .nil) e.nx with
  | no l => rw [hq] at h; cases h
  | ok q => exact ⟨q, runE_call hc hf ht hq, by rw [hq] at h; exact h⟩
end
end Go.Ex
/- The exact evaluator, part 19: calls from nothing. -/
namespace Go.Ex
noncomputable section
open Go.RowKit

def isTrue (o : O Cr) : Bool := match o with
  | .ok q => match q.x with
    | .v (.bool true) => true
    | _ => false
  | .no _ => false
/-- A call of a function without captured values, from nothing. -/
def call0 (c : Cx) (rc : List FuncId) (t : Tr (List En)) (fuel : Nat) (f : FuncId) (args : List X) : O Cr := (runE c rc t fuel).call (.fn f [] []) args .nil 0

theorem WR.start (w : World) : WR w (fun _ => False) (fun _ => True) (fun _ => none) (Tr.nil : Tr B).get w :=
  ⟨fun b x h => (by cases h), fun b x k c h => (by cases h), fun b b' x x' k c c' h => (by cases h), fun _ _ => rfl, fun _ _ _ => rfl, Nat.le_refl _, rfl, rfl, rfl⟩
theorem goods_nil {c : Cx} : Goods c .nil := fun g es h => by cases h
theorem calls_of_call0 {c : Cx} {rc : List FuncId} {t : Tr (List En)} {fuel : Nat} {f : FuncId} {xs : List X} {vs : List Value} {q : Cr} (hc : CxOk c) (hf : FnOk c rc) (ht : Goods c t) (hx : concL (fun _ => none) xs = some vs) (h : call0 c rc t fuel f xs = .ok q) (he : Go.Ab.entersB c.P f = true) (w : World) (hG : GOk c.gl w fun _ => False) :
    Calls c.P f vs.toArray w fun e w' => ∃ v m, e = .returned v ∧ conc m q.x = some v ∧ WR w (fun _ => False) (fun _ => False) m q.hp.get w' := by
  have hok := runE_call hc hf ht h (fun b _ => rfl)
  obtain ⟨_, _, _, hcall⟩ := hok
  obtain ⟨nx, h1, h2, h3⟩ := hcall w (fun _ => False) (fun _ => True) (fun _ => none) w vs (.func (.func f) #[] #[]) hG (WR.start w) (fun _ _ _ => trivial) (by simp [conc, concL]) hx
  obtain ⟨g', us, rfl⟩ := h2 f #[] #[] rfl
  simp only [Deferred.ofValue, Sem.run_bind, Sem.run_pure, Result.andThen, invoke] at h1
  rw [Go.Ab.run_callFunc he] at h1
  simp only [Result.ok.injEq, Next.enter.injEq] at h1
  obtain ⟨⟨rfl, h1⟩, _⟩ := h1
  have h3' : CallsIn Fence.wide 0 c.P f us w _ := h3
  have e1 : us = vs.toArray := by rw [← h1]; simp
  rw [e1] at h3'
  refine Calls.mono (callsIn_wide.1 h3') ?_
  rintro e w' ⟨v, m', rfl, _, h5, h6⟩
  exact ⟨v, m', rfl, h5, h6.less fun _ h => h.elim⟩

theorem isTrue_inv {o : O Cr} (h : isTrue o = true) : ∃ q, o = .ok q ∧ q.x = .v (.bool true) := by
  unfold isTrue at h
  split at h
  · rename_i q
    split at h
    · rename_i hx
      exact ⟨q, rfl, hx⟩
    · cases h
  · cases h
theorem WR.below {w w' : World} {fr : Nat → Prop} {m : Mu} {h : Nat → Option B} (r : WR w (fun _ => False) fr m h w') : Below w.heap.size w w' := ⟨r.os, r.tape, r.output, r.grown, fun k hk => r.old k hk (fun e => e)⟩
/-- A law that answers true, and leaves all that was there. -/
theorem calls_true {c : Cx} {rc : List FuncId} {t : Tr (List En)} {fuel : Nat} {f : FuncId} {xs : List X} {vs : List Value} (hc : CxOk c) (hf : FnOk c rc) (ht : Goods c t) (he : Go.Ab.entersB c.P f = true) (hx : concL (fun _ => none) xs = some vs) (h : isTrue (call0 c rc t fuel f xs) = true) (w : World) (hG : GOk c.gl w fun _ => False) :
    Calls c.P f vs.toArray w fun e w' => e = .returned (.bool true) ∧ Below w.heap.size w w' := by
  obtain ⟨q, h1, h2⟩ := isTrue_inv h
  refine Calls.mono (calls_of_call0 hc hf ht hx h1 he w hG) ?_
  rintro e w' ⟨v, m', rfl, h5, h6⟩
  rw [h2] at h5
  have := conc_v h5
  subst this
  exact ⟨rfl, h6.below⟩
/-- A closed function that answers true, where no package variable is read. -/
theorem pcall_true {c : Cx} {rc : List FuncId} {t : Tr (List En)} {fuel : Nat} {f : FuncId} (hc : CxOk c) (hf : FnOk c rc) (ht : Goods c t) (he : Go.Ab.entersB c.P f = true) (hgl : c.gl = .nil) (h : isTrue (call0 c rc t fuel f []) = true) : Go.Ab.PCall c.P f [] (.val (.bool true)) := by
  unfold Go.Ab.PCall
  refine ⟨he, fun w I vs _ hI hl _ => ?_⟩
  have : vs = [] := by cases vs with | nil => rfl | cons => simp at hl
  subst this
  obtain ⟨q, h1, h2⟩ := isTrue_inv h
  refine Calls.mono (calls_of_call0 hc hf ht (xs := []) (vs := []) (by rfl) h1 he w (by rw [hgl]; intro g l hg; cases hg)) ?_
  rintro e w' ⟨v, m, rfl, h3, h4⟩
  rw [h2] at h3
  have := conc_v h3
  subst this
  exact ⟨_, I, rfl, .val _ trivial, fun _ h => h, fun _ h => .inl h, fun k hk => Nat.lt_of_lt_of_le (hI k hk) h4.grown, h4.below⟩
end
end Go.Ex
/- The exact evaluator, part 20: a function that recovers, where nothing is to be recovered. -/
namespace Go.Ex
noncomputable section
open Go.RowKit

theorem rc_ok {P : Program} {f : FuncId} {fn : Func} {r e d b i0 i3 i4 : Nat} {T T0 T1 T2 T4 : TypeId} {s0 s3 s4 : String} {rest : Code} (hf : P.funcs[f]? = some fn)
    (hb : fn.body = some (.seq (.region i0 #[⟨some r, .call ⟨.builtin .recover, #[], #[]⟩, T0, s0, #[], none⟩] false) (.block b (.seq (.region i3 #[⟨some e, .binOp .eql T (.tmp r) (.const .nilIface) T1, T2, s3, #[], none⟩] false) (.cond (.tmp e) (.region i4 #[⟨some d, .assign (.tmp r), T4, s4, #[], none⟩] false) rest)))))
    (hres : fn.results = #[]) (hT : P.underlying T = some (.interface (P.methodsAt T))) (hr : r < fn.ntmps) (he : e < fn.ntmps) (args : Array Value) (w : World) :
    CallsDIn Fence.wide 0 P f args .returning w fun e u w' => (∃ v, e = .returned v) ∧ u = .returning ∧ w' = w := by
  refine callsDIn_of_wpSIn hf hb trivial fun c0 cs hu => ?_
  have hrec : recoverD (c0 :: cs) = none := by simp [recoverD, hu]
  have hc0 : ({ c0 with mode := .returning } : Frame) = c0 := by rw [← hu]
  have hsz : ∀ v, ({ tmps := args ++ Array.replicate (fn.ntmps - args.size) undef, defers := [] } : Act).put (some r) v = { tmps := (args ++ Array.replicate (fn.ntmps - args.size) undef).setIfInBounds r v, defers := [] } := fun v => rfl
  have hlen : fn.ntmps ≤ (args ++ Array.replicate (fn.ntmps - args.size) undef).size := by simp; omega
  generalize (args ++ Array.replicate (fn.ntmps - args.size) undef) = t at *
  refine wpSIn_seq (wpSIn_region ?_)
  have h1 : (execOp (Act.eval { tmps := t, defers := [] }) ⟨some r, .call ⟨.builtin .recover, #[], #[]⟩, T0, s0, #[], none⟩).run P w = .ok .recover w := by
    simp [execOp, resolve, invoke, builtin]
  have hab : ∀ g, Oper.about P w (Act.eval { tmps := t, defers := [] }) ⟨some r, .call ⟨.builtin .recover, #[], #[]⟩, T0, s0, #[], none⟩ = some g → Fence.wide.fn g := fun _ _ => trivial
  have hrg : List.range (#[(⟨some r, .call ⟨.builtin .recover, #[], #[]⟩, T0, s0, #[], none⟩ : Oper)]).size = [0] := rfl
  rw [hrg]
  simp only [wpOpsSIn, List.getElem?_toArray, List.getElem?_cons_zero, Region.wanted, if_true, h1, hrec, Exit.thenS]
  refine ⟨hab, ?_⟩
  refine wpSIn_of_wpIn rfl (wpIn_block (wpIn_seq (wpIn_region ?_)))
  have hv : (Act.put { tmps := t, defers := [] } (some r) .nilIface).eval (.tmp r) = .nilIface := by
    simp [Act.put, Act.eval, Array.getD, show r < t.size by omega]
  have h2 : (execOp (Act.eval (Act.put { tmps := t, defers := [] } (some r) .nilIface)) ⟨some e, .binOp .eql T (.tmp r) (.const .nilIface) T1, T2, s3, #[], none⟩).run P w = .ok (.value (.bool true)) w := by
    have hk : (Act.put { tmps := t, defers := [] } (some r) .nilIface).eval (.const .nilIface) = .nilIface := rfl
    have hg : (eqGuard .eql T (.tmp r) (.const .nilIface) .nilIface .nilIface).run P w = .ok () w := by simp [eqGuard]
    simp only [execOp, hv, hk, Sem.run_bind, hg, run_eql_nil_nil w T hT, Result.andThen, Sem.run_pure]
  have hrg2 : List.range (#[(⟨some e, .binOp .eql T (.tmp r) (.const .nilIface) T1, T2, s3, #[], none⟩ : Oper)]).size = [0] := rfl
  rw [hrg2]
  simp only [wpOpsIn, List.getElem?_toArray, List.getElem?_cons_zero, Region.wanted, if_true, Oper.wpIn]
  refine ⟨fun _ _ => trivial, ?_⟩
  rw [Oper.semAt_eq _ _ _ (by simp), h2]
  refine wpIn_cond_true (by simp [Act.put, Act.eval, Array.getD, show e < t.size by omega]) (wpIn_region ?_)
  have hrg3 : List.range (#[(⟨some d, .assign (.tmp r), T4, s4, #[], none⟩ : Oper)]).size = [0] := rfl
  rw [hrg3]
  simp only [wpOpsIn, List.getElem?_toArray, List.getElem?_cons_zero, Region.wanted, if_true, Oper.wpIn]
  refine ⟨fun _ _ => trivial, ?_⟩
  rw [Oper.semAt_eq _ _ _ (by simp)]
  simp only [execOp, Sem.run_pure]
  rw [Oper.uponIn_value]
  simp only [Exit.inBlock, bodyPostS]
  have hv3 : (results fn (((Act.put { tmps := t, defers := [] } (some r) .nilIface).put (some e) (.bool true)).put (some d) (((Act.put { tmps := t, defers := [] } (some r) .nilIface).put (some e) (.bool true)).eval (.tmp r))).tmps).run P w = .ok (.tuple #[]) w := by simp [results, hres]
  refine ⟨rfl, .returning, by rw [hc0], .tuple #[], hv3, ?_⟩
  simp
end
end Go.Ex
/- The exact evaluator, part 21: arguments that are rows of cells, whatever these hold. -/
namespace Go.Ex
noncomputable section
open Go.RowKit

/-- What a cell may be. -/
inductive CK where
  | int (k : IntKind)
  | str
  | bool
  | slc
def intC : Value → Int
  | .int _ n => n
  | _ => 0
def strC : Value → ByteArray
  | .string s => s
  | _ => ByteArray.empty
def boolC : Value → Bool
  | .bool b => b
  | _ => false
def adrC : Value → Option Addr
  | .slice a _ _ => a
  | _ => none
def lenC : Value → Nat
  | .slice _ l _ => l
  | _ => 0
def capC : Value → Nat
  | .slice _ _ c => c
  | _ => 0
def cellK : CK → Value → Value
  | .int k, v => .int k (intC v)
  | .str, v => .string (strC v)
  | .bool, v => .bool (boolC v)
  | .slc, v => .slice (adrC v) (lenC v) (capC v)
def mkV (c : Nat → Value) : List CK → Nat → List Value
  | [], _ => []
  | k :: l, i => cellK k (c i) :: mkV c l (Nat.succ i)
def kindOf (P : Program) (u : TypeId) : Option CK := match P.underlying u with
  | some (.int k) => some (.int k)
  | some .string => some .str
  | some .bool => some .bool
  | some (.slice _) => some .slc
  | _ => none
theorem cell_kind {P : Program} {w : World} {r : Reach} {base : Nat} {u : TypeId} {v : Value} {k : CK} (hk : kindOf P u = some k) (h : Cell.okWide P w r base u v) : v = cellK k v := by
  have hv : Value.okWide P w r base u v ∨ True := .inr trivial
  unfold kindOf at hk
  split at hk
  · rename_i k' hu
    simp only [Option.some.injEq] at hk
    subst hk
    have h' : Value.okWide P w r base u v := by unfold Value.okWide; rw [hu]; exact h
    obtain ⟨n, rfl⟩ := WideShapes.okWide_int hu h'
    rfl
  · rename_i hu
    simp only [Option.some.injEq] at hk
    subst hk
    have h' : Value.okWide P w r base u v := by unfold Value.okWide; rw [hu]; exact h
    obtain ⟨n, rfl⟩ := WideShapes.okWide_string hu h'
    rfl
  · rename_i hu
    simp only [Option.some.injEq] at hk
    subst hk
    have h' : Value.okWide P w r base u v := by unfold Value.okWide; rw [hu]; exact h
    obtain ⟨n, rfl⟩ := WideShapes.okWide_bool hu h'
    rfl
  · rename_i e hu
    simp only [Option.some.injEq] at hk
    subst hk
    have h' : Value.okWide P w r base u v := by unfold Value.okWide; rw [hu]; exact h
    obtain ⟨a, l, c, rfl⟩ := WideShapes.okWide_slice hu h'
    rfl
  · cases hk
def allK (P : Program) : List TypeId → List CK → Prop
  | [], [] => True
  | u :: us, k :: ks => kindOf P u = some k ∧ allK P us ks
  | _, _ => False
def ckB : CK → CK → Bool
  | .int j, .int k => kEq j k
  | .str, .str => true
  | .bool, .bool => true
  | .slc, .slc => true
  | _, _ => false
theorem ckB_eq {j k : CK} (h : ckB j k = true) : j = k := by
  cases j <;> cases k <;> first | rfl | (simp only [ckB, kEq_eq, decide_eq_true_eq] at h; rw [h]) | cases h
def allKB (P : Program) : List TypeId → List CK → Bool
  | [], [] => true
  | u :: us, k :: ks => match kindOf P u with
    | some j => bif ckB j k then allKB P us ks else false
    | none => false
  | _, _ => false
theorem allK_of {P : Program} : ∀ {ts : List TypeId} {ks : List CK}, allKB P ts ks = true → allK P ts ks
  | [], [], _ => trivial
  | [], _ :: _, h => by cases h
  | _ :: _, [], h => by cases h
  | u :: us, k :: ks, h => by
    simp only [allKB] at h
    split at h
    · rename_i j hj
      cases hc : ckB j k with
      | false => rw [hc] at h; cases h
      | true =>
        rw [hc] at h
        exact ⟨by rw [hj, ckB_eq hc], allK_of h⟩
    · cases h
theorem row_go {P : Program} {w : World} {r : Reach} {base : Nat} : ∀ (ts : List TypeId) (ks : List CK) (l : List Value) (i : Nat) (c : Nat → Value), allK P ts ks → l.length = ts.length → (∀ j, j < l.length → c (i + j) = l.getD j undef) → (∀ (j : Nat) v, l[j]? = some v → ∃ u, ts[j]? = some u ∧ Cell.okWide P w r base u v) → l = mkV c ks i
  | [], [], [], _, _, _, _, _, _ => rfl
  | [], _ :: _, _, _, _, hk, _, _, _ => hk.elim
  | _ :: _, [], _, _, _, hk, _, _, _ => hk.elim
  | [], [], _ :: _, _, _, _, hl, _, _ => by simp at hl
  | _ :: _, _ :: _, [], _, _, _, hl, _, _ => by simp at hl
  | u :: us, k :: ks, v :: vs, i, c, hk, hl, hc, h => by
    obtain ⟨u', h1, h2⟩ := h 0 v rfl
    simp only [List.getElem?_cons_zero, Option.some.injEq] at h1
    subst h1
    have h0 := hc 0 (by simp)
    simp only [Nat.add_zero, List.getD_cons_zero] at h0
    rw [mkV, h0, ← cell_kind hk.1 h2]
    congr 1
    refine row_go (P := P) (w := w) (r := r) (base := base) us ks vs (Nat.succ i) c hk.2 (by simpa using hl) (fun j hj => ?_) fun j x hx => ?_
    · have := hc (j + 1) (by simpa using hj)
      rw [show Nat.succ i + j = i + (j + 1) by omega, this]
      simp
    · have := h (j + 1) x (by simpa using hx)
      simpa using this
/-- A struct's cells. -/
theorem struct_cells {P : Program} {w : World} {r : Reach} {base : Nat} {t : TypeId} {fs : Array Field} {v : Value} {ts : List TypeId} {ks : List CK} (ht : P.underlying t = some (.struct fs)) (hts : P.cellTypes P.depth t = some ts) (hk : allKB P ts ks = true) (hn : P.cellsOf t = ts.length)
    (h : Value.okWide P w r base t v) : ∃ c : Nat → Value, v = .agg (mkV c ks 0).toArray := by
  unfold Value.okWide at h
  rw [ht] at h
  obtain ⟨cs, rfl, hs, ts', h1, h2, h3⟩ := h
  rw [hts] at h1
  simp only [Option.some.injEq] at h1
  subst h1
  refine ⟨fun i => cs.toList.getD i undef, ?_⟩
  have hl : cs.toList.length = ts.length := by simp; omega
  have := row_go (P := P) (w := w) (r := r) (base := base) ts ks cs.toList 0 (fun i => cs.toList.getD i undef) (allK_of hk) hl (fun j hj => by simp) (fun j x hx => by
    have hx' : cs[j]? = some x := by simpa using hx
    obtain ⟨u, g1, g2⟩ := h3 j x hx'
    have hj : j < cs.size := (Array.getElem?_eq_some_iff.1 hx').1
    rw [Nat.mod_eq_of_lt (by omega)] at g1
    exact ⟨u, g1, g2⟩)
  rw [← this]
end
end Go.Ex
/- The exact evaluator, part 22: a law that answers true, and leaves all that was there. -/
namespace Go.Ex
noncomputable section
open Go.RowKit
open Go.ChangeShapes Go.WideShapes Go.ChangeAt

section
variable {H : Type} {enc : TypeId × Value → H} {P : Program} {W W' : World}
theorem trodAll_carry {base : Nat} {spare : Nat → Bool} {held : Bool} : ∀ {ts : List TypeId} {vs : List Value} {ds : List (DataW H)} {ps : List MemPlace}, DataW.TrodAll enc P W base spare held ts vs ds ps → (∀ x ∈ ps, W.sameAt W' x) → DataW.TrodAll enc P W' base spare held ts vs ds ps
  | [], [], [], _, h, _ => h
  | _ :: _, _ :: _, _ :: _, _, ⟨p, q, ⟨n, hn⟩, h2, e⟩, hs => ⟨p, q, ⟨n, DataW.trod_carry n _ _ _ hn fun x hx => hs x (by rw [e]; exact List.mem_append_left _ hx)⟩, trodAll_carry h2 fun x hx => hs x (by rw [e]; exact List.mem_append_right _ hx), e⟩

/-- True is answered; the arguments read as they did. -/
theorem post_true {f : Func} {s : ChangeSpec} {apart fresh handsOn again : Bool} {args : Array Value} {ds gs : List (DataW H)} {before : List MemPlace} {tb : TypeId} (K : Kids P (· < P.types.size)) (hz : ∀ t e, t < P.types.size → P.underlying t = some (.slice e) → 0 < P.cellsOf e)
    (hrows : ∀ t ∈ f.params.toList, t < P.types.size) (hv : s.vars = []) (hres : f.resultTypes = #[tb]) (htb : P.underlying tb = some .bool) (hfn : s.fn H (ds ++ gs) = { results := [.lit (.bool true)], args := ds })
    (hW : DataW.Whole enc P f.params.toList s.vars apart W args.toList ds gs before) (hb : Below W.heap.size W W') : s.post enc P f apart fresh handsOn again W args (.bool true) W' := by
  have hW' := hW
  obtain ⟨p, q, hA, hV, rfl, hfz, hnd⟩ := hW
  have hV' := hV
  rw [hv] at hV'
  obtain ⟨rfl, rfl⟩ := trodVars_none hV'
  have hold : ∀ x ∈ p, x.block < W.heap.size := fun x hx => hW'.lt x (by simpa using hx)
  have hA' := trodAll_carry (W' := W') hA fun x hx => hb.same (hold x hx)
  have hargs : ∀ sp : Nat → Bool, (∀ x ∈ p, sp x.block = true) → DataW.TrodAll enc P W' 0 sp true f.params.toList args.toList ds p := fun sp hsp => DataW.TrodAll.respare K hz hrows hA' hsp
  have hbool : ∀ (b : Nat) (sp : Nat → Bool) (hd : Bool), DataW.TrodAll enc P W' b sp hd f.resultTypes.toList ((Value.bool true).resultList f.resultTypes.size) [.lit (.bool true)] [] := by
    intro b sp hd
    rw [hres]
    exact trodAll_mk1 ⟨1, by simp [DataW.trod, Value.cells, htb]⟩
  have hvars : ∀ sp : Nat → Bool, DataW.TrodVars enc P W' sp s.vars [] [] := by
    intro sp
    rw [hv]
    rfl
  refine ⟨ds, [], p ++ [], [], p, [], hW', ?_, ?_, ?_, hb.frame _, fun _ => ?_⟩
  · rw [hfn]; exact hbool _ _ _
  · rw [hfn]; exact hargs _ fun x hx => by simpa using hold x hx
  · rw [hfn]; exact hvars _
  · refine ⟨ok_one hres rfl (okWide_bool_mk htb _), _, _, ([] ++ p) ++ [], ⟨[] ++ p, [], trodAll_append (hargs _ (fun _ _ => rfl)) (hbool _ _ _), hvars _, rfl, ?_, ?_⟩, ?_⟩
    · intro b off hp
      have hp' : MemPlace.cell b off ∈ p := by simpa using hp
      rw [hb.frozen (hold _ hp')]
      exact hfz b off (by simpa using hp')
    · intro ha
      have := hnd ha
      simpa using this
    · intro x hx _
      simpa using hx
end

/-! a world that holds what is laid -/
mutual
def flatD : DataW Unit → List Value
  | .lit l => [l.value]
  | .agg ps => flatL ps
  | _ => []
def flatL : List (DataW Unit) → List Value
  | [] => []
  | d :: l => flatD d ++ flatL l
end
def layAll (P : Program) (laid : List (String × DataW Unit)) (h : Array Obj) : Array Obj := laid.foldl (fun h x => match P.globalNamed x.1 with
  | some g => h.modify g fun
    | .cells _ t frozen => .cells (flatD x.2).toArray t frozen
    | o => o
  | none => h) h
noncomputable def laidWorld (P : Program) (laid : List (String × DataW Unit)) (os : Os) : World :=
  { World.holding P os ⟨#[], #[], []⟩ with heap := layAll P laid (World.holding P os ⟨#[], #[], []⟩).heap }
end
end Go.Ex
/- Functions without a text: entered by the model's own rows. -/
namespace Go.Ex
noncomputable section
theorem extern_run {P : Program} {k : FuncId} {fn : Func} {e : Array Value → Sem Value} (hf : P.funcs[k]? = some fn) (hn : (fn.name == "runtime.NumGoroutine") = false) (hb : fn.body.isNone = true) (h1 : Extern.findNext fn = none) (h2 : Extern.find fn = some e) (args : Array Value) (w : World) :
    (callFunc k args).run P w = ((e args).run P w).andThen fun v w' => .ok (.value v) w' := by
  have hn' : fn.name ≠ "runtime.NumGoroutine" := by simpa using hn
  have hb' : fn.body = none := by simpa using hb
  simp [callFunc, hf, hn', hb', h1, h2]
end
end Go.Ex
/- Package variables that a row lays: what their blocks hold. -/
namespace Go.Ex
open Go.RowKit
section
variable {P : Program} {w : World}
theorem laid_mem : ∀ {l : List (String × DataW Unit)} {ps : List MemPlace}, DataW.LaidVars P w l ps → ∀ n d, (n, d) ∈ l → ∃ g t cs fuel p, P.globalNamed n = some g ∧ (P.globals[g]?).map (·.type) = some t ∧ w.var? P n = some cs ∧ DataW.trod (fun _ => ()) P w 0 (fun _ => true) false fuel t cs.toList = some (d, p)
  | [], _, _, n, d, h => by simp at h
  | (n', d') :: r, ps, ⟨g, t, cs, fuel, p, q, h1, h2, h3, h4, h5, _⟩, n, d, h => by
    rw [List.mem_cons] at h
    rcases h with h | h
    · cases h; exact ⟨g, t, cs, fuel, p, h1, h2, h3, h4⟩
    · exact laid_mem h5 n d h
theorem var_block {n : String} {g : Nat} {cs : Array Value} (hg : P.globalNamed n = some g) (h : w.var? P n = some cs) : ∃ T fz, w.heap[g]? = some (.cells cs T fz) := by
  unfold World.var? at h
  rw [hg] at h
  simp only [Option.bind_some] at h
  split at h
  · rename_i cs' T fz hh
    cases h
    exact ⟨T, fz, hh⟩
  · cases h
theorem cells_of_strs {H : Type} {enc : TypeId × Value → H} {base : Nat} {sp : Nat → Bool} {held : Bool} {fuel : Nat} {t e : TypeId} {n : Nat} {cs : List Value} {zs : List (List UInt8)} {p : List MemPlace}
    (ht : P.underlying t = some (.array n e)) (he : P.underlying e = some .string) (hce : P.cellsOf e = 1) (hct : P.cellsOf t = n)
    (h : DataW.trod enc P w base sp held fuel t cs = some (.agg (zs.map fun z => .lit (.string z)), p)) : cs = zs.map fun z => Value.string ⟨⟨z⟩⟩ := by
  cases fuel with
  | zero => simp [DataW.trod] at h
  | succ fuel =>
    simp only [DataW.trod, ht, hce, hct, Nat.mul_one] at h
    split at h
    · rename_i hl
      obtain ⟨xs, hm, hx⟩ := Option.map_eq_some_iff.1 h
      have hxs : xs.map (·.1) = zs.map fun z => (DataW.lit (.string z) : DataW H) := by
        have := congrArg Prod.fst hx
        simpa using this
      have hxl : xs.length = n := by simpa using Lib.mapM_length hm
      have hzl : zs.length = n := by
        have := congrArg List.length hxs
        simp at this
        omega
      apply List.ext_getElem?
      intro i
      by_cases hi : i < n
      · obtain ⟨b, hb, hf⟩ := Lib.mapM_at hm i i (by simp [hi])
        have h2 : (xs.map (·.1))[i]? = some b.1 := by simp [hb]
        rw [hxs] at h2
        simp only [List.getElem?_map, Option.map_eq_some_iff] at h2
        obtain ⟨z', hz', hz⟩ := h2
        have hci : i < cs.length := by omega
        have hc1 : (cs.drop i).take 1 = [cs[i]] := by
          rw [List.drop_eq_getElem_cons hci]
          rfl
        rw [hc1] at hf
        have h1 : cs[i] = .string ⟨⟨z'⟩⟩ := by
          cases fuel with
          | zero => simp [DataW.trod] at hf
          | succ fuel =>
            generalize cs[i] = c at hf
            cases c <;> simp only [DataW.trod, he] at hf <;> first | (cases hf; done) | skip
            rename_i s
            split at hf
            · cases hf
              simp only [DataW.lit.injEq, Lit.string.injEq] at hz
              obtain ⟨⟨s⟩⟩ := s
              have : z' = s := hz
              rw [this]
            · cases hf
        simp [hz', List.getElem?_eq_getElem hci, h1]
      · rw [List.getElem?_eq_none (by omega), List.getElem?_eq_none (by simp; omega)]
    · cases h
/-- A block that is laid, as the evaluator wants it. -/
def Held (w : World) (g : Nat) (l : List Value) : Prop := ∃ T fz, w.heap[g]? = some (.cells l.toArray T fz)
theorem held_strs {laid : List (String × DataW Unit)} {name : String} {zs : List (List UInt8)} {g : Nat} {t e : TypeId} {n : Nat} (hm : laidMet P laid w) (hin : (name, (.agg (zs.map fun z => .lit (.string z)) : DataW Unit)) ∈ laid)
    (hg : P.globalNamed name = some g) (hty : (P.globals[g]?).map (·.type) = some t) (ht : P.underlying t = some (.array n e)) (he : P.underlying e = some .string) (hce : P.cellsOf e = 1) (hct : P.cellsOf t = n) : Held w g (zs.map fun z => Value.string ⟨⟨z⟩⟩) := by
  obtain ⟨ps, hl, _⟩ := hm
  obtain ⟨g', t', cs, fuel, p, h1, h2, h3, h4⟩ := laid_mem hl _ _ hin
  obtain rfl := Option.some.inj (hg.symm.trans h1)
  obtain rfl := Option.some.inj (hty.symm.trans h2)
  obtain ⟨T, fz, hb⟩ := var_block h1 h3
  have := cells_of_strs ht he hce hct h4
  refine ⟨T, fz, ?_⟩
  rw [← this]
  simpa using hb
theorem held_ints {laid : List (String × DataW Unit)} {name : String} {k : IntKind} {zs : List Int} {g : Nat} {t e : TypeId} {n : Nat} (hm : laidMet P laid w) (hin : (name, (Lib.tabData k zs : DataW Unit)) ∈ laid)
    (hg : P.globalNamed name = some g) (hty : (P.globals[g]?).map (·.type) = some t) (ht : P.underlying t = some (.array n e)) (he : P.underlying e = some (.int k)) (hce : P.cellsOf e = 1) (hct : P.cellsOf t = n) : Held w g (zs.map fun z => Value.int k z) := by
  obtain ⟨ps, hl, _⟩ := hm
  obtain ⟨g', t', cs, fuel, p, h1, h2, h3, h4⟩ := laid_mem hl _ _ hin
  obtain rfl := Option.some.inj (hg.symm.trans h1)
  obtain rfl := Option.some.inj (hty.symm.trans h2)
  obtain ⟨T, fz, hb⟩ := var_block h1 h3
  have := Lib.cells_of_tab ht he hce hct h4
  refine ⟨T, fz, ?_⟩
  rw [← this]
  simpa using hb
theorem gok_set {G : Tr (List Value)} {g : Nat} {l : List Value} (h : GOk G w fun _ => False) (hl : Held w g l) : GOk (G.set g (some l)) w fun _ => False := by
  intro g' l' hg
  rw [get_set] at hg
  split at hg
  · rename_i e
    subst e
    cases hg
    obtain ⟨T, fz, hh⟩ := hl
    exact ⟨(Array.getElem?_eq_some_iff.1 hh).1, fun h => h, T, fz, hh⟩
  · exact h g' l' hg
theorem gok_nil : GOk (.nil : Tr (List Value)) w fun _ => False := fun g l h => by cases h
end
end Go.Ex
/- A world that holds what is laid, errors that stand for themselves too. -/
namespace Go.Ex
noncomputable section
/-- One variable; ty: the types by name. -/
def layOne (P : Program) (ty : String → Option TypeId) (h : Array Obj) (x : String × DataW Unit) : Array Obj := match P.globalNamed x.1 with
  | some g => (match x.2 with
    | .iface n (.ptr d) => (match ty n with
      | some u => (match P.underlying u with
        | some (.pointer e) => (h.push (.cells (flatD d).toArray e (0, 0))).modify g fun
          | .cells _ t frozen => .cells #[.iface u (.pointer (some ⟨h.size, 0, none⟩))] t frozen
          | o => o
        | _ => h)
      | none => h)
    | d => h.modify g fun
      | .cells _ t frozen => .cells (flatD d).toArray t frozen
      | o => o)
  | none => h
def laidWorldE (P : Program) (ty : String → Option TypeId) (laid : List (String × DataW Unit)) (os : Os) : World :=
  { World.holding P os ⟨#[], #[], []⟩ with heap := laid.foldl (layOne P ty) (World.holding P os ⟨#[], #[], []⟩).heap }
end
end Go.Ex
/- The exact evaluator, part 23: a closed function that answers true, known wherever it is called. -/
namespace Go.Ex
noncomputable section
open Go.RowKit

theorem GOk.later {G : Tr (List Value)} {w0 w : World} {M0 fr : Nat → Prop} {m : Mu} {h : Nat → Option B} (hG : GOk G w0 M0) (r : WR w0 M0 fr m h w) : GOk G w fun _ => False := by
  intro g l hg
  obtain ⟨h1, h2, T, fz, h3⟩ := hG g l hg
  exact ⟨Nat.lt_of_lt_of_le h1 r.grown, fun e => e, T, fz, by rw [r.old g h1 h2]; exact h3⟩
/-- What is told of a closed function that answers true. -/
def pureEn (f : FuncId) (nx : Nat) : En := ⟨.fn f [] [], [], [], nx, .v (.bool true), [], nx, []⟩
theorem pure_good {c : Cx} {f : FuncId} (he : Go.Ab.entersB c.P f = true) (h : ∀ w, GOk c.gl w (fun _ => False) → Calls c.P f #[] w fun e w' => e = .returned (.bool true) ∧ Below w.heap.size w w') (nx : Nat) : (pureEn f nx).Good c := by
  refine ⟨⟨.v (.bool true), .nil, nx, []⟩, ?_, ?_⟩
  · intro hfree
    refine ⟨Nat.le_refl _, fun b _ => rfl, fun b _ _ => rfl, fun w0 M0 fr m w us vf hG hW hfr hf ha => ?_⟩
    have e1 : vf = .func (.func f) #[] #[] := by
      have h1 : conc m (.fn f [] []) = some vf := hf
      simp only [conc, concL] at h1
      exact (Option.some.inj h1).symm
    have e2 : us = [] := by
      have h1 : concL m [] = some us := ha
      simp only [concL] at h1
      exact (Option.some.inj h1).symm
    subst e1 e2
    refine ⟨.enter f #[], ?_, fun g us vs e => ⟨_, _, rfl⟩, ?_⟩
    · simp only [Deferred.ofValue, Sem.run_bind, Sem.run_pure, Result.andThen, invoke]
      rw [Go.Ab.run_callFunc he]
      rfl
    · refine callsIn_wide.2 ((h w (hG.later hW)).mono ?_)
      rintro e w' ⟨rfl, hb⟩
      refine ⟨_, m, rfl, fun _ _ h => h, rfl, ⟨fun b x h => (by cases h), fun b x k c h => (by cases h), fun b b' x x' k c c' h => (by cases h), fun b hb => hW.fresh b hb.1, fun k hk hn => ?_, Nat.le_trans hW.grown hb.size, hb.os.trans hW.os, hb.tape.trans hW.tape, hb.output.trans hW.output⟩⟩
      rw [hb.block k (Nat.lt_of_lt_of_le hk hW.grown)]
      exact hW.old k hk hn
  · show (smX _ _ && Nat.beq nx nx && true && true) = true
    rw [show Nat.beq nx nx = true from Nat.beq_refl nx]
    rfl
end
end Go.Ex
