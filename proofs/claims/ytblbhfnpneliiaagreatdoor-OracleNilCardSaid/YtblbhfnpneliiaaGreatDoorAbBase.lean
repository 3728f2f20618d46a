/- The abstract layer, part 1: abstract values, what it means that a Go value in a world represents one, and how that is kept when the world grows. Generic in the program. -/
import Derived.WalkKit
import Derived.Orders
import Derived.Maps.AppendAt
namespace Go.Ab
open Go.RowKit

/-- Abstract values. -/
inductive D where
  | any
  | val (v : Value)
  | cond (g : Bool) (d : D)
  | agg (cs : List D)
  | tup (cs : List D)
  | slice (es : List (List D)) (tight : Bool)
  | ptr (cs : List D) (off : Nat)
  | ref (b i off sz : Nat)
  | sref (b i len cap sz : Nat)
  | gref (b len : Nat)
  | mref (b : Nat)
  | func (fn : Fn) (fs cs : List D)
  | iface (t : TypeId) (d : D)

/-- The least and the greatest number of a kind. -/
def imin : IntKind → Int
  | .i8 => -128
  | .i16 => -32768
  | .i32 => -2147483648
  | .i64 => -9223372036854775808
  | _ => 0
def imax : IntKind → Int
  | .i8 => 127
  | .i16 => 32767
  | .i32 => 2147483647
  | .i64 => 9223372036854775807
  | .u8 => 255
  | .u16 => 65535
  | .u32 => 4294967295
  | .u64 => 18446744073709551615
/-- A plain value that a machine may hold. -/
def okP : Value → Prop
  | .int k n => imin k ≤ n ∧ n ≤ imax k
  | .string s => s.size ≤ 9223372036854775807
  | _ => True
def okB : Value → Bool
  | .int k n => decide (imin k ≤ n) && decide (n ≤ imax k)
  | .string s => decide (s.size ≤ 9223372036854775807)
  | _ => true
theorem okB_spec {v : Value} (h : okB v = true) : okP v := by
  cases v <;> first
    | exact trivial
    | simpa [okB, okP] using h
theorem wrap_ok (k : IntKind) (n : Int) : imin k ≤ k.wrap n ∧ k.wrap n ≤ imax k := by
  cases k <;> simp [IntKind.wrap, IntKind.bits, IntKind.signed, imin, imax] <;> omega
/-- Entry i of a list of abstract values. -/
def nd (cs : List D) (i : Nat) : D := cs.getD i .any
/-- Entry i of a list of rows. -/
def nr (es : List (List D)) (i : Nat) : List D := es.getD i []
/-- Entry i of a list of Go values. -/
def nv (us : List Value) (i : Nat) : Value := us.getD i undef

/-- The Go value v represents d: I are blocks that stay as they are; mu tells where the abstract blocks lie. -/
inductive Rep (w : World) (I : Nat → Prop) (mu : Nat → Option Value) : D → Value → Prop where
  | any (v : Value) : Rep w I mu .any v
  | val (v : Value) (ok : okP v) : Rep w I mu (.val v) v
  | cond (g : Bool) (d : D) (v : Value) (h : g = true → Rep w I mu d v) (h' : g = false → v = undef) : Rep w I mu (.cond g d) v
  | agg (cs : List D) (us : List Value) (hl : us.length = cs.length) (h : ∀ i, i < cs.length → Rep w I mu (nd cs i) (nv us i)) : Rep w I mu (.agg cs) (.agg us.toArray)
  | tup (cs : List D) (us : List Value) (hl : us.length = cs.length) (h : ∀ i, i < cs.length → Rep w I mu (nd cs i) (nv us i)) : Rep w I mu (.tup cs) (.tuple us.toArray)
  | slice (es : List (List D)) (tight : Bool) (A : Option Addr) (k o sz cap : Nat) (u : Nat → Nat → Value)
      (hA : 0 < es.length → A = some ⟨k, o, none⟩ ∧ I k) (hc : es.length ≤ cap) (ht : tight = true → cap = es.length) (hm : cap ≤ maxLen)
      (hlen : ∀ i, i < es.length → (nr es i).length = sz)
      (hcell : ∀ i j, i < es.length → j < sz → w.cell? ⟨k, o + (i * sz + j), none⟩ = some (u i j))
      (h : ∀ i j, i < es.length → j < sz → Rep w I mu (nd (nr es i) j) (u i j)) : Rep w I mu (.slice es tight) (.slice A es.length cap)
  | ptr (cs : List D) (off k o : Nat) (u : Nat → Value) (hI : I k)
      (hcell : ∀ j, j < cs.length → w.cell? ⟨k, o + j, none⟩ = some (u j))
      (h : ∀ j, j < cs.length → Rep w I mu (nd cs j) (u j)) : Rep w I mu (.ptr cs off) (.pointer (some ⟨k, o + off, none⟩))
  | ref (b i off sz k : Nat) (h : mu b = some (.pointer (some ⟨k, 0, none⟩))) : Rep w I mu (.ref b i off sz) (.pointer (some ⟨k, i * sz + off, none⟩))
  | sref (b i len cap sz k : Nat) (h : mu b = some (.pointer (some ⟨k, 0, none⟩))) : Rep w I mu (.sref b i len cap sz) (.slice (some ⟨k, i * sz, none⟩) len cap)
  | gref (b len : Nat) (A : Option Addr) (cap : Nat) (h : mu b = some (.slice A len cap)) : Rep w I mu (.gref b len) (.slice A len cap)
  | mref (b k : Nat) (h : mu b = some (.map (some k))) : Rep w I mu (.mref b) (.map (some k))
  | func (fn : Fn) (fs cs : List D) (us vs : List Value) (hl : us.length = fs.length) (hk : vs.length = cs.length)
      (h : ∀ i, i < fs.length → Rep w I mu (nd fs i) (nv us i)) (h' : ∀ i, i < cs.length → Rep w I mu (nd cs i) (nv vs i)) : Rep w I mu (.func fn fs cs) (.func fn us.toArray vs.toArray)
  | iface (t : TypeId) (d : D) (v : Value) (h : Rep w I mu d v) : Rep w I mu (.iface t d) (.iface t v)

theorem cell_of_heap {w w' : World} {k o : Nat} (h : w'.heap[k]? = w.heap[k]?) : w'.cell? ⟨k, o, none⟩ = w.cell? ⟨k, o, none⟩ := by
  simp [World.cell?, h]

/-- A representation is kept when blocks in I stay, I grows, and mu grows. -/
theorem Rep.mono {w w' : World} {I I' : Nat → Prop} {mu mu' : Nat → Option Value} {d : D} {v : Value} (h : Rep w I mu d v)
    (hw : ∀ k, I k → w'.heap[k]? = w.heap[k]?) (hI : ∀ k, I k → I' k) (hmu : ∀ b x, mu b = some x → mu' b = some x) : Rep w' I' mu' d v := by
  induction h with
  | any v => exact .any v
  | val v ok => exact .val v ok
  | cond g d v _ h' ih => exact .cond g d v ih h'
  | agg cs us hl _ ih => exact .agg cs us hl ih
  | tup cs us hl _ ih => exact .tup cs us hl ih
  | slice es tight A k o sz cap u hA hc ht hm hlen hcell _ ih =>
    refine .slice es tight A k o sz cap u (fun h => ⟨(hA h).1, hI _ (hA h).2⟩) hc ht hm hlen (fun i j hi hj => ?_) ih
    rw [cell_of_heap (hw k (hA (by omega)).2)]
    exact hcell i j hi hj
  | ptr cs off k o u hk hcell _ ih =>
    refine .ptr cs off k o u (hI _ hk) (fun j hj => ?_) ih
    rw [cell_of_heap (hw k hk)]
    exact hcell j hj
  | ref b i off sz k h => exact .ref b i off sz k (hmu _ _ h)
  | sref b i len cap sz k h => exact .sref b i len cap sz k (hmu _ _ h)
  | gref b len A cap h => exact .gref b len A cap (hmu _ _ h)
  | mref b k h => exact .mref b k (hmu _ _ h)
  | func fn fs cs us vs hl hk _ _ ih ih' => exact .func fn fs cs us vs hl hk ih ih'
  | iface t d v _ ih => exact .iface t d v ih

section inv
variable {w : World} {I : Nat → Prop} {mu : Nat → Option Value}
theorem Rep.val_inv {x v : Value} (h : Rep w I mu (.val x) v) : v = x := by cases h; rfl
theorem Rep.val_ok {x v : Value} (h : Rep w I mu (.val x) v) : okP x := by cases h; assumption
theorem Rep.agg_inv {cs : List D} {v : Value} (h : Rep w I mu (.agg cs) v) : ∃ us : List Value, v = .agg us.toArray ∧ us.length = cs.length ∧ ∀ i, i < cs.length → Rep w I mu (nd cs i) (nv us i) := by
  cases h with | agg cs us hl h => exact ⟨us, rfl, hl, h⟩
theorem Rep.tup_inv {cs : List D} {v : Value} (h : Rep w I mu (.tup cs) v) : ∃ us : List Value, v = .tuple us.toArray ∧ us.length = cs.length ∧ ∀ i, i < cs.length → Rep w I mu (nd cs i) (nv us i) := by
  cases h with | tup cs us hl h => exact ⟨us, rfl, hl, h⟩
end inv

/-- A slice whose capacity is not told any more. -/
theorem Rep.loose {w : World} {I : Nat → Prop} {mu : Nat → Option Value} {es : List (List D)} {t : Bool} {v : Value} (h : Rep w I mu (.slice es t) v) : Rep w I mu (.slice es false) v := by
  cases h with
  | slice es tight A k o sz cap u hA hc ht hm hlen hcell h => exact .slice es false A k o sz cap u hA hc (fun h => by cases h) hm hlen hcell h

/-- The blocks of the abstract heap. -/
inductive Blk where
  | rows (es : List (List D)) (sz : Nat)
  | grow (es : List (List D)) (sz : Nat)
  | map (es : List (Value × D))

/-- Where an abstract block lies. -/
def locBlk : Value → Option Nat
  | .pointer (some a) => some a.block
  | .slice (some a) _ cap => if cap = 0 then none else some a.block
  | .map (some k) => some k
  | _ => none

/-- What the world holds of an abstract block. -/
def BRep (w : World) (I : Nat → Prop) (mu : Nat → Option Value) (b : Nat) : Blk → Prop
  | .rows es sz => ∃ (k : Nat) (T : TypeId) (us : List Value), mu b = some (.pointer (some ⟨k, 0, none⟩)) ∧ w.heap[k]? = some (.cells us.toArray T (0, 0)) ∧ us.length = es.length * sz ∧
      (∀ i, i < es.length → (nr es i).length = sz) ∧ ∀ i j, i < es.length → j < sz → Rep w I mu (nd (nr es i) j) (nv us (i * sz + j))
  | .grow es sz => ∃ (A : Option Addr) (cap : Nat) (T : TypeId) (us : List Value), mu b = some (.slice A es.length cap) ∧ (∀ i, i < es.length → (nr es i).length = sz) ∧ cap ≤ maxLen ∧
      ((cap = 0 ∧ es = []) ∨ ∃ k, 0 < cap ∧ A = some ⟨k, 0, none⟩ ∧ w.heap[k]? = some (.cells us.toArray T (0, 0)) ∧ es.length ≤ cap ∧ us.length = cap * sz ∧
        ∀ i j, i < es.length → j < sz → Rep w I mu (nd (nr es i) j) (nv us (i * sz + j)))
  | .map es => ∃ (k : Nat) (l : List MapEntry) (clock : Nat), mu b = some (.map (some k)) ∧ w.heap[k]? = some (.map l.toArray clock) ∧ l.map (·.key) = es.map (·.1) ∧
      ∀ (i : Nat) (x : MapEntry) (y : Value × D), l[i]? = some x → es[i]? = some y → Rep w I mu y.2 x.val

theorem BRep.mono {w w' : World} {I I' : Nat → Prop} {mu mu' : Nat → Option Value} {b : Nat} {blk : Blk} (h : BRep w I mu b blk)
    (hw : ∀ k, I k → w'.heap[k]? = w.heap[k]?) (hI : ∀ k, I k → I' k) (hmu : ∀ b x, mu b = some x → mu' b = some x)
    (hb : ∀ x k, mu b = some x → locBlk x = some k → w'.heap[k]? = w.heap[k]?) : BRep w' I' mu' b blk := by
  cases blk with
  | rows es sz =>
    obtain ⟨k, T, us, h1, h2, h3, h4, h5⟩ := h
    exact ⟨k, T, us, hmu _ _ h1, by rw [hb _ k h1 rfl]; exact h2, h3, h4, fun i j hi hj => (h5 i j hi hj).mono hw hI hmu⟩
  | grow es sz =>
    obtain ⟨A, cap, T, us, h1, h2, h3, h4⟩ := h
    refine ⟨A, cap, T, us, hmu _ _ h1, h2, h3, ?_⟩
    rcases h4 with h4 | ⟨k, h0, hA, h5, h6, h7, h8⟩
    · exact .inl h4
    · exact .inr ⟨k, h0, hA, by rw [hb _ k h1 (by rw [hA]; simp [locBlk]; omega)]; exact h5, h6, h7, fun i j hi hj => (h8 i j hi hj).mono hw hI hmu⟩
  | map es =>
    obtain ⟨k, l, clock, h1, h2, h3, h4⟩ := h
    exact ⟨k, l, clock, hmu _ _ h1, by rw [hb _ k h1 rfl]; exact h2, h3, fun i x y hx hy => (h4 i x y hx hy).mono hw hI hmu⟩

/-- Slots by number. -/
abbrev Env := List (Nat × D)
def Env.get : Env → Nat → D
  | [], _ => .any
  | (k, d) :: r, t => bif k == t then d else Env.get r t
/-- The abstract heap. -/
abbrev Hp := List (Nat × Blk)
def look : Hp → Nat → Option Blk
  | [], _ => none
  | (k, x) :: r, b => bif k == b then some x else look r b
def del : Hp → Nat → Hp
  | [], _ => []
  | (k, x) :: r, b => bif k == b then del r b else (k, x) :: del r b
def upd (h : Hp) (b : Nat) : Option Blk → Hp
  | none => del h b
  | some x => (b, x) :: del h b
/-- A state: slots, heap, and the number from which on no block has been named. -/
structure St where
  env : Env
  hp : Hp
  nx : Nat

theorem look_del (h : Hp) (b c : Nat) : look (del h b) c = if b = c then none else look h c := by
  induction h with
  | nil => simp [del, look]
  | cons x r ih =>
    obtain ⟨k, x⟩ := x
    simp only [del]
    by_cases hkb : k = b
    · subst hkb; simp only [beq_self_eq_true, cond_true, ih, look]
      by_cases hkc : k = c
      · simp [hkc]
      · have : (k == c) = false := by simp [hkc]
        simp [this, hkc]
    · have : (k == b) = false := by simp [hkb]
      simp only [this, cond_false, look, ih]
      by_cases hkc : k = c
      · subst hkc; simp [Ne.symm hkb]
      · have : (k == c) = false := by simp [hkc]
        simp [this]
theorem look_upd (h : Hp) (b c : Nat) (x : Option Blk) : look (upd h b x) c = if b = c then x else look h c := by
  cases x with
  | none => simp only [upd]; rw [look_del]
  | some x =>
    simp only [upd, look, look_del]
    by_cases hbc : b = c
    · simp [hbc]
    · have : (b == c) = false := by simp [hbc]
      simp [this, hbc]


mutual
/-- No abstract block is named. -/
def D.pure : D → Bool
  | .any => true
  | .val _ => true
  | .cond _ d => d.pure
  | .agg cs => pureL cs
  | .tup cs => pureL cs
  | .slice es _ => pureLL es
  | .ptr cs _ => pureL cs
  | .func _ fs cs => pureL fs && pureL cs
  | .iface _ d => d.pure
  | .ref _ _ _ _ => false
  | .sref _ _ _ _ _ => false
  | .gref _ _ => false
  | .mref _ => false
def pureL : List D → Bool
  | [] => true
  | d :: r => d.pure && pureL r
def pureLL : List (List D) → Bool
  | [] => true
  | l :: r => pureL l && pureLL r
end
theorem pureL_nd : ∀ {cs : List D}, pureL cs = true → ∀ i, (nd cs i).pure = true
  | [], _, i => by simp [nd, D.pure]
  | d :: r, h, 0 => by simp only [pureL, Bool.and_eq_true] at h; simpa [nd] using h.1
  | d :: r, h, i + 1 => by simp only [pureL, Bool.and_eq_true] at h; have := pureL_nd h.2 i; simpa [nd] using this
theorem pureLL_nr : ∀ {es : List (List D)}, pureLL es = true → ∀ i, pureL (nr es i) = true
  | [], _, i => by simp [nr, pureL]
  | d :: r, h, 0 => by simp only [pureLL, Bool.and_eq_true] at h; simpa [nr] using h.1
  | d :: r, h, i + 1 => by simp only [pureLL, Bool.and_eq_true] at h; have := pureLL_nr h.2 i; simpa [nr] using this
/-- What names no abstract block represents the same wherever these lie. -/
theorem Rep.unmu {w : World} {I : Nat → Prop} {mu mu' : Nat → Option Value} {d : D} {v : Value} (h : Rep w I mu d v) (hp : d.pure = true) : Rep w I mu' d v := by
  induction h with
  | any v => exact .any v
  | val v ok => exact .val v ok
  | cond g d v _ h' ih => exact .cond g d v (fun hg => ih hg (by simpa [D.pure] using hp)) h'
  | agg cs us hl _ ih => exact .agg cs us hl fun i hi => ih i hi (pureL_nd (by simpa [D.pure] using hp) i)
  | tup cs us hl _ ih => exact .tup cs us hl fun i hi => ih i hi (pureL_nd (by simpa [D.pure] using hp) i)
  | slice es tight A k o sz cap u hA hc ht hm hlen hcell _ ih =>
    exact .slice es tight A k o sz cap u hA hc ht hm hlen hcell fun i j hi hj => ih i j hi hj (pureL_nd (pureLL_nr (by simpa [D.pure] using hp) i) j)
  | ptr cs off k o u hk hcell _ ih => exact .ptr cs off k o u hk hcell fun j hj => ih j hj (pureL_nd (by simpa [D.pure] using hp) j)
  | ref b i off sz k h => simp [D.pure] at hp
  | sref b i len cap sz k h => simp [D.pure] at hp
  | gref b len A cap h => simp [D.pure] at hp
  | mref b k h => simp [D.pure] at hp
  | func fn fs cs us vs hl hk _ _ ih ih' =>
    simp only [D.pure, Bool.and_eq_true] at hp
    exact .func fn fs cs us vs hl hk (fun i hi => ih i hi (pureL_nd hp.1 i)) fun i hi => ih' i hi (pureL_nd hp.2 i)
  | iface t d v _ ih => exact .iface t d v (ih (by simpa [D.pure] using hp))

/-- The state as functions. -/
structure FSt where
  env : Nat → D
  hp : Nat → Option Blk
def St.fs (s : St) : FSt := ⟨s.env.get, look s.hp⟩

/-- The world's part. w0: the world when the call began; M0: the blocks that the call was given to write; I0: those that were known to stay; fr: the names that are free. -/
structure WRel (w0 : World) (M0 I0 : Nat → Prop) (fr : Nat → Prop) (I : Nat → Prop) (mu : Nat → Option Value) (hp : Nat → Option Blk) (w : World) : Prop where
  blk : ∀ b x, hp b = some x → BRep w I mu b x
  loc : ∀ b x v k, hp b = some x → mu b = some v → locBlk v = some k → (M0 k ∨ w0.heap.size ≤ k) ∧ ¬ I k ∧ k < w.heap.size
  inj : ∀ b c x y v u k, hp b = some x → hp c = some y → mu b = some v → mu c = some u → locBlk v = some k → locBlk u = some k → b = c
  fresh : ∀ b, fr b → mu b = none
  lt : ∀ k, I k → k < w.heap.size
  os : w.os = w0.os
  tape : w.tape = w0.tape
  output : w.output = w0.output
  grown : w0.heap.size ≤ w.heap.size
  old : ∀ k, k < w0.heap.size → ¬ M0 k → w.heap[k]? = w0.heap[k]?
  iold : ∀ k, I0 k → I k
  inew : ∀ k, I k → I0 k ∨ M0 k ∨ w0.heap.size ≤ k

/-- One step of the world, as far as what is represented is concerned. -/
structure Ext (I : Nat → Prop) (mu : Nat → Option Value) (w : World) (I' : Nat → Prop) (mu' : Nat → Option Value) (w' : World) : Prop where
  i : ∀ k, I k → I' k
  m : ∀ b x, mu b = some x → mu' b = some x
  w : ∀ k, I k → w'.heap[k]? = w.heap[k]?

theorem Ext.refl (I : Nat → Prop) (mu : Nat → Option Value) (w : World) : Ext I mu w I mu w := ⟨fun _ h => h, fun _ _ h => h, fun _ _ => rfl⟩
theorem Rep.ext {I I' : Nat → Prop} {mu mu' : Nat → Option Value} {w w' : World} {d : D} {v : Value} (h : Rep w I mu d v) (e : Ext I mu w I' mu' w') : Rep w' I' mu' d v := h.mono e.w e.i e.m

/-- What the concrete activation and world have to do with a state. -/
structure Rel (w0 : World) (M0 I0 : Nat → Prop) (nt : Nat) (fr : Nat → Prop) (I : Nat → Prop) (mu : Nat → Option Value) (s : FSt) (a : Act) (w : World) : Prop where
  size : a.tmps.size = nt
  defers : a.defers = []
  env : ∀ t, Rep w I mu (s.env t) (a.tmps.getD t undef)
  w : WRel w0 M0 I0 fr I mu s.hp w

end Go.Ab
