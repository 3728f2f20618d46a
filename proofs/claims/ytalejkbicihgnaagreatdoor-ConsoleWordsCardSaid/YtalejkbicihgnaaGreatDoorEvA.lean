/- Values that stand for others: basis, code, regions, operations. -/
import Derived.WalkKit
import Derived.Orders
import Derived.Maps.AppendAt
set_option maxHeartbeats 4000000
set_option maxRecDepth 20000
set_option linter.unusedVariables false
set_option linter.unusedSimpArgs false
/- The abstract layer, part 1: abstract values, what it means that a Go value in a world represents one, and how that is kept when the world grows. Generic in the program. -/
namespace Go.Ab
open Go.RowKit

/-- Abstract values. -/
inductive D where
  | any
  | val (v : Value)
  | cond (g : Bool) (d : D)
  | agg (cs : List D)
  | tup (cs : List D)
  | slice (es : List (List D)) (tight : Bool)
  | ptr (cs : List D) (off : Nat)
  | ref (b i off sz : Nat)
  | sref (b i len cap sz : Nat)
  | gref (b len : Nat)
  | mref (b : Nat)
  | func (fn : Fn) (fs cs : List D)
  | iface (t : TypeId) (d : D)
  | abool (n : Nat) (pos : Bool)

/-- The least and the greatest number of a kind. -/
def imin : IntKind → Int
  | .i8 => -128
  | .i16 => -32768
  | .i32 => -2147483648
  | .i64 => -9223372036854775808
  | _ => 0
def imax : IntKind → Int
  | .i8 => 127
  | .i16 => 32767
  | .i32 => 2147483647
  | .i64 => 9223372036854775807
  | .u8 => 255
  | .u16 => 65535
  | .u32 => 4294967295
  | .u64 => 18446744073709551615
/-- A plain value that a machine may hold. -/
def okP : Value → Prop
  | .int k n => imin k ≤ n ∧ n ≤ imax k
  | .string s => s.size ≤ 9223372036854775807
  | _ => True
def okB : Value → Bool
  | .int k n => decide (imin k ≤ n) && decide (n ≤ imax k)
  | .string s => decide (s.size ≤ 9223372036854775807)
  | _ => true
theorem okB_spec {v : Value} (h : okB v = true) : okP v := by
  cases v <;> first
    | exact trivial
    | simpa [okB, okP] using h
theorem wrap_ok (k : IntKind) (n : Int) : imin k ≤ k.wrap n ∧ k.wrap n ≤ imax k := by
  cases k <;> simp [IntKind.wrap, IntKind.bits, IntKind.signed, imin, imax] <;> omega
/-- Entry i of a list of abstract values. -/
def nd (cs : List D) (i : Nat) : D := cs.getD i .any
/-- Entry i of a list of rows. -/
def nr (es : List (List D)) (i : Nat) : List D := es.getD i []
/-- Entry i of a list of Go values. -/
def nv (us : List Value) (i : Nat) : Value := us.getD i undef

/-- The Go value v represents d: I are blocks that stay as they are; mu tells where the abstract blocks lie. -/
inductive Rep (w : World) (I : Nat → Prop) (mu : Nat → Option Value) : D → Value → Prop where
  | any (v : Value) : Rep w I mu .any v
  | val (v : Value) (ok : okP v) : Rep w I mu (.val v) v
  | cond (g : Bool) (d : D) (v : Value) (h : g = true → Rep w I mu d v) (h' : g = false → v = undef) : Rep w I mu (.cond g d) v
  | agg (cs : List D) (us : List Value) (hl : us.length = cs.length) (h : ∀ i, i < cs.length → Rep w I mu (nd cs i) (nv us i)) : Rep w I mu (.agg cs) (.agg us.toArray)
  | tup (cs : List D) (us : List Value) (hl : us.length = cs.length) (h : ∀ i, i < cs.length → Rep w I mu (nd cs i) (nv us i)) : Rep w I mu (.tup cs) (.tuple us.toArray)
  | slice (es : List (List D)) (tight : Bool) (A : Option Addr) (k o sz cap : Nat) (u : Nat → Nat → Value)
      (hA : 0 < es.length → A = some ⟨k, o, none⟩ ∧ I k) (hc : es.length ≤ cap) (ht : tight = true → cap = es.length) (hm : cap ≤ maxLen)
      (hlen : ∀ i, i < es.length → (nr es i).length = sz)
      (hcell : ∀ i j, i < es.length → j < sz → w.cell? ⟨k, o + (i * sz + j), none⟩ = some (u i j))
      (h : ∀ i j, i < es.length → j < sz → Rep w I mu (nd (nr es i) j) (u i j)) : Rep w I mu (.slice es tight) (.slice A es.length cap)
  | ptr (cs : List D) (off k o : Nat) (u : Nat → Value) (hI : I k)
      (hcell : ∀ j, j < cs.length → w.cell? ⟨k, o + j, none⟩ = some (u j))
      (h : ∀ j, j < cs.length → Rep w I mu (nd cs j) (u j)) : Rep w I mu (.ptr cs off) (.pointer (some ⟨k, o + off, none⟩))
  | ref (b i off sz k : Nat) (h : mu b = some (.pointer (some ⟨k, 0, none⟩))) : Rep w I mu (.ref b i off sz) (.pointer (some ⟨k, i * sz + off, none⟩))
  | sref (b i len cap sz k : Nat) (h : mu b = some (.pointer (some ⟨k, 0, none⟩))) : Rep w I mu (.sref b i len cap sz) (.slice (some ⟨k, i * sz, none⟩) len cap)
  | gref (b len : Nat) (A : Option Addr) (cap : Nat) (h : mu b = some (.slice A len cap)) : Rep w I mu (.gref b len) (.slice A len cap)
  | mref (b k : Nat) (h : mu b = some (.map (some k))) : Rep w I mu (.mref b) (.map (some k))
  | func (fn : Fn) (fs cs : List D) (us vs : List Value) (hl : us.length = fs.length) (hk : vs.length = cs.length)
      (h : ∀ i, i < fs.length → Rep w I mu (nd fs i) (nv us i)) (h' : ∀ i, i < cs.length → Rep w I mu (nd cs i) (nv vs i)) : Rep w I mu (.func fn fs cs) (.func fn us.toArray vs.toArray)
  | iface (t : TypeId) (d : D) (v : Value) (h : Rep w I mu d v) : Rep w I mu (.iface t d) (.iface t v)
  | abool (n : Nat) (pos b : Bool) (h : b = pos → n = 0) : Rep w I mu (.abool n pos) (.bool b)

theorem cell_of_heap {w w' : World} {k o : Nat} (h : w'.heap[k]? = w.heap[k]?) : w'.cell? ⟨k, o, none⟩ = w.cell? ⟨k, o, none⟩ := by
  simp [World.cell?, h]

/-- A representation is kept when blocks in I stay, I grows, and mu grows. -/
theorem Rep.mono {w w' : World} {I I' : Nat → Prop} {mu mu' : Nat → Option Value} {d : D} {v : Value} (h : Rep w I mu d v)
    (hw : ∀ k, I k → w'.heap[k]? = w.heap[k]?) (hI : ∀ k, I k → I' k) (hmu : ∀ b x, mu b = some x → mu' b = some x) : Rep w' I' mu' d v := by
  induction h with
  | any v => exact .any v
  | val v ok => exact .val v ok
  | cond g d v _ h' ih => exact .cond g d v ih h'
  | agg cs us hl _ ih => exact .agg cs us hl ih
  | tup cs us hl _ ih => exact .tup cs us hl ih
  | slice es tight A k o sz cap u hA hc ht hm hlen hcell _ ih =>
    refine .slice es tight A k o sz cap u (fun h => ⟨(hA h).1, hI _ (hA h).2⟩) hc ht hm hlen (fun i j hi hj => ?_) ih
    rw [cell_of_heap (hw k (hA (by omega)).2)]
    exact hcell i j hi hj
  | ptr cs off k o u hk hcell _ ih =>
    refine .ptr cs off k o u (hI _ hk) (fun j hj => ?_) ih
    rw [cell_of_heap (hw k hk)]
    exact hcell j hj
  | ref b i off sz k h => exact .ref b i off sz k (hmu _ _ h)
  | sref b i len cap sz k h => exact .sref b i len cap sz k (hmu _ _ h)
  | gref b len A cap h => exact .gref b len A cap (hmu _ _ h)
  | mref b k h => exact .mref b k (hmu _ _ h)
  | func fn fs cs us vs hl hk _ _ ih ih' => exact .func fn fs cs us vs hl hk ih ih'
  | iface t d v _ ih => exact .iface t d v ih
  | abool n pos b h => exact .abool n pos b h

section inv
variable {w : World} {I : Nat → Prop} {mu : Nat → Option Value}
theorem Rep.val_inv {x v : Value} (h : Rep w I mu (.val x) v) : v = x := by cases h; rfl
theorem Rep.val_ok {x v : Value} (h : Rep w I mu (.val x) v) : okP x := by cases h; assumption
theorem Rep.agg_inv {cs : List D} {v : Value} (h : Rep w I mu (.agg cs) v) : ∃ us : List Value, v = .agg us.toArray ∧ us.length = cs.length ∧ ∀ i, i < cs.length → Rep w I mu (nd cs i) (nv us i) := by
  cases h with | agg cs us hl h => exact ⟨us, rfl, hl, h⟩
theorem Rep.tup_inv {cs : List D} {v : Value} (h : Rep w I mu (.tup cs) v) : ∃ us : List Value, v = .tuple us.toArray ∧ us.length = cs.length ∧ ∀ i, i < cs.length → Rep w I mu (nd cs i) (nv us i) := by
  cases h with | tup cs us hl h => exact ⟨us, rfl, hl, h⟩
end inv

/-- A slice whose capacity is not told any more. -/
theorem Rep.loose {w : World} {I : Nat → Prop} {mu : Nat → Option Value} {es : List (List D)} {t : Bool} {v : Value} (h : Rep w I mu (.slice es t) v) : Rep w I mu (.slice es false) v := by
  cases h with
  | slice es tight A k o sz cap u hA hc ht hm hlen hcell h => exact .slice es false A k o sz cap u hA hc (fun h => by cases h) hm hlen hcell h

/-- The blocks of the abstract heap. -/
inductive Blk where
  | rows (es : List (List D)) (sz : Nat)
  | grow (es : List (List D)) (sz : Nat)
  | map (es : List (Value × D))

/-- Where an abstract block lies. -/
def locBlk : Value → Option Nat
  | .pointer (some a) => some a.block
  | .slice (some a) _ cap => if cap = 0 then none else some a.block
  | .map (some k) => some k
  | _ => none

/-- What the world holds of an abstract block. -/
def BRep (w : World) (I : Nat → Prop) (mu : Nat → Option Value) (b : Nat) : Blk → Prop
  | .rows es sz => ∃ (k : Nat) (T : TypeId) (us : List Value), mu b = some (.pointer (some ⟨k, 0, none⟩)) ∧ w.heap[k]? = some (.cells us.toArray T (0, 0)) ∧ us.length = es.length * sz ∧
      (∀ i, i < es.length → (nr es i).length = sz) ∧ ∀ i j, i < es.length → j < sz → Rep w I mu (nd (nr es i) j) (nv us (i * sz + j))
  | .grow es sz => ∃ (A : Option Addr) (cap : Nat) (T : TypeId) (us : List Value), mu b = some (.slice A es.length cap) ∧ (∀ i, i < es.length → (nr es i).length = sz) ∧ cap ≤ maxLen ∧
      ((cap = 0 ∧ es = []) ∨ ∃ k, 0 < cap ∧ A = some ⟨k, 0, none⟩ ∧ w.heap[k]? = some (.cells us.toArray T (0, 0)) ∧ es.length ≤ cap ∧ us.length = cap * sz ∧
        ∀ i j, i < es.length → j < sz → Rep w I mu (nd (nr es i) j) (nv us (i * sz + j)))
  | .map es => ∃ (k : Nat) (l : List MapEntry) (clock : Nat), mu b = some (.map (some k)) ∧ w.heap[k]? = some (.map l.toArray clock) ∧ l.map (·.key) = es.map (·.1) ∧
      ∀ (i : Nat) (x : MapEntry) (y : Value × D), l[i]? = some x → es[i]? = some y → Rep w I mu y.2 x.val

theorem BRep.mono {w w' : World} {I I' : Nat → Prop} {mu mu' : Nat → Option Value} {b : Nat} {blk : Blk} (h : BRep w I mu b blk)
    (hw : ∀ k, I k → w'.heap[k]? = w.heap[k]?) (hI : ∀ k, I k → I' k) (hmu : ∀ b x, mu b = some x → mu' b = some x)
    (hb : ∀ x k, mu b = some x → locBlk x = some k → w'.heap[k]? = w.heap[k]?) : BRep w' I' mu' b blk := by
  cases blk with
  | rows es sz =>
    obtain ⟨k, T, us, h1, h2, h3, h4, h5⟩ := h
    exact ⟨k, T, us, hmu _ _ h1, by rw [hb _ k h1 rfl]; exact h2, h3, h4, fun i j hi hj => (h5 i j hi hj).mono hw hI hmu⟩
  | grow es sz =>
    obtain ⟨A, cap, T, us, h1, h2, h3, h4⟩ := h
    refine ⟨A, cap, T, us, hmu _ _ h1, h2, h3, ?_⟩
    rcases h4 with h4 | ⟨k, h0, hA, h5, h6, h7, h8⟩
    · exact .inl h4
    · exact .inr ⟨k, h0, hA, by rw [hb _ k h1 (by rw [hA]; simp [locBlk]; omega)]; exact h5, h6, h7, fun i j hi hj => (h8 i j hi hj).mono hw hI hmu⟩
  | map es =>
    obtain ⟨k, l, clock, h1, h2, h3, h4⟩ := h
    exact ⟨k, l, clock, hmu _ _ h1, by rw [hb _ k h1 rfl]; exact h2, h3, fun i x y hx hy => (h4 i x y hx hy).mono hw hI hmu⟩

/-- Slots by number. -/
abbrev Env := List (Nat × D)
def Env.get : Env → Nat → D
  | [], _ => .any
  | (k, d) :: r, t => bif k == t then d else Env.get r t
/-- The abstract heap. -/
abbrev Hp := List (Nat × Blk)
def look : Hp → Nat → Option Blk
  | [], _ => none
  | (k, x) :: r, b => bif k == b then some x else look r b
def del : Hp → Nat → Hp
  | [], _ => []
  | (k, x) :: r, b => bif k == b then del r b else (k, x) :: del r b
def upd (h : Hp) (b : Nat) : Option Blk → Hp
  | none => del h b
  | some x => (b, x) :: del h b
/-- A state: slots, heap, and the number from which on no block has been named. -/
structure St where
  env : Env
  hp : Hp
  nx : Nat

theorem look_del (h : Hp) (b c : Nat) : look (del h b) c = if b = c then none else look h c := by
  induction h with
  | nil => simp [del, look]
  | cons x r ih =>
    obtain ⟨k, x⟩ := x
    simp only [del]
    by_cases hkb : k = b
    · subst hkb; simp only [beq_self_eq_true, cond_true, ih, look]
      by_cases hkc : k = c
      · simp [hkc]
      · have : (k == c) = false := by simp [hkc]
        simp [this, hkc]
    · have : (k == b) = false := by simp [hkb]
      simp only [this, cond_false, look, ih]
      by_cases hkc : k = c
      · subst hkc; simp [Ne.symm hkb]
      · have : (k == c) = false := by simp [hkc]
        simp [this]
theorem look_upd (h : Hp) (b c : Nat) (x : Option Blk) : look (upd h b x) c = if b = c then x else look h c := by
  cases x with
  | none => simp only [upd]; rw [look_del]
  | some x =>
    simp only [upd, look, look_del]
    by_cases hbc : b = c
    · simp [hbc]
    · have : (b == c) = false := by simp [hbc]
      simp [this, hbc]


mutual
/-- No abstract block is named. -/
def D.pure : D → Bool
  | .any => true
  | .val _ => true
  | .cond _ d => d.pure
  | .agg cs => pureL cs
  | .tup cs => pureL cs
  | .slice es _ => pureLL es
  | .ptr cs _ => pureL cs
  | .func _ fs cs => pureL fs && pureL cs
  | .iface _ d => d.pure
  | .abool _ _ => true
  | .ref _ _ _ _ => false
  | .sref _ _ _ _ _ => false
  | .gref _ _ => false
  | .mref _ => false
def pureL : List D → Bool
  | [] => true
  | d :: r => d.pure && pureL r
def pureLL : List (List D) → Bool
  | [] => true
  | l :: r => pureL l && pureLL r
end
theorem pureL_nd : ∀ {cs : List D}, pureL cs = true → ∀ i, (nd cs i).pure = true
  | [], _, i => by simp [nd, D.pure]
  | d :: r, h, 0 => by simp only [pureL, Bool.and_eq_true] at h; simpa [nd] using h.1
  | d :: r, h, i + 1 => by simp only [pureL, Bool.and_eq_true] at h; have := pureL_nd h.2 i; simpa [nd] using this
theorem pureLL_nr : ∀ {es : List (List D)}, pureLL es = true → ∀ i, pureL (nr es i) = true
  | [], _, i => by simp [nr, pureL]
  | d :: r, h, 0 => by simp only [pureLL, Bool.and_eq_true] at h; simpa [nr] using h.1
  | d :: r, h, i + 1 => by simp only [pureLL, Bool.and_eq_true] at h; have := pureLL_nr h.2 i; simpa [nr] using this
/-- What names no abstract block represents the same wherever these lie. -/
theorem Rep.unmu {w : World} {I : Nat → Prop} {mu mu' : Nat → Option Value} {d : D} {v : Value} (h : Rep w I mu d v) (hp : d.pure = true) : Rep w I mu' d v := by
  induction h with
  | any v => exact .any v
  | val v ok => exact .val v ok
  | cond g d v _ h' ih => exact .cond g d v (fun hg => ih hg (by simpa [D.pure] using hp)) h'
  | agg cs us hl _ ih => exact .agg cs us hl fun i hi => ih i hi (pureL_nd (by simpa [D.pure] using hp) i)
  | tup cs us hl _ ih => exact .tup cs us hl fun i hi => ih i hi (pureL_nd (by simpa [D.pure] using hp) i)
  | slice es tight A k o sz cap u hA hc ht hm hlen hcell _ ih =>
    exact .slice es tight A k o sz cap u hA hc ht hm hlen hcell fun i j hi hj => ih i j hi hj (pureL_nd (pureLL_nr (by simpa [D.pure] using hp) i) j)
  | ptr cs off k o u hk hcell _ ih => exact .ptr cs off k o u hk hcell fun j hj => ih j hj (pureL_nd (by simpa [D.pure] using hp) j)
  | ref b i off sz k h => simp [D.pure] at hp
  | sref b i len cap sz k h => simp [D.pure] at hp
  | gref b len A cap h => simp [D.pure] at hp
  | mref b k h => simp [D.pure] at hp
  | func fn fs cs us vs hl hk _ _ ih ih' =>
    simp only [D.pure, Bool.and_eq_true] at hp
    exact .func fn fs cs us vs hl hk (fun i hi => ih i hi (pureL_nd hp.1 i)) fun i hi => ih' i hi (pureL_nd hp.2 i)
  | iface t d v _ ih => exact .iface t d v (ih (by simpa [D.pure] using hp))
  | abool n pos b h => exact .abool n pos b h

/-- The state as functions. -/
structure FSt where
  env : Nat → D
  hp : Nat → Option Blk
def St.fs (s : St) : FSt := ⟨s.env.get, look s.hp⟩

/-- The world's part. w0: the world when the call began; M0: the blocks that the call was given to write; I0: those that were known to stay; fr: the names that are free. -/
structure WRel (w0 : World) (M0 I0 : Nat → Prop) (fr : Nat → Prop) (I : Nat → Prop) (mu : Nat → Option Value) (hp : Nat → Option Blk) (w : World) : Prop where
  blk : ∀ b x, hp b = some x → BRep w I mu b x
  loc : ∀ b x v k, hp b = some x → mu b = some v → locBlk v = some k → (M0 k ∨ w0.heap.size ≤ k) ∧ ¬ I k ∧ k < w.heap.size
  inj : ∀ b c x y v u k, hp b = some x → hp c = some y → mu b = some v → mu c = some u → locBlk v = some k → locBlk u = some k → b = c
  fresh : ∀ b, fr b → mu b = none
  lt : ∀ k, I k → k < w.heap.size
  os : w.os = w0.os
  tape : w.tape = w0.tape
  output : w.output = w0.output
  grown : w0.heap.size ≤ w.heap.size
  old : ∀ k, k < w0.heap.size → ¬ M0 k → w.heap[k]? = w0.heap[k]?
  iold : ∀ k, I0 k → I k
  inew : ∀ k, I k → I0 k ∨ M0 k ∨ w0.heap.size ≤ k

/-- One step of the world, as far as what is represented is concerned. -/
structure Ext (I : Nat → Prop) (mu : Nat → Option Value) (w : World) (I' : Nat → Prop) (mu' : Nat → Option Value) (w' : World) : Prop where
  i : ∀ k, I k → I' k
  m : ∀ b x, mu b = some x → mu' b = some x
  w : ∀ k, I k → w'.heap[k]? = w.heap[k]?

theorem Ext.refl (I : Nat → Prop) (mu : Nat → Option Value) (w : World) : Ext I mu w I mu w := ⟨fun _ h => h, fun _ _ h => h, fun _ _ => rfl⟩
theorem Rep.ext {I I' : Nat → Prop} {mu mu' : Nat → Option Value} {w w' : World} {d : D} {v : Value} (h : Rep w I mu d v) (e : Ext I mu w I' mu' w') : Rep w' I' mu' d v := h.mono e.w e.i e.m

/-- What the concrete activation and world have to do with a state. -/
structure Rel (w0 : World) (M0 I0 : Nat → Prop) (nt : Nat) (fr : Nat → Prop) (I : Nat → Prop) (mu : Nat → Option Value) (s : FSt) (a : Act) (w : World) : Prop where
  size : a.tmps.size = nt
  defers : a.defers = []
  env : ∀ t, Rep w I mu (s.env t) (a.tmps.getD t undef)
  w : WRel w0 M0 I0 fr I mu s.hp w

end Go.Ab
/- The abstract layer, part 2: weakest preconditions over abstract states, the rules for code, regions in the order of the text and in any order. -/
namespace Go.Ab
open Go.RowKit

/-- A constant as an abstract value: the nil slice is the empty list. -/
def ofV : Value → D
  | .slice none 0 0 => .slice [] true
  | v => bif okB v then .val v else .any
/-- The library's and the program's tables. -/
def utf8First : List Value := (List.replicate 128 (240 : Int) ++ List.replicate 66 241 ++ List.replicate 30 2 ++ [19] ++ List.replicate 12 3 ++ [35, 3, 3, 52, 4, 4, 4, 68] ++ List.replicate 11 241).map fun n => .int .u8 n
def utf8Ranges : List Value := ([(128 : Int), 191, 160, 191, 128, 159, 144, 191, 128, 143] ++ List.replicate 22 0).map fun n => .int .u8 n
def pow10s : List Value := [1, 10, 100, 1000, 10000, 100000, 1000000, 10000000, 100000000, 1000000000, 10000000000, 100000000000, 1000000000000, 10000000000000, 100000000000000, 1000000000000000, 10000000000000000, 100000000000000000, 1000000000000000000, 10000000000000000000].map fun n => .int .u64 n
def bruijn32 : List Value := [0, 1, 28, 2, 29, 14, 24, 3, 30, 22, 20, 15, 25, 17, 4, 8, 31, 27, 13, 23, 21, 19, 16, 7, 26, 12, 18, 6, 11, 5, 10, 9].map fun n => .int .u8 n
def bruijn64 : List Value := [0, 1, 56, 2, 57, 49, 28, 3, 61, 58, 42, 50, 38, 29, 17, 4, 62, 47, 59, 36, 45, 43, 51, 22, 53, 39, 33, 30, 24, 18, 12, 5, 63, 55, 48, 27, 60, 41, 37, 16, 46, 35, 44, 21, 52, 32, 23, 11, 54, 26, 40, 15, 34, 20, 31, 10, 25, 14, 19, 9, 13, 8, 7, 6].map fun n => .int .u8 n
def mutNames : List Value := [[], [112, 117, 116], [100, 101, 108], [105, 110, 99], [99, 97, 115], [97, 112, 112, 101, 110, 100], [109, 111, 118, 101], [115, 101, 113]].map fun s => .string ⟨⟨s⟩⟩
/-- Tables that start-up code lays, by name. -/
def gTabs : List (String × List Value) := [
  ("unicode/utf8.first", utf8First), ("unicode/utf8.acceptRanges", utf8Ranges), ("internal/strconv.uint64pow10", pow10s),
  ("math/bits.deBruijn32tab", bruijn32), ("math/bits.deBruijn64tab", bruijn64), ("commonplace/mutator.names", mutNames)]
/-- What a package variable holds, if it is such a table. -/
def gtab (P : Program) (g : Nat) : Option (List Value) := (gTabs.find? fun p => P.globalNamed p.1 == some g).map (·.2)
/-- The tables lie in the world, and stay. -/
def GA (P : Program) (w0 : World) (M0 I0 : Nat → Prop) : Prop := ∀ g l, gtab P g = some l → I0 g ∧ g < w0.heap.size ∧ ¬ M0 g ∧ ∃ T fz, w0.heap[g]? = some (.cells l.toArray T fz)
def GIn (P : Program) (w : World) (I : Nat → Prop) : Prop := ∀ g l, gtab P g = some l → I g ∧ ∃ T fz, w.heap[g]? = some (.cells l.toArray T fz)
theorem GA.at {P : Program} {w0 w : World} {M0 I0 fr I : Nat → Prop} {mu : Nat → Option Value} {h : Nat → Option Blk} (g : GA P w0 M0 I0) (r : WRel w0 M0 I0 fr I mu h w) : GIn P w I := fun k l hl => by
  obtain ⟨h1, h2, h3, T, fz, h4⟩ := g k l hl
  exact ⟨r.iold k h1, T, fz, by rw [r.old k h2 h3]; exact h4⟩
theorem gTabs_ok : (gTabs.all fun p => p.2.all okB) = true := by decide +kernel
theorem gtab_ok {P : Program} {g : Nat} {l : List Value} (h : gtab P g = some l) : ∀ v ∈ l, okP v := by
  unfold gtab at h
  rw [Option.map_eq_some_iff] at h
  obtain ⟨p, hp, rfl⟩ := h
  have h1 := List.all_eq_true.1 gTabs_ok p (List.mem_of_find?_eq_some hp)
  exact fun v hv => okB_spec (List.all_eq_true.1 h1 v hv)
/-- An operand's abstract value. -/
def evO (P : Program) (env : Nat → D) : Operand → D
  | .tmp t => env t
  | .const v => ofV v
  | .global g => match gtab P g with
    | some l => .ptr (l.map .val) 0
    | none => .val (.pointer (some ⟨g, 0, none⟩))
  | .func f => .func (.func f) [] []

theorem rep_ofV (w : World) (I : Nat → Prop) (mu : Nat → Option Value) (v : Value) : Rep w I mu (ofV v) v := by
  unfold ofV
  split
  · exact .slice [] true none 0 0 0 0 (fun _ _ => .nilFunc) (fun h => absurd h (by simp)) (Nat.le_refl _) (fun _ => rfl) (Nat.zero_le _) (fun i h => absurd h (by simp)) (fun i j h => absurd h (by simp)) (fun i j h => absurd h (by simp))
  · cases h : okB v with
    | true => exact .val v (okB_spec h)
    | false => exact .any v

theorem rep_evO {P : Program} {w : World} {I : Nat → Prop} {mu : Nat → Option Value} {env : Nat → D} {a : Act} (hg : GIn P w I) (h : ∀ t, Rep w I mu (env t) (a.tmps.getD t undef)) (x : Operand) : Rep w I mu (evO P env x) (a.eval x) := by
  cases x with
  | tmp t => exact h t
  | const v => exact rep_ofV w I mu v
  | global g =>
    show Rep w I mu (match gtab P g with | some l => .ptr (l.map .val) 0 | none => .val (.pointer (some ⟨g, 0, none⟩))) (.pointer (some ⟨g, 0, none⟩))
    cases hl : gtab P g with
    | none => exact .val _ trivial
    | some l =>
      obtain ⟨h1, T, fz, h2⟩ := hg g l hl
      refine .ptr (l.map .val) 0 g 0 (fun j => nv l j) h1 (fun j hj => ?_) fun j hj => ?_
      · simp only [List.length_map] at hj
        simp only [World.cell?, h2, Option.isSome_none, nv]
        rw [if_neg (by simp)]
        simp [List.getD_eq_getElem?_getD, hj]
      · simp only [List.length_map] at hj
        have e1 : nd (l.map .val) j = .val l[j] := by simp [nd, List.getD_eq_getElem?_getD, hj]
        have e2 : nv l j = l[j] := by simp [nv, List.getD_eq_getElem?_getD, hj]
        rw [e1, e2]
        exact .val _ (gtab_ok hl _ (List.getElem_mem hj))
  | func f => exact .func (.func f) [] [] [] [] rfl rfl (fun i h => absurd h (by simp)) (fun i h => absurd h (by simp))

/-- How a piece of code ends. -/
inductive AE where
  | normal
  | exit (id : Nat)
  | goto (l : Nat)
  | ret
  | panic (d : D)

def ERep (w : World) (I : Nat → Prop) (mu : Nat → Option Value) : AE → Exit → Prop
  | .normal, .normal => True
  | .exit i, .exit j => i = j
  | .goto i, .goto j => i = j
  | .ret, .ret => True
  | .panic d, .panic ch => ∃ v, ch = [{ v, recovered := false }] ∧ Rep w I mu d v
  | _, _ => False

def APost (w0 : World) (M0 I0 : Nat → Prop) (nt : Nat) (Q : AE → St → Prop) (e : Exit) (a' : Act) (w' : World) : Prop :=
  ∃ x s' I' mu', Q x s' ∧ ERep w' I' mu' x e ∧ Rel w0 M0 I0 nt (s'.nx ≤ ·) I' mu' s'.fs a' w'

/-- From whatever activation and world that a state describes, the code ends as Q says. -/
def AWp (P : Program) (nt : Nat) (c : Code) (Q : AE → St → Prop) (s : St) : Prop :=
  ∀ w0 M0 I0, GA P w0 M0 I0 → ∀ I mu a w, Rel w0 M0 I0 nt (s.nx ≤ ·) I mu s.fs a w → c.wp P (APost w0 M0 I0 nt Q) a w

section rules
variable {P : Program} {nt : Nat} {Q : AE → St → Prop} {s : St}

theorem AWp.mono {c : Code} {Q' : AE → St → Prop} (h : AWp P nt c Q s) (hq : ∀ e s, Q e s → Q' e s) : AWp P nt c Q' s :=
  fun w0 M0 I0 g I mu a w r => wp_mono (h w0 M0 I0 g I mu a w r) fun _ _ _ ⟨x, s', I', mu', q, rest⟩ => ⟨x, s', I', mu', hq _ _ q, rest⟩

/-- One state tells less than another. -/
def Weak (s s' : St) : Prop := ∀ w0 M0 I0 nt I mu a w, Rel w0 M0 I0 nt (s.nx ≤ ·) I mu s.fs a w → ∃ I' mu', Rel w0 M0 I0 nt (s'.nx ≤ ·) I' mu' s'.fs a w
theorem Weak.refl (s : St) : Weak s s := fun _ _ _ _ I mu _ _ r => ⟨I, mu, r⟩
theorem Weak.trans {s s' s'' : St} (h : Weak s s') (k : Weak s' s'') : Weak s s'' := fun w0 M0 I0 nt I mu a w r =>
  let ⟨I', mu', r'⟩ := h w0 M0 I0 nt I mu a w r
  k w0 M0 I0 nt I' mu' a w r'
theorem AWp.weak {c : Code} {s' : St} (hs : Weak s s') (h : AWp P nt c Q s') : AWp P nt c Q s := fun w0 M0 I0 g I mu a w r =>
  let ⟨I', mu', r'⟩ := hs w0 M0 I0 nt I mu a w r
  h w0 M0 I0 g I' mu' a w r'

def seqQ (next : St → Prop) (Q : AE → St → Prop) : AE → St → Prop
  | .normal, s => next s
  | e, s => Q e s
theorem AWp.seq {x y : Code} (h : AWp P nt x (seqQ (fun s => AWp P nt y Q s) Q) s) : AWp P nt (.seq x y) Q s := fun w0 M0 I0 g I mu a w r =>
  wp_seq (wp_mono (h w0 M0 I0 g I mu a w r) fun e a' w' hx => by
    obtain ⟨x, s', I', mu', q, he, r'⟩ := hx
    cases x <;> cases e <;> simp only [ERep] at he
    case normal.normal => exact q w0 M0 I0 g I' mu' a' w' r'
    all_goals exact ⟨_, s', I', mu', q, he, r'⟩)
theorem AWp.seq_k {x y : Code} (h : ∀ K : St → Prop, (∀ s, AWp P nt y Q s → K s) → AWp P nt x (seqQ K Q) s) : AWp P nt (.seq x y) Q s := AWp.seq (h _ fun _ h => h)

def blockQ (id : Nat) (Q : AE → St → Prop) : AE → St → Prop
  | .exit j, s => if j = id then Q .normal s else Q (.exit j) s
  | e, s => Q e s
theorem AWp.block {id : Nat} {c : Code} (h : AWp P nt c (blockQ id Q) s) : AWp P nt (.block id c) Q s := fun w0 M0 I0 g I mu a w r =>
  wp_block (wp_mono (h w0 M0 I0 g I mu a w r) fun e a' w' hx => by
    obtain ⟨x, s', I', mu', q, he, r'⟩ := hx
    cases x <;> cases e <;> simp only [ERep] at he
    case exit.exit =>
      rename_i i j
      subst he
      simp only [blockQ] at q
      simp only [Exit.inBlock]
      by_cases hi : i = id
      · rw [if_pos hi] at q ⊢; exact ⟨.normal, s', I', mu', q, trivial, r'⟩
      · rw [if_neg hi] at q ⊢; exact ⟨.exit i, s', I', mu', q, rfl, r'⟩
    all_goals exact ⟨_, s', I', mu', q, he, r'⟩)

theorem AWp.ret (h : Q .ret s) : AWp P nt .ret Q s := fun _ _ _ _ I mu _ _ r => wp_ret ⟨.ret, s, I, mu, h, trivial, r⟩
theorem AWp.skip (h : Q .normal s) : AWp P nt .skip Q s := fun _ _ _ _ I mu _ _ r => wp_skip ⟨.normal, s, I, mu, h, trivial, r⟩
theorem AWp.exit {id : Nat} (h : Q (.exit id) s) : AWp P nt (.exit id) Q s := fun _ _ _ _ I mu _ _ r => wp_exit ⟨.exit id, s, I, mu, h, rfl, r⟩
theorem AWp.label {l : Nat} (h : Q .normal s) : AWp P nt (.label l) Q s := fun _ _ _ _ I mu _ _ r => wp_label ⟨.normal, s, I, mu, h, trivial, r⟩

/-- A scope that no goto leaves for a label within. -/
theorem AWp.scope {c : Code} (h : AWp P nt c (fun e s => match e with | .goto _ => False | e => Q e s) s) : AWp P nt (.scope c) Q s := fun w0 M0 I0 g I mu a w r =>
  wp_scope_straight (wp_mono (h w0 M0 I0 g I mu a w r) fun e a' w' hx => by
    obtain ⟨x, s', I', mu', q, he, r'⟩ := hx
    cases x <;> cases e <;> simp only [ERep] at he
    case goto.goto => exact q.elim
    all_goals exact ⟨_, s', I', mu', q, he, r'⟩)

theorem AWp.cond {c : Operand} {x y : Code} {b : Bool} (hc : evO P s.env.get c = .val (.bool b)) (ht : b = true → AWp P nt x Q s) (hf : b = false → AWp P nt y Q s) : AWp P nt (.cond c x y) Q s := fun w0 M0 I0 g I mu a w r => by
  have hv : a.eval c = .bool b := by
    have := rep_evO (env := s.env.get) (g.at r.w) r.env c
    rw [hc] at this
    exact this.val_inv
  cases b with
  | true => exact wp_cond_true hv (ht rfl w0 M0 I0 g I mu a w r)
  | false => exact wp_cond_false hv (hf rfl w0 M0 I0 g I mu a w r)

theorem AWp.condA {c : Operand} {x y : Code} {n : Nat} {pos : Bool} (hc : evO P s.env.get c = .abool n pos) (ht : (pos = true → n = 0) → AWp P nt x Q s) (hf : (pos = false → n = 0) → AWp P nt y Q s) : AWp P nt (.cond c x y) Q s := fun w0 M0 I0 g I mu a w r => by
  have hv : ∃ b, a.eval c = .bool b ∧ (b = pos → n = 0) := by
    have := rep_evO (env := s.env.get) (g.at r.w) r.env c
    rw [hc] at this
    generalize a.eval c = v at this
    cases this with
    | abool _ _ b h => exact ⟨b, rfl, h⟩
  obtain ⟨b, hv, hn⟩ := hv
  cases b with
  | true => exact wp_cond_true hv (ht (fun h => hn h.symm) w0 M0 I0 g I mu a w r)
  | false => exact wp_cond_false hv (hf (fun h => hn h.symm) w0 M0 I0 g I mu a w r)

/-- A loop whose heads are the states S i; m goes down. -/
theorem AWp.loop {c : Code} {ι : Type} (S : ι → St) (m : ι → Nat) (i0 : ι) (h0 : Weak s (S i0))
    (round : ∀ i, AWp P nt c (fun e s' => match e with | .normal => ∃ j, m j < m i ∧ Weak s' (S j) | e => Q e s') (S i)) : AWp P nt (.loop c) Q s := fun w0 M0 I0 g I mu a w r => by
  obtain ⟨I₀, mu', r'⟩ := h0 w0 M0 I0 nt I mu a w r
  intro b k cs
  have key : ∀ n i I mu a w, m i = n → Rel w0 M0 I0 nt ((S i).nx ≤ ·) I mu (S i).fs a w →
      ∃ e a' w', APost w0 M0 I0 nt Q e a' w' ∧ Arrives P (lone (b.at a (.code c :: .inLoop c :: k)) cs w) b k cs e a' w' := by
    intro n
    induction n using Nat.strongRecOn with
    | _ n ih =>
      intro i I mu a w hn r
      obtain ⟨e, a₁, w₁, ⟨x, s', I', mu', q, he, r'⟩, harr⟩ := round i w0 M0 I0 g I mu a w r b (.inLoop c :: k) cs
      cases x <;> cases e <;> simp only [ERep] at he
      case normal.normal =>
        obtain ⟨j, hlt, hw⟩ := q
        obtain ⟨I'', mu'', r''⟩ := hw w0 M0 I0 nt I' mu' a₁ w₁ r'
        obtain ⟨e₂, a₂, w₂, hq₂, harr₂⟩ := ih (m j) (hn ▸ hlt) j I'' mu'' a₁ w₁ rfl r''
        exact ⟨e₂, a₂, w₂, hq₂, .of_steps (Steps.trans harr (.one step_inLoop)) harr₂⟩
      all_goals
        refine ⟨_, a₁, w₁, ?_, .pass (x := .inLoop c) rfl (fun _ _ => .inl (by simp)) harr⟩
        exact ⟨_, s', I', mu', q, he, r'⟩
  obtain ⟨e, a', w', hq, harr⟩ := key _ i0 I₀ mu' a w rfl r'
  exact ⟨e, a', w', hq, .of_steps (.one step_loop) harr⟩
end rules
end Go.Ab
/- The abstract layer, part 3: regions. A region that draws its order may be told in the order of the text, if operations that get in each other's way are ordered by edges. -/
namespace Go.Ab
open Go.RowKit

/-- What an operation does: the value that it yields, the blocks that it writes (or gives up), the blocks that it reads. -/
structure Eff where
  d : D
  up : List (Nat × Option Blk)
  rd : List Nat

def upAt (b : Nat) (x : Option Blk) (up : List (Nat × Option Blk)) : Option Blk := up.foldl (fun x p => if p.1 = b then p.2 else x) x
def updL (hp : Hp) (up : List (Nat × Option Blk)) : Hp := up.foldl (fun h p => upd h p.1 p.2) hp
theorem look_updL (up : List (Nat × Option Blk)) : ∀ (hp : Hp) (b : Nat), look (updL hp up) b = upAt b (look hp b) up := by
  induction up with
  | nil => intro hp b; rfl
  | cons p up ih =>
    intro hp b
    have := ih (upd hp p.1 p.2) b
    simp only [updL, upAt, List.foldl_cons] at this ⊢
    rw [this, look_upd]

def FSt.app (s : FSt) (dst : Option Nat) (e : Eff) : FSt := ⟨fun t => if dst = some t then e.d else s.env t, fun b => upAt b (s.hp b) e.up⟩
def St.app (s : St) (dst : Option Nat) (e : Eff) : St := ⟨match dst with | some t => (t, e.d) :: s.env | none => s.env, updL s.hp e.up, s.nx⟩
theorem St.app_fs (s : St) (dst : Option Nat) (e : Eff) : (s.app dst e).fs = s.fs.app dst e := by
  unfold St.app St.fs FSt.app
  congr 1
  · funext t
    cases dst with
    | none => simp
    | some d =>
      simp only [Env.get, Option.some.injEq]
      by_cases h : d = t
      · simp [h]
      · have : (d == t) = false := by simp [h]
        simp [this, h]
  · funext b; exact look_updL e.up s.hp b

theorem Rel.free {w0 : World} {M0 I0 : Nat → Prop} {nt : Nat} {fr fr' I : Nat → Prop} {mu : Nat → Option Value} {s : FSt} {a : Act} {w : World} (h : Rel w0 M0 I0 nt fr I mu s a w) (hf : ∀ b, fr' b → fr b) : Rel w0 M0 I0 nt fr' I mu s a w :=
  ⟨h.size, h.defers, h.env, ⟨h.w.blk, h.w.loc, h.w.inj, fun b hb => h.w.fresh b (hf b hb), h.w.lt, h.w.os, h.w.tape, h.w.output, h.w.grown, h.w.old, h.w.iold, h.w.inew⟩⟩

/-- In whatever state that agrees with s0 on what the operation looks at, it does e; id is the name of the block that it may make. -/
def Sound (P : Program) (ops : Array Oper) (o : Oper) (id : Nat) (s0 : FSt) (e : Eff) : Prop :=
  ∀ w0 M0 I0 nt fr I mu s a w, GA P w0 M0 I0 → Rel w0 M0 I0 nt fr I mu s a w → (∀ j, j < 4 → fr (id + j)) → (∀ d, o.dst = some d → d < nt) → (∀ t ∈ o.looksAt ops, s.env t = s0.env t) → (∀ b ∈ e.rd, s.hp b = s0.hp b) →
    ∀ K Q, (∀ a' w' I' mu', Rel w0 M0 I0 nt (fun b => fr b ∧ ∀ j, j < 4 → b ≠ id + j) I' mu' (s.app o.dst e) a' w' → K a' w') →
      (if Region.wanted o (yielded ops a.tmps) = true then o.wp P a w K Q ∨ (o.asks P a w ∧ LetsOut Q) else K (a.put o.dst undef) w)

/-- The operations, one behind the other, in the order of the text. -/
def Run (P : Program) (ops : Array Oper) (nx : Nat) : List Oper → Nat → List Eff → St → (List Eff → St → Prop) → Prop
  | [], _, acc, s, K => K acc.reverse s
  | o :: r, pos, acc, s, K => ∃ e, Sound P ops o (nx + 4 * pos) s.fs e ∧ Run P ops nx r (pos + 1) (e :: acc) (s.app o.dst e) K

def opsIn (nt : Nat) (l : List Oper) : Bool := l.all fun o => match o.dst with | some d => decide (d < nt) | none => true
theorem opsIn_spec {nt : Nat} {l : List Oper} (h : opsIn nt l = true) : ∀ o ∈ l, ∀ d, o.dst = some d → d < nt := by
  intro o ho d hd
  have := List.all_eq_true.1 h o ho
  rw [hd] at this
  simpa using this

section
variable {P : Program} {ops : Array Oper} {nx nt : Nat} {w0 : World} {M0 I0 : Nat → Prop} {Q : Exit → Act → World → Prop}

theorem Run.ops_seq (hga : GA P w0 M0 I0) : ∀ (l : List Oper) (pos : Nat) (acc : List Eff) (s : St) (K : List Eff → St → Prop) (I : Nat → Prop) (mu : Nat → Option Value) (a : Act) (w : World),
    Run P ops nx l pos acc s K → (∀ j, l[j]? = ops[pos + j]?) → opsIn nt l = true → Rel w0 M0 I0 nt (nx + 4 * pos ≤ ·) I mu s.fs a w →
    (∀ E s' a' w' I' mu', K E s' → Rel w0 M0 I0 nt (nx + 4 * (pos + l.length) ≤ ·) I' mu' s'.fs a' w' → Q .normal a' w') → wpOps P ops Q (List.range' pos l.length) a w := by
  intro l
  induction l with
  | nil =>
    intro pos acc s K I mu a w h hl hin r hK
    simp only [List.length_nil, List.range'_zero, wpOps]
    exact hK _ _ _ _ _ _ h (by simpa using r)
  | cons o l ih =>
    intro pos acc s K I mu a w h hl hin r hK
    obtain ⟨e, hs, hr⟩ := h
    have ho : ops[pos]? = some o := by simpa using (hl 0).symm
    simp only [List.length_cons, List.range'_succ, wpOps, ho]
    simp only [opsIn, List.all_cons, Bool.and_eq_true] at hin
    refine hs w0 M0 I0 nt _ I mu s.fs a w hga r (fun j hj => by show nx + 4 * pos ≤ _; omega) (fun d hd => by have := hin.1; rw [hd] at this; simpa using this) (fun _ _ => rfl) (fun _ _ => rfl) _ Q ?_
    intro a' w' I' mu' r'
    rw [← St.app_fs] at r'
    refine ih (pos + 1) (e :: acc) _ K I' mu' a' w' hr (fun j => ?_) hin.2 (r'.free fun b hb => ?_) ?_
    · have := hl (j + 1)
      simpa [Nat.add_assoc, Nat.add_comm 1 j] using this
    · have hb' : nx + 4 * (pos + 1) ≤ b := hb
      exact ⟨by show nx + 4 * pos ≤ b; omega, fun j hj => by omega⟩
    · intro E s' a' w' I' mu' hk r''
      refine hK E s' a' w' I' mu' hk (r''.free fun b hb => ?_)
      have hb' : nx + 4 * (pos + (l.length + 1)) ≤ b := hb
      show nx + 4 * (pos + 1 + l.length) ≤ b
      omega

/-! any order -/
def dstI (ops : Array Oper) (i : Nat) : Option Nat := (ops[i]?).bind (·.dst)
def effI (E : List Eff) (i : Nat) : Eff := E.getD i ⟨.any, [], []⟩
def applyI (ops : Array Oper) (E : List Eff) (s : FSt) (i : Nat) : FSt := s.app (dstI ops i) (effI E i)
def foldI (ops : Array Oper) (E : List Eff) (l : List Nat) (s : FSt) : FSt := l.foldl (applyI ops E) s

theorem foldI_env {E : List Eff} (l : List Nat) : ∀ (s : FSt) (t : Nat), (foldI ops E l s).env t = l.foldl (fun d i => if dstI ops i = some t then (effI E i).d else d) (s.env t) := by
  induction l with
  | nil => intro s t; rfl
  | cons i l ih => intro s t; simp only [foldI, List.foldl_cons] at ih ⊢; rw [ih]; rfl
theorem foldI_hp {E : List Eff} (l : List Nat) : ∀ (s : FSt) (b : Nat), (foldI ops E l s).hp b = l.foldl (fun x i => upAt b x (effI E i).up) (s.hp b) := by
  induction l with
  | nil => intro s t; rfl
  | cons i l ih => intro s t; simp only [foldI, List.foldl_cons] at ih ⊢; rw [ih]; rfl

theorem foldl_skip {α β : Type} (f : β → α → β) (p : α → Bool) : ∀ (l : List α) (x : β), (∀ i ∈ l, p i = false → ∀ y, f y i = y) → (l.filter p).foldl f x = l.foldl f x := by
  intro l
  induction l with
  | nil => intro x _; rfl
  | cons i l ih =>
    intro x h
    cases hp : p i with
    | true => rw [List.filter_cons_of_pos hp]; simp only [List.foldl_cons]; exact ih _ fun j hj => h j (List.mem_cons_of_mem _ hj)
    | false =>
      rw [List.filter_cons_of_neg (by simp [hp])]
      simp only [List.foldl_cons, h i List.mem_cons_self hp x]
      exact ih _ fun j hj => h j (List.mem_cons_of_mem _ hj)
theorem foldl_id {α β : Type} (f : β → α → β) : ∀ (l : List α) (x : β), (∀ i ∈ l, ∀ y, f y i = y) → l.foldl f x = x := by
  intro l
  induction l with
  | nil => intro x _; rfl
  | cons i l ih => intro x h; simp only [List.foldl_cons, h i List.mem_cons_self x]; exact ih x fun j hj => h j (List.mem_cons_of_mem _ hj)

theorem foldl_same {α β : Type} (f g : β → α → β) : ∀ (l : List α) (x : β), (∀ i ∈ l, ∀ y, f y i = g y i) → l.foldl f x = l.foldl g x := by
  intro l
  induction l with
  | nil => intro x _; rfl
  | cons i l ih => intro x h; simp only [List.foldl_cons, h i List.mem_cons_self x]; exact ih _ fun j hj => h j (List.mem_cons_of_mem _ hj)

theorem upAt_skip {b : Nat} : ∀ {up : List (Nat × Option Blk)}, (∀ p ∈ up, p.1 ≠ b) → ∀ x, upAt b x up = x := by
  intro up h x
  exact foldl_id _ up x fun p hp y => if_neg (h p hp)
theorem upAt_const {b : Nat} {up : List (Nat × Option Blk)} (h : b ∈ up.map (·.1)) (x y : Option Blk) : upAt b x up = upAt b y up := by
  induction up generalizing x y with
  | nil => simp at h
  | cons p up ih =>
    simp only [upAt, List.foldl_cons] at ih ⊢
    by_cases hp : p.1 = b
    · simp only [if_pos hp]
    · simp only [if_neg hp]
      exact ih (by simpa [Ne.symm hp] using h) x y

theorem applyI_comm {E : List Eff} {i j : Nat} (s : FSt) (h1 : ∀ t, dstI ops i = some t → dstI ops j ≠ some t) (h2 : ∀ b, b ∈ (effI E i).up.map (·.1) → b ∉ (effI E j).up.map (·.1)) :
    applyI ops E (applyI ops E s i) j = applyI ops E (applyI ops E s j) i := by
  unfold applyI FSt.app
  simp only
  congr 1
  · funext t
    by_cases hi : dstI ops i = some t
    · simp [hi, h1 t hi]
    · simp [hi]
  · funext b
    by_cases hi : b ∈ (effI E i).up.map (·.1)
    · have hj := h2 b hi
      have ej : ∀ x, upAt b x (effI E j).up = x := upAt_skip fun p hp hb => hj (List.mem_map.2 ⟨p, hp, hb⟩)
      rw [ej, ej]
    · have ei : ∀ x, upAt b x (effI E i).up = x := upAt_skip fun p hp hb => hi (List.mem_map.2 ⟨p, hp, hb⟩)
      rw [ei, ei]

/-- Does operation j wait for i, by edges that always bind? -/
def reach (ops : Array Oper) : Nat → Nat → Nat → Bool
  | 0, _, _ => false
  | n + 1, j, i => match ops[j]? with
    | none => false
    | some o => (o.after.any fun e => e.on == i && Region.binds .any e) || o.after.any fun e => decide (i < e.on) && Region.binds .any e && reach ops n e.on i

/-- Do the operations i and j get in each other's way? sk: the blocks that each writes, and reads. -/
def conf (ops : Array Oper) (sk : List (List Nat × List Nat)) (i j : Nat) : Bool :=
  match ops[i]?, ops[j]? with
  | some x, some y =>
    !(Oper.apart ops x y) || (sk.getD i ([], [])).1.any (fun b => (sk.getD j ([], [])).1.contains b || (sk.getD j ([], [])).2.contains b) || (sk.getD i ([], [])).2.any (fun b => (sk.getD j ([], [])).1.contains b)
  | _, _ => false
def skOf (E : List Eff) : List (List Nat × List Nat) := E.map fun e => (e.up.map (·.1), e.rd)
/-- Edges lead back in the text, and what gets in another's way is ordered. -/
def ordered (ops : Array Oper) (sk : List (List Nat × List Nat)) : Bool :=
  (List.range ops.size).all fun j => (match ops[j]? with | some o => o.after.all fun e => !Region.binds .any e || decide (e.on < j) | none => true) &&
    (List.range j).all fun i => !conf ops sk i j || reach ops ops.size j i

def Clo (ops : Array Oper) (ls : Array Bool) : Prop := ∀ i o, ls.getD i false = true → ops[i]? = some o → ∀ e ∈ o.after, Region.binds .any e = true → ls.getD e.on false = true
theorem Clo.reach {ls : Array Bool} (h : Clo ops ls) : ∀ (n j i : Nat), reach ops n j i = true → ls.getD j false = true → ls.getD i false = true := by
  intro n
  induction n with
  | zero => intro j i hr; simp [Go.Ab.reach] at hr
  | succ n ih =>
    intro j i hr hj
    simp only [Go.Ab.reach] at hr
    cases ho : ops[j]? with
    | none => simp [ho] at hr
    | some o =>
      simp only [ho, Array.any_eq_true', Bool.and_eq_true, Bool.or_eq_true, beq_iff_eq] at hr
      rcases hr with ⟨e, he, h1, hb⟩ | ⟨e, he, ⟨_, hb⟩, h1⟩
      · have hon := h j o hj ho e he hb
        rw [← h1]; exact hon
      · exact ih _ _ h1 (h j o hj ho e he hb)


/-- What is yielded from the states of the text's order. -/
theorem Run.out : ∀ (l : List Oper) (pos : Nat) (acc : List Eff) (s0 s : St) (K : List Eff → St → Prop),
    Run P ops nx l pos acc s K → acc.length = pos → ops.size = pos + l.length → (∀ j, l[j]? = ops[pos + j]?) → s.fs = foldI ops acc.reverse (List.range pos) s0.fs →
    ∃ E s', E.length = ops.size ∧ (∀ i, i < pos → effI E i = effI acc.reverse i) ∧ (∀ i o, pos ≤ i → ops[i]? = some o → Sound P ops o (nx + 4 * i) (foldI ops E (List.range i) s0.fs) (effI E i)) ∧
      s'.fs = foldI ops E (List.range ops.size) s0.fs ∧ s'.nx = s.nx ∧ K E s' := by
  intro l
  induction l with
  | nil =>
    intro pos acc s0 s K h ha hsz hl hfs
    simp only [List.length_nil, Nat.add_zero] at hsz
    refine ⟨acc.reverse, s, by simp [ha, hsz], fun _ _ => rfl, fun i o hi ho => ?_, by rw [hfs, hsz], rfl, h⟩
    have := (Array.getElem?_eq_some_iff.1 ho).1
    omega
  | cons o l ih =>
    intro pos acc s0 s K h ha hsz hl hfs
    obtain ⟨e, hs, hr⟩ := h
    have ho : ops[pos]? = some o := by simpa using (hl 0).symm
    have hpre : ∀ (E : List Eff) (j : Nat), j ≤ pos → (∀ i, i < j → effI E i = effI acc.reverse i) → foldI ops E (List.range j) s0.fs = foldI ops acc.reverse (List.range j) s0.fs := by
      intro E j hj hE
      unfold foldI
      refine foldl_same _ _ _ _ fun i hi s => ?_
      unfold applyI
      rw [hE i (by have := List.mem_range.1 hi; omega)]
    have hcons : ∀ i, i < pos → effI (e :: acc).reverse i = effI acc.reverse i := by
      intro i hi
      simp only [effI, List.reverse_cons, List.getD_eq_getElem?_getD]
      rw [List.getElem?_append_left (by simpa [ha] using hi)]
    have hat : effI (e :: acc).reverse pos = e := by
      simp only [effI, List.reverse_cons, List.getD_eq_getElem?_getD]
      rw [List.getElem?_append_right (by simp [ha])]
      simp [ha]
    have hfs' : (s.app o.dst e).fs = foldI ops (e :: acc).reverse (List.range (pos + 1)) s0.fs := by
      rw [St.app_fs, hfs, List.range_succ]
      unfold foldI
      rw [List.foldl_append]
      simp only [List.foldl_cons, List.foldl_nil, applyI, hat, dstI, ho, Option.bind_some]
      congr 1
      refine foldl_same _ _ _ _ fun i hi s => ?_
      unfold applyI
      rw [hcons i (List.mem_range.1 hi)]
    obtain ⟨E, s', h1, h2, h3, h4, h5, h6⟩ := ih (pos + 1) (e :: acc) s0 (s.app o.dst e) K hr (by simp [ha]) (by simp at hsz ⊢; omega)
      (fun j => by have := hl (j + 1); simpa [Nat.add_assoc, Nat.add_comm 1 j] using this) hfs'
    refine ⟨E, s', h1, fun i hi => (h2 i (by omega)).trans (hcons i hi), fun i o' hi ho' => ?_, h4, h5, h6⟩
    rcases Nat.lt_or_ge pos i with hlt | hge
    · exact h3 i o' (by omega) ho'
    · obtain rfl : i = pos := by omega
      obtain rfl : o = o' := by rw [ho] at ho'; exact Option.some.inj ho'
      rw [h2 i (by omega), hat, hpre E i (Nat.le_refl _) (fun j hj => (h2 j (by omega)).trans (hcons j hj)), ← hfs]
      exact hs

def listedIn (ls : Array Bool) (i : Nat) : Bool := ls.getD i false
theorem range_split {i n : Nat} (h : i < n) : List.range n = List.range i ++ i :: List.range' (i + 1) (n - i - 1) := by
  rw [List.range_eq_range', List.range_eq_range']
  have : i :: List.range' (i + 1) (n - i - 1) = List.range' i (n - i) := by
    have : n - i = (n - i - 1) + 1 := by omega
    rw [this, List.range'_succ]
    simp
  rw [this]
  have := @List.range'_append_1 0 i (n - i)
  rw [Nat.zero_add] at this
  rw [this]
  congr 1
  omega

/-- The state behind those that are listed. -/
def sg (ops : Array Oper) (E : List Eff) (s0 : FSt) (ls : Array Bool) : FSt := foldI ops E ((List.range ops.size).filter (listedIn ls)) s0
def frS (nx : Nat) (ops : Array Oper) (ls : Array Bool) (b : Nat) : Prop := nx + 4 * ops.size ≤ b ∨ ∃ i j, i < ops.size ∧ ls.getD i true = false ∧ j < 4 ∧ b = nx + 4 * i + j

theorem listed_false {ls : Array Bool} {i n : Nat} (hs : ls.size = n) (hi : i < n) : ls.getD i true = false ↔ ls.getD i false = false := by
  have : i < ls.size := by omega
  simp [Array.getD, this]

theorem conf_apart {sk : List (List Nat × List Nat)} {i j : Nat} {x y : Oper} (hx : ops[i]? = some x) (hy : ops[j]? = some y) (h : conf ops sk i j = false) :
    Oper.apart ops x y = true ∧ (∀ b, b ∈ (sk.getD i ([], [])).1 → b ∉ (sk.getD j ([], [])).1 ∧ b ∉ (sk.getD j ([], [])).2) ∧ (∀ b, b ∈ (sk.getD i ([], [])).2 → b ∉ (sk.getD j ([], [])).1) := by
  simp only [conf, hx, hy, Bool.or_eq_false_iff, Bool.not_eq_false'] at h
  obtain ⟨⟨h1, h2⟩, h3⟩ := h
  refine ⟨h1, fun b hb => ?_, fun b hb => ?_⟩
  · have := List.any_eq_false.1 h2 b hb
    simp at this
    exact this
  · have := List.any_eq_false.1 h3 b hb
    simpa using this

theorem skOf_get {E : List Eff} (i : Nat) : (skOf E).getD i ([], []) = ((effI E i).up.map (·.1), (effI E i).rd) := by
  simp only [skOf, effI, List.getD_eq_getElem?_getD, List.getElem?_map]
  cases E[i]? <;> rfl

theorem ordered_spec {sk : List (List Nat × List Nat)} (h : ordered ops sk = true) :
    (∀ j o, ops[j]? = some o → ∀ e ∈ o.after, Region.binds .any e = true → e.on < j) ∧ ∀ i j, i < j → j < ops.size → conf ops sk i j = true → reach ops ops.size j i = true := by
  unfold ordered at h
  rw [List.all_eq_true] at h
  refine ⟨fun j o ho e he hb => ?_, fun i j hij hj hc => ?_⟩
  · have hj := (Array.getElem?_eq_some_iff.1 ho).1
    have := h j (List.mem_range.2 hj)
    rw [ho, Bool.and_eq_true] at this
    have h1 := this.1
    simp only [Array.all_eq_true'] at h1
    have := h1 e he
    simpa [hb] using this
  · have := h j (List.mem_range.2 hj)
    rw [Bool.and_eq_true] at this
    have := List.all_eq_true.1 this.2 i (List.mem_range.2 hij)
    simpa [hc] using this

theorem wp_any_order (hga : GA P w0 M0 I0) (E : List Eff) (s0 : FSt) (nt : Nat) (hord : ordered ops (skOf E) = true) (hin : opsIn nt ops.toList = true)
    (hsound : ∀ i o, ops[i]? = some o → Sound P ops o (nx + 4 * i) (foldI ops E (List.range i) s0) (effI E i))
    (hend : ∀ a w I mu, Rel w0 M0 I0 nt (nx + 4 * ops.size ≤ ·) I mu (foldI ops E (List.range ops.size) s0) a w → Q .normal a w) :
    ∀ (fuel : Nat) (ls : Array Bool) (I : Nat → Prop) (mu : Nat → Option Value) (a : Act) (w : World), ls.size = ops.size → Clo ops ls →
      ((List.range ops.size).filter (fun i => !listedIn ls i)).length ≤ fuel → Rel w0 M0 I0 nt (frS nx ops ls) I mu (sg ops E s0 ls) a w → wpAny P .any ops Q fuel ls a w := by
  obtain ⟨hfwd, hconf⟩ := ordered_spec hord
  -- where nothing is ready, all is listed
  have hall : ∀ (ls : Array Bool), ls.size = ops.size → Region.ready .any ops ls = [] → ∀ i, i < ops.size → listedIn ls i = true := by
    intro ls hsz hr i
    induction i using Nat.strongRecOn with
    | _ i ih =>
      intro hi
      cases hl : listedIn ls i with
      | true => rfl
      | false =>
        have : i ∈ Region.ready .any ops ls := by
          rw [mem_ready]
          refine ⟨(listed_false hsz hi).2 hl, ops[i], Array.getElem?_eq_getElem hi, fun e he hb => ?_⟩
          have hlt := hfwd i _ (Array.getElem?_eq_getElem hi) e he hb
          exact ih e.on hlt (by omega)
        rw [hr] at this
        cases this
  have hfin : ∀ (ls : Array Bool) (I : Nat → Prop) (mu : Nat → Option Value) (a : Act) (w : World), ls.size = ops.size → Region.ready .any ops ls = [] → Rel w0 M0 I0 nt (frS nx ops ls) I mu (sg ops E s0 ls) a w → Q .normal a w := by
    intro ls I mu a w hsz hr r
    have hs : sg ops E s0 ls = foldI ops E (List.range ops.size) s0 := by
      unfold sg
      rw [List.filter_eq_self.2 fun i hi => hall ls hsz hr i (List.mem_range.1 hi)]
    rw [hs] at r
    exact hend a w I mu (r.free fun b hb => .inl hb)
  intro fuel
  induction fuel with
  | zero =>
    intro ls I mu a w hsz hclo hf r
    have hr : Region.ready .any ops ls = [] := by
      apply List.eq_nil_iff_forall_not_mem.2
      intro i hi
      rw [mem_ready] at hi
      obtain ⟨h0, o, ho, _⟩ := hi
      have hlt := (Array.getElem?_eq_some_iff.1 ho).1
      have : i ∈ (List.range ops.size).filter (fun i => !listedIn ls i) := List.mem_filter.2 ⟨List.mem_range.2 hlt, by simp [listedIn, (listed_false hsz hlt).1 h0]⟩
      have := List.length_pos_of_mem this
      omega
    exact ⟨hr, hfin ls I mu a w hsz hr r⟩
  | succ fuel ih =>
    intro ls I mu a w hsz hclo hf r
    refine ⟨fun hr => hfin ls I mu a w hsz hr r, fun i hi => ?_⟩
    rw [mem_ready] at hi
    obtain ⟨h0, o, ho, hpre⟩ := hi
    have hlt := (Array.getElem?_eq_some_iff.1 ho).1
    have hnl : listedIn ls i = false := (listed_false hsz hlt).1 h0
    -- what is before i and in its way is listed; what is behind and in its way isn't
    have hbef : ∀ j, j < i → conf ops (skOf E) j i = true → listedIn ls j = true := by
      intro j hj hc
      have hre := hconf j i hj hlt hc
      cases hn : ops.size with
      | zero => omega
      | succ m =>
        rw [hn] at hre
        simp only [reach, ho, Array.any_eq_true', Bool.and_eq_true, Bool.or_eq_true, beq_iff_eq] at hre
        rcases hre with ⟨e, he, h1, hb⟩ | ⟨e, he, ⟨_, hb⟩, h1⟩
        · have hon := hpre e he hb
          rw [← h1]; exact hon
        · exact hclo.reach _ _ _ h1 (hpre e he hb)
    have haft : ∀ j, i < j → j < ops.size → listedIn ls j = true → conf ops (skOf E) i j = false := by
      intro j hj hjn hl
      cases hc : conf ops (skOf E) i j with
      | false => rfl
      | true =>
        have := hclo.reach _ _ _ (hconf i j hj hjn hc) hl
        have h2 : ls.getD i false = false := hnl
        rw [this] at h2
        cases h2
    have hsplit : sg ops E s0 ls = foldI ops E ((List.range' (i + 1) (ops.size - i - 1)).filter (listedIn ls)) (foldI ops E ((List.range i).filter (listedIn ls)) s0) := by
      unfold sg foldI
      rw [range_split hlt, List.filter_append, List.filter_cons_of_neg (by simp [hnl]), List.foldl_append]
    have hother : ∀ j, j ≠ i → listedIn (ls.setIfInBounds i true) j = listedIn ls j := fun j hj => getD_set_ne false (Ne.symm hj)
    have hself : listedIn (ls.setIfInBounds i true) i = true := by simp [listedIn, Array.getD, hsz, hlt]
    have hsplit' : sg ops E s0 (ls.setIfInBounds i true) = applyI ops E (sg ops E s0 ls) i := by
      rw [hsplit]
      unfold sg
      rw [range_split hlt, List.filter_append, List.filter_cons_of_pos (by exact hself)]
      have e1 : (List.range i).filter (listedIn (ls.setIfInBounds i true)) = (List.range i).filter (listedIn ls) :=
        List.filter_congr fun j hj => hother j (by have := List.mem_range.1 hj; omega)
      have e2 : (List.range' (i + 1) (ops.size - i - 1)).filter (listedIn (ls.setIfInBounds i true)) = (List.range' (i + 1) (ops.size - i - 1)).filter (listedIn ls) :=
        List.filter_congr fun j hj => hother j (by have := List.mem_range'_1.1 hj; omega)
      rw [e1, e2]
      have hcomm : ∀ (l : List Nat) (s : FSt), (∀ j ∈ l, i < j ∧ j < ops.size ∧ listedIn ls j = true) → foldI ops E l (applyI ops E s i) = applyI ops E (foldI ops E l s) i := by
        intro l
        induction l with
        | nil => intro s _; rfl
        | cons j l ihl =>
          intro s hl
          obtain ⟨hij, hjn, hjl⟩ := hl j List.mem_cons_self
          have hc := haft j hij hjn hjl
          obtain ⟨hap, hb1, _⟩ := conf_apart ho (Array.getElem?_eq_getElem hjn) hc
          have hd := (Oper.apart_spec hap).2.1
          have hsw := applyI_comm (ops := ops) (E := E) (i := i) (j := j) s (fun t ht => by
              simp only [dstI, ho, Option.bind_some] at ht
              simp only [dstI, Array.getElem?_eq_getElem hjn, Option.bind_some]
              exact hd t ht)
            (fun b hb => by
              have := (hb1 b (by rw [skOf_get]; exact hb)).1
              rw [skOf_get] at this
              exact this)
          have := ihl (applyI ops E s j) fun j' hj' => hl j' (List.mem_cons_of_mem _ hj')
          simp only [foldI, List.foldl_cons] at this ⊢
          rw [hsw]
          exact this
      have := hcomm ((List.range' (i + 1) (ops.size - i - 1)).filter (listedIn ls)) (foldI ops E ((List.range i).filter (listedIn ls)) s0) fun j hj => by
        obtain ⟨h1, h2⟩ := List.mem_filter.1 hj
        have := List.mem_range'_1.1 h1
        exact ⟨by omega, by omega, h2⟩
      rw [← this]
      simp only [foldI, List.foldl_append, List.foldl_cons]
    have henv : ∀ t ∈ o.looksAt ops, (sg ops E s0 ls).env t = (foldI ops E (List.range i) s0).env t := by
      intro t ht
      rw [hsplit, foldI_env, foldI_env, foldI_env]
      rw [foldl_id _ _ _ fun j hj y => ?_, foldl_skip _ _ _ _ fun j hj hp y => ?_]
      · refine if_neg fun hd => ?_
        have hjr := List.mem_range.1 hj
        have hjn : j < ops.size := by omega
        have hc : conf ops (skOf E) j i = true := by
          cases hc : conf ops (skOf E) j i with
          | true => rfl
          | false =>
            obtain ⟨hap, _⟩ := conf_apart (Array.getElem?_eq_getElem hjn) ho hc
            simp only [dstI, Array.getElem?_eq_getElem hjn, Option.bind_some] at hd
            exact absurd ht ((Oper.apart_spec hap).1 t hd)
        rw [hbef j hjr hc] at hp
        cases hp
      · refine if_neg fun hd => ?_
        obtain ⟨h1, h2⟩ := List.mem_filter.1 hj
        have hjr := List.mem_range'_1.1 h1
        have hjn : j < ops.size := by omega
        obtain ⟨hap, _⟩ := conf_apart ho (Array.getElem?_eq_getElem hjn) (haft j (by omega) hjn h2)
        simp only [dstI, Array.getElem?_eq_getElem hjn, Option.bind_some] at hd
        exact absurd ht ((Oper.apart_spec hap).2.2 t hd)
    have hhp : ∀ b ∈ (effI E i).rd, (sg ops E s0 ls).hp b = (foldI ops E (List.range i) s0).hp b := by
      intro b hb
      rw [hsplit, foldI_hp, foldI_hp, foldI_hp]
      rw [foldl_id _ _ _ fun j hj y => ?_, foldl_skip _ _ _ _ fun j hj hp y => ?_]
      · have hjr := List.mem_range.1 hj
        have hjn : j < ops.size := by omega
        refine upAt_skip (fun p hp' hpb => ?_) y
        have hc : conf ops (skOf E) j i = true := by
          cases hc : conf ops (skOf E) j i with
          | true => rfl
          | false =>
            obtain ⟨_, hb1, _⟩ := conf_apart (Array.getElem?_eq_getElem hjn) ho hc
            have := (hb1 b (by rw [skOf_get]; exact List.mem_map.2 ⟨p, hp', hpb⟩)).2
            rw [skOf_get] at this
            exact absurd hb this
        rw [hbef j hjr hc] at hp
        cases hp
      · obtain ⟨h1, h2⟩ := List.mem_filter.1 hj
        have hjr := List.mem_range'_1.1 h1
        have hjn : j < ops.size := by omega
        refine upAt_skip (fun p hp' hpb => ?_) y
        obtain ⟨_, _, hb1⟩ := conf_apart ho (Array.getElem?_eq_getElem hjn) (haft j (by omega) hjn h2)
        have := hb1 b (by rw [skOf_get]; exact hb)
        rw [skOf_get] at this
        exact absurd (List.mem_map.2 ⟨p, hp', hpb⟩) this
    have hmem : o ∈ ops.toList := by
      have := Array.mem_of_getElem? ho
      simpa using this
    unfold wpOp
    rw [ho]
    refine hsound i o ho w0 M0 I0 nt (frS nx ops ls) I mu (sg ops E s0 ls) a w hga r (fun j hj => .inr ⟨i, j, hlt, h0, hj, rfl⟩) (opsIn_spec hin o hmem) henv hhp _ Q ?_
    intro a' w' I' mu' r'
    have hap : (sg ops E s0 ls).app o.dst (effI E i) = sg ops E s0 (ls.setIfInBounds i true) := by
      rw [hsplit']
      simp only [applyI, dstI, ho, Option.bind_some]
    rw [hap] at r'
    refine ih (ls.setIfInBounds i true) I' mu' a' w' (by simp [hsz]) ?_ ?_ (r'.free fun b hb => ?_)
    · intro j o' hj ho' e he hb
      by_cases hji : j = i
      · subst hji
        obtain rfl : o = o' := by rw [ho] at ho'; exact Option.some.inj ho'
        exact getD_set_true (hpre e he hb)
      · rw [getD_set_ne false (Ne.symm hji)] at hj
        exact getD_set_true (hclo j o' hj ho' e he hb)
    · have hlen : ((List.range ops.size).filter (fun j => !listedIn ls j)).length = ((List.range ops.size).filter (fun j => !listedIn (ls.setIfInBounds i true) j)).length + 1 := by
        rw [range_split hlt, List.filter_append, List.filter_append, List.filter_cons_of_pos (by simp [hnl]), List.filter_cons_of_neg (by simp [hself])]
        have e1 : (List.range i).filter (fun j => !listedIn (ls.setIfInBounds i true) j) = (List.range i).filter (fun j => !listedIn ls j) :=
          List.filter_congr fun j hj => by rw [hother j (by have := List.mem_range.1 hj; omega)]
        have e2 : (List.range' (i + 1) (ops.size - i - 1)).filter (fun j => !listedIn (ls.setIfInBounds i true) j) = (List.range' (i + 1) (ops.size - i - 1)).filter (fun j => !listedIn ls j) :=
          List.filter_congr fun j hj => by rw [hother j (by have := List.mem_range'_1.1 hj; omega)]
        rw [e1, e2]
        simp only [List.length_append, List.length_cons]
        omega
      omega
    · rcases hb with hb | ⟨j, q, hj, hjl, hq, rfl⟩
      · exact ⟨.inl hb, fun q hq => by omega⟩
      · have hji : j ≠ i := by
          rintro rfl
          simp [Array.getD, hsz, hlt] at hjl
        rw [getD_set_ne true (Ne.symm hji)] at hjl
        exact ⟨.inr ⟨j, q, hj, hjl, hq, rfl⟩, fun q' hq' => by omega⟩
end

/-! the rules -/
section
variable {P : Program} {nt : Nat} {Q : AE → St → Prop} {s : St}

def St.nxt (s : St) (n : Nat) : St := ⟨s.env, s.hp, s.nx + n⟩

theorem AWp.region {id : Nat} {l : List Oper} (hin : opsIn nt l = true) (h : Run P l.toArray s.nx l 0 [] s (fun _ s' => Q .normal ⟨s'.env, s'.hp, s.nx + 4 * l.length⟩)) : AWp P nt (.region id l.toArray false) Q s := fun w0 M0 I0 g I mu a w r => by
  refine wp_region ?_
  have := Run.ops_seq (Q := APost w0 M0 I0 nt Q) g l 0 [] s _ I mu a w h (fun j => by simp) hin (r.free fun b hb => hb) ?_
  · rw [List.size_toArray, List.range_eq_range']
    exact this
  · intro E s' a' w' I' mu' hk r'
    exact ⟨.normal, _, I', mu', hk, trivial, r'.free fun b hb => by simpa using hb⟩

theorem AWp.region_draw {id : Nat} {l : List Oper} (hm : P.follows .mixedOrders = true) (hin : opsIn nt l = true)
    (h : Run P l.toArray s.nx l 0 [] s (fun E s' => ordered l.toArray (skOf E) = true ∧ Q .normal ⟨s'.env, s'.hp, s.nx + 4 * l.length⟩)) : AWp P nt (.region id l.toArray true) Q s := fun w0 M0 I0 g I mu a w r => by
  refine wp_region_any hm ?_
  obtain ⟨E, s', h1, _, h3, h4, h5, h6, h7⟩ := Run.out (ops := l.toArray) l 0 [] s s _ h rfl (by simp) (fun j => by simp) rfl
  refine wp_any_order (nx := s.nx) (M0 := M0) (w0 := w0) (I0 := I0) g E s.fs nt h6 (by simpa using hin) (fun i o ho => h3 i o (Nat.zero_le _) ho) ?_ _ _ I mu a _ (by simp) ?_ ?_ ?_
  · intro a' w' I' mu' r'
    rw [← h4] at r'
    exact ⟨.normal, _, I', mu', h7, trivial, r'.free fun b hb => by simpa using hb⟩
  · intro i o hi
    simp [Array.getD] at hi
  · refine Nat.le_trans (List.length_filter_le _ _) (by simp)
  · have hsg : sg l.toArray E s.fs (Array.replicate l.toArray.size false) = s.fs := by
      unfold sg
      rw [List.filter_eq_nil_iff.2 fun i hi => by simp [listedIn, Array.getD]]
      rfl
    rw [hsg]
    exact ⟨r.size, r.defers, fun t => (r.env t).mono (fun _ _ => rfl) (fun _ h => h) (fun _ _ h => h), ⟨fun b x hb => (r.w.blk b x hb).mono (fun _ _ => rfl) (fun _ h => h) (fun _ _ h => h) (fun _ _ _ _ => rfl), r.w.loc, r.w.inj, fun b hb => r.w.fresh b (by
      rcases hb with hb | ⟨i, j, _, _, _, rfl⟩
      · show s.nx ≤ b; omega
      · show s.nx ≤ _; omega), r.w.lt, r.w.os, r.w.tape, r.w.output, r.w.grown, r.w.old, r.w.iold, r.w.inew⟩⟩
end
end Go.Ab
/- The abstract layer, part 4: what operations do, first the plain ones. -/
namespace Go.Ab
open Go.RowKit

/-- What an operation does, its operands being represented. -/
def Does (P : Program) (o : Oper) (id : Nat) (ev : Operand → D) (hp : Nat → Option Blk) (e : Eff) : Prop :=
  ∀ w0 M0 I0 fr I mu h (a : Act) w, GA P w0 M0 I0 → WRel w0 M0 I0 fr I mu h w → (∀ j, j < 4 → fr (id + j)) → (∀ x ∈ o.op.operands, Rep w I mu (ev x) (a.eval x)) → (∀ b ∈ e.rd, h b = hp b) →
    ∀ K Q, (∀ v w' I' mu', Ext I mu w I' mu' w' → WRel w0 M0 I0 (fun b => fr b ∧ ∀ j, j < 4 → b ≠ id + j) I' mu' (fun b => upAt b (h b) e.up) w' → Rep w' I' mu' e.d v → K (a.put o.dst v) w') → o.wp P a w K Q

theorem env_put {w : World} {I : Nat → Prop} {mu : Nat → Option Value} {env : Nat → D} {tmps : Array Value} {dst : Option Nat} {nt : Nat} {v : Value} {d : D} (hs : tmps.size = nt) (hd : ∀ t, dst = some t → t < nt)
    (h : ∀ t, Rep w I mu (env t) (tmps.getD t undef)) (hv : Rep w I mu d v) (a : Act) (ha : a.tmps = tmps) (t : Nat) : Rep w I mu (if dst = some t then d else env t) ((a.put dst v).tmps.getD t undef) := by
  subst ha
  cases dst with
  | none => simpa [Act.put] using h t
  | some k =>
    simp only [Act.put, Option.some.injEq]
    by_cases hk : k = t
    · subst hk
      have : k < a.tmps.size := by rw [hs]; exact hd k rfl
      simp only [if_true, Array.getD, Array.size_setIfInBounds, this, dite_true]
      simpa using hv
    · rw [if_neg hk]
      have := h t
      simp only [Array.getD_eq_getD_getElem?, Array.getElem?_setIfInBounds_ne hk] at this ⊢
      exact this

theorem put_size (a : Act) (dst : Option Nat) (v : Value) : (a.put dst v).tmps.size = a.tmps.size := by cases dst <;> simp [Act.put]
theorem put_defers (a : Act) (dst : Option Nat) (v : Value) : (a.put dst v).defers = a.defers := by cases dst <;> rfl

/-- The operands of an operation lie among what it looks at. -/
theorem evO_agree {P : Program} {ops : Array Oper} {o : Oper} {env env' : Nat → D} (h : ∀ t ∈ o.looksAt ops, env t = env' t) {x : Operand} (hx : x ∈ o.op.operands) : evO P env x = evO P env' x := by
  cases x with
  | tmp t => exact h t (List.mem_append_left _ (List.mem_filterMap.2 ⟨.tmp t, by simpa using hx, rfl⟩))
  | _ => rfl

theorem Sound.plain {P : Program} {ops : Array Oper} {o : Oper} {id : Nat} {s0 : FSt} {e : Eff} (hg : o.guard = none) (h : Does P o id (evO P s0.env) s0.hp e) : Sound P ops o id s0 e := by
  intro w0 M0 I0 nt fr I mu s a w hga r hid hd ht hb K Q hK
  rw [if_pos (by simp [Region.wanted, hg])]
  refine .inl (h w0 M0 I0 fr I mu s.hp a w hga r.w hid (fun x hx => ?_) hb K Q fun v w' I' mu' hext hw hv => hK _ _ I' mu' ⟨?_, ?_, ?_, hw⟩)
  · rw [← evO_agree ht hx]; exact rep_evO (hga.at r.w) r.env x
  · rw [put_size]; exact r.size
  · rw [put_defers]; exact r.defers
  · exact env_put r.size hd (fun t => (r.env t).ext hext) hv a rfl

/-- An abstract value that is looked into where its guard holds. -/
def unw : D → D
  | .cond _ d => d
  | d => d
def okD : D → Prop
  | .cond g _ => g = true
  | _ => True
theorem Rep.unw {w : World} {I : Nat → Prop} {mu : Nat → Option Value} {d : D} {v : Value} (h : Rep w I mu d v) (hk : okD d) : Rep w I mu (unw d) v := by
  cases h with
  | cond g d v h _ => exact h hk
  | _ => first | exact h | (constructor <;> assumption)

/-- Does the guard let the operation run, as far as the abstract value of the operation tells on which it hangs? -/
def gOf (d : D) (want : Bool) : Option Bool :=
  match d with
  | .val (.bool b) => some (b == want)
  | .cond g (.val (.bool b)) => some (g && (b == want))
  | _ => none

theorem wanted_gOf {w : World} {I : Nat → Prop} {mu : Nat → Option Value} {ops : Array Oper} {o : Oper} {a : Act} {j t : Nat} {want g : Bool} {d : D} (hg : o.guard = some (j, want)) (ht : (ops[j]?).bind (·.dst) = some t)
    (hr : Rep w I mu d (a.tmps.getD t undef)) (hgo : gOf d want = some g) : Region.wanted o (yielded ops a.tmps) = g := by
  have hy : ∀ x, a.tmps.getD t undef = x → yielded ops a.tmps j = match x with | .bool b => some b | _ => none := by
    intro x hx
    unfold yielded
    rw [ht]
    simp only [Option.bind_some]
    rcases Nat.lt_or_ge t a.tmps.size with hlt | hge
    · have : a.tmps[t]? = some x := by
        rw [← hx]
        simp [Array.getD, hlt]
      rw [this]
      cases x <;> rfl
    · have h1 : a.tmps[t]? = none := Array.getElem?_eq_none hge
      have h2 : x = undef := by
        rw [← hx]
        simp [Array.getD, Nat.not_lt.2 hge]
      rw [h1, h2]
      rfl
  unfold gOf at hgo
  split at hgo
  · rename_i b
    have hv := hr.val_inv
    have := hy _ hv
    simp only [Option.some.injEq] at hgo
    subst hgo
    simp only [Region.wanted, hg, this]
    cases b <;> cases want <;> rfl
  · rename_i g0 b
    simp only [Option.some.injEq] at hgo
    subst hgo
    cases hr with
    | cond _ _ _ h1 h2 =>
      cases g0 with
      | true =>
        have hv := (h1 rfl).val_inv
        have := hy _ hv
        simp only [Region.wanted, hg, this]
        cases b <;> cases want <;> rfl
      | false =>
        have hv := h2 rfl
        have := hy _ hv
        simp only [Region.wanted, hg, this, undef]
        rfl
  · cases hgo

/-- Under a guard: with the value told only where the guard holds. -/
theorem Sound.guarded {P : Program} {ops : Array Oper} {o : Oper} {id : Nat} {s0 : FSt} {e : Eff} {j t : Nat} {want g : Bool} (hg : o.guard = some (j, want)) (ht : (ops[j]?).bind (·.dst) = some t) (hgo : gOf (s0.env t) want = some g)
    (hok : g = true → ∀ x ∈ o.op.operands, okD (evO P s0.env x)) (hup : e.up = []) (h : g = true → Does P o id (fun x => unw (evO P s0.env x)) s0.hp e) : Sound P ops o id s0 ⟨.cond g e.d, [], e.rd⟩ := by
  intro w0 M0 I0 nt fr I mu s a w hga r hid hd hl hb K Q hK
  have htl : t ∈ o.looksAt ops := List.mem_append_right _ (by simp [hg, ht])
  have hw : Region.wanted o (yielded ops a.tmps) = g := wanted_gOf hg ht (r.env t) (by rw [hl t htl]; exact hgo)
  rw [hw]
  have fin : ∀ v w' I' mu', Ext I mu w I' mu' w' → WRel w0 M0 I0 (fun b => fr b ∧ ∀ j, j < 4 → b ≠ id + j) I' mu' s.hp w' → Rep w' I' mu' (.cond g e.d) v → K (a.put o.dst v) w' := fun v w' I' mu' hext hw' hv =>
    hK _ _ I' mu' ⟨by rw [put_size]; exact r.size, by rw [put_defers]; exact r.defers, env_put r.size hd (fun t => (r.env t).ext hext) hv a rfl, hw'⟩
  cases g with
  | true =>
    rw [if_pos rfl]
    refine .inl (h rfl w0 M0 I0 fr I mu s.hp a w hga r.w hid (fun x hx => ?_) hb K Q fun v w' I' mu' hext hw' hv => ?_)
    · have := rep_evO (hga.at r.w) r.env x
      rw [evO_agree hl hx] at this
      exact this.unw (hok rfl x hx)
    · rw [hup] at hw'
      exact fin v w' I' mu' hext hw' (.cond _ _ _ (fun _ => hv) (fun h => by cases h))
  | false =>
    rw [if_neg (by simp)]
    refine fin undef w I mu (Ext.refl _ _ _) ⟨r.w.blk, r.w.loc, r.w.inj, fun b hb => r.w.fresh b hb.1, r.w.lt, r.w.os, r.w.tape, r.w.output, r.w.grown, r.w.old, r.w.iold, r.w.inew⟩ (.cond _ _ _ (fun h => by cases h) (fun _ => rfl))

/-- Under a guard that holds. -/
theorem Sound.guard_true {P : Program} {ops : Array Oper} {o : Oper} {id : Nat} {s0 : FSt} {e : Eff} {j t : Nat} {want : Bool} (hg : o.guard = some (j, want)) (ht : (ops[j]?).bind (·.dst) = some t) (hgo : gOf (s0.env t) want = some true)
    (h : Does P o id (evO P s0.env) s0.hp e) : Sound P ops o id s0 e := by
  intro w0 M0 I0 nt fr I mu s a w hga r hid hd hl hb K Q hK
  have htl : t ∈ o.looksAt ops := List.mem_append_right _ (by simp [hg, ht])
  rw [wanted_gOf hg ht (r.env t) (by rw [hl t htl]; exact hgo), if_pos rfl]
  refine .inl (h w0 M0 I0 fr I mu s.hp a w hga r.w hid (fun x hx => ?_) hb K Q fun v w' I' mu' hext hw hv => hK _ _ I' mu' ⟨?_, ?_, ?_, hw⟩)
  · rw [← evO_agree hl hx]; exact rep_evO (hga.at r.w) r.env x
  · rw [put_size]; exact r.size
  · rw [put_defers]; exact r.defers
  · exact env_put r.size hd (fun t => (r.env t).ext hext) hv a rfl

/-- Under a guard that does not hold. -/
theorem Sound.guard_false {P : Program} {ops : Array Oper} {o : Oper} {id : Nat} {s0 : FSt} {j t : Nat} {want : Bool} (hg : o.guard = some (j, want)) (ht : (ops[j]?).bind (·.dst) = some t) (hgo : gOf (s0.env t) want = some false) :
    Sound P ops o id s0 ⟨.any, [], []⟩ := by
  intro w0 M0 I0 nt fr I mu s a w hga r hid hd hl hb K Q hK
  have htl : t ∈ o.looksAt ops := List.mem_append_right _ (by simp [hg, ht])
  rw [wanted_gOf hg ht (r.env t) (by rw [hl t htl]; exact hgo), if_neg (by simp)]
  refine hK _ _ I mu ⟨by rw [put_size]; exact r.size, by rw [put_defers]; exact r.defers, env_put r.size hd r.env (.any _) a rfl, ⟨r.w.blk, r.w.loc, r.w.inj, fun b hb => r.w.fresh b hb.1, r.w.lt, r.w.os, r.w.tape, r.w.output, r.w.grown, r.w.old, r.w.iold, r.w.inew⟩⟩

/-! plain operations: they leave the world alone -/

/-- An operation that yields a value and leaves the world alone. -/
theorem Does.quiet {P : Program} {o : Oper} {id : Nat} {ev : Operand → D} {hp : Nat → Option Blk} {d : D} {rd : List Nat}
    (h : ∀ w0 M0 I0 fr I mu h (a : Act) w, WRel w0 M0 I0 fr I mu h w → (∀ x ∈ o.op.operands, Rep w I mu (ev x) (a.eval x)) → (∀ b ∈ rd, h b = hp b) → ∃ v, (execOp a.eval o).run P w = .ok (.value v) w ∧ Rep w I mu d v) : Does P o id ev hp ⟨d, [], rd⟩ := by
  intro w0 M0 I0 fr I mu hh a w hga hw hid hx hb K Q hK
  obtain ⟨v, hrun, hv⟩ := h w0 M0 I0 fr I mu hh a w hw hx hb
  unfold Oper.wp
  rw [hrun]
  exact hK v w I mu (Ext.refl _ _ _) ⟨hw.blk, hw.loc, hw.inj, fun b hb => hw.fresh b hb.1, hw.lt, hw.os, hw.tape, hw.output, hw.grown, hw.old, hw.iold, hw.inew⟩ hv

section plain
variable {P : Program} {id : Nat} {ev : Operand → D} {hp : Nat → Option Blk} {dst : Option Tmp} {T : TypeId} {pos : String} {af : Array Edge} {gd : Option (Nat × Bool)}

theorem does_move (x : Operand) : Does P ⟨dst, .move x, T, pos, af, gd⟩ id ev hp ⟨ev x, [], []⟩ :=
  Does.quiet fun _ _ _ _ I mu _ a w _ hx _ => ⟨a.eval x, by simp [execOp], hx x (by simp [Op.operands])⟩
theorem does_assign (x : Operand) : Does P ⟨dst, .assign x, T, pos, af, gd⟩ id ev hp ⟨ev x, [], []⟩ :=
  Does.quiet fun _ _ _ _ I mu _ a w _ hx _ => ⟨a.eval x, by simp [execOp], hx x (by simp [Op.operands])⟩

/-- The choice between two, told by the chosen one alone. -/
theorem does_pick_lit (c x y : Operand) (b : Bool) (hc : ev c = .val (.bool b)) : Does P ⟨dst, .pick c x y, T, pos, af, gd⟩ id ev hp ⟨if b = true then ev x else ev y, [], []⟩ :=
  Does.quiet fun _ _ _ _ I mu _ a w _ hx _ => by
    have h1 := hx c (by simp [Op.operands])
    rw [hc] at h1
    have := h1.val_inv
    refine ⟨if b = true then a.eval x else a.eval y, by simp [execOp, this, asBool], ?_⟩
    split
    · exact hx x (by simp [Op.operands])
    · exact hx y (by simp [Op.operands])

/-- The choice between two tests, one of which may be told under a guard alone. -/
def boolOf : D → Option (Bool × Bool)
  | .val (.bool b) => some (true, b)
  | .cond g (.val (.bool b)) => some (g, b)
  | _ => none
theorem does_pick_sym (c x y : Operand) (b gx gy p q : Bool) (hc : ev c = .val (.bool b)) (hx : boolOf (ev x) = some (gx, p)) (hy : boolOf (ev y) = some (gy, q)) (h1 : b = true → gx = true) (h2 : b = false → gy = true) :
    Does P ⟨dst, .pick c x y, T, pos, af, gd⟩ id ev hp ⟨.val (.bool (bif b then p else q)), [], []⟩ :=
  Does.quiet fun _ _ _ _ I mu _ a w _ hr _ => by
    have hb : ∀ z gz r, boolOf (ev z) = some (gz, r) → gz = true → z ∈ (Op.pick c x y).operands → a.eval z = .bool r := by
      intro z gz r hz hg hm
      have h3 := hr z hm
      unfold boolOf at hz
      split at hz
      · rename_i b' he
        simp only [Option.some.injEq, Prod.mk.injEq] at hz
        rw [he] at h3
        rw [h3.val_inv, hz.2]
      · rename_i g' b' he
        simp only [Option.some.injEq, Prod.mk.injEq] at hz
        rw [he] at h3
        cases h3 with
        | cond _ _ _ h4 _ => rw [(h4 (hz.1.trans hg)).val_inv, hz.2]
      · cases hz
    have h3 := hr c (by simp [Op.operands])
    rw [hc] at h3
    have hcv := h3.val_inv
    cases b with
    | true => exact ⟨.bool p, by simp [execOp, hcv, asBool, hb x gx p hx (h1 rfl) (by simp [Op.operands])], .val _ trivial⟩
    | false => exact ⟨.bool q, by simp [execOp, hcv, asBool, hb y gy q hy (h2 rfl) (by simp [Op.operands])], .val _ trivial⟩

/-! numbers, texts, tests -/
def intBin (op : BinOp) (k : IntKind) (a : Int) (k' : IntKind) (b : Int) : Option (Value × Prop) :=
  match op with
  | .add => if k = k' then some (.int k (k.wrap (a + b)), True) else none
  | .sub => if k = k' then some (.int k (k.wrap (a - b)), True) else none
  | .mul => if k = k' then some (.int k (k.wrap (a * b)), True) else none
  | .quo => if k = k' then some (.int k (k.wrap (a.tdiv b)), b ≠ 0) else none
  | .rem => if k = k' then some (.int k (a.tmod b), b ≠ 0) else none
  | .shl => some (.int k (k.wrap (a * 2 ^ (min b.toNat k.bits))), 0 ≤ b)
  | .shr => some (.int k (a.fdiv (2 ^ (min b.toNat k.bits))), 0 ≤ b)
  | .eql => if k = k' then some (.bool (a == b), True) else none
  | .neq => if k = k' then some (.bool (a != b), True) else none
  | .lss => if k = k' then some (.bool (decide (a < b)), True) else none
  | .leq => if k = k' then some (.bool (decide (a ≤ b)), True) else none
  | .gtr => if k = k' then some (.bool (decide (b < a)), True) else none
  | .geq => if k = k' then some (.bool (decide (b ≤ a)), True) else none
  | _ => none
theorem run_intBin {op : BinOp} {k k' : IntKind} {a b : Int} {r : Value} {c : Prop} (h : intBin op k a k' b = some (r, c)) (hc : c) (T : TypeId) (w : World) : (binOp op T (.int k a) (.int k' b)).run P w = .ok r w := by
  cases op <;> simp only [intBin] at h <;> first
    | (split at h
       · simp only [Option.some.injEq, Prod.mk.injEq] at h; obtain ⟨rfl, rfl⟩ := h; rename_i hk; subst hk
         simp [binOp, Op.intArith, Op.intCmp, Op.intDiv, hc]
       · cases h)
    | (simp only [Option.some.injEq, Prod.mk.injEq] at h; obtain ⟨rfl, rfl⟩ := h; simp [binOp, Op.shift, Int.not_lt.2 hc])
    | cases h

theorem intBin_ok {op : BinOp} {k k' : IntKind} {a b : Int} {r : Value} {c : Prop} (h : intBin op k a k' b = some (r, c)) (hc : c) (ha : okP (.int k a)) : okP r := by
  cases op <;> simp only [intBin] at h <;> first
    | (split at h
       · simp only [Option.some.injEq, Prod.mk.injEq] at h; obtain ⟨rfl, rfl⟩ := h; rename_i hk; subst hk
         first
           | exact trivial
           | exact wrap_ok _ _
           | (simp only [okP] at ha ⊢
              have h1 : (a.tmod b).natAbs ≤ a.natAbs := by rw [Int.natAbs_tmod]; exact Nat.mod_le _ _
              have h2 : 0 ≤ a → 0 ≤ a.tmod b := fun h => Int.tmod_nonneg b h
              have h3 : a ≤ 0 → a.tmod b ≤ 0 := fun h => by
                have := Int.tmod_nonneg b (show 0 ≤ -a by omega)
                rw [Int.neg_tmod] at this; omega
              have : imin k ≤ 0 := by cases k <;> simp [imin]
              have : 0 ≤ imax k := by cases k <;> simp [imax]
              omega)
       · cases h)
    | (simp only [Option.some.injEq, Prod.mk.injEq] at h; obtain ⟨rfl, rfl⟩ := h
       first
         | exact wrap_ok _ _
         | (simp only [okP] at ha ⊢
            have hp : (0 : Int) < 2 ^ (min b.toNat k.bits) := Int.pow_pos (by decide)
            have : imin k ≤ 0 := by cases k <;> simp [imin]
            have : 0 ≤ imax k := by cases k <;> simp [imax]
            rw [Int.fdiv_eq_ediv_of_nonneg _ (Int.le_of_lt hp)]
            by_cases h0 : 0 ≤ a
            · have h1 := Int.ediv_nonneg h0 (Int.le_of_lt hp)
              have h2 : a / 2 ^ (min b.toNat k.bits) ≤ a := Int.ediv_le_self _ h0
              omega
            · have h1 : a / 2 ^ (min b.toNat k.bits) < 0 := Int.ediv_neg_of_neg_of_pos (by omega) hp
              have h2 : a ≤ a / 2 ^ (min b.toNat k.bits) := by
                rw [Int.le_ediv_iff_mul_le hp]
                have : a * 2 ^ (min b.toNat k.bits) ≤ a * 1 := Int.mul_le_mul_of_nonpos_left (by omega) (by omega)
                omega
              omega))
    | cases h

def strBin (op : BinOp) (a b : ByteArray) : Option (Value × Prop) :=
  match op with
  | .add => some (.string (a ++ b), a.size + b.size ≤ 9223372036854775807)
  | .eql => some (.bool (a.toList == b.toList), True)
  | .neq => some (.bool (!(a.toList == b.toList)), True)
  | .lss => some (.bool (Op.bytesLess a.toList b.toList), True)
  | .leq => some (.bool (Op.bytesLess a.toList b.toList || a.toList == b.toList), True)
  | .gtr => some (.bool (!(Op.bytesLess a.toList b.toList || a.toList == b.toList)), True)
  | .geq => some (.bool (!Op.bytesLess a.toList b.toList), True)
  | _ => none
theorem run_strBin {op : BinOp} {a b : ByteArray} {r : Value} {c : Prop} (h : strBin op a b = some (r, c)) (hc : c) (T : TypeId) (w : World) : (binOp op T (.string a) (.string b)).run P w = .ok r w := by
  cases op <;> simp only [strBin] at h <;> first
    | (simp only [Option.some.injEq, Prod.mk.injEq] at h; obtain ⟨rfl, rfl⟩ := h; simp [binOp, Op.stringOp]; try omega)
    | cases h
theorem strBin_ok {op : BinOp} {a b : ByteArray} {r : Value} {c : Prop} (h : strBin op a b = some (r, c)) (hc : c) : okP r := by
  cases op <;> simp only [strBin] at h <;> first
    | (simp only [Option.some.injEq, Prod.mk.injEq] at h; obtain ⟨rfl, rfl⟩ := h
       first
         | exact trivial
         | (simp only [okP, ByteArray.size_append]; exact hc))
    | cases h
end plain
end Go.Ab
/- The abstract layer, part 5: types, memory, structs. -/
namespace Go.Ab
open Go.RowKit

/-- What a type is. -/
inductive Sh where
  | bool | int (k : IntKind) | str | struct (fs : List (Nat × Nat × Bool)) | slice (e : TypeId) | ptr (e : TypeId) | map (k e : TypeId) | arr (n : Nat) (e : TypeId) | func | iface | other
structure TI where
  sz : Nat
  ag : Bool
  zero : List Value
  bytes : Nat
  sh : Sh
def aggOf : TypeDesc → Bool
  | .struct _ => true
  | .array _ _ => true
  | _ => false
def fieldOf (P : Program) (f : Field) : Option (Nat × Nat × Bool) :=
  match P.info? f.type, P.underlying f.type with
  | some i, some d => some (f.offset, i.size, aggOf d)
  | _, _ => none
def shOf (P : Program) : TypeDesc → Sh
  | .bool => .bool
  | .int k => .int k
  | .string => .str
  | .struct fs => match fs.toList.mapM (fieldOf P) with
    | some l => .struct l
    | none => .other
  | .slice e => .slice e
  | .pointer e => .ptr e
  | .map k e => .map k e
  | .array n e => .arr n e
  | .func _ _ _ => .func
  | .interface _ => .iface
  | _ => .other
def tiOf (P : Program) (t : TypeId) : Option TI :=
  match P.info? t, P.underlying t with
  | some i, some d => match i.zero with
    | some z => some ⟨i.size, aggOf d, z.cells.toList, i.bytes, shOf P d⟩
    | none => none
  | _, _ => none

theorem tiOf_spec {P : Program} {t : TypeId} {ti : TI} (h : tiOf P t = some ti) : ∃ i d z, P.info? t = some i ∧ P.underlying t = some d ∧ i.zero = some z ∧ i.size = ti.sz ∧ aggOf d = ti.ag ∧ z.cells.toList = ti.zero ∧ i.bytes = ti.bytes ∧ shOf P d = ti.sh := by
  unfold tiOf at h
  split at h
  · rename_i i d hi hd
    split at h
    · rename_i z hz
      simp only [Option.some.injEq] at h
      subst h
      exact ⟨i, d, z, hi, hd, hz, rfl, rfl, rfl, rfl, rfl⟩
    · cases h
  · cases h

theorem mapM_get {α β : Type} {g : α → Option β} : ∀ {l : List α} {r : List β}, l.mapM g = some r → ∀ (i : Nat) (y : β), r[i]? = some y → ∃ x, l[i]? = some x ∧ g x = some y
  | [], r, h, i, y, hy => by simp at h; subst h; simp at hy
  | a :: l, r, h, i, y, hy => by
    simp only [List.mapM_cons, Option.bind_eq_bind, Option.pure_def, Option.bind_eq_some_iff] at h
    obtain ⟨b, hb, r', hr', h⟩ := h
    simp only [Option.some.injEq] at h
    subst h
    cases i with
    | zero => simp at hy; subst hy; exact ⟨a, by simp, hb⟩
    | succ i => simp at hy; simpa using mapM_get hr' i y hy
theorem mapM_places {P : Program} : ∀ {l : List Field} {r : List (Nat × Nat × Bool)}, l.mapM (fieldOf P) = some r → l.mapM (fun f => (P.info? f.type).map fun i => (f.offset, i.size)) = some (r.map fun x => (x.1, x.2.1))
  | [], r, h => by simp at h; subst h; simp
  | a :: l, r, h => by
    simp only [List.mapM_cons, Option.bind_eq_bind, Option.pure_def, Option.bind_eq_some_iff] at h
    obtain ⟨b, hb, r', hr', h⟩ := h
    simp only [Option.some.injEq] at h
    subst h
    unfold fieldOf at hb
    split at hb
    · rename_i i d hi hd
      simp only [Option.some.injEq] at hb
      subst hb
      simp [List.mapM_cons, hi, mapM_places hr']
    · cases hb

section runs
variable {P : Program} {t : TypeId} {ti : TI} (h : tiOf P t = some ti) (w : World)
include h
theorem run_isAgg' : (isAgg t).run P w = .ok ti.ag w := by
  obtain ⟨i, d, z, h1, h2, h3, h4, h5, h6, h7, h8⟩ := tiOf_spec h
  rw [← h5]
  simp only [isAgg, Sem.run_bind, run_underlying h2, Result.andThen]
  cases d <;> rfl
theorem run_sizeOf' : (sizeOf t).run P w = .ok ti.sz w := by
  obtain ⟨i, d, z, h1, h2, h3, h4, h5, h6, h7, h8⟩ := tiOf_spec h
  simp [sizeOf, typeInfo, h1, h4]
theorem run_zeroValue' : ∃ z, (zeroValue t).run P w = .ok z w ∧ z.cells.toList = ti.zero := by
  obtain ⟨i, d, z, h1, h2, h3, h4, h5, h6, h7, h8⟩ := tiOf_spec h
  exact ⟨z, by simp [zeroValue, typeInfo, h1, h3], h6⟩
theorem run_slice_elem {e : TypeId} (he : ti.sh = .slice e) : P.underlying t = some (.slice e) := by
  obtain ⟨i, d, z, h1, h2, h3, h4, h5, h6, h7, h8⟩ := tiOf_spec h
  rw [he] at h8
  cases d <;> simp only [shOf] at h8 <;> first | (cases h8; exact h2) | (cases h8; done) | (split at h8 <;> cases h8)
theorem ti_slice {e : TypeId} (he : ti.sh = .slice e) : P.underlying t = some (.slice e) := by
  obtain ⟨i, d, z, h1, h2, h3, h4, h5, h6, h7, h8⟩ := tiOf_spec h
  rw [he] at h8
  cases d <;> simp only [shOf] at h8 <;> first | (cases h8; exact h2) | (cases h8; done) | (split at h8 <;> cases h8)
theorem ti_ptr {e : TypeId} (he : ti.sh = .ptr e) : P.underlying t = some (.pointer e) := by
  obtain ⟨i, d, z, h1, h2, h3, h4, h5, h6, h7, h8⟩ := tiOf_spec h
  rw [he] at h8
  cases d <;> simp only [shOf] at h8 <;> first | (cases h8; exact h2) | (cases h8; done) | (split at h8 <;> cases h8)
theorem ti_map {k e : TypeId} (he : ti.sh = .map k e) : P.underlying t = some (.map k e) := by
  obtain ⟨i, d, z, h1, h2, h3, h4, h5, h6, h7, h8⟩ := tiOf_spec h
  rw [he] at h8
  cases d <;> simp only [shOf] at h8 <;> first | (cases h8; exact h2) | (cases h8; done) | (split at h8 <;> cases h8)
theorem ti_arr {n : Nat} {e : TypeId} (he : ti.sh = .arr n e) : P.underlying t = some (.array n e) := by
  obtain ⟨i, d, z, h1, h2, h3, h4, h5, h6, h7, h8⟩ := tiOf_spec h
  rw [he] at h8
  cases d <;> simp only [shOf] at h8 <;> first | (cases h8; exact h2) | (cases h8; done) | (split at h8 <;> cases h8)
theorem ti_bool (he : ti.sh = .bool) : P.underlying t = some .bool := by
  obtain ⟨i, d, z, h1, h2, h3, h4, h5, h6, h7, h8⟩ := tiOf_spec h
  rw [he] at h8
  cases d <;> simp only [shOf] at h8 <;> first | exact h2 | (cases h8; done) | (split at h8 <;> cases h8)
theorem ti_str (he : ti.sh = .str) : P.underlying t = some .string := by
  obtain ⟨i, d, z, h1, h2, h3, h4, h5, h6, h7, h8⟩ := tiOf_spec h
  rw [he] at h8
  cases d <;> simp only [shOf] at h8 <;> first | exact h2 | (cases h8; done) | (split at h8 <;> cases h8)
theorem ti_int {k : IntKind} (he : ti.sh = .int k) : P.underlying t = some (.int k) := by
  obtain ⟨i, d, z, h1, h2, h3, h4, h5, h6, h7, h8⟩ := tiOf_spec h
  rw [he] at h8
  cases d <;> simp only [shOf] at h8 <;> first | (cases h8; done) | (cases h8; exact h2) | (split at h8 <;> cases h8)
theorem ti_struct {fs : List (Nat × Nat × Bool)} (he : ti.sh = .struct fs) : ∃ l : Array Field, P.underlying t = some (.struct l) ∧ l.toList.mapM (fieldOf P) = some fs := by
  obtain ⟨i, d, z, h1, h2, h3, h4, h5, h6, h7, h8⟩ := tiOf_spec h
  rw [he] at h8
  cases d <;> simp only [shOf] at h8 <;> first
    | (cases h8; done)
    | (rename_i l
       split at h8
       · rename_i r hr
         injection h8 with h8
         subst h8
         exact ⟨l, h2, hr⟩
       · cases h8)
end runs

theorem addr_add (k o n : Nat) : (⟨k, o, none⟩ : Addr).add n = ⟨k, o + n, none⟩ := by
  unfold Addr.add
  split
  · rename_i h; subst h; rfl
  · rfl

/-- A piece of a list put in another's place. -/
def setL {α : Type} (xs : List α) (off : Nat) (ys : List α) : List α := xs.take off ++ (ys ++ xs.drop (off + ys.length))
theorem setL_length {α : Type} {xs : List α} {off : Nat} {ys : List α} (h : off + ys.length ≤ xs.length) : (setL xs off ys).length = xs.length := by
  simp only [setL, List.length_append, List.length_take, List.length_drop]; omega
theorem setL_get {α : Type} {xs : List α} {off : Nat} {ys : List α} (h : off + ys.length ≤ xs.length) (i : Nat) : (setL xs off ys)[i]? = if i < off then xs[i]? else if i < off + ys.length then ys[i - off]? else xs[i]? := by
  simp only [setL]
  by_cases h1 : i < off
  · rw [if_pos h1, List.getElem?_append_left (by simp; omega), List.getElem?_take_of_lt h1]
  · rw [if_neg h1, List.getElem?_append_right (by simp; omega)]
    simp only [List.length_take]
    have e : min off xs.length = off := by omega
    rw [e]
    by_cases h2 : i < off + ys.length
    · rw [if_pos h2, List.getElem?_append_left (by omega)]
    · rw [if_neg h2, List.getElem?_append_right (by omega), List.getElem?_drop]
      congr 1
      omega

/-- Is it surely one cell? -/
def oneD : D → Bool
  | .val v => v.oneCell'
  | .slice _ _ => true
  | .ptr _ _ => true
  | .ref _ _ _ _ => true
  | .sref _ _ _ _ _ => true
  | .gref _ _ => true
  | .mref _ => true
  | .func _ _ _ => true
  | .iface _ _ => true
  | _ => false
theorem Rep.one {w : World} {I : Nat → Prop} {mu : Nat → Option Value} {d : D} {v : Value} (h : Rep w I mu d v) (ho : oneD d = true) : v.oneCell' = true := by
  cases h <;> first | exact ho | rfl | (simp [oneD] at ho)
theorem cells_one {v : Value} (h : v.oneCell' = true) : v.cells = #[v] := by cases v <;> first | rfl | (simp [Value.oneCell'] at h)
/-- The cells of a value. -/
def cellsD : D → Option (List D)
  | .agg cs => if cs.all oneD then some cs else none
  | d => if oneD d then some [d] else none
theorem Rep.cells {w : World} {I : Nat → Prop} {mu : Nat → Option Value} {d : D} {v : Value} {cs : List D} (h : Rep w I mu d v) (hc : cellsD d = some cs) :
    ∃ us : List Value, v.cells.toList = us ∧ us.length = cs.length ∧ (∀ i, i < cs.length → Rep w I mu (nd cs i) (nv us i)) ∧ ∀ u ∈ us, u.oneCell' = true := by
  have single : oneD d = true → cs = [d] → ∃ us : List Value, v.cells.toList = us ∧ us.length = cs.length ∧ (∀ i, i < cs.length → Rep w I mu (nd cs i) (nv us i)) ∧ ∀ u ∈ us, u.oneCell' = true := by
    intro h1 h2
    subst h2
    have := h.one h1
    refine ⟨[v], by rw [cells_one this], rfl, fun i hi => ?_, fun u hu => ?_⟩
    · simp only [List.length_singleton] at hi
      obtain rfl : i = 0 := by omega
      exact h
    · simp only [List.mem_singleton] at hu; subst hu; exact this
  cases d with
  | agg l =>
    simp only [cellsD] at hc
    split at hc
    · rename_i hall
      simp only [Option.some.injEq] at hc
      subst hc
      obtain ⟨us, rfl, hl, hr⟩ := h.agg_inv
      refine ⟨us, by simp [Value.cells], hl, hr, fun u hu => ?_⟩
      obtain ⟨i, hi, rfl⟩ := List.mem_iff_getElem.1 hu
      have h1 := hr i (by omega)
      have h2 : nv us i = us[i] := by simp [nv, List.getD, hi]
      rw [h2] at h1
      refine h1.one ?_
      have h3 : nd l i = l[i]'(by omega) := by simp [nd, List.getD, show i < l.length by omega]
      rw [h3]
      exact List.all_eq_true.1 hall _ (List.getElem_mem _)
    · cases hc
  | _ =>
    simp only [cellsD] at hc
    split at hc
    · rename_i h1
      simp only [Option.some.injEq] at hc
      exact single h1 hc.symm
    · cases hc

/-! the world's part under new blocks and stores -/
def mset (mu : Nat → Option Value) (id : Nat) (v : Value) : Nat → Option Value := fun b => if b = id then some v else mu b
theorem mset_ext {mu : Nat → Option Value} {id : Nat} {v : Value} (h : mu id = none) : ∀ b x, mu b = some x → mset mu id v b = some x := by
  intro b x hb
  unfold mset
  rw [if_neg (by rintro rfl; rw [h] at hb; cases hb)]
  exact hb

section worlds
variable {w0 : World} {M0 I0 fr I : Nat → Prop} {mu : Nat → Option Value} {hp : Nat → Option Blk} {w : World}

theorem heap_alloc_lt (w : World) (o : Obj) {k : Nat} (h : k < w.heap.size) : (w.alloc o).heap[k]? = w.heap[k]? := Below.heap_alloc w o k h

theorem WRel.new (h : WRel w0 M0 I0 fr I mu hp w) {id : Nat} (hid : fr id) (o : Obj) (v : Value) (hv : locBlk v = some w.heap.size) (x : Blk) (hb : BRep (w.alloc o) I (mset mu id v) id x) :
    WRel w0 M0 I0 (fun b => fr b ∧ b ≠ id) I (mset mu id v) (fun b => upAt b (hp b) [(id, some x)]) (w.alloc o) ∧ Ext I mu w I (mset mu id v) (w.alloc o) := by
  have hnone := h.fresh id hid
  have hm := mset_ext (v := v) hnone
  have hup : ∀ b, upAt b (hp b) [(id, some x)] = if b = id then some x else hp b := by
    intro b; simp only [upAt, List.foldl_cons, List.foldl_nil]; by_cases hb : b = id
    · subst hb; simp
    · have : ¬ id = b := fun h => hb h.symm
      simp [hb, this]
  have hext : Ext I mu w I (mset mu id v) (w.alloc o) := ⟨fun _ h => h, hm, fun k hk => heap_alloc_lt w o (h.lt k hk)⟩
  refine ⟨⟨fun b y hy => ?_, fun b y u k hy hu hk => ?_, fun b c y z u u' k hy hz hu hu' hk hk' => ?_, fun b hb => ?_, fun k hk => ?_, h.os, h.tape, h.output, ?_, fun k hk hnm => ?_, h.iold, h.inew⟩, hext⟩
  · rw [hup] at hy
    by_cases hbi : b = id
    · rw [if_pos hbi] at hy; cases hy; subst hbi; exact hb
    · rw [if_neg hbi] at hy
      exact (h.blk b y hy).mono hext.w hext.i hm fun u k hu hk => heap_alloc_lt w o (h.loc b y u k hy hu hk).2.2
  · rw [hup] at hy
    by_cases hbi : b = id
    · rw [if_pos hbi] at hy
      simp only [mset, if_pos hbi, Option.some.injEq] at hu
      subst hu
      rw [hv] at hk
      cases hk
      exact ⟨.inr h.grown, fun hI => Nat.lt_irrefl _ (h.lt _ hI), by simp⟩
    · rw [if_neg hbi] at hy
      simp only [mset, if_neg hbi] at hu
      have := h.loc b y u k hy hu hk
      exact ⟨this.1, this.2.1, by simp; omega⟩
  · rw [hup] at hy hz
    by_cases hbi : b = id
    · by_cases hci : c = id
      · rw [hbi, hci]
      · exfalso
        rw [if_neg hci] at hz
        simp only [mset, if_pos hbi, if_neg hci, Option.some.injEq] at hu hu'
        subst hu
        rw [hv] at hk
        cases hk
        have := (h.loc c z u' _ hz hu' hk').2.2
        omega
    · by_cases hci : c = id
      · exfalso
        rw [if_neg hbi] at hy
        simp only [mset, if_pos hci, if_neg hbi, Option.some.injEq] at hu hu'
        subst hu'
        rw [hv] at hk'
        cases hk'
        have := (h.loc b y u _ hy hu hk).2.2
        omega
      · rw [if_neg hbi] at hy
        rw [if_neg hci] at hz
        simp only [mset, if_neg hci, if_neg hbi] at hu hu'
        exact h.inj b c y z u u' k hy hz hu hu' hk hk'
  · simp only [mset, if_neg hb.2]
    exact h.fresh b hb.1
  · have := h.lt k hk
    simp; omega
  · have := h.grown
    simp; omega
  · rw [heap_alloc_lt w o (by have := h.grown; omega)]
    exact h.old k hk hnm

/-- A world that differs from another at one block of cells. -/
structure Wrote (k : Nat) (w w' : World) : Prop where
  os : w'.os = w.os
  tape : w'.tape = w.tape
  output : w'.output = w.output
  size : w'.heap.size = w.heap.size
  other : ∀ j, j ≠ k → w'.heap[j]? = w.heap[j]?
theorem Wrote.refl (k : Nat) (w : World) : Wrote k w w := ⟨rfl, rfl, rfl, rfl, fun _ _ => rfl⟩
theorem Wrote.trans {k : Nat} {a b c : World} (h : Wrote k a b) (g : Wrote k b c) : Wrote k a c := ⟨g.os.trans h.os, g.tape.trans h.tape, g.output.trans h.output, g.size.trans h.size, fun j hj => (g.other j hj).trans (h.other j hj)⟩

theorem WRel.wrote (h : WRel w0 M0 I0 fr I mu hp w) {b : Nat} {x : Blk} {v : Value} {k : Nat} {id : Nat} (hx : hp b = some x) (hv : mu b = some v) (hk : locBlk v = some k) {w' : World} (hw : Wrote k w w') (x' : Blk) (hb : BRep w' I mu b x') :
    WRel w0 M0 I0 (fun b => fr b ∧ b ≠ id) I mu (fun c => upAt c (hp c) [(b, some x')]) w' ∧ Ext I mu w I mu w' := by
  have hl := h.loc b x v k hx hv hk
  have hup : ∀ c, upAt c (hp c) [(b, some x')] = if c = b then some x' else hp c := by
    intro c; simp only [upAt, List.foldl_cons, List.foldl_nil]; by_cases hc : c = b
    · subst hc; simp
    · have : ¬ b = c := fun h => hc h.symm
      simp [hc, this]
  have hext : Ext I mu w I mu w' := ⟨fun _ h => h, fun _ _ h => h, fun j hj => hw.other j (by rintro rfl; exact hl.2.1 hj)⟩
  refine ⟨⟨fun c y hy => ?_, fun c y u j hy hu hj => ?_, fun c c' y z u u' j hy hz hu hu' hj hj' => ?_, fun c hc => h.fresh c hc.1, fun j hj => by rw [hw.size]; exact h.lt j hj, hw.os.trans h.os, hw.tape.trans h.tape, hw.output.trans h.output, by rw [hw.size]; exact h.grown, fun j hj hnm => ?_, h.iold, h.inew⟩, hext⟩
  · rw [hup] at hy
    by_cases hc : c = b
    · rw [if_pos hc] at hy; cases hy; subst hc; exact hb
    · rw [if_neg hc] at hy
      refine (h.blk c y hy).mono hext.w hext.i hext.m fun u j hu hj => hw.other j ?_
      rintro rfl
      exact hc (h.inj c b y x u v j hy hx hu hv hj hk)
  · rw [hup] at hy
    rw [hw.size]
    by_cases hc : c = b
    · subst hc; exact h.loc c x u j hx hu hj
    · rw [if_neg hc] at hy; exact h.loc c y u j hy hu hj
  · rw [hup] at hy hz
    have key : ∀ c y, (if c = b then some x' else hp c) = some y → ∃ y', hp c = some y' := by
      intro c y hy
      by_cases hc : c = b
      · subst hc; exact ⟨x, hx⟩
      · rw [if_neg hc] at hy; exact ⟨y, hy⟩
    obtain ⟨y', hy'⟩ := key c y hy
    obtain ⟨z', hz'⟩ := key c' z hz
    exact h.inj c c' y' z' u u' j hy' hz' hu hu' hj hj'
  · rw [hw.other j ?_]
    · exact h.old j hj hnm
    · rintro rfl
      rcases hl.1 with h1 | h1
      · exact hnm h1
      · omega
end worlds

theorem run_storeCells {P : Program} {k : Nat} {T : TypeId} : ∀ (vs : List Value) (i o : Nat) (us : List Value) (w : World), w.heap[k]? = some (.cells us.toArray T (0, 0)) → o + i + vs.length ≤ us.length → (∀ v ∈ vs, v.oneCell' = true) →
    ∃ w', (storeCells ⟨k, o, none⟩ vs i).run P w = .ok () w' ∧ w'.heap[k]? = some (.cells (setL us (o + i) vs).toArray T (0, 0)) ∧ Wrote k w w'
  | [], i, o, us, w, h, _, _ => ⟨w, by simp [storeCells], by simpa [setL] using h, Wrote.refl k w⟩
  | v :: vs, i, o, us, w, h, hl, h1 => by
    simp only [List.length_cons] at hl
    have hcell : w.cell? ⟨k, o + i, none⟩ = some us[o + i] := by
      simp [World.cell?, h, show o + i < us.length by omega]
    have hfz : w.frozen? ⟨k, o + i, none⟩ = false := by simp [World.frozen?, h]
    have hw1 : (w.setCell ⟨k, o + i, none⟩ v).heap[k]? = some (.cells (us.set (o + i) v).toArray T (0, 0)) := by
      simp [World.setCell, Array.getElem?_modify, h]
    obtain ⟨w', hrun, hh, hw⟩ := run_storeCells (P := P) vs (i + 1) o (us.set (o + i) v) (w.setCell ⟨k, o + i, none⟩ v) hw1 (by simp; omega) fun x hx => h1 x (List.mem_cons_of_mem _ hx)
    refine ⟨w', ?_, ?_, Wrote.trans (b := w.setCell ⟨k, o + i, none⟩ v) ⟨rfl, rfl, rfl, by simp, fun j hj => Below.heap_setCell w ⟨k, o + i, none⟩ v j hj⟩ hw⟩
    · simp only [storeCells, addr_add, Sem.run_bind, run_store P w _ v .plain (h1 v List.mem_cons_self), hcell, hfz, Result.andThen]
      exact hrun
    · rw [hh]
      congr 3
      apply List.ext_getElem?
      intro j
      rw [setL_get (by simp; omega), setL_get (by simp; omega)]
      simp only [List.length_cons, List.getElem?_set]
      by_cases h2 : j < o + i
      · rw [if_pos (by omega), if_pos h2, if_neg (by omega)]
      · rw [if_neg h2]
        by_cases h3 : j = o + i
        · subst h3
          rw [if_pos (by omega), if_pos rfl, if_pos (by omega), if_pos (by omega)]
          simp
        · rw [if_neg (by omega)]
          by_cases h4 : j < o + (i + 1) + vs.length
          · rw [if_pos h4, if_pos (by omega)]
            have : j - (o + i) = (j - (o + (i + 1))) + 1 := by omega
            rw [this]; rfl
          · rw [if_neg h4, if_neg (by omega), if_neg (by omega)]
end Go.Ab
/- The abstract layer, part 6: loads, stores, new variables, structs, indexing, slicing. -/
namespace Go.Ab
open Go.RowKit

abbrev Res := Option (Eff × Prop)
def pv (d : D) : Res := some (⟨d, [], []⟩, True)
def pvc (d : D) (c : Prop) : Res := some (⟨d, [], []⟩, c)

/-- What a run of an operation must do for Does. -/
def Runs (P : Program) (s : World → Result Value) (id : Nat) (d : D) (up : List (Nat × Option Blk)) (w0 : World) (M0 I0 fr I : Nat → Prop) (mu : Nat → Option Value) (h : Nat → Option Blk) (w : World) : Prop :=
  ∃ v w' I' mu', s w = .ok v w' ∧ Ext I mu w I' mu' w' ∧ WRel w0 M0 I0 (fun b => fr b ∧ b ≠ id) I' mu' (fun b => upAt b (h b) up) w' ∧ Rep w' I' mu' d v

theorem WRel.less {w0 : World} {M0 I0 fr fr' I : Nat → Prop} {mu : Nat → Option Value} {h : Nat → Option Blk} {w : World} (r : WRel w0 M0 I0 fr I mu h w) (hf : ∀ b, fr' b → fr b) : WRel w0 M0 I0 fr' I mu h w :=
  ⟨r.blk, r.loc, r.inj, fun b hb => r.fresh b (hf b hb), r.lt, r.os, r.tape, r.output, r.grown, r.old, r.iold, r.inew⟩

theorem Runs.same {P : Program} {s : World → Result Value} {id : Nat} {d : D} {w0 : World} {M0 I0 fr I : Nat → Prop} {mu : Nat → Option Value} {h : Nat → Option Blk} {w : World} (r : WRel w0 M0 I0 fr I mu h w) (v : Value) (hs : s w = .ok v w) (hv : Rep w I mu d v) : Runs P s id d [] w0 M0 I0 fr I mu h w :=
  ⟨v, w, I, mu, hs, Ext.refl _ _ _, r.less fun b hb => hb.1, hv⟩

/-- Does, by the run of what the operation reckons. -/
theorem Does.of_runs {P : Program} {o : Oper} {id : Nat} {ev : Operand → D} {hp : Nat → Option Blk} {e : Eff} (s : (Operand → Value) → Sem Value)
    (hs : ∀ (a : Act) w, (execOp a.eval o).run P w = ((s a.eval).run P w).andThen fun v w' => .ok (.value v) w')
    (h : ∀ w0 M0 I0 fr I mu h (a : Act) w, WRel w0 M0 I0 fr I mu h w → fr id → (∀ x ∈ o.op.operands, Rep w I mu (ev x) (a.eval x)) → (∀ b ∈ e.rd, h b = hp b) → Runs P (fun w => (s a.eval).run P w) id e.d e.up w0 M0 I0 fr I mu h w) : Does P o id ev hp e := by
  intro w0 M0 I0 fr I mu hh a w hga hw hid hx hb K Q hK
  obtain ⟨v, w', I', mu', hrun, hext, hw', hv⟩ := h w0 M0 I0 fr I mu hh a w hw (by simpa using hid 0 (by decide)) hx hb
  have hrun' : (s a.eval).run P w = .ok v w' := hrun
  unfold Oper.wp
  rw [hs, hrun']
  exact hK v w' I' mu' hext (hw'.less fun b hb => ⟨hb.1, by simpa using hb.2 0 (by decide)⟩) hv
/-- Does, of an operation that yields nothing. -/
theorem Does.of_runs_u {P : Program} {o : Oper} {id : Nat} {ev : Operand → D} {hp : Nat → Option Blk} {up : List (Nat × Option Blk)} {rd : List Nat} (s : (Operand → Value) → Sem Unit)
    (hs : ∀ (a : Act) w, (execOp a.eval o).run P w = ((s a.eval).run P w).andThen fun _ w' => .ok .skip w')
    (h : ∀ w0 M0 I0 fr I mu h (a : Act) w, WRel w0 M0 I0 fr I mu h w → fr id → (∀ x ∈ o.op.operands, Rep w I mu (ev x) (a.eval x)) → (∀ b ∈ rd, h b = hp b) →
      ∃ w' I' mu', (s a.eval).run P w = .ok () w' ∧ Ext I mu w I' mu' w' ∧ WRel w0 M0 I0 (fun b => fr b ∧ b ≠ id) I' mu' (fun b => upAt b (h b) up) w') : Does P o id ev hp ⟨.any, up, rd⟩ := by
  intro w0 M0 I0 fr I mu hh a w hga hw hid hx hb K Q hK
  obtain ⟨w', I', mu', hrun, hext, hw'⟩ := h w0 M0 I0 fr I mu hh a w hw (by simpa using hid 0 (by decide)) hx hb
  unfold Oper.wp
  rw [hs, hrun]
  exact hK undef w' I' mu' hext (hw'.less fun b hb => ⟨hb.1, by simpa using hb.2 0 (by decide)⟩) (.any _)

section
variable {P : Program} {w0 : World} {M0 I0 fr I : Nat → Prop} {mu : Nat → Option Value} {h : Nat → Option Blk} {w : World}

/-! reading a variable -/
def loadE (ti : TI) (hp : Nat → Option Blk) : D → Res
  | .ptr cs off => bif ti.ag then pvc (.agg ((cs.drop off).take ti.sz)) (off + ti.sz ≤ cs.length) else pvc (nd cs off) (off < cs.length)
  | .ref b i off sz => match hp b with
    | some (.rows es sz') => bif ti.ag then some (⟨.agg (((nr es i).drop off).take ti.sz), [], [b]⟩, i < es.length ∧ sz = sz' ∧ off + ti.sz ≤ sz) else some (⟨nd (nr es i) off, [], [b]⟩, i < es.length ∧ sz = sz' ∧ off < sz)
    | _ => none
  | _ => none

/-- Cells that lie one behind the other, read as a variable. -/
theorem run_loadVar_cells {t : TypeId} {ti : TI} (ht : tiOf P t = some ti) (w : World) (k o : Nat) (cs : List D) (u : Nat → Value) (hcell : ∀ j, j < cs.length → w.cell? ⟨k, o + j, none⟩ = some (u j)) (hr : ∀ j, j < cs.length → Rep w I mu (nd cs j) (u j)) (off : Nat) :
    (ti.ag = true → off + ti.sz ≤ cs.length → ∃ v, (loadVar t ⟨k, o + off, none⟩).run P w = .ok v w ∧ Rep w I mu (.agg ((cs.drop off).take ti.sz)) v) ∧
    (ti.ag = false → off < cs.length → ∃ v, (loadVar t ⟨k, o + off, none⟩).run P w = .ok v w ∧ Rep w I mu (nd cs off) v) := by
  constructor
  · intro hag hle
    have hl := run_loadCells (P := P) w ⟨k, o + off, none⟩ ti.sz (fun j => u (off + j)) (fun j hj => by rw [addr_add, Nat.add_assoc]; exact hcell (off + j) (by omega))
    refine ⟨.agg ((List.range ti.sz).map fun j => u (off + j)).toArray, ?_, .agg _ _ (by simp; omega) fun i hi => ?_⟩
    · simp [loadVar, run_isAgg' ht, hag, run_sizeOf' ht, hl]
    · simp only [List.length_take, List.length_drop] at hi
      have h1 : nd ((cs.drop off).take ti.sz) i = nd cs (off + i) := by
        simp only [nd, List.getD_eq_getElem?_getD]
        rw [List.getElem?_take_of_lt (by omega), List.getElem?_drop]
      have h2 : nv ((List.range ti.sz).map fun j => u (off + j)) i = u (off + i) := by
        simp [nv, List.getD_eq_getElem?_getD, show i < ti.sz by omega]
      rw [h1, h2]
      exact hr (off + i) (by omega)
  · intro hag hlt
    refine ⟨u off, ?_, hr off hlt⟩
    simp [loadVar, run_isAgg' ht, hag, hcell off hlt]

theorem runs_load {t : TypeId} {ti : TI} (ht : tiOf P t = some ti) {hp : Nat → Option Blk} {d : D} {e : Eff} {c : Prop} (he : loadE ti hp d = some (e, c)) (hc : c) (hr : WRel w0 M0 I0 fr I mu h w) {v : Value} (hv : Rep w I mu d v) (hb : ∀ b ∈ e.rd, h b = hp b) (id : Nat) :
    Runs P (fun w => (Instr.loadAt t v).run P w) id e.d e.up w0 M0 I0 fr I mu h w := by
  cases d with
  | ptr cs off =>
    cases hv with
    | ptr _ _ k o u hI hcell hrep =>
      have hl := run_loadVar_cells (I := I) (mu := mu) ht w k o cs u hcell hrep off
      cases hag : ti.ag <;> simp only [loadE, hag, cond_true, cond_false, pvc, Option.some.injEq, Prod.mk.injEq] at he <;> obtain ⟨rfl, rfl⟩ := he
      · obtain ⟨v, h1, h2⟩ := hl.2 hag hc
        exact Runs.same hr v (by simp [Instr.loadAt, Instr.sureAddr, h1]) h2
      · obtain ⟨v, h1, h2⟩ := hl.1 hag hc
        exact Runs.same hr v (by simp [Instr.loadAt, Instr.sureAddr, h1]) h2
  | ref b i off sz =>
    simp only [loadE] at he
    split at he
    · rename_i es sz' hx
      cases hv with
      | ref _ _ _ _ k hk =>
        have hbb : ∀ e', e = e' → b ∈ e'.rd → h b = hp b := fun e' h1 h2 => hb b (h1 ▸ h2)
        have core : h b = some (.rows es sz') → i < es.length → sz = sz' → (∀ off, (ti.ag = true → off + ti.sz ≤ sz → ∃ v, (loadVar t ⟨k, i * sz + off, none⟩).run P w = .ok v w ∧ Rep w I mu (.agg (((nr es i).drop off).take ti.sz)) v) ∧
            (ti.ag = false → off < sz → ∃ v, (loadVar t ⟨k, i * sz + off, none⟩).run P w = .ok v w ∧ Rep w I mu (nd (nr es i) off) v)) := by
          intro hhb hi hsz off
          subst hsz
          obtain ⟨k', T, us, h1, h2, h3, h4, h5⟩ := hr.blk b _ hhb
          rw [hk] at h1
          simp only [Option.some.injEq, Value.pointer.injEq, Addr.mk.injEq, and_true] at h1
          subst h1
          have hlen := h4 i hi
          have hmul : i * sz + sz ≤ es.length * sz := by rw [← Nat.succ_mul]; exact Nat.mul_le_mul_right _ hi
          have := run_loadVar_cells (P := P) (I := I) (mu := mu) ht w k (i * sz) (nr es i) (fun j => nv us (i * sz + j)) (fun j hj => by
              rw [hlen] at hj
              simp only [World.cell?, h2, Option.isSome_none, nv]
              rw [if_neg (by simp)]
              simp [List.getD_eq_getElem?_getD, show i * sz + j < us.length by omega])
            (fun j hj => h5 i j hi (by omega)) off
          rw [hlen] at this
          exact this
        cases hag : ti.ag <;> simp only [hag, cond_true, cond_false, Option.some.injEq, Prod.mk.injEq] at he <;> obtain ⟨rfl, rfl⟩ := he
        · obtain ⟨v, h1, h2⟩ := (core ((hb b (by simp)).trans hx) hc.1 hc.2.1 off).2 hag hc.2.2
          exact Runs.same hr v (by simp [Instr.loadAt, Instr.sureAddr, h1]) h2
        · obtain ⟨v, h1, h2⟩ := (core ((hb b (by simp)).trans hx) hc.1 hc.2.1 off).1 hag hc.2.2
          exact Runs.same hr v (by simp [Instr.loadAt, Instr.sureAddr, h1]) h2
    · cases he
  | _ => simp [loadE] at he

/-! writing a variable -/
def storeE (ti : TI) (hp : Nat → Option Blk) (a d : D) : Res :=
  match a with
  | .ref b i off sz => match hp b with
    | some (.rows es sz') => match cellsD d with
      | some ns => some (⟨.any, [(b, some (.rows (es.set i (setL (nr es i) off ns)) sz'))], [b]⟩, i < es.length ∧ sz = sz' ∧ off + ns.length ≤ sz ∧ ns.length = ti.sz)
      | none => none
    | _ => none
  | _ => none

theorem nd_setL {xs ys : List D} {off : Nat} (h : off + ys.length ≤ xs.length) (i : Nat) : nd (setL xs off ys) i = if i < off then nd xs i else if i < off + ys.length then nd ys (i - off) else nd xs i := by
  simp only [nd, List.getD_eq_getElem?_getD, setL_get h]
  split
  · rfl
  · split <;> rfl
theorem nv_setL {xs ys : List Value} {off : Nat} (h : off + ys.length ≤ xs.length) (i : Nat) : nv (setL xs off ys) i = if i < off then nv xs i else if i < off + ys.length then nv ys (i - off) else nv xs i := by
  simp only [nv, List.getD_eq_getElem?_getD, setL_get h]
  split
  · rfl
  · split <;> rfl
theorem nr_set {es : List (List D)} {i : Nat} {r : List D} (hi : i < es.length) (j : Nat) : nr (es.set i r) j = if i = j then r else nr es j := by
  simp only [nr, List.getD_eq_getElem?_getD, List.getElem?_set]
  by_cases h : i = j
  · subst h; simp [hi]
  · simp [h]

theorem runs_store {t : TypeId} {ti : TI} (ht : tiOf P t = some ti) {hp : Nat → Option Blk} {a d : D} {e : Eff} {c : Prop} (he : storeE ti hp a d = some (e, c)) (hc : c) (hr : WRel w0 M0 I0 fr I mu h w) {v x : Value} (hv : Rep w I mu a v) (hx : Rep w I mu d x) (hb : ∀ b ∈ e.rd, h b = hp b) (id : Nat) :
    e.d = .any ∧ ∃ w' I' mu', (Instr.storeAt t v x).run P w = .ok () w' ∧ Ext I mu w I' mu' w' ∧ WRel w0 M0 I0 (fun b => fr b ∧ b ≠ id) I' mu' (fun b => upAt b (h b) e.up) w' := by
  cases a with
  | ref b i off sz =>
    simp only [storeE] at he
    split at he
    · rename_i es sz' hh
      split at he
      · rename_i ns hns
        simp only [Option.some.injEq, Prod.mk.injEq] at he
        obtain ⟨rfl, rfl⟩ := he
        obtain ⟨hi, rfl, hle, hsz⟩ := hc
        have hhb := (hb b (by simp)).trans hh
        refine ⟨rfl, ?_⟩
        obtain ⟨us', hcs, hl', hrep, hone⟩ := hx.cells hns
        obtain ⟨k, T, us, h1, h2, h3, h4, h5⟩ := hr.blk b _ hhb
        cases hv with
        | ref _ _ _ _ k' hk =>
          rw [h1] at hk
          simp only [Option.some.injEq, Value.pointer.injEq, Addr.mk.injEq, and_true] at hk
          subst hk
          have hlen := h4 i hi
          have hmul : i * sz + sz ≤ es.length * sz := by rw [← Nat.succ_mul]; exact Nat.mul_le_mul_right _ hi
          obtain ⟨w', hrun, hheap, hwrote⟩ := run_storeCells (P := P) (T := T) us' 0 (i * sz + off) us w h2 (by omega) hone
          simp only [Nat.add_zero] at hheap
          have hne : ∀ j, j < es.length → i ≠ j → ∀ l, l < sz → ¬ (i * sz + off ≤ j * sz + l ∧ j * sz + l < i * sz + off + us'.length) := by
            intro j hj hij l hl
            rintro ⟨g1, g2⟩
            rcases Nat.lt_or_gt_of_ne hij with h6 | h6
            · have : i * sz + sz ≤ j * sz := by rw [← Nat.succ_mul]; exact Nat.mul_le_mul_right _ h6
              omega
            · have : j * sz + sz ≤ i * sz := by rw [← Nat.succ_mul]; exact Nat.mul_le_mul_right _ h6
              omega
          have hnotI : ¬ I k := (hr.loc b _ _ k hhb h1 rfl).2.1
          have hIkeep : ∀ j, I j → w'.heap[j]? = w.heap[j]? := fun j hj => hwrote.other j (by rintro rfl; exact hnotI hj)
          have := hr.wrote (id := id) hhb h1 rfl hwrote (.rows (es.set i (setL (nr es i) off ns)) sz) ⟨k, T, setL us (i * sz + off) us', h1, hheap, by
              rw [setL_length (by omega), h3, List.length_set], fun j hj => by
              rw [List.length_set] at hj
              rw [nr_set hi]
              split
              · rw [setL_length (by omega)]; exact hlen
              · exact h4 j hj, fun j l hj hl => by
              rw [List.length_set] at hj
              rw [nr_set hi, nv_setL (by omega)]
              by_cases hij : i = j
              · subst hij
                rw [if_pos rfl, nd_setL (by omega)]
                have c1 : (i * sz + l < i * sz + off) ↔ l < off := by omega
                have c2 : (i * sz + l < i * sz + off + us'.length) ↔ l < off + ns.length := by omega
                have e1 : i * sz + l - (i * sz + off) = l - off := by omega
                simp only [c1, c2, e1]
                by_cases g1 : l < off
                · simp only [if_pos g1]
                  exact (h5 i l hj hl).mono hIkeep (fun _ h => h) (fun _ _ h => h)
                · simp only [if_neg g1]
                  by_cases g2 : l < off + ns.length
                  · simp only [if_pos g2]
                    exact (hrep (l - off) (by omega)).mono hIkeep (fun _ h => h) (fun _ _ h => h)
                  · simp only [if_neg g2]
                    exact (h5 i l hj hl).mono hIkeep (fun _ h => h) (fun _ _ h => h)
              · rw [if_neg hij]
                have := hne j hj hij l hl
                by_cases g1 : j * sz + l < i * sz + off
                · rw [if_pos g1]
                  exact (h5 j l hj hl).mono hIkeep (fun _ h => h) (fun _ _ h => h)
                · rw [if_neg g1, if_neg (by omega)]
                  exact (h5 j l hj hl).mono hIkeep (fun _ h => h) (fun _ _ h => h)⟩
          refine ⟨w', I, mu, ?_, this.2, this.1⟩
          have hcz : x.cells.size = ti.sz := by
            have : x.cells.toList.length = us'.length := by rw [hcs]
            simp only [Array.length_toList] at this
            omega
          simp [Instr.storeAt, Instr.sureAddr, storeVar, run_sizeOf' ht, hcz, hcs, hrun]
      · cases he
    · cases he
  | _ => simp [storeE] at he

/-! new variables -/
def rowsOf (cs : List D) (sz : Nat) : Blk := .rows [cs] sz
theorem runs_newRow {elem : TypeId} (us : List Value) (cs : List D) (hl : us.length = cs.length) (hrep : ∀ i, i < cs.length → Rep w I mu (nd cs i) (nv us i)) (hr : WRel w0 M0 I0 fr I mu h w) {id : Nat} (hid : fr id) (sz : Nat) (hsz : cs.length = sz) :
    ∃ mu', (newRow elem us.toArray).run P w = .ok ⟨w.heap.size, 0, none⟩ (w.alloc (.cells us.toArray elem)) ∧ Ext I mu w I mu' (w.alloc (.cells us.toArray elem)) ∧
      WRel w0 M0 I0 (fun b => fr b ∧ b ≠ id) I mu' (fun b => upAt b (h b) [(id, some (.rows [cs] sz))]) (w.alloc (.cells us.toArray elem)) ∧ mu' id = some (.pointer (some ⟨w.heap.size, 0, none⟩)) := by
  have hnone := hr.fresh id hid
  have := hr.new hid (.cells us.toArray elem) (.pointer (some ⟨w.heap.size, 0, none⟩)) rfl (.rows [cs] sz) ⟨w.heap.size, elem, us, by simp [mset], heap_alloc_new w _, by simp; omega, fun i hi => by
      simp only [List.length_singleton] at hi; obtain rfl : i = 0 := by omega
      simpa [nr] using hsz, fun i j hi hj => by
      simp only [List.length_singleton] at hi; obtain rfl : i = 0 := by omega
      simp only [Nat.zero_mul, Nat.zero_add]
      have : nr [cs] 0 = cs := rfl
      rw [this]
      exact (hrep j (by omega)).mono (fun k hk => heap_alloc_lt w _ (hr.lt k hk)) (fun _ h => h) (mset_ext hnone)⟩
  exact ⟨_, by simp [newRow], this.2, this.1, by simp [mset]⟩

def allocE (id : Nat) (ti : TI) : Res := some (⟨.ref id 0 0 ti.sz, [(id, some (.rows [ti.zero.map ofV] ti.sz))], []⟩, ti.zero.length = ti.sz)
theorem runs_alloc {t : TypeId} {ti : TI} (ht : tiOf P t = some ti) {id : Nat} {e : Eff} {c : Prop} (he : allocE id ti = some (e, c)) (hc : c) (hr : WRel w0 M0 I0 fr I mu h w) (hid : fr id) :
    Runs P (fun w => (Instr.alloc t true (.tuple #[])).run P w) id e.d e.up w0 M0 I0 fr I mu h w := by
  simp only [allocE, Option.some.injEq, Prod.mk.injEq] at he
  obtain ⟨rfl, rfl⟩ := he
  obtain ⟨z, hz, hzl⟩ := run_zeroValue' ht w
  obtain ⟨mu', h1, h2, h3, h4⟩ := runs_newRow (P := P) (elem := t) ti.zero (ti.zero.map ofV) (by simp) (fun i hi => by
      simp only [List.length_map] at hi
      have : nd (ti.zero.map ofV) i = ofV (nv ti.zero i) := by simp [nd, nv, List.getD_eq_getElem?_getD, hi]
      rw [this]; exact rep_ofV _ _ _ _) hr hid ti.sz (by simpa using hc)
  have hza : z.cells = ti.zero.toArray := by rw [← hzl]
  refine ⟨.pointer (some ⟨w.heap.size, 0, none⟩), _, I, mu', ?_, h2, h3, by simpa using Rep.ref (w := w.alloc (.cells ti.zero.toArray t)) (I := I) id 0 0 ti.sz _ h4⟩
  simp only [Instr.alloc, newVar, Sem.run_bind, hz, hza, h1, Result.andThen, Sem.run_pure]

def boxE (id : Nat) (d : D) : Res :=
  match cellsD d with
  | some ns => some (⟨.ref id 0 0 ns.length, [(id, some (.rows [ns] ns.length))], []⟩, True)
  | none => none
theorem runs_box {t : TypeId} {id : Nat} {d : D} {e : Eff} {c : Prop} (he : boxE id d = some (e, c)) (hr : WRel w0 M0 I0 fr I mu h w) (hid : fr id) {v : Value} (hv : Rep w I mu d v) :
    Runs P (fun w => (Instr.box t v).run P w) id e.d e.up w0 M0 I0 fr I mu h w := by
  unfold boxE at he
  split at he
  · rename_i ns hns
    simp only [Option.some.injEq, Prod.mk.injEq] at he
    obtain ⟨rfl, rfl⟩ := he
    obtain ⟨us, hcs, hl, hrep, hone⟩ := hv.cells hns
    obtain ⟨mu', h1, h2, h3, h4⟩ := runs_newRow (P := P) (elem := t) us ns hl hrep hr hid ns.length rfl
    have hza : v.cells = us.toArray := by rw [← hcs]
    refine ⟨.pointer (some ⟨w.heap.size, 0, none⟩), _, I, mu', ?_, h2, h3, by simpa using Rep.ref (w := w.alloc (.cells us.toArray t)) (I := I) id 0 0 ns.length _ h4⟩
    simp only [Instr.box, newVar, Sem.run_bind, hza, h1, Result.andThen, Sem.run_pure]
  · cases he

end
end Go.Ab
/- The abstract layer, part 7: structs, fields, indexing, slicing, lengths. -/
namespace Go.Ab
open Go.RowKit
section
variable {P : Program} {w0 : World} {M0 I0 fr I : Nat → Prop} {mu : Nat → Option Value} {h : Nat → Option Blk} {w : World}

/-! a struct of parts -/
def buildF (fs : List (Nat × Nat × Bool)) : List D → List (Nat × D) → Option (List D × Prop)
  | cs, [] => some (cs, True)
  | cs, (i, d) :: r => match fs[i]?, cellsD d with
    | some (off, sz, _), some ns => match buildF fs (setL cs off ns) r with
      | some (x, c) => some (x, ns.length = sz ∧ off + ns.length ≤ cs.length ∧ c)
      | none => none
    | _, _ => none
def buildE (ti : TI) (ps : List (Nat × D)) : Res :=
  match ti.sh with
  | .struct fs => match buildF fs (ti.zero.map ofV) ps with
    | some (cs, c) => pvc (.agg cs) c
    | none => none
  | _ => none

theorem foldl_set_cells (off : Nat) : ∀ (vs : List Value) (j : Nat) (us : Array Value), (vs.zipIdx j).foldl (fun cs (p : Value × Nat) => cs.setIfInBounds (off + p.2) p.1) us = us ∨ True := fun _ _ _ => .inr trivial

theorem fill_step (off : Nat) : ∀ (vs : List Value) (j : Nat) (us : List Value), off + j + vs.length ≤ us.length →
    ((vs.zipIdx j).foldl (fun (cs : Array Value) (p : Value × Nat) => cs.setIfInBounds (off + p.2) p.1) us.toArray) = (setL us (off + j) vs).toArray
  | [], j, us, _ => by simp [setL]
  | v :: vs, j, us, hl => by
    simp only [List.length_cons] at hl
    simp only [List.zipIdx_cons, List.foldl_cons, List.setIfInBounds_toArray]
    rw [fill_step off vs (j + 1) (us.set (off + j) v) (by simp; omega)]
    congr 1
    apply List.ext_getElem?
    intro i
    rw [setL_get (by simp; omega), setL_get (by simp; omega)]
    simp only [List.length_cons, List.getElem?_set]
    by_cases h2 : i < off + j
    · rw [if_pos (by omega), if_pos h2, if_neg (by omega)]
    · rw [if_neg h2]
      by_cases h3 : i = off + j
      · subst h3
        rw [if_pos (by omega), if_pos rfl, if_pos (by omega), if_pos (by omega)]
        simp
      · rw [if_neg (by omega)]
        by_cases h4 : i < off + (j + 1) + vs.length
        · rw [if_pos h4, if_pos (by omega)]
          have : i - (off + j) = (i - (off + (j + 1))) + 1 := by omega
          rw [this]; rfl
        · rw [if_neg h4, if_neg (by omega), if_neg (by omega)]

theorem rep_setL {cs ns : List D} {us vs : List Value} {off : Nat} (hl : us.length = cs.length) (hv : vs.length = ns.length) (hle : off + ns.length ≤ cs.length) (h1 : ∀ i, i < cs.length → Rep w I mu (nd cs i) (nv us i)) (h2 : ∀ i, i < ns.length → Rep w I mu (nd ns i) (nv vs i)) :
    ∀ i, i < (setL cs off ns).length → Rep w I mu (nd (setL cs off ns) i) (nv (setL us off vs) i) := by
  intro i hi
  rw [setL_length hle] at hi
  rw [nd_setL hle, nv_setL (by omega), hv]
  by_cases g1 : i < off
  · simp only [if_pos g1]; exact h1 i hi
  · simp only [if_neg g1]
    by_cases g2 : i < off + ns.length
    · simp only [if_pos g2]; exact h2 _ (by omega)
    · simp only [if_neg g2]; exact h1 i hi

theorem run_fill {fs : List (Nat × Nat × Bool)} : ∀ (ds : List (Nat × D)) (vs : List (Nat × Value)) (cs : List D) (us : List Value) (x : List D) (c : Prop), buildF fs cs ds = some (x, c) → c → vs.length = ds.length →
    (∀ (i : Nat) (p : Nat × D) (q : Nat × Value), ds[i]? = some p → vs[i]? = some q → p.1 = q.1 ∧ Rep w I mu p.2 q.2) → us.length = cs.length → (∀ i, i < cs.length → Rep w I mu (nd cs i) (nv us i)) →
    ∃ us', Instr.fill (fun i => (fs.map fun y => (y.1, y.2.1))[i]?) us.toArray vs = some us'.toArray ∧ us'.length = x.length ∧ ∀ i, i < x.length → Rep w I mu (nd x i) (nv us' i)
  | [], [], cs, us, x, c, hb, _, _, _, hl, hr => by
    simp only [buildF, Option.some.injEq, Prod.mk.injEq] at hb
    obtain ⟨rfl, _⟩ := hb
    exact ⟨us, by simp [Instr.fill], hl, hr⟩
  | [], _ :: _, _, _, _, _, _, _, hv, _, _, _ => by simp at hv
  | _ :: _, [], _, _, _, _, _, _, hv, _, _, _ => by simp at hv
  | (i, d) :: ds, (i', v) :: vs, cs, us, x, c, hb, hc, hv, hp, hl, hr => by
    simp only [buildF] at hb
    split at hb
    · rename_i off sz ag ns hfi hns
      split at hb
      · rename_i y c' hb'
        simp only [Option.some.injEq, Prod.mk.injEq] at hb
        obtain ⟨rfl, rfl⟩ := hb
        obtain ⟨hsz, hle, hc'⟩ := hc
        obtain ⟨he, hrep⟩ := hp 0 (i, d) (i', v) rfl rfl
        simp only at he hrep
        subst he
        obtain ⟨vs', hcs, hl', hrep', _⟩ := hrep.cells hns
        have hcz : v.cells.size = sz := by
          have : v.cells.toList.length = vs'.length := by rw [hcs]
          simp only [Array.length_toList] at this
          omega
        obtain ⟨us', h1, h2, h3⟩ := run_fill ds vs (setL cs off ns) (setL us off vs') y c' hb' hc' (by simpa using hv) (fun j p q hp' hq' => hp (j + 1) p q (by simpa using hp') (by simpa using hq'))
          (by rw [setL_length (by omega), setL_length hle, hl]) (rep_setL hl hl' hle hr hrep')
        refine ⟨us', ?_, h2, h3⟩
        have hget : (fs.map fun y => (y.1, y.2.1))[i]? = some (off, sz) := by simp [hfi]
        simp only [Instr.fill, hget, hcz, ne_eq, not_true_eq_false, decide_false, Bool.false_or, List.size_toArray]
        have hlen : us.length = cs.length := hl
        rw [if_neg (by simp; omega)]
        have hz : (v.cells.zipIdx.foldl (fun (cs : Array Value) (p : Value × Nat) => cs.setIfInBounds (off + p.2) p.1) us.toArray) = (setL us off vs').toArray := by
          rw [← Array.foldl_toList, Array.toList_zipIdx, hcs]
          have := fill_step off vs' 0 us (by omega)
          simpa using this
        exact (congrArg (fun z => Instr.fill (fun i => (fs.map fun y => (y.1, y.2.1))[i]?) z vs) hz).trans h1
      · cases hb
    · cases hb

theorem runs_build {t : TypeId} {ti : TI} (ht : tiOf P t = some ti) {ds : List (Nat × D)} {e : Eff} {c : Prop} (he : buildE ti ds = some (e, c)) (hc : c) (hr : WRel w0 M0 I0 fr I mu h w) (vs : List (Nat × Value)) (hv : vs.length = ds.length)
    (hp : ∀ (i : Nat) (p : Nat × D) (q : Nat × Value), ds[i]? = some p → vs[i]? = some q → p.1 = q.1 ∧ Rep w I mu p.2 q.2) (id : Nat) :
    Runs P (fun w => (Instr.build t vs.toArray).run P w) id e.d e.up w0 M0 I0 fr I mu h w := by
  unfold buildE at he
  split at he
  · rename_i fs hfs
    split at he
    · rename_i cs c' hb
      simp only [pvc, Option.some.injEq, Prod.mk.injEq] at he
      obtain ⟨rfl, rfl⟩ := he
      obtain ⟨l, hl1, hl2⟩ := ti_struct ht hfs
      obtain ⟨i, d, z, h1, h2, h3, h4, h5, h6, h7, h8⟩ := tiOf_spec ht
      obtain ⟨us', g1, g2, g3⟩ := run_fill (w := w) (I := I) (mu := mu) ds vs (ti.zero.map ofV) ti.zero cs c' hb hc hv hp (by simp) (fun i hi => by
        simp only [List.length_map] at hi
        have : nd (ti.zero.map ofV) i = ofV (nv ti.zero i) := by simp [nd, nv, List.getD_eq_getElem?_getD, hi]
        rw [this]; exact rep_ofV _ _ _ _)
      refine Runs.same hr (.agg us'.toArray) (run_build w t vs.toArray us'.toArray ?_) (.agg _ _ g2 g3)
      have hza : z.cells = ti.zero.toArray := by rw [← h6]
      have hpl := mapM_places hl2
      have g1' : Instr.fill (fun x => Option.map (fun y => (y.fst, y.snd.fst)) fs[x]?) ti.zero.toArray vs = some us'.toArray := by simpa using g1
      simp [Program.built, h1, hl1, h3, hpl, hza, g1']
    · cases he
  · cases he

/-! parts and fields -/
def fieldE (ti : TI) (i : Nat) : D → Res
  | .agg cs => match ti.sh with
    | .struct fs => match fs[i]? with
      | some (off, sz, ag) => bif ag then pvc (.agg ((cs.drop off).take sz)) (off + sz ≤ cs.length) else pvc (nd cs off) (off < cs.length)
      | none => none
    | _ => none
  | _ => none
theorem runs_field {t : TypeId} {ti : TI} (ht : tiOf P t = some ti) {i : Nat} {d : D} {e : Eff} {c : Prop} (he : fieldE ti i d = some (e, c)) (hc : c) (hr : WRel w0 M0 I0 fr I mu h w) {v : Value} (hv : Rep w I mu d v) (id : Nat) :
    Runs P (fun w => (Instr.field t v i).run P w) id e.d e.up w0 M0 I0 fr I mu h w := by
  cases d with
  | agg cs =>
    simp only [fieldE] at he
    split at he
    · rename_i fs hfs
      split at he
      · rename_i off sz ag hfi
        obtain ⟨l, hl1, hl2⟩ := ti_struct ht hfs
        obtain ⟨f, hf1, hf2⟩ := mapM_get hl2 i _ hfi
        obtain ⟨us, rfl, hlu, hrep⟩ := hv.agg_inv
        have hfa : l[i]? = some f := by simpa using hf1
        unfold fieldOf at hf2
        split at hf2
        · rename_i inf dsc hinf hdsc
          simp only [Option.some.injEq, Prod.mk.injEq] at hf2
          obtain ⟨rfl, rfl, rfl⟩ := hf2
          have hag : (isAgg f.type).run P w = .ok (aggOf dsc) w := by
            simp only [isAgg, Sem.run_bind, run_underlying hdsc, Result.andThen]
            cases dsc <;> rfl
          have hsz : (sizeOf f.type).run P w = .ok inf.size w := by simp [sizeOf, typeInfo, hinf]
          cases ha : aggOf dsc <;> simp only [ha, cond_true, cond_false, pvc, Option.some.injEq, Prod.mk.injEq] at he <;> obtain ⟨rfl, rfl⟩ := he
          · rw [ha] at hag
            refine Runs.same hr (nv us f.offset) ?_ (hrep _ hc)
            simp only [Instr.field, Sem.run_bind, run_underlying hl1, Result.andThen, hfa, asAgg, Sem.run_pure, part, hag]
            simp [nv, List.getD_eq_getElem?_getD, show f.offset < us.length by omega]
          · rw [ha] at hag
            refine Runs.same hr (.agg ((us.drop f.offset).take inf.size).toArray) ?_ (.agg _ _ (by simp; omega) fun j hj => ?_)
            · simp only [Instr.field, Sem.run_bind, run_underlying hl1, Result.andThen, hfa, asAgg, Sem.run_pure, part, hag]
              simp [hsz]
            · simp only [List.length_take, List.length_drop] at hj
              have e1 : nd ((cs.drop f.offset).take inf.size) j = nd cs (f.offset + j) := by
                simp only [nd, List.getD_eq_getElem?_getD]; rw [List.getElem?_take_of_lt (by omega), List.getElem?_drop]
              have e2 : nv ((us.drop f.offset).take inf.size) j = nv us (f.offset + j) := by
                simp only [nv, List.getD_eq_getElem?_getD]; rw [List.getElem?_take_of_lt (by omega), List.getElem?_drop]
              rw [e1, e2]
              exact hrep _ (by omega)
        · cases hf2
      · cases he
    · cases he
  | _ => simp [fieldE] at he

def fieldAddrE (ti : TI) (i : Nat) (d : D) : Res :=
  match ti.sh with
  | .struct fs => match fs[i]? with
    | some (off, sz, _) => match d with
      | .ptr cs o => pvc (.ptr cs (o + off)) (sz ≠ 0)
      | .ref b r o s => pvc (.ref b r (o + off) s) (sz ≠ 0)
      | _ => none
    | none => none
  | _ => none
theorem runs_fieldAddr {t : TypeId} {ti : TI} (ht : tiOf P t = some ti) {i : Nat} {d : D} {e : Eff} {c : Prop} (he : fieldAddrE ti i d = some (e, c)) (hc : c) (hr : WRel w0 M0 I0 fr I mu h w) {v : Value} (hv : Rep w I mu d v) (id : Nat) :
    Runs P (fun w => (Instr.fieldAt t v i).run P w) id e.d e.up w0 M0 I0 fr I mu h w := by
  unfold fieldAddrE at he
  split at he
  · rename_i fs hfs
    split at he
    · rename_i off sz ag hfi
      obtain ⟨l, hl1, hl2⟩ := ti_struct ht hfs
      obtain ⟨f, hf1, hf2⟩ := mapM_get hl2 i _ hfi
      have hfa : l[i]? = some f := by simpa using hf1
      unfold fieldOf at hf2
      split at hf2
      · rename_i inf dsc hinf hdsc
        simp only [Option.some.injEq, Prod.mk.injEq] at hf2
        obtain ⟨rfl, rfl, rfl⟩ := hf2
        have hsz : (sizeOf f.type).run P w = .ok inf.size w := by simp [sizeOf, typeInfo, hinf]
        have run : ∀ k o, inf.size ≠ 0 → (Instr.fieldAt t (.pointer (some ⟨k, o, none⟩)) i).run P w = .ok (.pointer (some ⟨k, o + f.offset, none⟩)) w := by
          intro k o hne
          simp [Instr.fieldAt, run_underlying hl1, hfa, Instr.sureAddr, fieldPlace, hsz, hne, addr_add]
        split at he
        · rename_i cs o
          simp only [pvc, Option.some.injEq, Prod.mk.injEq] at he
          obtain ⟨rfl, rfl⟩ := he
          cases hv with
          | ptr _ _ k b u hI hcell hrep =>
            exact Runs.same hr _ (run k (b + o) hc) (by rw [Nat.add_assoc]; exact .ptr cs (o + f.offset) k b u hI hcell hrep)
        · rename_i b r o s
          simp only [pvc, Option.some.injEq, Prod.mk.injEq] at he
          obtain ⟨rfl, rfl⟩ := he
          cases hv with
          | ref _ _ _ _ k hk => exact Runs.same hr _ (run k (r * s + o) hc) (by rw [Nat.add_assoc]; exact .ref b r (o + f.offset) s k hk)
        · cases he
      · cases hf2
    · cases he
  · cases he

/-! indexing -/
def indexAddrE (ti te : TI) : D → D → Res
  | .slice es _, .val (.int _ n) => pvc (.ptr (nr es n.toNat) 0) (0 ≤ n ∧ n < es.length ∧ (nr es n.toNat).length = te.sz)
  | .sref b i len _ sz, .val (.int _ n) => pvc (.ref b (i + n.toNat) 0 sz) (0 ≤ n ∧ n < len ∧ sz = te.sz)
  | _, _ => none
theorem runs_indexAddr {t e' : TypeId} {ti te : TI} (ht : tiOf P t = some ti) (hs : ti.sh = .slice e') (hte : tiOf P e' = some te) {d i : D} {e : Eff} {c : Prop} (he : indexAddrE ti te d i = some (e, c)) (hc : c) (hr : WRel w0 M0 I0 fr I mu h w) {v x : Value} (hv : Rep w I mu d v) (hx : Rep w I mu i x) (id : Nat) :
    Runs P (fun w => (Instr.indexAt t v x).run P w) id e.d e.up w0 M0 I0 fr I mu h w := by
  have hu := run_slice_elem ht hs
  unfold indexAddrE at he
  split at he
  · rename_i es tg k n
    simp only [pvc, Option.some.injEq, Prod.mk.injEq] at he
    obtain ⟨rfl, rfl⟩ := he
    obtain ⟨h0, h1, h2⟩ := hc
    have hxv := hx.val_inv
    subst hxv
    cases hv with
    | slice _ _ A k' o sz cap u hA hcp htg hm hlen hcell hrep =>
      have hpos : 0 < es.length := by omega
      obtain ⟨rfl, hI⟩ := hA hpos
      have hn : n.toNat < es.length := by omega
      have hsz : sz = te.sz := by rw [← h2]; exact (hlen _ hn).symm
      refine Runs.same hr (.pointer (some ⟨k', o + n.toNat * sz + 0, none⟩)) ?_ (.ptr _ 0 k' (o + n.toNat * sz) (fun j => u n.toNat j) hI (fun j hj => ?_) fun j hj => ?_)
      · subst hsz
        simp [Instr.indexAt, asIntOf, run_underlying hu, run_sizeOf' hte, h0, h1, addr_add]
      · rw [hlen _ hn] at hj
        rw [Nat.add_assoc]; exact hcell _ j hn hj
      · rw [hlen _ hn] at hj
        exact hrep _ j hn hj
  · rename_i b i len cap sz k n
    simp only [pvc, Option.some.injEq, Prod.mk.injEq] at he
    obtain ⟨rfl, rfl⟩ := he
    obtain ⟨h0, h1, h2⟩ := hc
    have hxv := hx.val_inv
    subst hxv
    cases hv with
    | sref _ _ _ _ _ k' hk =>
      refine Runs.same hr (.pointer (some ⟨k', (i + n.toNat) * sz + 0, none⟩)) ?_ (.ref b (i + n.toNat) 0 sz k' hk)
      subst h2
      simp [Instr.indexAt, asIntOf, run_underlying hu, run_sizeOf' hte, h0, h1, addr_add, Nat.add_mul]
  · cases he

/-- Byte n of a text. -/
def strAt (s : ByteArray) (n : Int) : Int := ((s.data.toList.getD n.toNat 0).toNat : Int)
theorem strAt_ok (s : ByteArray) (n : Int) : okP (.int .u8 (strAt s n)) := by
  have := (s.data.toList.getD n.toNat 0).toNat_lt
  simp only [okP, strAt, imin, imax]; omega
def indexE (ti : TI) : D → D → Res
  | .val (.string s), .val (.int _ n) => match ti.sh with
    | .str => pvc (.val (.int .u8 (strAt s n))) (0 ≤ n ∧ n < s.size)
    | _ => none
  | _, _ => none
theorem runs_index {t : TypeId} {ti : TI} (ht : tiOf P t = some ti) {d i : D} {e : Eff} {c : Prop} (he : indexE ti d i = some (e, c)) (hc : c) (hr : WRel w0 M0 I0 fr I mu h w) {v x : Value} (hv : Rep w I mu d v) (hx : Rep w I mu i x) (id : Nat) :
    Runs P (fun w => (Instr.index t v x).run P w) id e.d e.up w0 M0 I0 fr I mu h w := by
  unfold indexE at he
  split at he
  · rename_i s k n
    split at he
    · rename_i hsh
      simp only [pvc, Option.some.injEq, Prod.mk.injEq] at he
      obtain ⟨rfl, rfl⟩ := he
      have hxv := hx.val_inv
      have hvv := hv.val_inv
      subst hxv hvv
      obtain ⟨h0, h1⟩ := hc
      have hlt : n.toNat < s.size := by omega
      refine Runs.same hr _ ?_ (.val _ (strAt_ok _ _))
      have : s[n.toNat]? = some s[n.toNat] := getElem?_pos s n.toNat hlt
      have hb : s[n.toNat] = s.data.toList.getD n.toNat 0 := by
        have hlt' : n.toNat < s.data.size := hlt
        simp only [List.getD_eq_getElem?_getD, Array.getElem?_toList, Array.getElem?_eq_getElem hlt', Option.getD_some]
        rfl
      simp only [Instr.index, asIntOf, Sem.run_bind, Sem.run_pure, Result.andThen, run_underlying (ti_str ht hsh), h0, if_true, this, strAt, hb]
    · cases he
  · cases he
end
end Go.Ab
