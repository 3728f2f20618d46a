/- Plain data: texts, values; their cells. -/
import Derived.Test.YtjopicjammmbjaaGreatDoorAbTac
set_option maxHeartbeats 4000000
set_option maxRecDepth 20000
set_option linter.unusedVariables false
set_option linter.unusedSimpArgs false
namespace Go.Ab
open Go.Proofs

/-! texts -/
def bl (a : ByteArray) : List UInt8 := a.data.toList
def cmpL : List UInt8 → List UInt8 → Int
  | [], [] => 0
  | [], _ :: _ => -1
  | _ :: _, [] => 1
  | x :: a, y :: b => if x = y then cmpL a b else if x < y then -1 else 1
def cmpB (a b : ByteArray) : Int := cmpL (bl a) (bl b)
theorem bl_length (a : ByteArray) : (bl a).length = a.size := rfl
theorem bl_inj {a b : ByteArray} (h : bl a = bl b) : a = b := by
  cases a; cases b; simp only [bl] at h; congr; exact Array.ext' h
theorem strAt_bl (a : ByteArray) (i : Nat) : strAt a i = (((bl a).getD i 0).toNat : Int) := by simp [strAt, bl]
theorem wrap64 {n : Int} (h : -9223372036854775808 ≤ n) (k : n < 9223372036854775808) : IntKind.i64.wrap n = n := by
  simp only [IntKind.wrap, IntKind.bits, IntKind.signed]; simp; omega
theorem of_bne_false {α : Type} [BEq α] [LawfulBEq α] {a b : α} (h : (a != b) = false) : a = b := by simpa using h
theorem wrap_u8 (x : UInt8) : IntKind.i64.wrap (x.toNat : Int) = x.toNat := by
  have := x.toNat_lt
  exact wrap64 (by omega) (by omega)
theorem drop_getD {α : Type} {l : List α} {i : Nat} {d : α} (h : i < l.length) : l.drop i = l.getD i d :: l.drop (i + 1) := by
  rw [List.drop_eq_getElem_cons h, List.getD_eq_getElem?_getD, List.getElem?_eq_getElem h, Option.getD_some]
/-- The first i are alike. -/
theorem cmpL_drop : ∀ (a b : List UInt8) (i : Nat), i ≤ a.length → i ≤ b.length → (∀ j, j < i → a.getD j 0 = b.getD j 0) → cmpL a b = cmpL (a.drop i) (b.drop i)
  | _, _, 0, _, _, _ => by simp
  | [], _, i + 1, h, _, _ => by simp at h
  | _ :: _, [], i + 1, _, h, _ => by simp at h
  | x :: a, y :: b, i + 1, h, k, e => by
    have e0 := e 0 (by omega)
    simp only [List.getD_cons_zero] at e0
    subst e0
    simp only [cmpL, if_pos, List.drop_succ_cons]
    exact cmpL_drop a b i (by simpa using h) (by simpa using k) fun j hj => by simpa using e (j + 1) (by omega)
def numI (a b : Int) : Int := if a < b then -1 else if b < a then 1 else 0

/-! values -/
inductive GV where
  | mk (kind : Int) (b : Bool) (n : Int) (s : ByteArray) (list : List GV) (obj : List (ByteArray × GV))
namespace GV
def kind : GV → Int | mk k _ _ _ _ _ => k
def b : GV → Bool | mk _ b _ _ _ _ => b
def n : GV → Int | mk _ _ n _ _ _ => n
def s : GV → ByteArray | mk _ _ _ s _ _ => s
def list : GV → List GV | mk _ _ _ _ l _ => l
def obj : GV → List (ByteArray × GV) | mk _ _ _ _ _ o => o
theorem list_lt {x v : GV} (h : x ∈ v.list) : SizeOf.sizeOf x < SizeOf.sizeOf v := by
  cases v with
  | mk k b n s l o => have := List.sizeOf_lt_of_mem (show x ∈ l from h); simp; omega
theorem obj_lt {x : ByteArray × GV} {v : GV} (h : x ∈ v.obj) : SizeOf.sizeOf x.2 < SizeOf.sizeOf v := by
  cases v with
  | mk k b n s l o =>
    have := List.sizeOf_lt_of_mem (show x ∈ o from h)
    cases x; simp at this ⊢; omega
end GV
mutual
def encV : GV → List D
  | .mk k b n s l o => [.val (.int .i64 k), .val (.bool b), .val (.int .i64 n), .val (.string s), .slice (encVs l) false, .slice (encMs o) false]
def encVs : List GV → List (List D)
  | [] => []
  | v :: l => encV v :: encVs l
def encMs : List (ByteArray × GV) → List (List D)
  | [] => []
  | (k, v) :: l => (.val (.string k) :: encV v) :: encMs l
end
theorem encVs_map : ∀ l : List GV, encVs l = l.map encV
  | [] => rfl
  | v :: l => by simp [encVs, encVs_map l]
def encM (p : ByteArray × GV) : List D := .val (.string p.1) :: encV p.2
theorem encMs_map : ∀ l : List (ByteArray × GV), encMs l = l.map encM
  | [] => rfl
  | (k, v) :: l => by simp [encMs, encMs_map l, encM]
/-- A value's cells, by its parts. -/
theorem encV_eq (v : GV) : encV v = [.val (.int .i64 v.kind), .val (.bool v.b), .val (.int .i64 v.n), .val (.string v.s), .slice (v.list.map encV) false, .slice (v.obj.map encM) false] := by
  cases v; simp only [encV, encVs_map, encMs_map, GV.kind, GV.b, GV.n, GV.s, GV.list, GV.obj]
theorem encM_eq (p : ByteArray × GV) : encM p = .val (.string p.1) :: encV p.2 := rfl
mutual
theorem encV_pure : ∀ v : GV, pureL (encV v) = true
  | .mk k b n s l o => by simp only [encV, pureL, D.pure, encVs_pure l, encMs_pure o, Bool.and_self]
theorem encVs_pure : ∀ l : List GV, pureLL (encVs l) = true
  | [] => rfl
  | v :: l => by simp only [encVs, pureLL, encV_pure v, encVs_pure l, Bool.and_self]
theorem encMs_pure : ∀ l : List (ByteArray × GV), pureLL (encMs l) = true
  | [] => rfl
  | (k, v) :: l => by simp only [encMs, pureLL, pureL, D.pure, encV_pure v, encMs_pure l, Bool.and_self]
end
theorem encV_length (v : GV) : (encV v).length = 6 := by rw [encV_eq]; rfl
theorem pureLL_map {α : Type} {f : α → List D} (h : ∀ x, pureL (f x) = true) : ∀ l : List α, pureLL (l.map f) = true
  | [] => rfl
  | x :: l => by simp only [List.map_cons, pureLL, h x, pureLL_map h l, Bool.and_self]
theorem encL_pure (l : List GV) : pureLL (l.map encV) = true := pureLL_map encV_pure l
theorem encM_pure (p : ByteArray × GV) : pureL (encM p) = true := by simp only [encM, pureL, D.pure, encV_pure, Bool.and_self]
theorem encO_pure (l : List (ByteArray × GV)) : pureLL (l.map encM) = true := pureLL_map encM_pure l
/-- A cell of a list of things. -/
theorem nr_mapD {α : Type} {f : α → List D} {l : List α} {i : Nat} (d : α) (h : i < l.length) : nr (l.map f) i = f (l.getD i d) := by
  simp [nr, List.getD_eq_getElem?_getD, h]
abbrev zM : ByteArray × GV := (ByteArray.empty, .mk 0 false 0 ByteArray.empty [] [])
def zV : GV := .mk 0 false 0 ByteArray.empty [] []
theorem nr_encV {l : List GV} {i : Nat} (h : i < l.length) : nr (l.map encV) i = encV (l.getD i zV) := nr_mapD zV h
theorem nr_encM {l : List (ByteArray × GV)} {i : Nat} (h : i < l.length) : nr (l.map encM) i = encM (l.getD i zM) := nr_mapD _ h
theorem take_encV (v : GV) : (encV v).take 6 = encV v := List.take_of_length_le (by rw [encV_length]; exact Nat.le_refl _)
attribute [push_cast] take_encV encV_pure encL_pure encM_pure encO_pure encV_length List.length_map
theorem getD_mem {α : Type} {l : List α} {i : Nat} {d : α} (h : i < l.length) : l.getD i d ∈ l := by
  rw [List.getD_eq_getElem?_getD, List.getElem?_eq_getElem h]; exact List.getElem_mem h

/-- The first that tells, of the common part; else the lengths. -/
def cmpBy {α : Type} (f : α → α → Int) : List α → List α → Int
  | [], [] => 0
  | [], _ :: _ => -1
  | _ :: _, [] => 1
  | x :: a, y :: b => if f x y = 0 then cmpBy f a b else f x y
theorem cmpBy_drop {α : Type} (f : α → α → Int) (d : α) : ∀ (a b : List α) (i : Nat), i ≤ a.length → i ≤ b.length → (∀ j, j < i → f (a.getD j d) (b.getD j d) = 0) → cmpBy f a b = cmpBy f (a.drop i) (b.drop i)
  | _, _, 0, _, _, _ => by simp
  | [], _, i + 1, h, _, _ => by simp at h
  | _ :: _, [], i + 1, _, h, _ => by simp at h
  | x :: a, y :: b, i + 1, h, k, e => by
    have e0 := e 0 (by omega)
    simp only [List.getD_cons_zero] at e0
    simp only [cmpBy, if_pos e0, List.drop_succ_cons]
    exact cmpBy_drop f d a b i (by simpa using h) (by simpa using k) fun j hj => by simpa using e (j + 1) (by omega)
theorem cmpBy_end {α : Type} (f : α → α → Int) (d : α) (a b : List α) (i : Nat) (h : i ≤ a.length) (k : i ≤ b.length) (e : ∀ j, j < i → f (a.getD j d) (b.getD j d) = 0) (o : ¬ (i < a.length ∧ i < b.length)) : cmpBy f a b = numI a.length b.length := by
  rw [cmpBy_drop f d a b i h k e]
  by_cases ha : i < a.length
  · have : b.drop i = [] := List.drop_eq_nil_of_le (by omega)
    rw [this, drop_getD (d := d) ha]; grind [cmpBy, numI]
  · have h1 : a.drop i = [] := List.drop_eq_nil_of_le (by omega)
    rw [h1]
    by_cases hb : i < b.length
    · rw [drop_getD (d := d) hb]; grind [cmpBy, numI]
    · have : b.drop i = [] := List.drop_eq_nil_of_le (by omega)
      rw [this]; grind [cmpBy, numI]
theorem cmpBy_hit {α : Type} (f : α → α → Int) (d : α) (a b : List α) (i : Nat) (h : i < a.length) (k : i < b.length) (e : ∀ j, j < i → f (a.getD j d) (b.getD j d) = 0) (o : f (a.getD i d) (b.getD i d) ≠ 0) : cmpBy f a b = f (a.getD i d) (b.getD i d) := by
  rw [cmpBy_drop f d a b i (by omega) (by omega) e, drop_getD (d := d) h, drop_getD (d := d) k]
  simp only [cmpBy, if_neg o]
def boolI (a b : Bool) : Int := if a = b then 0 else if b then -1 else 1
/-- How values are ordered. -/
def cmpV : Nat → GV → GV → Int
  | 0, _, _ => 0
  | n + 1, v, u =>
    if v.kind ≠ u.kind then numI v.kind u.kind
    else if v.kind = 2 then boolI v.b u.b
    else if v.kind = 3 then numI v.n u.n
    else if v.kind = 4 then cmpB v.s u.s
    else if v.kind = 5 then cmpBy (cmpV n) v.list u.list
    else if v.kind = 6 then cmpBy (fun x y => if cmpB x.1 y.1 = 0 then cmpV n x.2 y.2 else cmpB x.1 y.1) v.obj u.obj
    else 0
/-- Members, by key, then value. -/
def cmpP (n : Nat) (x y : ByteArray × GV) : Int := if cmpB x.1 y.1 = 0 then cmpV n x.2 y.2 else cmpB x.1 y.1
theorem cmpV_succ (n : Nat) (v u : GV) : cmpV (n + 1) v u =
    if v.kind ≠ u.kind then numI v.kind u.kind
    else if v.kind = 2 then boolI v.b u.b
    else if v.kind = 3 then numI v.n u.n
    else if v.kind = 4 then cmpB v.s u.s
    else if v.kind = 5 then cmpBy (cmpV n) v.list u.list
    else if v.kind = 6 then cmpBy (cmpP n) v.obj u.obj
    else 0 := rfl
end Go.Ab
