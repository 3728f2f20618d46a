/- Plain data: entries, mutators, logs, views; their cells. -/
import Derived.Test.YtjopicjammmbjaaGreatDoorFnV
set_option maxHeartbeats 4000000
set_option maxRecDepth 20000
set_option linter.unusedVariables false
set_option linter.unusedSimpArgs false
namespace Go.Ab
open Go.Proofs
abbrev GE := ByteArray × GV
inductive GM where
  | mk (kind : Int) (key to : ByteArray) (n : Int) (had : Bool) (was : GV) (has : Bool) (value : GV) (list : List GM)
namespace GM
def kind : GM → Int | mk k _ _ _ _ _ _ _ _ => k
def key : GM → ByteArray | mk _ k _ _ _ _ _ _ _ => k
def to : GM → ByteArray | mk _ _ t _ _ _ _ _ _ => t
def n : GM → Int | mk _ _ _ n _ _ _ _ _ => n
def had : GM → Bool | mk _ _ _ _ h _ _ _ _ => h
def was : GM → GV | mk _ _ _ _ _ w _ _ _ => w
def has : GM → Bool | mk _ _ _ _ _ _ h _ _ => h
def value : GM → GV | mk _ _ _ _ _ _ _ v _ => v
def list : GM → List GM | mk _ _ _ _ _ _ _ _ l => l
theorem list_lt {x m : GM} (h : x ∈ m.list) : SizeOf.sizeOf x < SizeOf.sizeOf m := by
  cases m with
  | mk k a b n h1 w h2 v l => have := List.sizeOf_lt_of_mem (show x ∈ l from h); simp; omega
end GM
mutual
def encU : GM → List D
  | .mk k a b n h w i v l => [.val (.int .i64 k), .val (.string a), .val (.string b), .val (.int .i64 n), .val (.bool h)] ++ encV w ++ [.val (.bool i)] ++ encV v ++ [.slice (encUs l) false]
def encUs : List GM → List (List D)
  | [] => []
  | m :: l => encU m :: encUs l
end
theorem encUs_map : ∀ l : List GM, encUs l = l.map encU
  | [] => rfl
  | v :: l => by simp [encUs, encUs_map l]
/-- A mutator's cells, by its parts. -/
theorem encU_eq (m : GM) : encU m = [.val (.int .i64 m.kind), .val (.string m.key), .val (.string m.to), .val (.int .i64 m.n), .val (.bool m.had)] ++ encV m.was ++ [.val (.bool m.has)] ++ encV m.value ++ [.slice (m.list.map encU) false] := by
  cases m; simp only [encU, encUs_map, GM.kind, GM.key, GM.to, GM.n, GM.had, GM.was, GM.has, GM.value, GM.list]
theorem pureL_append : ∀ (a b : List D), pureL (a ++ b) = (pureL a && pureL b)
  | [], b => by simp [pureL]
  | d :: a, b => by simp [pureL, pureL_append a b, Bool.and_assoc]
mutual
theorem encU_pure : ∀ m : GM, pureL (encU m) = true
  | .mk k a b n h w i v l => by simp only [encU, pureL_append, pureL, D.pure, encV_pure, encUs_pure l, Bool.and_self]
theorem encUs_pure : ∀ l : List GM, pureLL (encUs l) = true
  | [] => rfl
  | m :: l => by simp only [encUs, pureLL, encU_pure m, encUs_pure l, Bool.and_self]
end
theorem encU_length (m : GM) : (encU m).length = 19 := by rw [encU_eq]; simp [encV_length]
theorem encUL_pure (l : List GM) : pureLL (l.map encU) = true := pureLL_map encU_pure l
theorem encU_all (m : GM) : (encU m).all oneD = true := by rw [encU_eq]; simp only [List.all_append, encV_all]; rfl
theorem take_encU (m : GM) : (encU m).take 19 = encU m := List.take_of_length_le (by rw [encU_length]; exact Nat.le_refl _)
def zU : GM := .mk 0 ByteArray.empty ByteArray.empty 0 false zV false zV []
theorem nr_encU {l : List GM} {i : Nat} (h : i < l.length) : nr (l.map encU) i = encU (l.getD i zU) := nr_mapD zU h
attribute [push_cast] encU_pure encUL_pure encU_length encU_all take_encU encM_len take_encM

structure GN where
  id : Int
  m : GM
def encN (x : GN) : List D := .val (.int .u64 x.id) :: encU x.m
theorem encN_eq (x : GN) : encN x = .val (.int .u64 x.id) :: encU x.m := rfl
theorem encN_pure (x : GN) : pureL (encN x) = true := by simp only [encN, pureL, D.pure, encU_pure, Bool.and_self]
theorem encN_length (x : GN) : (encN x).length = 20 := by simp [encN, encU_length]
theorem encNL_pure (l : List GN) : pureLL (l.map encN) = true := pureLL_map encN_pure l
theorem encN_all (x : GN) : (encN x).all oneD = true := by simp only [encN, List.all_cons, encU_all]; rfl
theorem take_encN (x : GN) : (encN x).take 20 = encN x := List.take_of_length_le (by rw [encN_length]; exact Nat.le_refl _)
def zN : GN := ⟨0, zU⟩
theorem nr_encN {l : List GN} {i : Nat} (h : i < l.length) : nr (l.map encN) i = encN (l.getD i zN) := nr_mapD zN h
attribute [push_cast] encN_pure encNL_pure encN_length encN_all take_encN

structure GR where
  version : Int
  client : Int
  id : Int
  m : GM
  code : Int
def encR (x : GR) : List D := [.val (.int .u64 x.version), .val (.int .u64 x.client), .val (.int .u64 x.id)] ++ encU x.m ++ [.val (.int .i64 x.code)]
theorem encR_eq (x : GR) : encR x = [.val (.int .u64 x.version), .val (.int .u64 x.client), .val (.int .u64 x.id)] ++ encU x.m ++ [.val (.int .i64 x.code)] := rfl
theorem encR_pure (x : GR) : pureL (encR x) = true := by simp only [encR, pureL_append, pureL, D.pure, encU_pure, Bool.and_self]
theorem encR_length (x : GR) : (encR x).length = 23 := by simp [encR, encU_length]
theorem encRL_pure (l : List GR) : pureLL (l.map encR) = true := pureLL_map encR_pure l
theorem encR_all (x : GR) : (encR x).all oneD = true := by simp only [encR, List.all_append, encU_all]; rfl
theorem take_encR (x : GR) : (encR x).take 23 = encR x := List.take_of_length_le (by rw [encR_length]; exact Nat.le_refl _)
def zR : GR := ⟨0, 0, 0, zU, 0⟩
theorem nr_encR {l : List GR} {i : Nat} (h : i < l.length) : nr (l.map encR) i = encR (l.getD i zR) := nr_mapD zR h
attribute [push_cast] encR_pure encRL_pure encR_length encR_all take_encR

structure GI where
  client : Int
  cookie : Int
  last : Int
  next : Int
  base : List GE
  pending : List GN
structure GW where
  image : GI
  head : List GE
  saved : Int
def encI (x : GI) : List D := [.val (.int .u64 x.client), .val (.int .u64 x.cookie), .val (.int .u64 x.last), .val (.int .u64 x.next), .slice (x.base.map encM) false, .slice (x.pending.map encN) false]
def encW (x : GW) : List D := [.val (.int .u64 x.image.client), .val (.int .u64 x.image.cookie), .val (.int .u64 x.image.last), .val (.int .u64 x.image.next), .slice (x.image.base.map encM) false, .slice (x.image.pending.map encN) false, .slice (x.head.map encM) false, .val (.int .u64 x.saved)]
theorem encW_pure (x : GW) : pureL (encW x) = true := by simp only [encW, pureL, D.pure, encO_pure, encNL_pure, Bool.and_self]
theorem encW_length (x : GW) : (encW x).length = 8 := rfl
theorem encWL_pure (l : List GW) : pureLL (l.map encW) = true := pureLL_map encW_pure l
def zW : GW := ⟨⟨0, 0, 0, 0, [], []⟩, [], 0⟩
theorem nr_encW {l : List GW} {i : Nat} (h : i < l.length) : nr (l.map encW) i = encW (l.getD i zW) := nr_mapD zW h
attribute [push_cast] encW_pure encWL_pure encW_length
structure GS where
  version : Int
  map : List GE
  ran : List GR
def encS (x : GS) : List D := [.val (.int .u64 x.version), .slice (x.map.map encM) false, .slice (x.ran.map encR) false]
theorem encS_pure (x : GS) : pureL (encS x) = true := by simp only [encS, pureL, D.pure, encO_pure, encRL_pure, Bool.and_self]
theorem encS_all (x : GS) : (encS x).all oneD = true := rfl
theorem encS_length (x : GS) : (encS x).length = 3 := rfl
theorem take_encS (x : GS) : (encS x).take 3 = encS x := rfl
theorem encW_all (x : GW) : (encW x).all oneD = true := rfl
theorem take_encW (x : GW) : (encW x).take 8 = encW x := rfl
attribute [push_cast] encS_pure encS_all encS_length take_encS encW_all take_encW
end Go.Ab
