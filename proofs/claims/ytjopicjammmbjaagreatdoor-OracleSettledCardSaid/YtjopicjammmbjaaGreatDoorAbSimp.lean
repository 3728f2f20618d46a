/- The abstract layer, part 14: what the evaluator is unfolded by. -/
import Derived.Test.YtjopicjammmbjaaGreatDoorAbTab
set_option maxHeartbeats 4000000
set_option maxRecDepth 20000
set_option linter.unusedVariables false
set_option linter.unusedSimpArgs false
namespace Go.Ab
attribute [push_cast] GoS_nil GoS_none GoS_some goOn_some goOn_none gwork_val gpick_true gpick_false gD rawE pickL stepE stepE.ti0 callE tq elemQ pv pvc allocE boxE buildE buildF buildSE buildSL loadE storeE nilE binE nilD intBin strBin unE convE fieldE fieldAddrE indexAddrE indexE sliceE bnd extractE makeE lenE minE maxE appendE newsD cellsD oneD
  evO Env_get_nil Env_get_cons dpick_true dpick_false look upd del updL St.app gOf guardT frz resD resOne RetQ D.pure pureL pureLL argEnv seqQ blockQ Value.oneCell'

theorem lo_self (d : D) : lo d d = True := eq_true (lo_refl d)
theorem loL_self (d : List D) : loL d d = True := eq_true (loL_refl d)
theorem loLL_self (d : List (List D)) : loLL d d = True := eq_true (loLL_refl d)
theorem loB_self (x : Blk) : loB x x = True := eq_true (loB_refl x)
theorem lo_slice (es es' : List (List D)) (t t' : Bool) : lo (.slice es t) (.slice es' t') = (loLL es es' ∧ (t' = true → t = true)) := by simp only [lo]
theorem lo_agg (cs cs' : List D) : lo (.agg cs) (.agg cs') = loL cs cs' := by simp only [lo]
theorem lo_tup (cs cs' : List D) : lo (.tup cs) (.tup cs') = loL cs cs' := by simp only [lo]
theorem lo_iface (t t' : TypeId) (d d' : D) : lo (.iface t d) (.iface t' d') = (t = t' ∧ lo d d') := by simp only [lo]
theorem lo_ptr (cs cs' : List D) (o o' : Nat) : lo (.ptr cs o) (.ptr cs' o') = (o = o' ∧ loL cs cs') := by simp only [lo]
theorem lo_any (d : D) : lo d .any = True := by cases d <;> simp [lo]
theorem lo_val (v v' : Value) : lo (.val v) (.val v') = (v = v') := by simp [lo]
attribute [push_cast] lo_slice lo_agg lo_tup lo_iface lo_ptr lo_any lo_val Value.int.injEq Value.bool.injEq Value.string.injEq or_true true_or
attribute [push_cast] loB loB_self loL loLL lo_self loL_self loLL_self
theorem nd_zero (d : D) (r : List D) : nd (d :: r) 0 = d := rfl
theorem nd_succ (d : D) (r : List D) (i : Nat) : nd (d :: r) (i + 1) = nd r i := rfl
theorem nr_zero (d : List D) (r : List (List D)) : nr (d :: r) 0 = d := rfl
theorem nr_succ (d : List D) (r : List (List D)) (i : Nat) : nr (d :: r) (i + 1) = nr r i := rfl
theorem ofV_int (k : IntKind) (n : Int) : ofV (.int k n) = bif decide (imin k ≤ n) && decide (n ≤ imax k) then .val (.int k n) else .any := rfl
theorem ofV_bool (b : Bool) : ofV (.bool b) = .val (.bool b) := rfl
theorem ofV_string (a : Array UInt8) : ofV (.string ⟨a⟩) = bif decide (a.size ≤ 9223372036854775807) then .val (.string ⟨a⟩) else .any := rfl
attribute [push_cast] imin imax
theorem ofV_nilslice : ofV (.slice none 0 0) = .slice [] true := rfl
theorem ofV_pointer (p : Option Addr) : ofV (.pointer p) = .val (.pointer p) := rfl
theorem ofV_map (p : Option Nat) : ofV (.map p) = .val (.map p) := rfl
theorem ofV_nilFunc : ofV .nilFunc = .val .nilFunc := rfl
theorem ofV_nilIface : ofV .nilIface = .val .nilIface := rfl
theorem setL_zero {α : Type} (xs ys : List α) : setL xs 0 ys = ys ++ xs.drop ys.length := by simp [setL]
theorem setL_succ {α : Type} (x : α) (xs ys : List α) (n : Nat) : setL (x :: xs) (n + 1) ys = x :: setL xs n ys := by
  simp [setL, Nat.add_right_comm]
attribute [push_cast] nd_zero nd_succ nr_zero nr_succ ofV_int ofV_bool ofV_string ofV_nilslice ofV_pointer ofV_map ofV_nilFunc ofV_nilIface setL_zero setL_succ
attribute [push_cast] cond_true cond_false List.map_cons List.map_nil List.length_cons List.length_nil List.getElem?_cons_zero List.getElem?_cons_succ List.getElem?_nil List.drop_zero List.drop_succ_cons List.drop_nil List.take_zero List.take_succ_cons List.take_nil
  List.cons_append List.nil_append List.append_nil List.set_cons_zero List.set_cons_succ List.replicate_succ List.replicate_zero List.all_cons List.all_nil Bool.and_true Bool.true_and Bool.and_self Bool.and_eq_true and_true true_and and_self ite_true ite_false if_true if_false eq_self
  List.reverse_cons List.reverse_nil List.foldl_cons List.foldl_nil Option.map_some Option.map_none Option.bind_some Option.bind_none Option.some.injEq Bool.false_eq_true List.getElem?_toArray List.size_toArray Option.isNone_none Option.isNone_some Bool.not_true Bool.not_false List.mapM_cons List.mapM_nil Option.pure_def Option.bind_eq_bind
  decide_true decide_false exists_eq_left exists_eq_left' not_true_eq_false not_false_eq_true forall_const
/-! what simp need not look into -/
def tick {α : Type} (x : α) : α := x
theorem tick_eq {α : Type} (x : α) : tick x = x := congrArg (fun y => y) rfl
attribute [push_cast] tick_eq

@[congr] theorem GoS_congr {P : Program} {ops : Array Oper} {nx : Nat} {l : List Oper} {pos : Nat} {acc : List Eff} {s s' : St} {K : List Eff → St → Prop} (h : tick s = s') : GoS P ops nx l pos acc s K = GoS P ops nx l pos acc s' K := by rw [← h]; rfl
@[congr] theorem RunXS_congr {P : Program} {ops : Array Oper} {nx : Nat} {l : List Oper} {pos : Nat} {acc : List Eff} {s s' : St} {K : List Eff → St → Prop} (h : tick s = s') : RunXS P ops nx l pos acc s K = RunXS P ops nx l pos acc s' K
:= by rw [← h]; rfl
@[congr] theorem goOn_congr {r r' : Option (Eff × Prop)} {go : Eff → Prop} {stuck : Prop} (h : tick r = r') : goOn r go stuck = goOn r' go stuck := by rw [← h]; rfl
@[congr] theorem gpick_congr {b b' : Bool} {go skip : St → Prop} {s : St} (h : tick b = b') : gpick b go skip s = gpick b' go skip s := by rw [← h]; rfl
@[congr] theorem gwork_congr {x x' : Option (Nat × D)} {want : Bool} {s : St} {go skip : St → Prop} {stuck : Prop} (h : tick x = x') : gwork x want s go skip stuck = gwork x' want s go skip stuck := by rw [← h]; rfl
@[congr] theorem dpick_congr {b b' : Bool} {d : D} {r : Env} {t : Nat} (h : tick b = b') : dpick b d r t = dpick b' d r t := by rw [← h]; rfl
@[congr] theorem gsplit_congr {ops : Array Oper} {g : Option (Nat × Bool)} {s s' : St} {go skip : St → Prop} {stuck : Prop} (h : tick s = s') : gsplit ops g s go skip stuck = gsplit ops g s' go skip stuck := by rw [← h]; rfl
@[congr] theorem bsplit_congr {b b' : Bool} {x y : Prop} (h : tick b = b') : bsplit b x y = bsplit b' x y := by rw [← h]; rfl
theorem bsplit_true (x y : Prop) : bsplit true x y = x := by simp [bsplit]
theorem bsplit_false (x y : Prop) : bsplit false x y = y := by simp [bsplit]
theorem bsplit_intro {b : Bool} {x y : Prop} (h : b = true → x) (k : b = false → y) : bsplit b x y := ⟨h, k⟩
attribute [push_cast] bsplit_true bsplit_false
@[congr] theorem AWp_congr {P : Program} {nt : Nat} {c : Code} {Q : AE → St → Prop} {s s' : St} (h : tick s = s') : AWp P nt c Q s = AWp P nt c Q s' := by rw [← h]; rfl
end Go.Ab
