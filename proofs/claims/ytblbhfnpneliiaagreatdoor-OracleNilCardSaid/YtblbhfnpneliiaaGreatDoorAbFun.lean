/- The abstract layer, part 13: running a region by the evaluator; functions and calls. -/
import Derived.Test.YtblbhfnpneliiaaGreatDoorAbEval
namespace Go.Ab
open Go.RowKit

/-! one operation -/
def pickL (env : Nat → D) (c x y : Operand) : Res :=
  match evO env c with
  | .val (.bool true) => pv (evO env x)
  | .val (.bool false) => pv (evO env y)
  | _ => none
def rawE (P : Program) (id : Nat) (env : Nat → D) (hp : Nat → Option Blk) (op : Op) : Res :=
  match op with
  | .pick c x y => pickL env c x y
  | op => stepE P id (evO env) hp op
def guardT (ops : Array Oper) (j : Nat) : Option Nat := (ops[j]?).bind (·.dst)
section
variable {P : Program} {ops : Array Oper} {id : Nat} {s0 : FSt} {e : Eff} {c : Prop}

theorem rawE_does {env : Nat → D} {hp : Nat → Option Blk} {dst : Option Tmp} {op : Op} {T : TypeId} {pos : String} {af : Array Edge} {gd : Option (Nat × Bool)} (he : rawE P id env hp op = some (e, c)) (hc : c) : Does P ⟨dst, op, T, pos, af, gd⟩ id (evO env) hp e := by
  unfold rawE at he
  split at he
  · rename_i x y z
    unfold pickL at he
    split at he
    · rename_i hx
      simp only [pv, Option.some.injEq, Prod.mk.injEq] at he; obtain ⟨rfl, rfl⟩ := he
      have := does_pick_lit (P := P) (id := id) (hp := hp) (dst := dst) (T := T) (pos := pos) (af := af) (gd := gd) x y z true hx
      simpa using this
    · rename_i hx
      simp only [pv, Option.some.injEq, Prod.mk.injEq] at he; obtain ⟨rfl, rfl⟩ := he
      have := does_pick_lit (P := P) (id := id) (hp := hp) (dst := dst) (T := T) (pos := pos) (af := af) (gd := gd) x y z false hx
      simpa using this
    · cases he
  · exact stepE_does he hc

end

/-- To run on, in a state that says the same. -/
def RunX (P : Program) (ops : Array Oper) (nx : Nat) (l : List Oper) (pos : Nat) (acc : List Eff) (s : St) (K : List Eff → St → Prop) : Prop := Run P ops nx l pos acc s (fun E s => ∃ s', s'.fs = s.fs ∧ K E s')
/-- Both ways, or the one that is known. -/
def bsplit (b : Bool) (x y : Prop) : Prop := (b = true → x) ∧ (b = false → y)
/-- What a guard tells: go, skip, or both with what is known then. -/
def gsplit (ops : Array Oper) (g : Option (Nat × Bool)) (s : St) (go skip : St → Prop) (stuck : Prop) : Prop :=
  match g with
  | none => go s
  | some (j, want) => match guardT ops j with
    | none => stuck
    | some t => match s.env.get t with
      | .val (.bool b) => bsplit b (bif want then go ⟨(t, .val (.bool true)) :: s.env, s.hp, s.nx⟩ else skip ⟨(t, .val (.bool true)) :: s.env, s.hp, s.nx⟩) (bif want then skip ⟨(t, .val (.bool false)) :: s.env, s.hp, s.nx⟩ else go ⟨(t, .val (.bool false)) :: s.env, s.hp, s.nx⟩)
      | _ => stuck
/-- The evaluator goes on as far as it can; what it takes for granted stands ahead. -/
def Go (P : Program) (ops : Array Oper) (nx : Nat) : List Oper → Nat → List Eff → St → (List Eff → St → Prop) → Prop
  | [], _, acc, s, K => K acc.reverse s
  | o :: r, pos, acc, s, K => gsplit ops o.guard s
      (fun s => match rawE P (nx + pos) s.env.get (look s.hp) o.op with
        | some (e, c) => c ∧ Go P ops nx r (pos + 1) (e :: acc) (s.app o.dst e) K
        | none => RunX P ops nx (o :: r) pos acc s K)
      (fun s => Go P ops nx r (pos + 1) (⟨.any, [], []⟩ :: acc) (s.app o.dst ⟨.any, [], []⟩) K)
      (RunX P ops nx (o :: r) pos acc s K)

theorem FSt.app_eq {s s' : St} (h : s'.fs = s.fs) (dst : Option Nat) (e : Eff) : (s'.app dst e).fs = (s.app dst e).fs := by
  rw [St.app_fs, St.app_fs, h]
theorem Run.same {P : Program} {ops : Array Oper} {nx : Nat} {K : List Eff → St → Prop} : ∀ {l : List Oper} {pos : Nat} {acc : List Eff} {s s' : St}, s'.fs = s.fs → RunX P ops nx l pos acc s' K → RunX P ops nx l pos acc s K
  | [], _, _, _, _, h, ⟨s'', h1, h2⟩ => ⟨s'', h1.trans h, h2⟩
  | o :: _, _, _, _, _, h, ⟨e, h1, h2⟩ => ⟨e, h ▸ h1, Run.same (FSt.app_eq h o.dst e) h2⟩
theorem push_same {s : St} {t : Nat} {d : D} (h : s.env.get t = d) : (⟨(t, d) :: s.env, s.hp, s.nx⟩ : St).fs = s.fs := by
  unfold St.fs
  congr 1
  funext u
  simp only [Env.get]
  by_cases hu : t = u
  · subst hu; simp [h]
  · have : (t == u) = false := by simp [hu]
    simp [this]
/-- What a guard decides. -/
theorem gsplit_spec {ops : Array Oper} {o : Oper} {s : St} {go skip : St → Prop} {stuck : Prop} (h : gsplit ops o.guard s go skip stuck) :
    stuck ∨ (∃ s', s'.fs = s.fs ∧ (o.guard = none ∨ ∃ j want t, o.guard = some (j, want) ∧ guardT ops j = some t ∧ gOf (s'.env.get t) want = some true) ∧ go s') ∨
    (∃ s', s'.fs = s.fs ∧ (∃ j want t, o.guard = some (j, want) ∧ guardT ops j = some t ∧ gOf (s'.env.get t) want = some false) ∧ skip s') := by
  unfold gsplit at h
  split at h
  · rename_i hg
    exact .inr (.inl ⟨s, rfl, .inl hg, h⟩)
  · rename_i j want hg
    split at h
    · exact .inl h
    · rename_i t ht
      split at h
      · rename_i b hb
        cases want <;> cases b
        · exact .inr (.inl ⟨_, push_same hb, .inr ⟨j, _, t, hg, ht, by simp [Env.get, gOf]⟩, h.2 rfl⟩)
        · exact .inr (.inr ⟨_, push_same hb, ⟨j, _, t, hg, ht, by simp [Env.get, gOf]⟩, h.1 rfl⟩)
        · exact .inr (.inr ⟨_, push_same hb, ⟨j, _, t, hg, ht, by simp [Env.get, gOf]⟩, h.2 rfl⟩)
        · exact .inr (.inl ⟨_, push_same hb, .inr ⟨j, _, t, hg, ht, by simp [Env.get, gOf]⟩, h.1 rfl⟩)
      · exact .inl h
theorem Go.run {P : Program} {ops : Array Oper} {nx : Nat} : ∀ {l : List Oper} {pos : Nat} {acc : List Eff} {s : St} {K : List Eff → St → Prop}, Go P ops nx l pos acc s K → RunX P ops nx l pos acc s K
  | [], _, _, s, _, h => ⟨s, rfl, h⟩
  | ⟨dst, op, T, ps, af, gd⟩ :: r, pos, acc, s, K, h => by
    simp only [Go] at h
    have h' := gsplit_spec (o := ⟨dst, op, T, ps, af, gd⟩) h
    rcases h' with h | ⟨s', hs, hg, h⟩ | ⟨s', hs, ⟨j, want, t, hg, ht, hf⟩, h⟩
    · exact h
    · split at h
      · rename_i e c he
        refine Run.same hs ⟨e, ?_, Go.run h.2⟩
        have hd := rawE_does (dst := dst) (T := T) (pos := ps) (af := af) (gd := gd) he h.1
        rcases hg with hg | ⟨j, want, t, hg, ht, hf⟩
        · exact Sound.plain hg hd
        · exact Sound.guard_true hg ht hf hd
      · exact Run.same hs h
    · exact Run.same hs ⟨_, Sound.guard_false hg ht hf, Go.run h⟩

/-! calls -/
def entersB (P : Program) (f : FuncId) : Bool :=
  match P.funcs[f]? with
  | some fn => !(fn.name == "runtime.NumGoroutine") && !fn.body.isNone
  | none => false

/-- Called with what represents ds, f returns what represents r, and leaves all that was there. -/
def PCall (P : Program) (f : FuncId) (ds : List D) (r : D) : Prop :=
  entersB P f = true ∧ ∀ (w : World) (I : Nat → Prop) (vs : List Value), (∀ k, I k → k < w.heap.size) → vs.length = ds.length → (∀ i, i < ds.length → Rep w I (fun _ => none) (nd ds i) (nv vs i)) →
    Calls P f vs.toArray w fun e w' => ∃ v I', e = .returned v ∧ Rep w' I' (fun _ => none) r v ∧ (∀ k, I k → I' k) ∧ (∀ k, I' k → I k ∨ w.heap.size ≤ k) ∧ (∀ k, I' k → k < w'.heap.size) ∧ Below w.heap.size w w'

theorem run_callFunc {P : Program} {f : FuncId} (hf : entersB P f = true) (args : Array Value) (w : World) : (callFunc f args).run P w = .ok (.enter f args) w := by
  unfold entersB at hf
  split at hf
  · rename_i fn hfn
    simp only [Bool.and_eq_true, Bool.not_eq_true'] at hf
    simp only [callFunc, Sem.run_bind, run_program, Result.andThen, hfn, hf.1, hf.2, Bool.false_eq_true, if_false, Sem.run_pure]
  · cases hf

theorem does_call {P : Program} {id : Nat} {ev : Operand → D} {hp : Nat → Option Blk} {dst : Option Tmp} {T : TypeId} {pos : String} {af : Array Edge} {gd : Option (Nat × Bool)} {f : FuncId} {args : Array Operand} {ts : Array TypeId} {ds : List D} {r : D}
    (ha : args.toList.map ev = ds) (hpu : pureL ds = true) (hc : PCall P f ds r) : Does P ⟨dst, .call { callee := .value (.func f), args := args, argTypes := ts }, T, pos, af, gd⟩ id ev hp ⟨r, [], []⟩ := by
  intro w0 M0 I0 fr I mu h a w hw hid hx hb K Q hK
  subst ha
  have hargs : ∀ i, i < (args.toList.map ev).length → Rep w I (fun _ => none) (nd (args.toList.map ev) i) (nv (args.toList.map a.eval) i) := by
    intro i hi
    simp only [List.length_map, Array.length_toList] at hi
    have h1 : nd (args.toList.map ev) i = ev args[i] := by simp [nd, List.getD_eq_getElem?_getD, hi]
    have h2 : nv (args.toList.map a.eval) i = a.eval args[i] := by simp [nv, List.getD_eq_getElem?_getD, hi]
    have h3 := hx args[i] (by simp [Op.operands, Call.operands])
    have h4 := pureL_nd hpu i
    rw [h1] at h4
    rw [h1, h2]
    exact h3.unmu h4
  have hcall := hc.2 w I (args.toList.map a.eval) hw.lt (by simp) hargs
  unfold Oper.wp
  have hrun : (execOp a.eval ⟨dst, .call { callee := .value (.func f), args := args, argTypes := ts }, T, pos, af, gd⟩).run P w = .ok (.enter f (args.toList.map a.eval).toArray) w := by
    have e1 : args.map a.eval = (args.toList.map a.eval).toArray := by apply Array.ext'; simp
    simp only [execOp, resolve, Act.eval, Deferred.ofValue, Sem.run_bind, Sem.run_pure, Result.andThen, invoke]
    have e2 : #[] ++ args.map a.eval ++ #[] = (args.toList.map a.eval).toArray := by rw [e1]; simp
    exact (congrArg (fun z => (callFunc f z).run P w) e2).trans (run_callFunc hc.1 _ w)
  rw [hrun, Oper.upon_enter]
  refine hcall.mono fun e w' ⟨v, I', he, hv, h1, h2, h3, h4⟩ => ?_
  subst he
  have hbl : ∀ k, k < w.heap.size → w'.heap[k]? = w.heap[k]? := fun k hk => h4.block k hk
  have hext : Ext I mu w I' mu w' := ⟨h1, fun _ _ h => h, fun k hk => hbl k (hw.lt k hk)⟩
  refine hK v w' I' mu hext ⟨fun b x hx => (hw.blk b x hx).mono hext.w hext.i hext.m fun u k hu hk => hbl k (hw.loc b x u k hx hu hk).2.2, fun b x u k hx hu hk => ?_, hw.inj, fun b hb => hw.fresh b hb.1, h3, h4.os.trans hw.os, h4.tape.trans hw.tape, h4.output.trans hw.output, Nat.le_trans hw.grown h4.size, fun k hk hnm => (hbl k (by have := hw.grown; omega)).trans (hw.old k hk hnm), fun k hk => h1 k (hw.iold k hk), fun k hk => ?_⟩ (hv.mono (fun _ _ => rfl) (fun _ h => h) (fun _ _ h => by cases h))
  · have := hw.loc b x u k hx hu hk
    exact ⟨this.1, fun hI => by rcases h2 k hI with h5 | h5; exact this.2.1 h5; omega, Nat.lt_of_lt_of_le this.2.2 h4.size⟩
  · rcases h2 k hk with h5 | h5
    · exact hw.inew k h5
    · exact .inr (.inr (Nat.le_trans hw.grown h5))

theorem RunX.call {P : Program} {ops : Array Oper} {nx : Nat} {dst : Option Tmp} {T : TypeId} {ps : String} {af : Array Edge} {gd : Option (Nat × Bool)} {f : FuncId} {args : Array Operand} {ts : Array TypeId} {ds : List D} {r : D} {l : List Oper} {pos : Nat} {acc : List Eff} {s : St} {K : List Eff → St → Prop}
    (hc : PCall P f ds r) (hg : gd = none ∨ ∃ j want t, gd = some (j, want) ∧ guardT ops j = some t ∧ gOf (s.env.get t) want = some true) (ha : args.toList.map (evO s.env.get) = ds) (hpu : pureL ds = true)
    (hk : Go P ops nx l (pos + 1) (⟨r, [], []⟩ :: acc) (s.app dst ⟨r, [], []⟩) K) : RunX P ops nx (⟨dst, .call { callee := .value (.func f), args := args, argTypes := ts }, T, ps, af, gd⟩ :: l) pos acc s K := by
  refine ⟨_, ?_, Go.run hk⟩
  rcases hg with rfl | ⟨j, want, t, rfl, ht, hg⟩
  · exact Sound.plain rfl (does_call ha hpu hc)
  · exact Sound.guard_true rfl ht hg (does_call ha hpu hc)
/-- A stuck operation of which more is known now. -/
theorem RunX.go {P : Program} {ops : Array Oper} {nx : Nat} {l : List Oper} {pos : Nat} {acc : List Eff} {s : St} {K : List Eff → St → Prop} (h : Go P ops nx l pos acc s K) : RunX P ops nx l pos acc s K := Go.run h

theorem RunX.out {P : Program} {ops : Array Oper} {nx : Nat} {l : List Oper} {pos : Nat} {acc : List Eff} {s : St} {K : List Eff → St → Prop} (h : RunX P ops nx l pos acc s K) : Run P ops nx l pos acc s (fun E s => ∃ s', s'.fs = s.fs ∧ K E s') := h
attribute [irreducible] RunX
/-! the end of a call: what is handed back stays as it is -/
/-- References taken for what they lead to. -/
def frz (hp : Nat → Option Blk) : Nat → D → D
  | 0, d => d
  | n + 1, .ref b i off sz => match hp b with
    | some (.rows es sz') => if sz = sz' ∧ i < es.length then .ptr ((nr es i).map (frz hp n)) off else .ref b i off sz
    | _ => .ref b i off sz
  | n + 1, .sref b i len cap sz => match hp b with
    | some (.rows es sz') => if sz = sz' ∧ i + len ≤ es.length ∧ len ≤ cap ∧ cap ≤ 9223372036854775807 then .slice (bif pureLL es then (es.drop i).take len else ((es.drop i).take len).map fun r => r.map (frz hp n)) (decide (cap = len)) else .sref b i len cap sz
    | _ => .sref b i len cap sz
  | _ + 1, .gref b len => match hp b with
    | some (.grow es _) => if len = es.length ∧ pureLL es = true then .slice es false else .gref b len
    | _ => .gref b len
  | n + 1, .agg cs => .agg (cs.map (frz hp n))
  | n + 1, .tup cs => .tup (cs.map (frz hp n))
  | n + 1, .iface t d => .iface t (frz hp n d)
  | _ + 1, d => d

theorem nd_map {cs : List D} {f : D → D} {i : Nat} (hi : i < cs.length) : nd (cs.map f) i = f (nd cs i) := by simp [nd, List.getD_eq_getElem?_getD, hi]

theorem Rep.frz {w0 : World} {M0 I0 fr I J : Nat → Prop} {mu : Nat → Option Value} {hp : Nat → Option Blk} {w : World} (hr : WRel w0 M0 I0 fr I mu hp w) (hIJ : ∀ k, I k → J k) (hJ : ∀ b x v k, hp b = some x → mu b = some v → locBlk v = some k → J k) :
    ∀ (n : Nat) (d : D) (v : Value), Rep w I mu d v → Rep w J mu (frz hp n d) v := by
  have mono : ∀ d v, Rep w I mu d v → Rep w J mu d v := fun d v h => h.mono (fun _ _ => rfl) hIJ (fun _ _ h => h)
  intro n
  induction n with
  | zero => intro d v h; exact mono d v h
  | succ n ih =>
    intro d v h
    cases d with
    | any => exact mono _ _ h
    | val x => exact mono _ _ h
    | cond g d => exact mono _ _ h
    | slice es t => exact mono _ _ h
    | ptr cs off => exact mono _ _ h
    | mref b => exact mono _ _ h
    | func fn fs cs => exact mono _ _ h
    | agg cs =>
      obtain ⟨us, rfl, hl, hrep⟩ := h.agg_inv
      refine .agg _ us (by simpa using hl) fun i hi => ?_
      simp only [List.length_map] at hi
      rw [nd_map hi]; exact ih _ _ (hrep i hi)
    | tup cs =>
      obtain ⟨us, rfl, hl, hrep⟩ := h.tup_inv
      refine .tup _ us (by simpa using hl) fun i hi => ?_
      simp only [List.length_map] at hi
      rw [nd_map hi]; exact ih _ _ (hrep i hi)
    | iface t d =>
      cases h with
      | iface _ _ u hu => exact .iface t _ u (ih _ _ hu)
    | ref b i off sz =>
      simp only [Go.Ab.frz]
      split
      · rename_i es sz' hx
        split
        · rename_i hcond
          obtain ⟨rfl, hi⟩ := hcond
          obtain ⟨k, T, us, h1, h2, h3, h4, h5⟩ := hr.blk b _ hx
          cases h with
          | ref _ _ _ _ k' hk =>
            rw [h1] at hk
            simp only [Option.some.injEq, Value.pointer.injEq, Addr.mk.injEq, and_true] at hk
            subst hk
            have hmul : i * sz + sz ≤ es.length * sz := by rw [← Nat.succ_mul]; exact Nat.mul_le_mul_right _ hi
            refine .ptr _ off k (i * sz) (fun j => nv us (i * sz + j)) (hJ b _ _ k hx h1 rfl) (fun j hj => ?_) fun j hj => ?_
            · simp only [List.length_map, h4 i hi] at hj
              simp only [World.cell?, h2, Option.isSome_none, nv]
              rw [if_neg (by simp)]
              simp [List.getD_eq_getElem?_getD, show i * sz + j < us.length by omega]
            · simp only [List.length_map, h4 i hi] at hj
              rw [nd_map (by rw [h4 i hi]; exact hj)]
              exact ih _ _ (h5 i j hi hj)
        · exact mono _ _ h
      · exact mono _ _ h
    | sref b i len cap sz =>
      simp only [Go.Ab.frz]
      split
      · rename_i es sz' hx
        split
        · rename_i hcond
          obtain ⟨rfl, hi, hlc, hcap⟩ := hcond
          obtain ⟨k, T, us, h1, h2, h3, h4, h5⟩ := hr.blk b _ hx
          cases h with
          | sref _ _ _ _ _ k' hk =>
            rw [h1] at hk
            simp only [Option.some.injEq, Value.pointer.injEq, Addr.mk.injEq, and_true] at hk
            subst hk
            have hlen' : ((es.drop i).take len).length = len := by simp; omega
            have hnr' : ∀ j, j < len → nr ((es.drop i).take len) j = nr es (i + j) := by
              intro j hj
              simp only [nr, List.getD_eq_getElem?_getD]
              rw [List.getElem?_take_of_lt hj, List.getElem?_drop]
            have core : ∀ L : List (List D), L.length = len → (∀ j, j < len → (nr L j).length = sz) → (∀ j l, j < len → l < sz → Rep w J mu (nd (nr L j) l) (nv us ((i + j) * sz + l))) → Rep w J mu (.slice L (decide (cap = len))) (.slice (some ⟨k, i * sz, none⟩) len cap) := by
              intro L hL hz hrep
              have : Rep w J mu (.slice L (decide (cap = len))) (.slice (some ⟨k, i * sz, none⟩) L.length cap) := by
                refine .slice L _ _ k (i * sz) sz cap (fun j l => nv us ((i + j) * sz + l)) (fun _ => ⟨rfl, hJ b _ _ k hx h1 rfl⟩) (by omega) (fun h => by rw [hL]; exact of_decide_eq_true h) (by simp only [maxLen]; omega) (fun j hj => hz j (by omega)) (fun j l hj hl => ?_) fun j l hj hl => hrep j l (by omega) hl
                have hlt : (i + j) * sz + l < us.length := by
                  rw [h3]
                  have : (i + j) * sz + sz ≤ es.length * sz := by rw [← Nat.succ_mul]; exact Nat.mul_le_mul_right _ (by omega)
                  omega
                have e : i * sz + (j * sz + l) = (i + j) * sz + l := by rw [Nat.add_mul]; omega
                rw [e]
                simp only [World.cell?, h2, Option.isSome_none, nv]
                rw [if_neg (by simp)]
                simp [List.getD_eq_getElem?_getD, hlt]
              rw [hL] at this
              exact this
            cases hpu : pureLL es with
            | true =>
              simp only [cond_true]
              exact core _ hlen' (fun j hj => by rw [hnr' j hj]; exact h4 _ (by omega)) fun j l hj hl => by rw [hnr' j hj]; exact mono _ _ (h5 (i + j) l (by omega) hl)
            | false =>
              simp only [cond_false]
              have hnm : ∀ j, j < len → nr (((es.drop i).take len).map fun r => r.map (Go.Ab.frz hp n)) j = (nr es (i + j)).map (Go.Ab.frz hp n) := by
                intro j hj
                rw [← hnr' j hj]
                simp [nr, List.getD_eq_getElem?_getD, show j < len from hj, show i + j < es.length by omega]
              refine core _ (by simp; omega) (fun j hj => by rw [hnm j hj, List.length_map]; exact h4 _ (by omega)) fun j l hj hl => ?_
              rw [hnm j hj, nd_map (by rw [h4 _ (by omega)]; exact hl)]
              exact ih _ _ (h5 (i + j) l (by omega) hl)
        · exact mono _ _ h
      · exact mono _ _ h
    | gref b len =>
      simp only [Go.Ab.frz]
      split
      · rename_i es szb hx
        split
        · rename_i hcond
          obtain ⟨rfl, hpu⟩ := hcond
          obtain ⟨A, cap, T, us, h1, h2, h3, h4⟩ := hr.blk b _ hx
          cases h with
          | gref _ _ A' cap' hk =>
            rw [h1] at hk
            simp only [Option.some.injEq, Value.slice.injEq, true_and] at hk
            obtain ⟨rfl, rfl⟩ := hk
            rcases h4 with ⟨rfl, rfl⟩ | ⟨k, g0, rfl, g1, g2, g3, g4⟩
            · exact .slice [] false A 0 0 0 0 (fun _ _ => .nilFunc) (fun h => absurd h (by simp)) (Nat.le_refl _) (fun h => by cases h) h3 (fun i h => absurd h (by simp)) (fun i j h => absurd h (by simp)) (fun i j h => absurd h (by simp))
            · refine .slice es false _ k 0 szb cap (fun i j => nv us (i * szb + j)) (fun _ => ⟨rfl, hJ b _ _ k hx h1 (by simp [locBlk]; omega)⟩) g2 (fun h => by cases h) h3 h2 (fun i j hi hj => ?_) fun i j hi hj => mono _ _ (g4 i j hi hj)
              have hlt : i * szb + j < us.length := by
                rw [g3]
                have : i * szb + szb ≤ cap * szb := by rw [← Nat.succ_mul]; exact Nat.mul_le_mul_right _ (by omega)
                omega
              rw [Nat.zero_add]
              simp only [World.cell?, g1, Option.isSome_none, nv]
              rw [if_neg (by simp)]
              simp [List.getD_eq_getElem?_getD, hlt]
        · exact mono _ _ h
      · exact mono _ _ h


/-- The results of a function, by its slots; a struct result lies in memory. -/
def resOne (P : Program) (s : St) : ResultVar → Option D
  | .tmp t => some (s.env.get t)
  | .cell a T => match tiOf P T with
    | some ti => match s.env.get a, loadE ti (look s.hp) (s.env.get a) with
      | .ref b i off sz, some (e, _) => match look s.hp b with
        | some (.rows es sz') => if sz = sz' ∧ i < es.length ∧ off + ti.sz ≤ sz ∧ 0 < ti.sz then some e.d else none
        | _ => none
      | _, _ => none
    | none => none
def resD (P : Program) (s : St) : List ResultVar → Option D
  | [x] => resOne P s x
  | l => match l.mapM (resOne P s) with
    | some ds => some (.tup ds)
    | none => none
def argEnv : Nat → List D → Env
  | _, [] => []
  | k, d :: r => (k, d) :: argEnv (k + 1) r
/-! what tells less -/
mutual
def lo : D → D → Prop
  | .slice es t, .slice es' t' => loLL es es' ∧ (t' = true → t = true)
  | .agg cs, .agg cs' => loL cs cs'
  | .tup cs, .tup cs' => loL cs cs'
  | .iface t d, .iface t' d' => t = t' ∧ lo d d'
  | .ptr cs o, .ptr cs' o' => o = o' ∧ loL cs cs'
  | d, r => r = .any ∨ d = r
def loL : List D → List D → Prop
  | [], [] => True
  | d :: l, d' :: l' => lo d d' ∧ loL l l'
  | [], _ :: _ => False
  | _ :: _, [] => False
def loLL : List (List D) → List (List D) → Prop
  | [], [] => True
  | d :: l, d' :: l' => loL d d' ∧ loLL l l'
  | [], _ :: _ => False
  | _ :: _, [] => False
end
mutual
theorem lo_refl : ∀ d : D, lo d d
  | .slice es t => by simp only [lo]; exact ⟨loLL_refl es, id⟩
  | .agg cs => by simp only [lo]; exact loL_refl cs
  | .tup cs => by simp only [lo]; exact loL_refl cs
  | .iface t d => by simp only [lo]; exact ⟨trivial, lo_refl d⟩
  | .ptr cs o => by simp only [lo]; exact ⟨trivial, loL_refl cs⟩
  | .any => by simp [lo]
  | .val _ => by simp [lo]
  | .cond _ _ => by simp [lo]
  | .func _ _ _ => by simp [lo]
  | .ref _ _ _ _ => by simp [lo]
  | .sref _ _ _ _ _ => by simp [lo]
  | .gref _ _ => by simp [lo]
  | .mref _ => by simp [lo]
theorem loL_refl : ∀ l : List D, loL l l
  | [] => by simp [loL]
  | d :: l => by simp only [loL]; exact ⟨lo_refl d, loL_refl l⟩
theorem loLL_refl : ∀ l : List (List D), loLL l l
  | [] => by simp [loLL]
  | d :: l => by simp only [loLL]; exact ⟨loL_refl d, loLL_refl l⟩
end
theorem loL_spec : ∀ {l l' : List D}, loL l l' → l.length = l'.length ∧ ∀ i, i < l.length → lo (nd l i) (nd l' i)
  | [], [], _ => by simp
  | [], _ :: _, h => by simp [loL] at h
  | _ :: _, [], h => by simp [loL] at h
  | d :: l, d' :: l', h => by
    simp only [loL] at h
    obtain ⟨h1, h2⟩ := loL_spec h.2
    refine ⟨by simp [h1], fun i hi => ?_⟩
    cases i with
    | zero => simpa [nd] using h.1
    | succ i => have := h2 i (by simpa using hi); simpa [nd] using this
theorem loLL_spec : ∀ {l l' : List (List D)}, loLL l l' → l.length = l'.length ∧ ∀ i, i < l.length → loL (nr l i) (nr l' i)
  | [], [], _ => by simp
  | [], _ :: _, h => by simp [loLL] at h
  | _ :: _, [], h => by simp [loLL] at h
  | d :: l, d' :: l', h => by
    simp only [loLL] at h
    obtain ⟨h1, h2⟩ := loLL_spec h.2
    refine ⟨by simp [h1], fun i hi => ?_⟩
    cases i with
    | zero => simpa [nr] using h.1
    | succ i => have := h2 i (by simpa using hi); simpa [nr] using this

theorem Rep.lo {w : World} {I : Nat → Prop} {mu : Nat → Option Value} {d : D} {v : Value} (h : Rep w I mu d v) : ∀ {r : D}, lo d r → Rep w I mu r v := by
  induction h with
  | any v => intro r h; cases r <;> simp [Go.Ab.lo] at h; exact .any v
  | val v ok => intro r h; cases r <;> simp [Go.Ab.lo] at h; exact .any v; subst h; exact .val v ok
  | cond g d v h1 h2 ih => intro r h; cases r <;> simp [Go.Ab.lo] at h; exact .any v; obtain ⟨rfl, rfl⟩ := h; exact .cond _ _ v h1 h2
  | agg cs us hl h1 ih =>
    intro r h; cases r <;> simp [Go.Ab.lo] at h; exact .any _
    obtain ⟨h2, h3⟩ := loL_spec h
    exact .agg _ us (by omega) fun i hi => ih i (by omega) (h3 i (by omega))
  | tup cs us hl h1 ih =>
    intro r h; cases r <;> simp [Go.Ab.lo] at h; exact .any _
    obtain ⟨h2, h3⟩ := loL_spec h
    exact .tup _ us (by omega) fun i hi => ih i (by omega) (h3 i (by omega))
  | slice es tight A k o sz cap u hA hc ht hm hlen hcell h1 ih =>
    intro r h; cases r <;> simp [Go.Ab.lo] at h; exact .any _
    obtain ⟨h, hti⟩ := h
    obtain ⟨h2, h3⟩ := loLL_spec h
    rename_i es' t'
    have := Rep.slice (w := w) (I := I) (mu := mu) es' t' A k o sz cap u (fun h => hA (by omega)) (by omega) (fun h => by rw [ht (hti h)]; exact h2) hm (fun i hi => by rw [← (loL_spec (h3 i (by omega))).1]; exact hlen i (by omega)) (fun i j hi hj => hcell i j (by omega) hj) (fun i j hi hj => ih i j (by omega) hj ((loL_spec (h3 i (by omega))).2 j (by rw [hlen i (by omega)]; exact hj)))
    rw [h2]; exact this
  | ptr cs off k o u hk hcell h1 ih =>
    intro r h; cases r <;> simp [Go.Ab.lo] at h; exact .any _
    obtain ⟨rfl, h⟩ := h
    obtain ⟨h2, h3⟩ := loL_spec h
    exact .ptr _ _ k o u hk (fun j hj => hcell j (by omega)) fun j hj => ih j (by omega) (h3 j (by omega))
  | ref b i off sz k h1 => intro r h; cases r <;> simp [Go.Ab.lo] at h; exact .any _; obtain ⟨rfl, rfl, rfl, rfl⟩ := h; exact .ref _ _ _ _ k h1
  | sref b i len cap sz k h1 => intro r h; cases r <;> simp [Go.Ab.lo] at h; exact .any _; obtain ⟨rfl, rfl, rfl, rfl, rfl⟩ := h; exact .sref _ _ _ _ _ k h1
  | gref b len A cap h1 => intro r h; cases r <;> simp [Go.Ab.lo] at h; exact .any _; obtain ⟨rfl, rfl⟩ := h; exact .gref _ _ A cap h1
  | mref b k h1 => intro r h; cases r <;> simp [Go.Ab.lo] at h; exact .any _; subst h; exact .mref _ k h1
  | func fn fs cs us vs hl hk h1 h2 ih1 ih2 => intro r h; cases r <;> simp [Go.Ab.lo] at h; exact .any _; obtain ⟨rfl, rfl, rfl⟩ := h; exact .func _ _ _ us vs hl hk h1 h2
  | iface t d v h1 ih =>
    intro r h; cases r <;> simp [Go.Ab.lo] at h; exact .any _
    obtain ⟨rfl, h⟩ := h
    exact .iface _ _ v (ih h)

def loB : Blk → Blk → Prop
  | .rows es sz, .rows es' sz' => loLL es es' ∧ sz = sz'
  | .grow es sz, .grow es' sz' => loLL es es' ∧ sz = sz'
  | x, y => x = y
theorem loB_refl (x : Blk) : loB x x := by cases x <;> simp [loB, loLL_refl]
theorem BRep.lo {w : World} {I : Nat → Prop} {mu : Nat → Option Value} {b : Nat} {x y : Blk} (h : BRep w I mu b x) (hl : loB x y) : BRep w I mu b y := by
  cases x with
  | rows es sz =>
    cases y <;> simp [loB] at hl
    obtain ⟨hl, rfl⟩ := hl
    obtain ⟨k, T, us, h1, h2, h3, h4, h5⟩ := h
    obtain ⟨g1, g2⟩ := loLL_spec hl
    exact ⟨k, T, us, h1, h2, by rw [← g1]; exact h3, fun i hi => by rw [← (loL_spec (g2 i (by omega))).1]; exact h4 i (by omega), fun i j hi hj => (h5 i j (by omega) hj).lo ((loL_spec (g2 i (by omega))).2 j (by rw [h4 i (by omega)]; exact hj))⟩
  | grow es sz =>
    cases y <;> simp [loB] at hl
    obtain ⟨hl, rfl⟩ := hl
    obtain ⟨A, cap, T, us, h1, h2, h3, h4⟩ := h
    obtain ⟨g1, g2⟩ := loLL_spec hl
    refine ⟨A, cap, T, us, by rw [← g1]; exact h1, fun i hi => by rw [← (loL_spec (g2 i (by omega))).1]; exact h2 i (by omega), h3, ?_⟩
    rcases h4 with ⟨h5, h6⟩ | ⟨k, q0, q1, q2, q3, q4, q5⟩
    · refine .inl ⟨h5, ?_⟩
      subst h6
      exact List.length_eq_zero_iff.1 g1.symm
    · exact .inr ⟨k, q0, q1, q2, by rw [← g1]; exact q3, q4, fun i j hi hj => (q5 i j (by omega) hj).lo ((loL_spec (g2 i (by omega))).2 j (by rw [h2 i (by omega)]; exact hj))⟩
  | map es =>
    cases y <;> simp [loB] at hl
    subst hl; exact h

/-- A function returns with the results r. -/
def RetQ (P : Program) (rs : List ResultVar) (r : D) : AE → St → Prop
  | .ret, s | .normal, s => ∃ d, resD P s rs = some d ∧ lo (frz (look s.hp) 6 d) r ∧ r.pure = true
  | _, _ => False

theorem argEnv_get : ∀ (ds : List D) (k t : Nat), (argEnv k ds).get t = if k ≤ t ∧ t < k + ds.length then nd ds (t - k) else .any
  | [], k, t => by simp [argEnv, Env.get]; intro h1 h2; omega
  | d :: ds, k, t => by
    simp only [argEnv, Env.get, argEnv_get ds (k + 1) t, List.length_cons]
    by_cases h : k = t
    · subst h; simp [nd]
    · have : (k == t) = false := by simp [h]
      simp only [this, cond_false]
      by_cases h1 : k + 1 ≤ t ∧ t < k + 1 + ds.length
      · rw [if_pos h1, if_pos (by omega)]
        have e : t - k = (t - (k + 1)) + 1 := by omega
        rw [e]; simp [nd]
      · rw [if_neg h1, if_neg (by omega)]

/-- A result, read off the slots. -/
def resSem (tmps : Array Value) (x : ResultVar) : Sem Value :=
  match x with
  | .tmp t => pure (tmps.getD t undef)
  | .cell b t => do loadVar t (← asAddr (tmps.getD b undef))

section
variable {P : Program} {w0 : World} {M0 I0 fr I : Nat → Prop} {mu : Nat → Option Value} {w : World} {s : St} {a : Act} {nt : Nat}

theorem load_ref {T : TypeId} {ti : TI} (ht : tiOf P T = some ti) {hp : Nat → Option Blk} (hr : WRel w0 M0 I0 fr I mu hp w) {b i off sz : Nat} {av : Value} (hv : Rep w I mu (.ref b i off sz) av) {es : List (List D)} (hx : hp b = some (.rows es sz)) (hi : i < es.length) (hle : off + ti.sz ≤ sz) (hpos : 0 < ti.sz) {e : Eff} {c : Prop} (he : loadE ti hp (.ref b i off sz) = some (e, c)) :
    ∃ v k o, av = .pointer (some ⟨k, o, none⟩) ∧ (loadVar T ⟨k, o, none⟩).run P w = .ok v w ∧ Rep w I mu e.d v := by
  cases hv with
  | ref _ _ _ _ k hk =>
    obtain ⟨k', T', us, h1, h2, h3, h4, h5⟩ := hr.blk b _ hx
    rw [hk] at h1
    simp only [Option.some.injEq, Value.pointer.injEq, Addr.mk.injEq, and_true] at h1
    subst h1
    have hlen := h4 i hi
    have hmul : i * sz + sz ≤ es.length * sz := by rw [← Nat.succ_mul]; exact Nat.mul_le_mul_right _ hi
    have hl := run_loadVar_cells (P := P) (I := I) (mu := mu) ht w k (i * sz) (nr es i) (fun j => nv us (i * sz + j)) (fun j hj => by
        rw [hlen] at hj
        simp only [World.cell?, h2, Option.isSome_none, nv]
        rw [if_neg (by simp)]
        simp [List.getD_eq_getElem?_getD, show i * sz + j < us.length by omega])
      (fun j hj => h5 i j hi (by omega)) off
    rw [hlen] at hl
    simp only [loadE, hx] at he
    cases hag : ti.ag <;> simp only [hag, cond_true, cond_false, Option.some.injEq, Prod.mk.injEq] at he <;> obtain ⟨rfl, _⟩ := he
    · obtain ⟨v', q1, q2⟩ := hl.2 hag (by omega)
      exact ⟨v', k, _, rfl, q1, q2⟩
    · obtain ⟨v', q1, q2⟩ := hl.1 hag hle
      exact ⟨v', k, _, rfl, q1, q2⟩

theorem resOne_rep (r : Rel w0 M0 I0 nt fr I mu s.fs a w) {x : ResultVar} {d : D} (h : resOne P s x = some d) :
    ∃ v, (resSem a.tmps x).run P w = .ok v w ∧ Rep w I mu d v := by
  cases x with
  | tmp t =>
    simp only [resOne, Option.some.injEq] at h
    subst h
    exact ⟨_, rfl, r.env t⟩
  | cell b T =>
    simp only [resOne] at h
    split at h
    · rename_i ti ht
      split at h
      · rename_i b' i off sz e c henv he
        split at h
        · rename_i es sz' hx
          split at h
          · rename_i hcond
            obtain ⟨rfl, hi, hle, hpos⟩ := hcond
            simp only [Option.some.injEq] at h
            subst h
            have hv := r.env b
            have hv' : Rep w I mu (.ref b' i off sz) (a.tmps.getD b undef) := by
              have : s.fs.env b = s.env.get b := rfl
              rw [this, henv] at hv; exact hv
            obtain ⟨v, k, o, h1, h2, h3⟩ := load_ref ht r.w hv' hx hi hle hpos (by rw [← henv]; exact he)
            refine ⟨v, ?_, h3⟩
            show (do loadVar T (← asAddr (a.tmps.getD b undef)) : Sem Value).run P w = _
            rw [h1]
            simpa [asAddr] using h2
          · cases h
        · cases h
      · cases h
    · cases h

theorem results_run (fn : Func) (tmps : Array Value) : ∀ (rs : List ResultVar) (vs : List Value), rs.length = vs.length → (∀ (i : Nat) x v, rs[i]? = some x → vs[i]? = some v → (resSem tmps x).run P w = .ok v w) →
    (rs.mapM (resSem tmps)).run P w = .ok vs w
  | [], [], _, _ => by simp
  | [], _ :: _, h, _ => by simp at h
  | _ :: _, [], h, _ => by simp at h
  | x :: rs, v :: vs, hl, h => by
    have h0 := h 0 x v rfl rfl
    have ih := results_run fn tmps rs vs (by simpa using hl) fun i y u hy hu => h (i + 1) y u (by simpa using hy) (by simpa using hu)
    simp only [List.mapM_cons, Sem.run_bind, h0, Result.andThen, ih, Sem.run_pure]

theorem mapM_list {α β : Type} {g : α → Option β} : ∀ {l : List α} {r : List β}, l.mapM g = some r → r.length = l.length ∧ ∀ (i : Nat) (x : α), l[i]? = some x → ∃ y, r[i]? = some y ∧ g x = some y
  | [], r, h => by simp at h; subst h; simp
  | a :: l, r, h => by
    simp only [List.mapM_cons, Option.bind_eq_bind, Option.pure_def, Option.bind_eq_some_iff] at h
    obtain ⟨b, hb, r', hr', h⟩ := h
    simp only [Option.some.injEq] at h
    subst h
    obtain ⟨h1, h2⟩ := mapM_list hr'
    refine ⟨by simp [h1], fun i x hx => ?_⟩
    cases i with
    | zero => simp at hx; subst hx; exact ⟨b, by simp, hb⟩
    | succ i => simpa using h2 i x (by simpa using hx)

theorem resD_rep (r : Rel w0 M0 I0 nt fr I mu s.fs a w) (fn : Func) {d : D} (h : resD P s fn.results.toList = some d) : ∃ v, (results fn a.tmps).run P w = .ok v w ∧ Rep w I mu d v := by
  have hrun : ∀ vs : List Value, (fn.results.toList.mapM (resSem a.tmps)).run P w = .ok vs w →
      (results fn a.tmps).run P w = .ok (if h : vs.toArray.size = 1 then vs.toArray[0] else .tuple vs.toArray) w := by
    intro vs hvs
    have gen : ∀ F : ResultVar → Sem Value, (∀ x, F x = resSem a.tmps x) → (do let vs ← fn.results.mapM F; pure (if h : vs.size = 1 then vs[0] else .tuple vs) : Sem Value).run P w = .ok (if h : vs.toArray.size = 1 then vs.toArray[0] else .tuple vs.toArray) w := by
      intro F hF
      obtain rfl : F = resSem a.tmps := funext hF
      rw [Array.mapM_eq_mapM_toList]
      simp only [Sem.run_bind, Sem.run_map, hvs, Result.andThen, Sem.run_pure]
    exact gen _ fun x => by cases x <;> rfl
  unfold resD at h
  split at h
  · rename_i x hx
    obtain ⟨v, h1, h2⟩ := resOne_rep (P := P) r h
    refine ⟨v, ?_, h2⟩
    have := hrun [v] (by
      rw [hx]
      exact results_run fn a.tmps [x] [v] rfl fun i y u hy hu => by
        cases i with
        | zero => simp at hy hu; subst hy hu; exact h1
        | succ i => simp at hy)
    simpa using this
  · rename_i l hne
    split at h
    · rename_i ds hds
      simp only [Option.some.injEq] at h
      subst h
      obtain ⟨hl, hg⟩ := mapM_list hds
      have hex : ∃ vs : List Value, vs.length = fn.results.toList.length ∧ ∀ (i : Nat) x, fn.results.toList[i]? = some x → (resSem a.tmps x).run P w = .ok (nv vs i) w ∧ Rep w I mu (nd ds i) (nv vs i) := by
        have : ∀ (i : Nat), ∃ v, ∀ x, fn.results.toList[i]? = some x → (resSem a.tmps x).run P w = .ok v w ∧ Rep w I mu (nd ds i) v := by
          intro i
          cases hx : fn.results.toList[i]? with
          | none => exact ⟨undef, fun x h => by cases h⟩
          | some x =>
            obtain ⟨y, hy1, hy2⟩ := hg i x hx
            obtain ⟨v, h1, h2⟩ := resOne_rep (P := P) r hy2
            refine ⟨v, fun x' hx' => ?_⟩
            cases hx'
            have : nd ds i = y := by simp [nd, List.getD_eq_getElem?_getD, hy1]
            rw [this]; exact ⟨h1, h2⟩
        refine ⟨(List.range fn.results.toList.length).map fun i => Classical.choose (this i), by simp, fun i x hx => ?_⟩
        have hlt := (List.getElem?_eq_some_iff.1 hx).1
        have e : nv ((List.range fn.results.toList.length).map fun i => Classical.choose (this i)) i = Classical.choose (this i) := by
          simp only [nv, List.getD_eq_getElem?_getD, List.getElem?_map, List.getElem?_range hlt, Option.map_some, Option.getD_some]
        rw [e]
        exact Classical.choose_spec (this i) x hx
      obtain ⟨vs, hvl, hv⟩ := hex
      have := hrun vs (results_run fn a.tmps _ vs hvl.symm fun i x u hx hu => by
        have := (hv i x hx).1
        have e : nv vs i = u := by simp [nv, List.getD_eq_getElem?_getD, hu]
        rw [e] at this; exact this)
      have hsz : ¬ vs.toArray.size = 1 := by
        intro h1
        rw [List.size_toArray, hvl] at h1
        match hll : fn.results.toList, h1 with
        | [x], _ => exact hne x hll
      rw [dif_neg hsz] at this
      refine ⟨_, this, .tup ds vs (by omega) fun i hi => ?_⟩
      obtain ⟨x, hx⟩ : ∃ x, fn.results.toList[i]? = some x := ⟨fn.results.toList[i]'(by omega), List.getElem?_eq_getElem (by omega)⟩
      exact (hv i x hx).2
    · cases h

/-- A function's contract, by its code. -/
theorem PCall.of_awp {f : FuncId} {fn : Func} {c : Code} {ds : List D} {r : D} (hf : P.funcs[f]? = some fn) (hb : fn.body = some c) (hn : fn.ntmps = nt) (hent : entersB P f = true) (hlen : ds.length ≤ nt) {rs : List ResultVar} (hrs : fn.results.toList = rs)
    (h : AWp P nt c (RetQ P rs r) ⟨argEnv 0 ds, [], 0⟩) : PCall P f ds r := by
  subst hrs
  refine ⟨hent, fun w I vs hI hl hrep => ?_⟩
  refine calls_of_wp hf hb (wp_mono (h w (fun _ => False) I I (fun _ => none) _ w ⟨?_, rfl, fun t => ?_, ⟨fun b x hx => by simp [St.fs, look] at hx, fun b x v k hx => by simp [St.fs, look] at hx, fun b c x y v u k hx => by simp [St.fs, look] at hx, fun _ _ => rfl, hI, rfl, rfl, rfl, Nat.le_refl _, fun _ _ _ => rfl, fun _ h => h, fun _ h => .inl h⟩⟩) ?_)
  · simp [hl, hn]; omega
  · have hget := argEnv_get ds 0 t
    simp only [Nat.zero_le, true_and, Nat.zero_add, Nat.sub_zero] at hget
    show Rep w I (fun _ => none) ((argEnv 0 ds).get t) _
    rw [hget]
    by_cases ht : t < ds.length
    · rw [if_pos ht]
      have e : (vs.toArray ++ Array.replicate (fn.ntmps - vs.toArray.size) undef).getD t undef = nv vs t := by
        simp only [nv, List.getD_eq_getElem?_getD, Array.getD_eq_getD_getElem?]
        rw [Array.getElem?_append_left (by simp; omega)]
        simp
      rw [e]; exact hrep t ht
    · rw [if_neg ht]; exact .any _
  · rintro e a' w' ⟨x, s', I', mu', hq, he, r'⟩
    have fin : ∀ d, resD P s' fn.results.toList = some d → lo (frz (look s'.hp) 6 d) r → r.pure = true → (a'.defers = [] ∧ ∃ v, (results fn a'.tmps).run P w' = .ok v w' ∧ ∃ v' I', Ending.returned v = .returned v' ∧ Rep w' I' (fun _ => none) r v' ∧ (∀ k, I k → I' k) ∧ (∀ k, I' k → I k ∨ w.heap.size ≤ k) ∧ (∀ k, I' k → k < w'.heap.size) ∧ Below w.heap.size w w') := by
      intro d hd hfr hpu
      obtain ⟨v, h1, h2⟩ := resD_rep r' fn hd
      have hfz := Rep.frz (J := fun k => I' k ∨ (w.heap.size ≤ k ∧ k < w'.heap.size)) r'.w (fun k hk => .inl hk) (fun b x v k hx hv hk => .inr (by
          have := r'.w.loc b x v k hx hv hk
          rcases this.1 with h3 | h3
          · exact h3.elim
          · exact ⟨h3, this.2.2⟩)) 6 d v h2
      have hfr' : Go.Ab.lo (Go.Ab.frz s'.fs.hp 6 d) r := hfr
      have hfz := hfz.lo hfr'
      refine ⟨r'.defers, v, h1, v, _, rfl, hfz.unmu hpu, fun k hk => .inl (r'.w.iold k hk), fun k hk => ?_, fun k hk => ?_, ⟨r'.w.os, r'.w.tape, r'.w.output, r'.w.grown, fun k hk => r'.w.old k hk (fun h => h)⟩⟩
      · rcases hk with hk | hk
        · rcases r'.w.inew k hk with h3 | h3 | h3
          · exact .inl h3
          · exact h3.elim
          · exact .inr h3
        · exact .inr hk.1
      · rcases hk with hk | hk
        · exact r'.w.lt k hk
        · exact hk.2
    cases x <;> cases e <;> simp only [ERep] at he <;> simp only [RetQ] at hq
    case normal.normal =>
      obtain ⟨d, hd, hfr, hpu⟩ := hq
      exact fin d hd hfr hpu
    case ret.ret =>
      obtain ⟨d, hd, hfr, hpu⟩ := hq
      exact fin d hd hfr hpu
end
attribute [irreducible] PCall
end Go.Ab
