/- The abstract layer, part 3: regions. A region that draws its order may be told in the order of the text, if operations that get in each other's way are ordered by edges. -/
import Derived.Test.YtblbhfnpneliiaaGreatDoorAbCode
namespace Go.Ab
open Go.RowKit

/-- What an operation does: the value that it yields, the blocks that it writes (or gives up), the blocks that it reads. -/
structure Eff where
  d : D
  up : List (Nat × Option Blk)
  rd : List Nat

def upAt (b : Nat) (x : Option Blk) (up : List (Nat × Option Blk)) : Option Blk := up.foldl (fun x p => if p.1 = b then p.2 else x) x
def updL (hp : Hp) (up : List (Nat × Option Blk)) : Hp := up.foldl (fun h p => upd h p.1 p.2) hp
theorem look_updL (up : List (Nat × Option Blk)) : ∀ (hp : Hp) (b : Nat), look (updL hp up) b = upAt b (look hp b) up := by
  induction up with
  | nil => intro hp b; rfl
  | cons p up ih =>
    intro hp b
    have := ih (upd hp p.1 p.2) b
    simp only [updL, upAt, List.foldl_cons] at this ⊢
    rw [this, look_upd]

def FSt.app (s : FSt) (dst : Option Nat) (e : Eff) : FSt := ⟨fun t => if dst = some t then e.d else s.env t, fun b => upAt b (s.hp b) e.up⟩
def St.app (s : St) (dst : Option Nat) (e : Eff) : St := ⟨match dst with | some t => (t, e.d) :: s.env | none => s.env, updL s.hp e.up, s.nx⟩
theorem St.app_fs (s : St) (dst : Option Nat) (e : Eff) : (s.app dst e).fs = s.fs.app dst e := by
  unfold St.app St.fs FSt.app
  congr 1
  · funext t
    cases dst with
    | none => simp
    | some d =>
      simp only [Env.get, Option.some.injEq]
      by_cases h : d = t
      · simp [h]
      · have : (d == t) = false := by simp [h]
        simp [this, h]
  · funext b; exact look_updL e.up s.hp b

theorem Rel.free {w0 : World} {M0 I0 : Nat → Prop} {nt : Nat} {fr fr' I : Nat → Prop} {mu : Nat → Option Value} {s : FSt} {a : Act} {w : World} (h : Rel w0 M0 I0 nt fr I mu s a w) (hf : ∀ b, fr' b → fr b) : Rel w0 M0 I0 nt fr' I mu s a w :=
  ⟨h.size, h.defers, h.env, ⟨h.w.blk, h.w.loc, h.w.inj, fun b hb => h.w.fresh b (hf b hb), h.w.lt, h.w.os, h.w.tape, h.w.output, h.w.grown, h.w.old, h.w.iold, h.w.inew⟩⟩

/-- In whatever state that agrees with s0 on what the operation looks at, it does e; id is the name of the block that it may make. -/
def Sound (P : Program) (ops : Array Oper) (o : Oper) (id : Nat) (s0 : FSt) (e : Eff) : Prop :=
  ∀ w0 M0 I0 nt fr I mu s a w, Rel w0 M0 I0 nt fr I mu s a w → fr id → (∀ d, o.dst = some d → d < nt) → (∀ t ∈ o.looksAt ops, s.env t = s0.env t) → (∀ b ∈ e.rd, s.hp b = s0.hp b) →
    ∀ K Q, (∀ a' w' I' mu', Rel w0 M0 I0 nt (fun b => fr b ∧ b ≠ id) I' mu' (s.app o.dst e) a' w' → K a' w') →
      (if Region.wanted o (yielded ops a.tmps) = true then o.wp P a w K Q ∨ (o.asks P a w ∧ LetsOut Q) else K (a.put o.dst undef) w)

/-- The operations, one behind the other, in the order of the text. -/
def Run (P : Program) (ops : Array Oper) (nx : Nat) : List Oper → Nat → List Eff → St → (List Eff → St → Prop) → Prop
  | [], _, acc, s, K => K acc.reverse s
  | o :: r, pos, acc, s, K => ∃ e, Sound P ops o (nx + pos) s.fs e ∧ Run P ops nx r (pos + 1) (e :: acc) (s.app o.dst e) K

def opsIn (nt : Nat) (l : List Oper) : Bool := l.all fun o => match o.dst with | some d => decide (d < nt) | none => true
theorem opsIn_spec {nt : Nat} {l : List Oper} (h : opsIn nt l = true) : ∀ o ∈ l, ∀ d, o.dst = some d → d < nt := by
  intro o ho d hd
  have := List.all_eq_true.1 h o ho
  rw [hd] at this
  simpa using this

section
variable {P : Program} {ops : Array Oper} {nx nt : Nat} {w0 : World} {M0 I0 : Nat → Prop} {Q : Exit → Act → World → Prop}

theorem Run.ops_seq : ∀ (l : List Oper) (pos : Nat) (acc : List Eff) (s : St) (K : List Eff → St → Prop) (I : Nat → Prop) (mu : Nat → Option Value) (a : Act) (w : World),
    Run P ops nx l pos acc s K → (∀ j, l[j]? = ops[pos + j]?) → opsIn nt l = true → Rel w0 M0 I0 nt (nx + pos ≤ ·) I mu s.fs a w →
    (∀ E s' a' w' I' mu', K E s' → Rel w0 M0 I0 nt (nx + (pos + l.length) ≤ ·) I' mu' s'.fs a' w' → Q .normal a' w') → wpOps P ops Q (List.range' pos l.length) a w := by
  intro l
  induction l with
  | nil =>
    intro pos acc s K I mu a w h hl hin r hK
    simp only [List.length_nil, List.range'_zero, wpOps]
    exact hK _ _ _ _ _ _ h (by simpa using r)
  | cons o l ih =>
    intro pos acc s K I mu a w h hl hin r hK
    obtain ⟨e, hs, hr⟩ := h
    have ho : ops[pos]? = some o := by simpa using (hl 0).symm
    simp only [List.length_cons, List.range'_succ, wpOps, ho]
    simp only [opsIn, List.all_cons, Bool.and_eq_true] at hin
    refine hs w0 M0 I0 nt _ I mu s.fs a w r (Nat.le_refl _) (fun d hd => by have := hin.1; rw [hd] at this; simpa using this) (fun _ _ => rfl) (fun _ _ => rfl) _ Q ?_
    intro a' w' I' mu' r'
    rw [← St.app_fs] at r'
    refine ih (pos + 1) (e :: acc) _ K I' mu' a' w' hr (fun j => ?_) hin.2 (r'.free fun b hb => ?_) ?_
    · have := hl (j + 1)
      simpa [Nat.add_assoc, Nat.add_comm 1 j] using this
    · have hb' : nx + (pos + 1) ≤ b := hb
      exact ⟨by show nx + pos ≤ b; omega, by omega⟩
    · intro E s' a' w' I' mu' hk r''
      refine hK E s' a' w' I' mu' hk (r''.free fun b hb => ?_)
      have hb' : nx + (pos + (l.length + 1)) ≤ b := hb
      show nx + (pos + 1 + l.length) ≤ b
      omega

/-! any order -/
def dstI (ops : Array Oper) (i : Nat) : Option Nat := (ops[i]?).bind (·.dst)
def effI (E : List Eff) (i : Nat) : Eff := E.getD i ⟨.any, [], []⟩
def applyI (ops : Array Oper) (E : List Eff) (s : FSt) (i : Nat) : FSt := s.app (dstI ops i) (effI E i)
def foldI (ops : Array Oper) (E : List Eff) (l : List Nat) (s : FSt) : FSt := l.foldl (applyI ops E) s

theorem foldI_env {E : List Eff} (l : List Nat) : ∀ (s : FSt) (t : Nat), (foldI ops E l s).env t = l.foldl (fun d i => if dstI ops i = some t then (effI E i).d else d) (s.env t) := by
  induction l with
  | nil => intro s t; rfl
  | cons i l ih => intro s t; simp only [foldI, List.foldl_cons] at ih ⊢; rw [ih]; rfl
theorem foldI_hp {E : List Eff} (l : List Nat) : ∀ (s : FSt) (b : Nat), (foldI ops E l s).hp b = l.foldl (fun x i => upAt b x (effI E i).up) (s.hp b) := by
  induction l with
  | nil => intro s t; rfl
  | cons i l ih => intro s t; simp only [foldI, List.foldl_cons] at ih ⊢; rw [ih]; rfl

theorem foldl_skip {α β : Type} (f : β → α → β) (p : α → Bool) : ∀ (l : List α) (x : β), (∀ i ∈ l, p i = false → ∀ y, f y i = y) → (l.filter p).foldl f x = l.foldl f x := by
  intro l
  induction l with
  | nil => intro x _; rfl
  | cons i l ih =>
    intro x h
    cases hp : p i with
    | true => rw [List.filter_cons_of_pos hp]; simp only [List.foldl_cons]; exact ih _ fun j hj => h j (List.mem_cons_of_mem _ hj)
    | false =>
      rw [List.filter_cons_of_neg (by simp [hp])]
      simp only [List.foldl_cons, h i List.mem_cons_self hp x]
      exact ih _ fun j hj => h j (List.mem_cons_of_mem _ hj)
theorem foldl_id {α β : Type} (f : β → α → β) : ∀ (l : List α) (x : β), (∀ i ∈ l, ∀ y, f y i = y) → l.foldl f x = x := by
  intro l
  induction l with
  | nil => intro x _; rfl
  | cons i l ih => intro x h; simp only [List.foldl_cons, h i List.mem_cons_self x]; exact ih x fun j hj => h j (List.mem_cons_of_mem _ hj)

theorem foldl_same {α β : Type} (f g : β → α → β) : ∀ (l : List α) (x : β), (∀ i ∈ l, ∀ y, f y i = g y i) → l.foldl f x = l.foldl g x := by
  intro l
  induction l with
  | nil => intro x _; rfl
  | cons i l ih => intro x h; simp only [List.foldl_cons, h i List.mem_cons_self x]; exact ih _ fun j hj => h j (List.mem_cons_of_mem _ hj)

theorem upAt_skip {b : Nat} : ∀ {up : List (Nat × Option Blk)}, (∀ p ∈ up, p.1 ≠ b) → ∀ x, upAt b x up = x := by
  intro up h x
  exact foldl_id _ up x fun p hp y => if_neg (h p hp)
theorem upAt_const {b : Nat} {up : List (Nat × Option Blk)} (h : b ∈ up.map (·.1)) (x y : Option Blk) : upAt b x up = upAt b y up := by
  induction up generalizing x y with
  | nil => simp at h
  | cons p up ih =>
    simp only [upAt, List.foldl_cons] at ih ⊢
    by_cases hp : p.1 = b
    · simp only [if_pos hp]
    · simp only [if_neg hp]
      exact ih (by simpa [Ne.symm hp] using h) x y

theorem applyI_comm {E : List Eff} {i j : Nat} (s : FSt) (h1 : ∀ t, dstI ops i = some t → dstI ops j ≠ some t) (h2 : ∀ b, b ∈ (effI E i).up.map (·.1) → b ∉ (effI E j).up.map (·.1)) :
    applyI ops E (applyI ops E s i) j = applyI ops E (applyI ops E s j) i := by
  unfold applyI FSt.app
  simp only
  congr 1
  · funext t
    by_cases hi : dstI ops i = some t
    · simp [hi, h1 t hi]
    · simp [hi]
  · funext b
    by_cases hi : b ∈ (effI E i).up.map (·.1)
    · have hj := h2 b hi
      have ej : ∀ x, upAt b x (effI E j).up = x := upAt_skip fun p hp hb => hj (List.mem_map.2 ⟨p, hp, hb⟩)
      rw [ej, ej]
    · have ei : ∀ x, upAt b x (effI E i).up = x := upAt_skip fun p hp hb => hi (List.mem_map.2 ⟨p, hp, hb⟩)
      rw [ei, ei]

/-- Does operation j wait for i, by edges that always bind? -/
def reach (ops : Array Oper) : Nat → Nat → Nat → Bool
  | 0, _, _ => false
  | n + 1, j, i => match ops[j]? with
    | none => false
    | some o => (o.after.any fun e => e.on == i && Region.binds .any e) || o.after.any fun e => decide (i < e.on) && Region.binds .any e && reach ops n e.on i

/-- Do the operations i and j get in each other's way? sk: the blocks that each writes, and reads. -/
def conf (ops : Array Oper) (sk : List (List Nat × List Nat)) (i j : Nat) : Bool :=
  match ops[i]?, ops[j]? with
  | some x, some y =>
    !(Oper.apart ops x y) || (sk.getD i ([], [])).1.any (fun b => (sk.getD j ([], [])).1.contains b || (sk.getD j ([], [])).2.contains b) || (sk.getD i ([], [])).2.any (fun b => (sk.getD j ([], [])).1.contains b)
  | _, _ => false
def skOf (E : List Eff) : List (List Nat × List Nat) := E.map fun e => (e.up.map (·.1), e.rd)
/-- Edges lead back in the text, and what gets in another's way is ordered. -/
def ordered (ops : Array Oper) (sk : List (List Nat × List Nat)) : Bool :=
  (List.range ops.size).all fun j => (match ops[j]? with | some o => o.after.all fun e => !Region.binds .any e || decide (e.on < j) | none => true) &&
    (List.range j).all fun i => !conf ops sk i j || reach ops ops.size j i

def Clo (ops : Array Oper) (ls : Array Bool) : Prop := ∀ i o, ls.getD i false = true → ops[i]? = some o → ∀ e ∈ o.after, Region.binds .any e = true → ls.getD e.on false = true
theorem Clo.reach {ls : Array Bool} (h : Clo ops ls) : ∀ (n j i : Nat), reach ops n j i = true → ls.getD j false = true → ls.getD i false = true := by
  intro n
  induction n with
  | zero => intro j i hr; simp [Go.Ab.reach] at hr
  | succ n ih =>
    intro j i hr hj
    simp only [Go.Ab.reach] at hr
    cases ho : ops[j]? with
    | none => simp [ho] at hr
    | some o =>
      simp only [ho, Array.any_eq_true', Bool.and_eq_true, Bool.or_eq_true, beq_iff_eq] at hr
      rcases hr with ⟨e, he, h1, hb⟩ | ⟨e, he, ⟨_, hb⟩, h1⟩
      · have hon := h j o hj ho e he hb
        rw [← h1]; exact hon
      · exact ih _ _ h1 (h j o hj ho e he hb)


/-- What is yielded from the states of the text's order. -/
theorem Run.out : ∀ (l : List Oper) (pos : Nat) (acc : List Eff) (s0 s : St) (K : List Eff → St → Prop),
    Run P ops nx l pos acc s K → acc.length = pos → ops.size = pos + l.length → (∀ j, l[j]? = ops[pos + j]?) → s.fs = foldI ops acc.reverse (List.range pos) s0.fs →
    ∃ E s', E.length = ops.size ∧ (∀ i, i < pos → effI E i = effI acc.reverse i) ∧ (∀ i o, pos ≤ i → ops[i]? = some o → Sound P ops o (nx + i) (foldI ops E (List.range i) s0.fs) (effI E i)) ∧
      s'.fs = foldI ops E (List.range ops.size) s0.fs ∧ s'.nx = s.nx ∧ K E s' := by
  intro l
  induction l with
  | nil =>
    intro pos acc s0 s K h ha hsz hl hfs
    simp only [List.length_nil, Nat.add_zero] at hsz
    refine ⟨acc.reverse, s, by simp [ha, hsz], fun _ _ => rfl, fun i o hi ho => ?_, by rw [hfs, hsz], rfl, h⟩
    have := (Array.getElem?_eq_some_iff.1 ho).1
    omega
  | cons o l ih =>
    intro pos acc s0 s K h ha hsz hl hfs
    obtain ⟨e, hs, hr⟩ := h
    have ho : ops[pos]? = some o := by simpa using (hl 0).symm
    have hpre : ∀ (E : List Eff) (j : Nat), j ≤ pos → (∀ i, i < j → effI E i = effI acc.reverse i) → foldI ops E (List.range j) s0.fs = foldI ops acc.reverse (List.range j) s0.fs := by
      intro E j hj hE
      unfold foldI
      refine foldl_same _ _ _ _ fun i hi s => ?_
      unfold applyI
      rw [hE i (by have := List.mem_range.1 hi; omega)]
    have hcons : ∀ i, i < pos → effI (e :: acc).reverse i = effI acc.reverse i := by
      intro i hi
      simp only [effI, List.reverse_cons, List.getD_eq_getElem?_getD]
      rw [List.getElem?_append_left (by simpa [ha] using hi)]
    have hat : effI (e :: acc).reverse pos = e := by
      simp only [effI, List.reverse_cons, List.getD_eq_getElem?_getD]
      rw [List.getElem?_append_right (by simp [ha])]
      simp [ha]
    have hfs' : (s.app o.dst e).fs = foldI ops (e :: acc).reverse (List.range (pos + 1)) s0.fs := by
      rw [St.app_fs, hfs, List.range_succ]
      unfold foldI
      rw [List.foldl_append]
      simp only [List.foldl_cons, List.foldl_nil, applyI, hat, dstI, ho, Option.bind_some]
      congr 1
      refine foldl_same _ _ _ _ fun i hi s => ?_
      unfold applyI
      rw [hcons i (List.mem_range.1 hi)]
    obtain ⟨E, s', h1, h2, h3, h4, h5, h6⟩ := ih (pos + 1) (e :: acc) s0 (s.app o.dst e) K hr (by simp [ha]) (by simp at hsz ⊢; omega)
      (fun j => by have := hl (j + 1); simpa [Nat.add_assoc, Nat.add_comm 1 j] using this) hfs'
    refine ⟨E, s', h1, fun i hi => (h2 i (by omega)).trans (hcons i hi), fun i o' hi ho' => ?_, h4, h5, h6⟩
    rcases Nat.lt_or_ge pos i with hlt | hge
    · exact h3 i o' (by omega) ho'
    · obtain rfl : i = pos := by omega
      obtain rfl : o = o' := by rw [ho] at ho'; exact Option.some.inj ho'
      rw [h2 i (by omega), hat, hpre E i (Nat.le_refl _) (fun j hj => (h2 j (by omega)).trans (hcons j hj)), ← hfs]
      exact hs

def listedIn (ls : Array Bool) (i : Nat) : Bool := ls.getD i false
theorem range_split {i n : Nat} (h : i < n) : List.range n = List.range i ++ i :: List.range' (i + 1) (n - i - 1) := by
  rw [List.range_eq_range', List.range_eq_range']
  have : i :: List.range' (i + 1) (n - i - 1) = List.range' i (n - i) := by
    have : n - i = (n - i - 1) + 1 := by omega
    rw [this, List.range'_succ]
    simp
  rw [this]
  have := @List.range'_append_1 0 i (n - i)
  rw [Nat.zero_add] at this
  rw [this]
  congr 1
  omega

/-- The state behind those that are listed. -/
def sg (ops : Array Oper) (E : List Eff) (s0 : FSt) (ls : Array Bool) : FSt := foldI ops E ((List.range ops.size).filter (listedIn ls)) s0
def frS (nx : Nat) (ops : Array Oper) (ls : Array Bool) (b : Nat) : Prop := nx + ops.size ≤ b ∨ ∃ i, i < ops.size ∧ ls.getD i true = false ∧ b = nx + i

theorem listed_false {ls : Array Bool} {i n : Nat} (hs : ls.size = n) (hi : i < n) : ls.getD i true = false ↔ ls.getD i false = false := by
  have : i < ls.size := by omega
  simp [Array.getD, this]

theorem conf_apart {sk : List (List Nat × List Nat)} {i j : Nat} {x y : Oper} (hx : ops[i]? = some x) (hy : ops[j]? = some y) (h : conf ops sk i j = false) :
    Oper.apart ops x y = true ∧ (∀ b, b ∈ (sk.getD i ([], [])).1 → b ∉ (sk.getD j ([], [])).1 ∧ b ∉ (sk.getD j ([], [])).2) ∧ (∀ b, b ∈ (sk.getD i ([], [])).2 → b ∉ (sk.getD j ([], [])).1) := by
  simp only [conf, hx, hy, Bool.or_eq_false_iff, Bool.not_eq_false'] at h
  obtain ⟨⟨h1, h2⟩, h3⟩ := h
  refine ⟨h1, fun b hb => ?_, fun b hb => ?_⟩
  · have := List.any_eq_false.1 h2 b hb
    simp at this
    exact this
  · have := List.any_eq_false.1 h3 b hb
    simpa using this

theorem skOf_get {E : List Eff} (i : Nat) : (skOf E).getD i ([], []) = ((effI E i).up.map (·.1), (effI E i).rd) := by
  simp only [skOf, effI, List.getD_eq_getElem?_getD, List.getElem?_map]
  cases E[i]? <;> rfl

theorem ordered_spec {sk : List (List Nat × List Nat)} (h : ordered ops sk = true) :
    (∀ j o, ops[j]? = some o → ∀ e ∈ o.after, Region.binds .any e = true → e.on < j) ∧ ∀ i j, i < j → j < ops.size → conf ops sk i j = true → reach ops ops.size j i = true := by
  unfold ordered at h
  rw [List.all_eq_true] at h
  refine ⟨fun j o ho e he hb => ?_, fun i j hij hj hc => ?_⟩
  · have hj := (Array.getElem?_eq_some_iff.1 ho).1
    have := h j (List.mem_range.2 hj)
    rw [ho, Bool.and_eq_true] at this
    have h1 := this.1
    simp only [Array.all_eq_true'] at h1
    have := h1 e he
    simpa [hb] using this
  · have := h j (List.mem_range.2 hj)
    rw [Bool.and_eq_true] at this
    have := List.all_eq_true.1 this.2 i (List.mem_range.2 hij)
    simpa [hc] using this

theorem wp_any_order (E : List Eff) (s0 : FSt) (nt : Nat) (hord : ordered ops (skOf E) = true) (hin : opsIn nt ops.toList = true)
    (hsound : ∀ i o, ops[i]? = some o → Sound P ops o (nx + i) (foldI ops E (List.range i) s0) (effI E i))
    (hend : ∀ a w I mu, Rel w0 M0 I0 nt (nx + ops.size ≤ ·) I mu (foldI ops E (List.range ops.size) s0) a w → Q .normal a w) :
    ∀ (fuel : Nat) (ls : Array Bool) (I : Nat → Prop) (mu : Nat → Option Value) (a : Act) (w : World), ls.size = ops.size → Clo ops ls →
      ((List.range ops.size).filter (fun i => !listedIn ls i)).length ≤ fuel → Rel w0 M0 I0 nt (frS nx ops ls) I mu (sg ops E s0 ls) a w → wpAny P .any ops Q fuel ls a w := by
  obtain ⟨hfwd, hconf⟩ := ordered_spec hord
  -- where nothing is ready, all is listed
  have hall : ∀ (ls : Array Bool), ls.size = ops.size → Region.ready .any ops ls = [] → ∀ i, i < ops.size → listedIn ls i = true := by
    intro ls hsz hr i
    induction i using Nat.strongRecOn with
    | _ i ih =>
      intro hi
      cases hl : listedIn ls i with
      | true => rfl
      | false =>
        have : i ∈ Region.ready .any ops ls := by
          rw [mem_ready]
          refine ⟨(listed_false hsz hi).2 hl, ops[i], Array.getElem?_eq_getElem hi, fun e he hb => ?_⟩
          have hlt := hfwd i _ (Array.getElem?_eq_getElem hi) e he hb
          exact ih e.on hlt (by omega)
        rw [hr] at this
        cases this
  have hfin : ∀ (ls : Array Bool) (I : Nat → Prop) (mu : Nat → Option Value) (a : Act) (w : World), ls.size = ops.size → Region.ready .any ops ls = [] → Rel w0 M0 I0 nt (frS nx ops ls) I mu (sg ops E s0 ls) a w → Q .normal a w := by
    intro ls I mu a w hsz hr r
    have hs : sg ops E s0 ls = foldI ops E (List.range ops.size) s0 := by
      unfold sg
      rw [List.filter_eq_self.2 fun i hi => hall ls hsz hr i (List.mem_range.1 hi)]
    rw [hs] at r
    exact hend a w I mu (r.free fun b hb => .inl hb)
  intro fuel
  induction fuel with
  | zero =>
    intro ls I mu a w hsz hclo hf r
    have hr : Region.ready .any ops ls = [] := by
      apply List.eq_nil_iff_forall_not_mem.2
      intro i hi
      rw [mem_ready] at hi
      obtain ⟨h0, o, ho, _⟩ := hi
      have hlt := (Array.getElem?_eq_some_iff.1 ho).1
      have : i ∈ (List.range ops.size).filter (fun i => !listedIn ls i) := List.mem_filter.2 ⟨List.mem_range.2 hlt, by simp [listedIn, (listed_false hsz hlt).1 h0]⟩
      have := List.length_pos_of_mem this
      omega
    exact ⟨hr, hfin ls I mu a w hsz hr r⟩
  | succ fuel ih =>
    intro ls I mu a w hsz hclo hf r
    refine ⟨fun hr => hfin ls I mu a w hsz hr r, fun i hi => ?_⟩
    rw [mem_ready] at hi
    obtain ⟨h0, o, ho, hpre⟩ := hi
    have hlt := (Array.getElem?_eq_some_iff.1 ho).1
    have hnl : listedIn ls i = false := (listed_false hsz hlt).1 h0
    -- what is before i and in its way is listed; what is behind and in its way isn't
    have hbef : ∀ j, j < i → conf ops (skOf E) j i = true → listedIn ls j = true := by
      intro j hj hc
      have hre := hconf j i hj hlt hc
      cases hn : ops.size with
      | zero => omega
      | succ m =>
        rw [hn] at hre
        simp only [reach, ho, Array.any_eq_true', Bool.and_eq_true, Bool.or_eq_true, beq_iff_eq] at hre
        rcases hre with ⟨e, he, h1, hb⟩ | ⟨e, he, ⟨_, hb⟩, h1⟩
        · have hon := hpre e he hb
          rw [← h1]; exact hon
        · exact hclo.reach _ _ _ h1 (hpre e he hb)
    have haft : ∀ j, i < j → j < ops.size → listedIn ls j = true → conf ops (skOf E) i j = false := by
      intro j hj hjn hl
      cases hc : conf ops (skOf E) i j with
      | false => rfl
      | true =>
        have := hclo.reach _ _ _ (hconf i j hj hjn hc) hl
        have h2 : ls.getD i false = false := hnl
        rw [this] at h2
        cases h2
    have hsplit : sg ops E s0 ls = foldI ops E ((List.range' (i + 1) (ops.size - i - 1)).filter (listedIn ls)) (foldI ops E ((List.range i).filter (listedIn ls)) s0) := by
      unfold sg foldI
      rw [range_split hlt, List.filter_append, List.filter_cons_of_neg (by simp [hnl]), List.foldl_append]
    have hother : ∀ j, j ≠ i → listedIn (ls.setIfInBounds i true) j = listedIn ls j := fun j hj => getD_set_ne false (Ne.symm hj)
    have hself : listedIn (ls.setIfInBounds i true) i = true := by simp [listedIn, Array.getD, hsz, hlt]
    have hsplit' : sg ops E s0 (ls.setIfInBounds i true) = applyI ops E (sg ops E s0 ls) i := by
      rw [hsplit]
      unfold sg
      rw [range_split hlt, List.filter_append, List.filter_cons_of_pos (by exact hself)]
      have e1 : (List.range i).filter (listedIn (ls.setIfInBounds i true)) = (List.range i).filter (listedIn ls) :=
        List.filter_congr fun j hj => hother j (by have := List.mem_range.1 hj; omega)
      have e2 : (List.range' (i + 1) (ops.size - i - 1)).filter (listedIn (ls.setIfInBounds i true)) = (List.range' (i + 1) (ops.size - i - 1)).filter (listedIn ls) :=
        List.filter_congr fun j hj => hother j (by have := List.mem_range'_1.1 hj; omega)
      rw [e1, e2]
      have hcomm : ∀ (l : List Nat) (s : FSt), (∀ j ∈ l, i < j ∧ j < ops.size ∧ listedIn ls j = true) → foldI ops E l (applyI ops E s i) = applyI ops E (foldI ops E l s) i := by
        intro l
        induction l with
        | nil => intro s _; rfl
        | cons j l ihl =>
          intro s hl
          obtain ⟨hij, hjn, hjl⟩ := hl j List.mem_cons_self
          have hc := haft j hij hjn hjl
          obtain ⟨hap, hb1, _⟩ := conf_apart ho (Array.getElem?_eq_getElem hjn) hc
          have hd := (Oper.apart_spec hap).2.1
          have hsw := applyI_comm (ops := ops) (E := E) (i := i) (j := j) s (fun t ht => by
              simp only [dstI, ho, Option.bind_some] at ht
              simp only [dstI, Array.getElem?_eq_getElem hjn, Option.bind_some]
              exact hd t ht)
            (fun b hb => by
              have := (hb1 b (by rw [skOf_get]; exact hb)).1
              rw [skOf_get] at this
              exact this)
          have := ihl (applyI ops E s j) fun j' hj' => hl j' (List.mem_cons_of_mem _ hj')
          simp only [foldI, List.foldl_cons] at this ⊢
          rw [hsw]
          exact this
      have := hcomm ((List.range' (i + 1) (ops.size - i - 1)).filter (listedIn ls)) (foldI ops E ((List.range i).filter (listedIn ls)) s0) fun j hj => by
        obtain ⟨h1, h2⟩ := List.mem_filter.1 hj
        have := List.mem_range'_1.1 h1
        exact ⟨by omega, by omega, h2⟩
      rw [← this]
      simp only [foldI, List.foldl_append, List.foldl_cons]
    have henv : ∀ t ∈ o.looksAt ops, (sg ops E s0 ls).env t = (foldI ops E (List.range i) s0).env t := by
      intro t ht
      rw [hsplit, foldI_env, foldI_env, foldI_env]
      rw [foldl_id _ _ _ fun j hj y => ?_, foldl_skip _ _ _ _ fun j hj hp y => ?_]
      · refine if_neg fun hd => ?_
        have hjr := List.mem_range.1 hj
        have hjn : j < ops.size := by omega
        have hc : conf ops (skOf E) j i = true := by
          cases hc : conf ops (skOf E) j i with
          | true => rfl
          | false =>
            obtain ⟨hap, _⟩ := conf_apart (Array.getElem?_eq_getElem hjn) ho hc
            simp only [dstI, Array.getElem?_eq_getElem hjn, Option.bind_some] at hd
            exact absurd ht ((Oper.apart_spec hap).1 t hd)
        rw [hbef j hjr hc] at hp
        cases hp
      · refine if_neg fun hd => ?_
        obtain ⟨h1, h2⟩ := List.mem_filter.1 hj
        have hjr := List.mem_range'_1.1 h1
        have hjn : j < ops.size := by omega
        obtain ⟨hap, _⟩ := conf_apart ho (Array.getElem?_eq_getElem hjn) (haft j (by omega) hjn h2)
        simp only [dstI, Array.getElem?_eq_getElem hjn, Option.bind_some] at hd
        exact absurd ht ((Oper.apart_spec hap).2.2 t hd)
    have hhp : ∀ b ∈ (effI E i).rd, (sg ops E s0 ls).hp b = (foldI ops E (List.range i) s0).hp b := by
      intro b hb
      rw [hsplit, foldI_hp, foldI_hp, foldI_hp]
      rw [foldl_id _ _ _ fun j hj y => ?_, foldl_skip _ _ _ _ fun j hj hp y => ?_]
      · have hjr := List.mem_range.1 hj
        have hjn : j < ops.size := by omega
        refine upAt_skip (fun p hp' hpb => ?_) y
        have hc : conf ops (skOf E) j i = true := by
          cases hc : conf ops (skOf E) j i with
          | true => rfl
          | false =>
            obtain ⟨_, hb1, _⟩ := conf_apart (Array.getElem?_eq_getElem hjn) ho hc
            have := (hb1 b (by rw [skOf_get]; exact List.mem_map.2 ⟨p, hp', hpb⟩)).2
            rw [skOf_get] at this
            exact absurd hb this
        rw [hbef j hjr hc] at hp
        cases hp
      · obtain ⟨h1, h2⟩ := List.mem_filter.1 hj
        have hjr := List.mem_range'_1.1 h1
        have hjn : j < ops.size := by omega
        refine upAt_skip (fun p hp' hpb => ?_) y
        obtain ⟨_, _, hb1⟩ := conf_apart ho (Array.getElem?_eq_getElem hjn) (haft j (by omega) hjn h2)
        have := hb1 b (by rw [skOf_get]; exact hb)
        rw [skOf_get] at this
        exact absurd (List.mem_map.2 ⟨p, hp', hpb⟩) this
    have hmem : o ∈ ops.toList := by
      have := Array.mem_of_getElem? ho
      simpa using this
    unfold wpOp
    rw [ho]
    refine hsound i o ho w0 M0 I0 nt (frS nx ops ls) I mu (sg ops E s0 ls) a w r (.inr ⟨i, hlt, h0, rfl⟩) (opsIn_spec hin o hmem) henv hhp _ Q ?_
    intro a' w' I' mu' r'
    have hap : (sg ops E s0 ls).app o.dst (effI E i) = sg ops E s0 (ls.setIfInBounds i true) := by
      rw [hsplit']
      simp only [applyI, dstI, ho, Option.bind_some]
    rw [hap] at r'
    refine ih (ls.setIfInBounds i true) I' mu' a' w' (by simp [hsz]) ?_ ?_ (r'.free fun b hb => ?_)
    · intro j o' hj ho' e he hb
      by_cases hji : j = i
      · subst hji
        obtain rfl : o = o' := by rw [ho] at ho'; exact Option.some.inj ho'
        exact getD_set_true (hpre e he hb)
      · rw [getD_set_ne false (Ne.symm hji)] at hj
        exact getD_set_true (hclo j o' hj ho' e he hb)
    · have hlen : ((List.range ops.size).filter (fun j => !listedIn ls j)).length = ((List.range ops.size).filter (fun j => !listedIn (ls.setIfInBounds i true) j)).length + 1 := by
        rw [range_split hlt, List.filter_append, List.filter_append, List.filter_cons_of_pos (by simp [hnl]), List.filter_cons_of_neg (by simp [hself])]
        have e1 : (List.range i).filter (fun j => !listedIn (ls.setIfInBounds i true) j) = (List.range i).filter (fun j => !listedIn ls j) :=
          List.filter_congr fun j hj => by rw [hother j (by have := List.mem_range.1 hj; omega)]
        have e2 : (List.range' (i + 1) (ops.size - i - 1)).filter (fun j => !listedIn (ls.setIfInBounds i true) j) = (List.range' (i + 1) (ops.size - i - 1)).filter (fun j => !listedIn ls j) :=
          List.filter_congr fun j hj => by rw [hother j (by have := List.mem_range'_1.1 hj; omega)]
        rw [e1, e2]
        simp only [List.length_append, List.length_cons]
        omega
      omega
    · rcases hb with hb | ⟨j, hj, hjl, rfl⟩
      · exact ⟨.inl hb, by omega⟩
      · have hji : j ≠ i := by
          rintro rfl
          simp [Array.getD, hsz, hlt] at hjl
        rw [getD_set_ne true (Ne.symm hji)] at hjl
        exact ⟨.inr ⟨j, hj, hjl, rfl⟩, by omega⟩
end

/-! the rules -/
section
variable {P : Program} {nt : Nat} {Q : AE → St → Prop} {s : St}

def St.nxt (s : St) (n : Nat) : St := ⟨s.env, s.hp, s.nx + n⟩

theorem AWp.region {id : Nat} {l : List Oper} (hin : opsIn nt l = true) (h : Run P l.toArray s.nx l 0 [] s (fun _ s' => Q .normal ⟨s'.env, s'.hp, s.nx + l.length⟩)) : AWp P nt (.region id l.toArray false) Q s := fun w0 M0 I0 I mu a w r => by
  refine wp_region ?_
  have := Run.ops_seq (Q := APost w0 M0 I0 nt Q) l 0 [] s _ I mu a w h (fun j => by simp) hin (r.free fun b hb => hb) ?_
  · rw [List.size_toArray, List.range_eq_range']
    exact this
  · intro E s' a' w' I' mu' hk r'
    exact ⟨.normal, _, I', mu', hk, trivial, r'.free fun b hb => by simpa using hb⟩

theorem AWp.region_draw {id : Nat} {l : List Oper} (hm : P.follows .mixedOrders = true) (hin : opsIn nt l = true)
    (h : Run P l.toArray s.nx l 0 [] s (fun E s' => ordered l.toArray (skOf E) = true ∧ Q .normal ⟨s'.env, s'.hp, s.nx + l.length⟩)) : AWp P nt (.region id l.toArray true) Q s := fun w0 M0 I0 I mu a w r => by
  refine wp_region_any hm ?_
  obtain ⟨E, s', h1, _, h3, h4, h5, h6, h7⟩ := Run.out (ops := l.toArray) l 0 [] s s _ h rfl (by simp) (fun j => by simp) rfl
  refine wp_any_order (nx := s.nx) (M0 := M0) (w0 := w0) (I0 := I0) E s.fs nt h6 (by simpa using hin) (fun i o ho => h3 i o (Nat.zero_le _) ho) ?_ _ _ I mu a _ (by simp) ?_ ?_ ?_
  · intro a' w' I' mu' r'
    rw [← h4] at r'
    exact ⟨.normal, _, I', mu', h7, trivial, r'.free fun b hb => by simpa using hb⟩
  · intro i o hi
    simp [Array.getD] at hi
  · refine Nat.le_trans (List.length_filter_le _ _) (by simp)
  · have hsg : sg l.toArray E s.fs (Array.replicate l.toArray.size false) = s.fs := by
      unfold sg
      rw [List.filter_eq_nil_iff.2 fun i hi => by simp [listedIn, Array.getD]]
      rfl
    rw [hsg]
    exact ⟨r.size, r.defers, fun t => (r.env t).mono (fun _ _ => rfl) (fun _ h => h) (fun _ _ h => h), ⟨fun b x hb => (r.w.blk b x hb).mono (fun _ _ => rfl) (fun _ h => h) (fun _ _ h => h) (fun _ _ _ _ => rfl), r.w.loc, r.w.inj, fun b hb => r.w.fresh b (by
      rcases hb with hb | ⟨i, _, _, rfl⟩
      · show s.nx ≤ b; omega
      · exact Nat.le_add_right _ _), r.w.lt, r.w.os, r.w.tape, r.w.output, r.w.grown, r.w.old, r.w.iold, r.w.inew⟩⟩
end
end Go.Ab
