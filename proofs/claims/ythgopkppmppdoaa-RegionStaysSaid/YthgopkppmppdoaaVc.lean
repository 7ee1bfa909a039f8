/-
  A generator of verification conditions over the kit's 'Code.wp' and 'Calls', on frames that are association lists; and its soundness.
-/
import Derived.Orders
import Derived.RangeFuncCalls
import Derived.RangeFuncLeaves
import Derived.RangeFuncRecord
import Derived.Laws.World
import Derived.Laws.Sem
import Derived.KernelRfl
set_option linter.unusedVariables false
set_option linter.unusedSimpArgs false
set_option linter.unusedSectionVars false
namespace Go.Vc
open Go

/-! ### Frames as association lists -/

abbrev Env := List (Nat × Value)

def eget : Env → Nat → Value
  | [], _ => undef
  | (k, v) :: l, t => match Nat.beq k t with
    | true => v
    | false => eget l t

def ehas : Env → Nat → Bool
  | [], _ => false
  | (k, _) :: l, t => match Nat.beq k t with
    | true => true
    | false => ehas l t

def eput (L : Env) (d : Option Nat) (v : Value) : Env :=
  match d with
  | none => L
  | some t => (t, v) :: L

def evE (L : Env) : Operand → Value
  | .tmp t => eget L t
  | .const v => v
  | .global g => .pointer (some ⟨g, 0, none⟩)
  | .func f => .func (.func f) #[] #[]

def covO (L : Env) : Operand → Bool
  | .tmp t => ehas L t
  | _ => true

def notSelect : Op → Bool
  | .select .. => false
  | _ => true

def covers (L : Env) (o : Op) : Bool := notSelect o && o.operands.toList.all (covO L)

def dOk (n : Nat) : Option Nat → Bool
  | none => true
  | some t => Nat.blt t n

theorem eget_eput_same (L : Env) (t : Nat) (v : Value) : eget (eput L (some t) v) t = v := by
  simp [eput, eget]
theorem eget_eput_ne (L : Env) {t u : Nat} (v : Value) (h : t ≠ u) : eget (eput L (some t) v) u = eget L u := by
  have : Nat.beq t u = false := by
    cases hb : Nat.beq t u
    · rfl
    · exact absurd (Nat.eq_of_beq_eq_true hb) h
  simp [eput, eget, this]
theorem ehas_eput_same (L : Env) (t : Nat) (v : Value) : ehas (eput L (some t) v) t = true := by
  simp [eput, ehas]
theorem ehas_eput_ne (L : Env) {t u : Nat} (v : Value) (h : t ≠ u) : ehas (eput L (some t) v) u = ehas L u := by
  have : Nat.beq t u = false := by
    cases hb : Nat.beq t u
    · rfl
    · exact absurd (Nat.eq_of_beq_eq_true hb) h
  simp [eput, ehas, this]

variable {ds : List Deferred}
/-- A frame that an association list tells of. -/
structure Has (ds : List Deferred) (n : Nat) (a : Act) (L : Env) : Prop where
  defers : a.defers = ds
  size : a.tmps.size = n
  get : ∀ t, ehas L t = true → a.tmps.getD t undef = eget L t

theorem put_size (a : Act) (d : Option Nat) (v : Value) : (a.put d v).tmps.size = a.tmps.size := by
  cases d <;> simp [Act.put]
theorem put_defers (a : Act) (d : Option Nat) (v : Value) : (a.put d v).defers = a.defers := by
  cases d <;> simp [Act.put]
theorem put_get_same (a : Act) (t : Nat) (v : Value) (h : t < a.tmps.size) : (a.put (some t) v).tmps.getD t undef = v := by
  simp [Act.put, h]
theorem put_get_ne (a : Act) (d : Option Nat) {u : Nat} (v : Value) (h : d ≠ some u) : (a.put d v).tmps.getD u undef = a.tmps.getD u undef := by
  cases d with
  | none => rfl
  | some t =>
    have hne : t ≠ u := fun e => h (by rw [e])
    simp [Act.put, Array.getElem?_setIfInBounds_ne hne]
theorem put_at_ne (a : Act) (d : Option Nat) {u : Nat} (v : Value) (h : d ≠ some u) : (a.put d v).tmps[u]? = a.tmps[u]? := by
  cases d with
  | none => rfl
  | some t =>
    have hne : t ≠ u := fun e => h (by rw [e])
    simp [Act.put, Array.getElem?_setIfInBounds_ne hne]

theorem dOk_lt {n t : Nat} (h : dOk n (some t) = true) : t < n := by
  simp only [dOk] at h
  rwa [Nat.blt_eq] at h

theorem Has.put {n : Nat} {a : Act} {L : Env} (h : Has ds n a L) (d : Option Nat) (v : Value) (hd : dOk n d = true) : Has ds n (a.put d v) (eput L d v) := by
  refine ⟨by rw [put_defers]; exact h.defers, by rw [put_size]; exact h.size, fun u hu => ?_⟩
  cases d with
  | none => exact h.get u hu
  | some t =>
    by_cases e : t = u
    · subst e
      rw [put_get_same _ _ _ (by rw [h.size]; exact dOk_lt hd), eget_eput_same]
    · rw [put_get_ne _ _ _ (by simpa using e), eget_eput_ne _ _ e]
      rw [ehas_eput_ne _ _ e] at hu
      exact h.get u hu

theorem Has.eval {n : Nat} {a : Act} {L : Env} (h : Has ds n a L) {x : Operand} (hx : covO L x = true) : a.eval x = evE L x := by
  cases x with
  | tmp t => exact h.get t hx
  | _ => rfl

theorem notSelect_ne {op : Op} (h : notSelect op = true) : ∀ cs b, op ≠ .select cs b := by
  intro cs b e
  subst e
  simp [notSelect] at h

theorem Has.exec {n : Nat} {a : Act} {L : Env} (h : Has ds n a L) (o : Oper) (hc : covers L o.op = true) : execOp a.eval o = execOp (evE L) o := by
  unfold covers at hc
  rw [Bool.and_eq_true, List.all_eq_true] at hc
  exact execOp_congr o (notSelect_ne hc.1) fun x hx => h.eval (hc.2 x (by simpa using hx))

/-! ### One operation -/

/-- What a call of a function that returns hands on. -/
def retK (K : Value → World → Prop) : Ending → World → Prop
  | .returned v, w => K v w
  | _, _ => False

def vcNext (P : Program) (K : Value → World → Prop) : Result Next → Prop
  | .ok (.value v) w => K v w
  | .ok .skip w => K undef w
  | .ok (.enter f args) w => Calls P f args w (retK K)
  | _ => False

structure mCall (P : Program) (f : FuncId) (args : Array Value) (w : World) (K : Value → World → Prop) : Prop where
  out : Calls P f args w (retK K)
/-- What asks for a round of a loop, too. -/
def vcNextY (P : Program) (K : Value → World → Prop) : Result Next → Prop
  | .ok (.round l f tmps assign body) w => RoundIn Fence.wide 0 P l f tmps assign body w (retK K)
  | r => vcNext P K r
/-- A call of a function value: of yield, too. -/
structure mY (P : Program) (s : Sem Next) (w : World) (K : Value → World → Prop) : Prop where
  out : vcNextY P K (s.run P w)
structure mN (P : Program) (s : Sem Next) (w : World) (K : Value → World → Prop) : Prop where
  out : vcNext P K (s.run P w)
/-- What leaves a value. -/
def vS (s : Sem Value) : Sem Next := do pure (Next.value (← s))
/-- What leaves none. -/
def uS (s : Sem Unit) : Sem Next := do s; pure Next.skip
def mV (P : Program) (s : Sem Value) (w : World) (K : Value → World → Prop) : Prop := mN P (vS s) w K
def mU (P : Program) (s : Sem Unit) (w : World) (K : World → Prop) : Prop := mN P (uS s) w fun _ w => K w
def nilS (x : Value) : Sem Next := execOp (fun _ => x) { dst := none, op := .nilCheck (.tmp 0), type := 0, pos := "", after := #[], guard := none }
def pickS (c a b : Value) : Sem Next := do pure (Next.value (if ← asBool c then a else b))
def opS : Bool → Operand
  | true => .const undef
  | false => .tmp 0
/-- '==' and '!=': whether an operand is a constant is told beside it. -/
def eqS (op : BinOp) (t : TypeId) (cx cy : Bool) (a b : Value) : Sem Value := do eqGuard op t (opS cx) (opS cy) a b; binOp op t a b
/-- A call of a function value. -/
def callVS (f : Value) (args : Array Value) : Sem Next := do let d ← Deferred.ofValue f args; invoke d.target d.args
/-- In a region that draws: what may be done at any time. -/
inductive mP (P : Program) (s : Sem Next) (K : Value → Prop) : Prop
  | mk (v : Value) (h : ∀ w, s.run P w = .ok (.value v) w) (k : K v) : mP P s K
def rdN (P : Program) (s : Sem Next) (v : Value) (w : World) : Prop := s.run P w = .ok (.value v) w
/-- In a region that draws: what reads; it is to read the same behind whatever it doesn't wait for. -/
inductive mR (P : Program) (s : Sem Next) (w : World) (K : Value → Prop) : Prop
  | mk (v : Value) (h : rdN P s v w) (k : K v) : mR P s w K
def mDrew (w : World) (K : World → Prop) : Prop := K w.drew
def rdV (P : Program) (s : Sem Value) (v : Value) (w : World) : Prop := s.run P w = .ok v w
/-- A result that lies in memory. -/
def cellS (t : TypeId) (x : Value) : Sem Value := do loadVar t (← asAddr x)
inductive mRes (P : Program) (s : Sem Value) (w : World) (K : Value → Prop) : Prop
  | mk (v : Value) (h : rdV P s v w) (k : K v) : mRes P s w K
/-- Ways that meet again. -/
structure mJ {J : Type} (body : J → Prop) (rest : J) : Prop where
  out : body rest
theorem mJ0_intro {body : (World → Prop) → Prop} {rest : World → Prop} (M : World → Prop)
    (hb : ∀ J : World → Prop, (∀ w, M w → J w) → body J) (hr : ∀ w, M w → rest w) : mJ body rest := ⟨hb rest hr⟩
theorem mJ1_intro {body : (Value → World → Prop) → Prop} {rest : Value → World → Prop} (M : Value → World → Prop)
    (hb : ∀ J : Value → World → Prop, (∀ x w, M x w → J x w) → body J) (hr : ∀ x w, M x w → rest x w) : mJ body rest := ⟨hb rest hr⟩
theorem mJ2_intro {body : (Value → Value → World → Prop) → Prop} {rest : Value → Value → World → Prop} (M : Value → Value → World → Prop)
    (hb : ∀ J : Value → Value → World → Prop, (∀ x y w, M x y w → J x y w) → body J) (hr : ∀ x y w, M x y w → rest x y w) : mJ body rest := ⟨hb rest hr⟩

/-- A program whose functions with these numbers have bodies. -/
def CallsOk (P : Program) (cOk : Nat → Bool) : Prop :=
  ∀ f, cOk f = true → ∃ fn, P.funcs[f]? = some fn ∧ fn.body.isNone = false ∧ (fn.name == "runtime.NumGoroutine") = false

/-- A choice between values that are there. -/
def isPick : Value → Option Bool
  | .bool b => some b
  | _ => none

def vcOp (P : Program) (cOk : Nat → Bool) (L : Env) (o : Oper) (w : World) (K : Value → World → Prop) : Prop :=
  match o.op with
  | .move x => K (evE L x) w
  | .assign x => K (evE L x) w
  | .pick c a b => match evE L c with
    | .bool true => K (evE L a) w
    | .bool false => K (evE L b) w
    | _ => mN P (execOp (evE L) o) w K
  | .call c => match c.callee with
    | .value (.func f) => match cOk f with
      | true => mCall P f (c.args.map (evE L)) w K
      | false => mN P (execOp (evE L) o) w K
    | _ => mN P (execOp (evE L) o) w K
  | _ => mN P (execOp (evE L) o) w K

/-- Where the order is that of the text. -/
def vcOpY (P : Program) (cOk : Nat → Bool) (L : Env) (o : Oper) (w : World) (K : Value → World → Prop) : Prop :=
  match o.op with
  | .call c => match c.callee with
    | .value (.tmp _) => mY P (execOp (evE L) o) w K
    | _ => vcOp P cOk L o w K
  | _ => vcOp P cOk L o w K

theorem vcNext_mono {P : Program} {K K' : Value → World → Prop} (h : ∀ v w, K v w → K' v w) : ∀ {r : Result Next}, vcNext P K r → vcNext P K' r := by
  intro r hr
  cases r with
  | halt x w => exact hr.elim
  | ok x w =>
    cases x <;> first
      | exact h _ _ hr
      | exact hr.elim
      | exact Calls.mono hr fun e w' he => by cases e <;> first | exact h _ _ he | exact he.elim

theorem upon_of_vcNext {P : Program} {o : Oper} {a : Act} {next : Act → World → Prop} {Q : Exit → Act → World → Prop} :
    ∀ {r : Result Next}, vcNext P (fun v w => next (a.put o.dst v) w) r → o.upon P a next Q r := by
  intro r hr
  cases r with
  | halt x w => exact hr.elim
  | ok x w =>
    cases x <;> first
      | exact hr
      | exact hr.elim
      | exact Calls.mono hr fun e w' he => by cases e <;> first | exact he | exact he.elim

theorem vcNextY_mono {P : Program} {K K' : Value → World → Prop} (h : ∀ v w, K v w → K' v w) : ∀ {r : Result Next}, vcNextY P K r → vcNextY P K' r := by
  intro r hr
  unfold vcNextY at hr ⊢
  split at hr
  · exact RoundIn.mono hr fun e w' he => by cases e <;> first | exact h _ _ he | exact he.elim
  · exact vcNext_mono h hr
theorem vcNextY_of {P : Program} {K : Value → World → Prop} {r : Result Next} (h : vcNext P K r) : vcNextY P K r := by
  unfold vcNextY
  split
  · exact h.elim
  · exact h

/-- The fences over which the rules stand: the wide one, and a round's in it. -/
structure WideF (F : Fence) : Prop where
  fn : ∀ f, F.fn f
  depth : F.depth = none
  calls : ∀ (n : Nat) (P : Program) (f : FuncId) (args : Array Value) (w : World) (R : Ending → World → Prop), Calls P f args w R → CallsIn F n P f args w R
  round : ∀ (n : Nat) (P : Program) (l : Nat) (f : FuncId) (tmps : Array Value) (assign body : Code) (w : World) (R : Ending → World → Prop), RoundIn Fence.wide 0 P l f tmps assign body w R → RoundIn F n P l f tmps assign body w R
theorem wideF : WideF Fence.wide :=
  ⟨fun _ => trivial, rfl, fun n P f args w R h => callsIn_wide.2 h, fun n P l f tmps a b w R h => ⟨h.1, fun c cs _ => h.2 c cs (room_wide _)⟩⟩
theorem wideF_round (l : Nat) : WideF (Fence.wide.inRound l) :=
  ⟨fun _ => trivial, rfl, fun n P f args w R h => CallsIn.inRound l (callsIn_wide.2 h), fun n P l' f tmps a b w R h => ⟨h.1, fun c cs _ => h.2 c cs (room_wide _)⟩⟩

theorem uponIn_of_vcNextY {F : Fence} (hF : WideF F) {m : Nat} {P : Program} {o : Oper} {a : Act} {next : Act → World → Prop} {Q : Exit → Act → World → Prop} :
    ∀ {r : Result Next}, vcNextY P (fun v w => next (a.put o.dst v) w) r → o.uponIn F m P a next Q r := by
  intro r hr
  have hd : F.depth.isSome = true → 1 ≤ m := fun h => by rw [hF.depth] at h; cases h
  cases r with
  | halt x w => exact hr.elim
  | ok x w =>
    cases x <;> first
      | exact hr
      | exact hr.elim
      | exact ⟨hd, (hF.calls _ _ _ _ _ _ (Calls.mono hr fun e w' he => by cases e <;> first | exact he | exact he.elim))⟩
      | exact ⟨hd, RoundIn.mono (hF.round _ _ _ _ _ _ _ _ _ hr) fun e w' he => by cases e <;> first | exact he | exact he.elim⟩

theorem run_call_ok {P : Program} {cOk : Nat → Bool} (hP : CallsOk P cOk) {f : Nat} (hf : cOk f = true) (ρ : Operand → Value) (o : Oper) (c : Call)
    (ho : o.op = .call c) (hc : c.callee = .value (.func f)) (hρ : ρ (.func f) = .func (.func f) #[] #[]) (w : World) :
    (execOp ρ o).run P w = .ok (.enter f (c.args.map ρ)) w := by
  obtain ⟨fn, h1, h2, h3⟩ := hP f hf
  have h2' : fn.body ≠ none := fun e => by rw [e] at h2; cases h2
  have h3' : fn.name ≠ "runtime.NumGoroutine" := fun e => by rw [e] at h3; simp at h3
  simp [execOp, ho, resolve, hc, hρ, Deferred.ofValue, invoke, callFunc, Go.program, bind, Sem.bind, Sem.run, h1, h2', h3', pure]

theorem vcOp_sound {P : Program} {cOk : Nat → Bool} (hP : CallsOk P cOk) {L : Env} {o : Oper} {w : World} {K : Value → World → Prop}
    (h : vcOp P cOk L o w K) : vcNext P K ((execOp (evE L) o).run P w) := by
  unfold vcOp at h
  split at h
  · rename_i x hx
    simpa [execOp, hx, pure, Sem.run, vcNext] using h
  · rename_i x hx
    simpa [execOp, hx, pure, Sem.run, vcNext] using h
  · rename_i c a b hx
    split at h
    · rename_i hc
      simpa [execOp, hx, hc, asBool, bind, Sem.bind, pure, Sem.run, vcNext] using h
    · rename_i hc
      simpa [execOp, hx, hc, asBool, bind, Sem.bind, pure, Sem.run, vcNext] using h
    · exact h.out
  · rename_i c hc
    split at h
    · rename_i f hf
      split at h
      · rename_i hok
        rw [run_call_ok hP hok (evE L) o c hc hf rfl w]
        exact h.out
      · exact h.out
    · exact h.out
  · exact h.out

theorem vcOpY_sound {P : Program} {cOk : Nat → Bool} (hP : CallsOk P cOk) {L : Env} {o : Oper} {w : World} {K : Value → World → Prop}
    (h : vcOpY P cOk L o w K) : vcNextY P K ((execOp (evE L) o).run P w) := by
  unfold vcOpY at h
  split at h
  · split at h
    · exact h.out
    · exact vcNextY_of (vcOp_sound hP h)
  · exact vcNextY_of (vcOp_sound hP h)
/-- An operation that comes to anything is no 'defer'. -/
theorem not_defer {P : Program} {K : Value → World → Prop} {ρ : Operand → Value} {o : Oper} {w : World} (h : vcNextY P K ((execOp ρ o).run P w)) : ∀ c, o.op ≠ .defer c := by
  intro c hc
  have he : execOp ρ o = (do let d ← resolve ρ c o.type; pure (.defer d)) := by simp [execOp, hc]
  rw [he, Sem.run_bind] at h
  cases hr : (resolve ρ c o.type).run P w with
  | halt x w' => rw [hr] at h; exact h.elim
  | ok d w' => rw [hr] at h; exact h.elim

/-! ### Tests -/

def mIf (x : Value) (A B : Prop) : Prop :=
  match x with
  | .bool true => A
  | .bool false => B
  | _ => False

theorem mIf_elim {x : Value} {A B : Prop} (h : mIf x A B) : (x = .bool true ∧ A) ∨ (x = .bool false ∧ B) := by
  unfold mIf at h
  split at h
  · exact .inl ⟨rfl, h⟩
  · exact .inr ⟨rfl, h⟩
  · exact h.elim

/-- Was an operation left out? Its own guard's slot tells. -/
def skippedB (ops : List Oper) (L : Env) (j : Nat) : Bool :=
  match (ops[j]?).bind (·.guard) with
  | none => false
  | some (j', want) => match (ops[j']?).bind (·.dst) with
    | none => false
    | some t' => match eget L t' with
      | .bool true => !want
      | .bool false => want
      | _ => true
def isUB (v : Value) : Bool :=
  match v with
  | .tuple _ => true
  | _ => false
/-- An operation's guard: 'A' where it is wanted, 'B' where it is not. -/
def vcGuard (n : Nat) (ops : List Oper) (g : Option (Nat × Bool)) (L : Env) (A B : Env → Prop) : Prop :=
  match g with
  | none => A L
  | some (j, want) => match (ops[j]?).bind (·.dst) with
    | none => False
    | some t => match ehas L t && Nat.blt t n with
      | false => False
      | true => match skippedB ops L j with
        | true => match isUB (eget L t) with
          | true => B L
          | false => False
        | false => match want with
          | true => mIf (eget L t) (A ((t, .bool true) :: L)) (B ((t, .bool false) :: L))
          | false => mIf (eget L t) (B ((t, .bool true) :: L)) (A ((t, .bool false) :: L))

/-- Two association lists that tell the same. -/
def Like (L L' : Env) : Prop := (∀ t, ehas L' t = ehas L t) ∧ ∀ t, eget L' t = eget L t
theorem Like.refl (L : Env) : Like L L := ⟨fun _ => rfl, fun _ => rfl⟩
theorem like_put {L : Env} {t : Nat} {v : Value} (hh : ehas L t = true) (hv : eget L t = v) : Like L ((t, v) :: L) := by
  show Like L (eput L (some t) v)
  refine ⟨fun u => ?_, fun u => ?_⟩
  · by_cases e : t = u
    · subst e; rw [ehas_eput_same, hh]
    · rw [ehas_eput_ne _ _ e]
  · by_cases e : t = u
    · subst e; rw [eget_eput_same, hv]
    · rw [eget_eput_ne _ _ e]
theorem Has.like {n : Nat} {a : Act} {L L' : Env} (h : Has ds n a L) (hl : Like L L') : Has ds n a L' :=
  ⟨h.defers, h.size, fun t ht => by rw [hl.2 t]; exact h.get t (by rw [← hl.1 t]; exact ht)⟩

/-- A frame that agrees with the list on a guard's slot. -/
def GAgree (n : Nat) (ops : Array Oper) (g : Option (Nat × Bool)) (L : Env) (tmps : Array Value) : Prop :=
  tmps.size = n ∧ ∀ j want t, g = some (j, want) → (ops[j]?).bind (·.dst) = some t → tmps.getD t undef = eget L t

/-- What a guard comes to. -/
theorem vcGuard_cases {n : Nat} {ops : Array Oper} {o : Oper} {L : Env} {A B : Env → Prop} (h : vcGuard n ops.toList o.guard L A B) :
    (∀ j want t, o.guard = some (j, want) → (ops[j]?).bind (·.dst) = some t → ehas L t = true) ∧
    ∃ L', Like L L' ∧ ((A L' ∧ ∀ tmps, GAgree n ops o.guard L tmps → Region.wanted o (yielded ops tmps) = true) ∨
      (B L' ∧ ∀ tmps, GAgree n ops o.guard L tmps → Region.wanted o (yielded ops tmps) = false)) := by
  unfold vcGuard at h
  split at h
  · rename_i hgd
    exact ⟨fun j want t hj => (by rw [hgd] at hj; cases hj), L, Like.refl L, .inl ⟨h, fun tmps _ => by simp [Region.wanted, hgd]⟩⟩
  · rename_i j want hgd
    split at h
    · exact h.elim
    · rename_i t ht
      split at h
      · exact h.elim
      · rename_i hh
        rw [Bool.and_eq_true] at hh
        obtain ⟨hh, hlt⟩ := hh
        have hlt : t < n := by rwa [Nat.blt_eq] at hlt
        have ht' : (ops[j]?).bind (·.dst) = some t := by simpa using ht
        have hy : ∀ (tmps : Array Value) (b : Bool), eget L t = .bool b → GAgree n ops o.guard L tmps → Region.wanted o (yielded ops tmps) = (b == want) := by
          intro tmps b hb hg
          have hlt' : t < tmps.size := by rw [hg.1]; exact hlt
          have hv := hg.2 j want t hgd ht'
          have hv : tmps[t] = .bool b := by rw [← hb]; simpa [hlt'] using hv
          simp [Region.wanted, hgd, yielded, ht', hlt', hv]
        have hk : ∀ j' want' t', o.guard = some (j', want') → (ops[j']?).bind (·.dst) = some t' → ehas L t' = true := by
          intro j' want' t' hj' ht2
          rw [hgd] at hj'
          injection hj' with hj'
          injection hj' with hj1 hj2
          subst hj1
          rw [ht'] at ht2
          injection ht2 with ht2
          subst ht2
          exact hh
        refine ⟨hk, ?_⟩
        split at h
        · split at h
          · rename_i hu
            refine ⟨L, Like.refl L, .inr ⟨h, fun tmps hg => ?_⟩⟩
            have hlt' : t < tmps.size := by rw [hg.1]; exact hlt
            have hv := hg.2 j want t hgd ht'
            have hv : tmps[t] = eget L t := by simpa [hlt'] using hv
            have hnb : ∀ b, tmps[t] ≠ .bool b := by
              intro b hb
              rw [← hv, hb] at hu
              cases hu
            unfold Region.wanted
            rw [hgd]
            have hy0 : yielded ops tmps j = none := by
              unfold yielded
              rw [ht']
              show (match tmps[t]? with | some (.bool b) => some b | _ => none) = none
              rw [Array.getElem?_eq_getElem hlt']
              split
              · rename_i b hb
                injection hb with hb
                exact absurd hb (hnb b)
              · rfl
            show (yielded ops tmps j == some want) = false
            rw [hy0]
            rfl
          · exact h.elim
        split at h
        · rcases mIf_elim h with ⟨hx, hA⟩ | ⟨hx, hB⟩
          · exact ⟨_, like_put hh hx, .inl ⟨hA, fun tmps hg => hy tmps _ hx hg⟩⟩
          · exact ⟨_, like_put hh hx, .inr ⟨hB, fun tmps hg => hy tmps _ hx hg⟩⟩
        · rcases mIf_elim h with ⟨hx, hA⟩ | ⟨hx, hB⟩
          · exact ⟨_, like_put hh hx, .inr ⟨hA, fun tmps hg => hy tmps _ hx hg⟩⟩
          · exact ⟨_, like_put hh hx, .inl ⟨hB, fun tmps hg => hy tmps _ hx hg⟩⟩

/-! ### A region in the order of its text -/

def chk (b : Bool) (p : Prop) : Prop :=
  match b with
  | true => p
  | false => False
theorem chk_elim {b : Bool} {p : Prop} (h : chk b p) : b = true ∧ p := by
  unfold chk at h
  split at h
  · exact ⟨rfl, h⟩
  · exact h.elim

/-- What an operation leaves goes into its slot. -/
def vcBind (n : Nat) (d : Option Nat) (L : Env) (f : (Value → World → Prop) → Prop) (K : Env → World → Prop) : Prop :=
  match d with
  | none => f fun _ w' => K L w'
  | some t => chk (Nat.blt t n) (f fun v w' => K ((t, v) :: L) w')
theorem vcBind_elim {n : Nat} {d : Option Nat} {L : Env} {f : (Value → World → Prop) → Prop} {K : Env → World → Prop} (h : vcBind n d L f K) :
    dOk n d = true ∧ f fun v w' => K (eput L d v) w' := by
  unfold vcBind at h
  split at h
  · exact ⟨rfl, h⟩
  · exact chk_elim h
def vcSkip (n : Nat) (d : Option Nat) (L : Env) (K : Env → Prop) : Prop :=
  match d with
  | none => K L
  | some t => chk (Nat.blt t n) (K ((t, undef) :: L))
theorem vcSkip_elim {n : Nat} {d : Option Nat} {L : Env} {K : Env → Prop} (h : vcSkip n d L K) : dOk n d = true ∧ K (eput L d undef) := by
  unfold vcSkip at h
  split at h
  · exact ⟨rfl, h⟩
  · exact chk_elim h

def vcOps (P : Program) (cOk : Nat → Bool) (n : Nat) (all : List Oper) : List Oper → Env → World → (Env → World → Prop) → Prop
  | [], L, w, K => K L w
  | o :: rest, L, w, K => vcGuard n all o.guard L
      (fun L => chk (covers L o.op) (vcBind n o.dst L (vcOpY P cOk L o w) fun L' w' => vcOps P cOk n all rest L' w' K))
      (fun L => vcSkip n o.dst L fun L' => vcOps P cOk n all rest L' w K)

theorem mCall_mono {P : Program} {f : FuncId} {args : Array Value} {w : World} {K K' : Value → World → Prop} (h : ∀ v w, K v w → K' v w) (hc : mCall P f args w K) : mCall P f args w K' :=
  ⟨Calls.mono hc.out fun e w' he => by cases e <;> first | exact h _ _ he | exact he.elim⟩
theorem mN_mono {P : Program} {s : Sem Next} {w : World} {K K' : Value → World → Prop} (h : ∀ v w, K v w → K' v w) (hc : mN P s w K) : mN P s w K' := ⟨vcNext_mono h hc.out⟩
theorem mY_mono {P : Program} {s : Sem Next} {w : World} {K K' : Value → World → Prop} (h : ∀ v w, K v w → K' v w) (hc : mY P s w K) : mY P s w K' := ⟨vcNextY_mono h hc.out⟩
theorem vcOp_mono {P : Program} {cOk : Nat → Bool} {L : Env} {o : Oper} {w : World} {K K' : Value → World → Prop} (h : ∀ v w, K v w → K' v w) (hc : vcOp P cOk L o w K) : vcOp P cOk L o w K' := by
  unfold vcOp at hc ⊢
  split at hc
  · exact h _ _ hc
  · exact h _ _ hc
  · split at hc
    · exact h _ _ hc
    · exact h _ _ hc
    · exact mN_mono h hc
  · split at hc
    · split at hc
      · exact mCall_mono h hc
      · exact mN_mono h hc
    · exact mN_mono h hc
  · exact mN_mono h hc
theorem vcOpY_mono {P : Program} {cOk : Nat → Bool} {L : Env} {o : Oper} {w : World} {K K' : Value → World → Prop} (h : ∀ v w, K v w → K' v w) (hc : vcOpY P cOk L o w K) : vcOpY P cOk L o w K' := by
  unfold vcOpY at hc ⊢
  split at hc
  · split at hc
    · exact mY_mono h hc
    · exact vcOp_mono h hc
  · exact vcOp_mono h hc
theorem mIf_mono {x : Value} {A B A' B' : Prop} (ha : A → A') (hb : B → B') (h : mIf x A B) : mIf x A' B' := by
  unfold mIf at h ⊢
  split at h
  · exact ha h
  · exact hb h
  · exact h.elim
theorem vcGuard_mono {n : Nat} {ops : List Oper} {g : Option (Nat × Bool)} {L : Env} {A B A' B' : Env → Prop} (ha : ∀ L, A L → A' L) (hb : ∀ L, B L → B' L) (h : vcGuard n ops g L A B) : vcGuard n ops g L A' B' := by
  unfold vcGuard at h ⊢
  split at h
  · exact ha _ h
  · split at h
    · exact h.elim
    · split at h
      · exact h.elim
      · split at h
        · split at h
          · exact hb _ h
          · exact h.elim
        · split at h
          · exact mIf_mono (ha _) (hb _) h
          · exact mIf_mono (hb _) (ha _) h
theorem chk_mono {b : Bool} {p q : Prop} (hpq : p → q) (h : chk b p) : chk b q := by
  unfold chk at h ⊢
  split at h
  · exact hpq h
  · exact h.elim
theorem vcOps_mono {P : Program} {cOk : Nat → Bool} {n : Nat} {all : List Oper} {K K' : Env → World → Prop} (h : ∀ L w, K L w → K' L w) : ∀ {l : List Oper} {L : Env} {w : World}, vcOps P cOk n all l L w K → vcOps P cOk n all l L w K'
  | [], L, w, hc => h _ _ hc
  | o :: rest, L, w, hc => by
    simp only [vcOps] at hc ⊢
    refine vcGuard_mono (fun L hL => chk_mono (fun hL => ?_) hL) (fun L hL => ?_) hc
    · unfold vcBind at hL ⊢
      split at hL
      · exact vcOpY_mono (fun v w hv => vcOps_mono h hv) hL
      · exact chk_mono (fun hL => vcOpY_mono (fun v w hv => vcOps_mono h hv) hL) hL
    · unfold vcSkip at hL ⊢
      split at hL
      · exact vcOps_mono h hL
      · exact chk_mono (fun hL => vcOps_mono h hL) hL

def opsD (ops : List Oper) : List Nat := ops.filterMap (·.dst)

/-- Frames that differ at these slots alone. -/
def Off (D : List Nat) (a a' : Act) : Prop := ∀ t, t ∉ D → a'.tmps[t]? = a.tmps[t]?
theorem Off.refl (D : List Nat) (a : Act) : Off D a a := fun _ _ => rfl
theorem Off.trans {D : List Nat} {a b c : Act} (h : Off D a b) (k : Off D b c) : Off D a c := fun t ht => (k t ht).trans (h t ht)
theorem Off.mono {D D' : List Nat} {a b : Act} (h : Off D a b) (hs : ∀ t, t ∈ D → t ∈ D') : Off D' a b := fun t ht => h t fun hd => ht (hs t hd)
theorem Off.put {D : List Nat} (a : Act) (d : Option Nat) (v : Value) (h : ∀ t, d = some t → t ∈ D) : Off D a (a.put d v) := fun u hu =>
  put_at_ne a d v fun e => hu (h u e)

theorem drop_cons {α : Type} {l : List α} {k : Nat} {x : α} {r : List α} (h : l.drop k = x :: r) : l[k]? = some x ∧ l.drop (k + 1) = r ∧ k < l.length := by
  have hk : k < l.length := by
    rcases Nat.lt_or_ge k l.length with h' | h'
    · exact h'
    · rw [List.drop_eq_nil_of_le h'] at h; cases h
  rw [List.drop_eq_getElem_cons hk] at h
  injection h with h1 h2
  exact ⟨by rw [List.getElem?_eq_getElem hk, h1], h2, hk⟩

theorem vcOps_sound {P : Program} {cOk : Nat → Bool} (hP : CallsOk P cOk) {F : Fence} (hF : WideF F) {m n : Nat} {ops : Array Oper} {a0 : Act} {K : Env → World → Prop} {Q : Exit → Act → World → Prop}
    (hQ : ∀ a L w, Has ds n a L → Off (opsD ops.toList) a0 a → K L w → Q .normal a w) :
    ∀ (l : List Oper) (k : Nat), ops.toList.drop k = l → ∀ (a : Act) (L : Env) (w : World), Has ds n a L → Off (opsD ops.toList) a0 a → vcOps P cOk n ops.toList l L w K →
      wpOpsIn F m P ops Q (List.range' k (ops.size - k)) a w := by
  intro l
  induction l with
  | nil =>
    intro k hk a L w hL hO h
    have hk' : ops.size - k = 0 := by
      have := congrArg List.length hk
      simpa using this
    rw [hk']
    exact hQ a L w hL hO h
  | cons o rest ih =>
    intro k hk a L w hL hO h
    obtain ⟨h1, h2, h3⟩ := drop_cons hk
    have h3' : k < ops.size := by simpa using h3
    have ho : ops[k]? = some o := by simpa using h1
    have hsz : ops.size - k = (ops.size - (k + 1)) + 1 := by omega
    have hmem : ∀ t, o.dst = some t → t ∈ opsD ops.toList := fun t ht =>
      List.mem_filterMap.2 ⟨o, List.mem_of_getElem? h1, ht⟩
    rw [hsz, List.range'_succ]
    unfold wpOpsIn
    simp only [ho]
    simp only [vcOps] at h
    obtain ⟨hgh, L', hl, hh⟩ := vcGuard_cases h
    have hL' := hL.like hl
    have hga : GAgree n ops o.guard L a.tmps := ⟨hL.size, fun j want t h1 h2 => hL.get t (hgh j want t h1 h2)⟩
    rcases hh with ⟨hA, hw⟩ | ⟨hB, hw⟩ <;> have hw := hw _ hga
    · simp only [hw, if_true]
      obtain ⟨hc, hA⟩ := chk_elim hA
      obtain ⟨hd, hA⟩ := vcBind_elim hA
      refine ⟨fun f _ => hF.fn f, ?_⟩
      have hY := vcNextY_mono (fun v w' hv => ih (k + 1) h2 _ _ _ (hL'.put _ _ hd) (hO.trans (Off.put a _ _ hmem)) hv) (vcOpY_sound hP hA)
      rw [Oper.semAt_eq _ _ _ (not_defer hY), hL'.exec o hc]
      exact uponIn_of_vcNextY hF hY
    · simp only [hw, Bool.false_eq_true, if_false]
      obtain ⟨hc, hB⟩ := vcSkip_elim hB
      exact ⟨fun f _ => hF.fn f, ih (k + 1) h2 _ _ _ (hL'.put _ _ hc) (hO.trans (Off.put a _ _ hmem)) hB⟩

/-! ### A region that draws its order -/

def isPure : Op → Bool
  | .move _ | .assign _ | .pick .. | .build .. | .fieldAddr .. | .field .. | .unOp .. | .extract .. | .nilCheck _ | .makeFunc .. | .indexAddr .. | .index .. | .binOp ..
  | .slice .. | .convert .. | .makeInterface .. => true
  | .call { callee := .builtin b, .. } => match b with
    | .len | .cap | .max | .min => true
    | _ => false
  | _ => false

/-- In this world the operation leaves 'v' and does nothing else. -/
def runV (P : Program) (L : Env) (o : Oper) (v : Value) (w : World) : Prop := rdN P (execOp (evE L) o) v w

abbrev Held := List (Nat × (World → Prop))

def vcTake (P : Program) (L : Env) (o : Oper) (i : Nat) (T : Held) (w : World) (K : Value → Held → Prop) : Prop :=
  match o.op with
  | .move x => K (evE L x) T
  | .assign x => K (evE L x) T
  | .pick c a b => match evE L c with
    | .bool true => K (evE L a) T
    | .bool false => K (evE L b) T
    | _ => mP P (execOp (evE L) o) fun v => K v T
  | op => match isPure op with
    | true => mP P (execOp (evE L) o) fun v => K v T
    | false => mR P (execOp (evE L) o) w fun v => K v ((i, rdN P (execOp (evE L) o) v) :: T)

def obl : Held → World → Prop → Prop
  | [], _, X => X
  | p :: T, w, X => p.2 w ∧ obl T w X

def direct (i : Nat) (o : Oper) : Bool := o.after.toList.any fun e => Region.binds .any e && Nat.beq e.on i

def vcBindT (n : Nat) (d : Option Nat) (L : Env) (f : (Value → Held → Prop) → Prop) (K : Env → Held → Prop) : Prop :=
  match d with
  | none => f fun _ T => K L T
  | some t => chk (Nat.blt t n) (f fun v T => K ((t, v) :: L) T)
theorem vcBindT_elim {n : Nat} {d : Option Nat} {L : Env} {f : (Value → Held → Prop) → Prop} {K : Env → Held → Prop} (h : vcBindT n d L f K) :
    dOk n d = true ∧ f fun v T => K (eput L d v) T := by
  unfold vcBindT at h
  split at h
  · exact ⟨rfl, h⟩
  · exact chk_elim h

def dropK (o : Oper) : Held → (Held → Prop) → Prop
  | [], k => k []
  | p :: T, k => match direct p.1 o with
    | true => dropK o T k
    | false => dropK o T fun r => k (p :: r)
theorem dropK_eq (o : Oper) : ∀ (T : Held) (k : Held → Prop), dropK o T k = k (T.filter fun p => !direct p.1 o)
  | [], k => rfl
  | p :: T, k => by
    cases hd : direct p.1 o with
    | true => simp only [dropK, hd]; rw [dropK_eq o T, List.filter_cons_of_neg (by simp [hd])]
    | false => simp only [dropK, hd]; rw [dropK_eq o T, List.filter_cons_of_pos (by simp [hd])]

def vcD (P : Program) (cOk : Nat → Bool) (n : Nat) (all : List Oper) (eff : List Nat) : List Nat → Held → Env → World → (Env → World → Prop) → Prop
  | [], T, L, w, K => K L w
  | i :: rest, T, L, w, K => match all[i]? with
    | none => False
    | some o => match eff.elem i with
      | true => vcGuard n all o.guard L
          (fun L => chk (covers L o.op) (dropK o T fun T' => vcBind n o.dst L (vcOp P cOk L o w) fun L' w' => obl T' w' (vcD P cOk n all eff rest T' L' w' K)))
          (fun L => vcSkip n o.dst L fun L' => vcD P cOk n all eff rest T L' w K)
      | false => vcGuard n all o.guard L
          (fun L => chk (covers L o.op) (vcBindT n o.dst L (vcTake P L o i T w) fun L' T' => vcD P cOk n all eff rest T' L' w K))
          (fun L => vcSkip n o.dst L fun L' => vcD P cOk n all eff rest T L' w K)

/-! The static conditions. -/

def looksL (ops : List Oper) (o : Oper) : List Nat :=
  (o.op.operands.toList.filterMap fun | .tmp t => some t | _ => none) ++
  (match o.guard with
   | some (g, _) => ((ops[g]?).bind (·.dst)).toList
   | none => [])

def okPair (lk : List Nat) (eff : List Nat) (k i : Nat) (ok oi : Oper) : Bool :=
  match ok.dst with
  | none => true
  | some t => (!lk.elem t || (!Nat.beq k i && (direct k oi || (eff.elem k && direct i ok)))) && (Nat.beq k i || match oi.dst with | some u => !Nat.beq t u | none => true)

def okEdges (i : Nat) (o : Oper) : Bool := o.after.toList.all fun e => !Region.binds .any e || Nat.blt e.on i

def forceL (l : List Nat) (k : List Nat → Bool) : Bool :=
  match l with
  | [] => k []
  | x :: l => forceL l fun r => k (x :: r)
theorem forceL_eq : ∀ (l : List Nat) (k : List Nat → Bool), forceL l k = k l
  | [], _ => rfl
  | _ :: l, k => forceL_eq l _

def okRows (lk : List Nat) (eff : List Nat) (i : Nat) (oi : Oper) : Nat → List Oper → Bool
  | _, [] => true
  | k, ok :: rest => okPair lk eff k i ok oi && okRows lk eff i oi (k + 1) rest

def okAll (all : List Oper) (eff : List Nat) : Nat → List Oper → Bool
  | _, [] => true
  | i, oi :: rest => notSelect oi.op && okEdges i oi && forceL (looksL all oi) (fun lk => okRows lk eff i oi 0 all) && okAll all eff (i + 1) rest

def edgesIn (done : List Nat) (o : Oper) : Bool := o.after.toList.all fun e => !Region.binds .any e || done.elem e.on

def onlyOne (done : List Nat) (e : Nat) : Nat → List Oper → Bool
  | _, [] => true
  | j, oj :: rest => (done.elem j || Nat.beq j e || !edgesIn done oj) && onlyOne done e (j + 1) rest

def okOrder (all : List Oper) (eff : List Nat) : List Nat → List Nat → Bool
  | done, [] => (List.range all.length).all fun i => done.elem i
  | done, i :: rest => (match all[i]? with
    | none => false
    | some o => !done.elem i && edgesIn done o && (!eff.elem i || onlyOne done i 0 all)) && okOrder all eff (i :: done) rest

def okDraw (all : List Oper) (eff order : List Nat) : Bool := okAll all eff 0 all && okOrder all eff [] order


theorem okRows_spec {lk : List Nat} {eff : List Nat} {i : Nat} {oi : Oper} : ∀ {l : List Oper} {k : Nat}, okRows lk eff i oi k l = true →
    ∀ m ok, l[m]? = some ok → okPair lk eff (k + m) i ok oi = true := by
  intro l
  induction l with
  | nil => intro k _ m ok h; simp at h
  | cons o rest ih =>
    intro k h m ok hm
    simp only [okRows, Bool.and_eq_true] at h
    cases m with
    | zero => simp at hm; subst hm; exact h.1
    | succ m =>
      have := ih h.2 m ok (by simpa using hm)
      rwa [show k + (m + 1) = k + 1 + m from by omega]

theorem okAll_spec {all : List Oper} {eff : List Nat} : ∀ {l : List Oper} {s : Nat}, okAll all eff s l = true → ∀ m oi, l[m]? = some oi →
    notSelect oi.op = true ∧ okEdges (s + m) oi = true ∧ okRows (looksL all oi) eff (s + m) oi 0 all = true := by
  intro l
  induction l with
  | nil => intro k _ m ok h; simp at h
  | cons o rest ih =>
    intro s h m oi hm
    simp only [okAll, Bool.and_eq_true, forceL_eq] at h
    cases m with
    | zero => simp at hm; subst hm; exact ⟨h.1.1.1, h.1.1.2, h.1.2⟩
    | succ m =>
      have := ih h.2 m oi (by simpa using hm)
      rwa [show s + (m + 1) = s + 1 + m from by omega]

theorem onlyOne_spec {done : List Nat} {e : Nat} : ∀ {l : List Oper} {s : Nat}, onlyOne done e s l = true → ∀ m oj, l[m]? = some oj →
    (s + m) ∈ done ∨ s + m = e ∨ edgesIn done oj = false := by
  intro l
  induction l with
  | nil => intro k _ m ok h; simp at h
  | cons o rest ih =>
    intro s h m oi hm
    simp only [onlyOne, Bool.and_eq_true, Bool.or_eq_true, Bool.not_eq_true'] at h
    cases m with
    | zero =>
      simp at hm; subst hm
      rcases h.1 with (h1 | h1) | h1
      · exact .inl (by simpa using h1)
      · exact .inr (.inl (by simpa using Nat.eq_of_beq_eq_true h1))
      · exact .inr (.inr h1)
    | succ m =>
      have := ih h.2 m oi (by simpa using hm)
      rwa [show s + (m + 1) = s + 1 + m from by omega]

theorem direct_iff {i : Nat} {o : Oper} : direct i o = true ↔ ∃ e ∈ o.after, Region.binds .any e = true ∧ e.on = i := by
  unfold direct
  rw [List.any_eq_true]
  constructor
  · rintro ⟨e, he, h⟩
    rw [Bool.and_eq_true] at h
    exact ⟨e, by simpa using he, h.1, Nat.eq_of_beq_eq_true h.2⟩
  · rintro ⟨e, he, h1, h2⟩
    exact ⟨e, by simpa using he, by simp [h1, h2]⟩

theorem edgesIn_iff {done : List Nat} {o : Oper} : edgesIn done o = true ↔ ∀ e ∈ o.after, Region.binds .any e = true → e.on ∈ done := by
  unfold edgesIn
  rw [List.all_eq_true]
  constructor
  · intro h e he hb
    have := h e (by simpa using he)
    simpa [hb] using this
  · intro h e he
    cases hb : Region.binds .any e
    · simp
    · simpa using h e (by simpa using he) hb

/-- The static facts, as the simulation takes them. -/
structure Static (ops : Array Oper) (eff : List Nat) : Prop where
  sel : ∀ (i : Nat) (o : Oper), ops[i]? = some o → notSelect o.op = true
  back : ∀ (i : Nat) (o : Oper), ops[i]? = some o → ∀ e ∈ o.after, Region.binds .any e = true → e.on < i
  self : ∀ (i : Nat) (o : Oper), ops[i]? = some o → ∀ t, o.dst = some t → t ∉ o.looksAt ops
  pair : ∀ (k i : Nat) (ok oi : Oper), k ≠ i → ops[k]? = some ok → ops[i]? = some oi → ∀ t, ok.dst = some t → t ∈ oi.looksAt ops →
    (direct k oi = true ∨ (k ∈ eff ∧ direct i ok = true))
  dst : ∀ (k i : Nat) (ok oi : Oper), k ≠ i → ops[k]? = some ok → ops[i]? = some oi → ∀ t, ok.dst = some t → oi.dst ≠ some t

theorem looksL_eq (ops : Array Oper) (o : Oper) : looksL ops.toList o = o.looksAt ops := by
  unfold looksL Oper.looksAt
  congr 1
  cases o.guard <;> simp

theorem static_of {ops : Array Oper} {eff : List Nat} (h : okAll ops.toList eff 0 ops.toList = true) : Static ops eff := by
  have hs := fun (i : Nat) (o : Oper) (ho : ops[i]? = some o) => okAll_spec h i o (by simpa using ho)
  simp only [Nat.zero_add] at hs
  have hp := fun (k i : Nat) (ok oi : Oper) (hk : ops[k]? = some ok) (hi : ops[i]? = some oi) => okRows_spec (hs i oi hi).2.2 k ok (by simpa using hk)
  simp only [Nat.zero_add] at hp
  have hq : ∀ (k i : Nat) (ok oi : Oper), ops[k]? = some ok → ops[i]? = some oi → ∀ t, ok.dst = some t →
      (t ∈ oi.looksAt ops → k ≠ i ∧ (direct k oi = true ∨ (k ∈ eff ∧ direct i ok = true))) ∧ (k ≠ i → oi.dst ≠ some t) := by
    intro k i ok oi hk hi t ht
    have h0 := hp k i ok oi hk hi
    simp only [okPair, ht, Bool.and_eq_true, Bool.or_eq_true, Bool.not_eq_true', looksL_eq] at h0
    obtain ⟨h1, h2⟩ := h0
    refine ⟨fun hm => ?_, fun hne hd => ?_⟩
    · rcases h1 with h1 | ⟨h1, h3⟩
      · rw [List.elem_eq_mem] at h1; simp [hm] at h1
      · refine ⟨fun e => ?_, ?_⟩
        · subst e; simp at h1
        · rcases h3 with h3 | ⟨h3, h4⟩
          · exact .inl h3
          · exact .inr ⟨by simpa using h3, h4⟩
    · rcases h2 with h2 | h2
      · exact hne (Nat.eq_of_beq_eq_true h2)
      · rw [hd] at h2; simp at h2
  refine ⟨fun i o ho => (hs i o ho).1, fun i o ho e he hb => ?_, fun i o ho t ht hm => ?_, fun k i ok oi hne hk hi t ht hm => ?_, fun k i ok oi hne hk hi t ht => ?_⟩
  · have h1 := (hs i o ho).2.1
    unfold okEdges at h1
    rw [List.all_eq_true] at h1
    have := h1 e (by simpa using he)
    simpa [hb, Nat.blt_eq] using this
  · exact ((hq i i o o ho ho t ht).1 hm).1 rfl
  · exact ((hq k i ok oi hk hi t ht).1 hm).2
  · exact (hq k i ok oi hk hi t ht).2 hne


/-! ### The simulation: the order that is drawn against the order of the list -/

section
variable {P : Program} {ops : Array Oper} {n : Nat} {eff : List Nat}

/-- Taken ahead of its turn, the operation will leave 'v', in whatever frame that agrees on what it looks at. -/
def TakeOk (P : Program) (ops : Array Oper) (n : Nat) (L : Env) (o : Oper) (v : Value) (F : World → Prop) (S : List Nat) : Prop :=
  ∀ b : Act, b.tmps.size = n → (∀ t ∈ S, b.tmps.getD t undef = eget L t) →
    (Region.wanted o (yielded ops b.tmps) = true ∧ ∀ w, F w → (execOp b.eval o).run P w = .ok (.value v) w) ∨
    (Region.wanted o (yielded ops b.tmps) = false ∧ v = undef)

structure Pend (P : Program) (ops : Array Oper) (n : Nat) (eff : List Nat) (L : Env) (T : Held) (w : World) (i : Nat) (o : Oper) (v : Value) (F : World → Prop) (S : List Nat) : Prop where
  at_ : ops[i]? = some o
  neff : i ∉ eff
  ok : dOk n o.dst = true
  take : TakeOk P ops n L o v F S
  now : F w
  held : (∀ w, F w) ∨ (i, F) ∈ T
  looks : ∀ t ∈ S, t ∈ o.looksAt ops ∧ ehas L t = true
  dst : ∀ t, o.dst = some t → ehas L t = true ∧ eget L t = v

structure Sim (ds : List Deferred) (P : Program) (ops : Array Oper) (n : Nat) (eff : List Nat) (listed : Array Bool) (a : Act) (done : List Nat) (T : Held) (L : Env) (w : World) : Prop where
  lsz : listed.size = ops.size
  asz : a.tmps.size = n
  adf : a.defers = ds
  sub : ∀ i, i < ops.size → listed.getD i true = true → i ∈ done
  clo : ∀ i ∈ done, ∀ o, ops[i]? = some o → edgesIn done o = true
  pend : ∀ i ∈ done, listed.getD i true = false → ∃ o v F S, Pend P ops n eff L T w i o v F S
  agr : ∀ t, ehas L t = true → (∀ i ∈ done, listed.getD i true = false → ∀ o, ops[i]? = some o → o.dst ≠ some t) → a.tmps.getD t undef = eget L t

theorem lt_of_unlisted {listed : Array Bool} {i : Nat} (h : listed.getD i true = false) : i < listed.size := by
  rcases Nat.lt_or_ge i listed.size with h' | h'
  · exact h'
  · simp [Array.getElem?_eq_none h'] at h

/-- Whatever waits for 'i' is not ready while 'i' has not come up. -/
theorem not_direct {listed : Array Bool} {i : Nat} {oj : Oper} (hall : ∀ e ∈ oj.after, Region.binds .any e = true → listed.getD e.on false = true)
    (hi : listed.getD i true = false) : direct i oj = false := by
  cases hd : direct i oj with
  | false => rfl
  | true =>
    obtain ⟨e, he, hb, rfl⟩ := direct_iff.1 hd
    have h1 := hall e he hb
    have h2 := lt_of_unlisted hi
    simp [h2] at h1 hi
    rw [hi] at h1
    cases h1

theorem looks_operand {o : Oper} {t : Nat} (h : Operand.tmp t ∈ o.op.operands) : t ∈ o.looksAt ops :=
  List.mem_append_left _ (List.mem_filterMap.2 ⟨.tmp t, by simpa using h, rfl⟩)
theorem looks_guard {o : Oper} {j : Nat} {want : Bool} {t : Nat} (hg : o.guard = some (j, want)) (ht : (ops[j]?).bind (·.dst) = some t) : t ∈ o.looksAt ops := by
  refine List.mem_append_right _ ?_
  simp [hg, ht]

/-- An operation that has been taken comes up. -/
theorem sim_exec (st : Static ops eff) {listed : Array Bool} {a : Act} {done : List Nat} {T : Held} {L : Env} {w : World} (h : Sim ds P ops n eff listed a done T L w)
    {j : Nat} (hr : j ∈ Region.ready .any ops listed) (hj : j ∈ done) {Q : Exit → Act → World → Prop} :
    ∃ o v, ops[j]? = some o ∧ Sim ds P ops n eff (listed.setIfInBounds j true) (a.put o.dst v) done T L w ∧ ∀ K : Act → World → Prop, K (a.put o.dst v) w → wpOp P ops Q j K a w := by
  obtain ⟨hun, oj, hoj, hall⟩ := mem_ready.1 hr
  obtain ⟨o, v, F, S, hp⟩ := h.pend j hj hun
  have hoo : o = oj := by have := hp.at_; rw [hoj] at this; injection this with this; exact this.symm
  subst hoo
  have hag : ∀ t ∈ S, a.tmps.getD t undef = eget L t := fun t htS => by
    obtain ⟨ht, hht⟩ := hp.looks t htS
    refine h.agr t hht fun i hi hiu oi hoi hd => ?_
    by_cases e : i = j
    · subst e
      rw [hoj] at hoi
      injection hoi with hoi
      subst hoi
      exact st.self i _ hoj t hd ht
    · rcases st.pair i j oi o e hoi hoj t hd ht with h1 | ⟨h1, _⟩
      · rw [not_direct hall hiu] at h1; cases h1
      · obtain ⟨_, _, _, _, hpi⟩ := h.pend i hi hiu
        exact hpi.neff h1
  refine ⟨o, v, hoj, ⟨by simpa using h.lsz, by rw [put_size]; exact h.asz, by rw [put_defers]; exact h.adf, fun i hi hl => ?_, h.clo, fun i hi hl => ?_, fun t ht hno => ?_⟩, fun K hK => ?_⟩
  · by_cases e : j = i
    · subst e; exact hj
    · rw [getD_set_ne true e] at hl; exact h.sub i hi hl
  · by_cases e : j = i
    · subst e
      have := lt_of_unlisted hun
      simp [this] at hl
    · rw [getD_set_ne true e] at hl; exact h.pend i hi hl
  · by_cases e : o.dst = some t
    · rw [e, put_get_same _ _ _ (by rw [h.asz]; have := hp.ok; rw [e] at this; exact dOk_lt this)]
      exact (hp.dst t e).2.symm
    · rw [put_get_ne _ _ _ e]
      refine h.agr t ht fun i hi hiu oi hoi => ?_
      by_cases e2 : j = i
      · subst e2
        rw [hoj] at hoi
        injection hoi with hoi
        subst hoi
        exact e
      · exact hno i hi (by rw [getD_set_ne true e2]; exact hiu) oi hoi
  · unfold wpOp
    simp only [hoj]
    rcases hp.take a h.asz hag with ⟨hw, hrun⟩ | ⟨hw, hv⟩
    · simp only [hw, if_true, Oper.wp, hrun w hp.now, Oper.upon]
      exact .inl hK
    · subst hv
      simp only [hw, Bool.false_eq_true, if_false]
      exact hK

theorem mem_drop {T : Held} {o : Oper} {i : Nat} {F : World → Prop} (h : (i, F) ∈ T) (hd : direct i o = false) : (i, F) ∈ T.filter fun p => !direct p.1 o :=
  List.mem_filter.2 ⟨h, by simp [hd]⟩

theorem obl_elim : ∀ {T : Held} {w : World} {X : Prop}, obl T w X → (∀ p ∈ T, p.2 w) ∧ X
  | [], _, _, h => ⟨fun _ hp => (by cases hp), h⟩
  | q :: T, w, X, h => by
    obtain ⟨h1, h2⟩ := h
    obtain ⟨h3, h4⟩ := obl_elim h2
    refine ⟨fun p hp => ?_, h4⟩
    rcases List.mem_cons.1 hp with e | hp
    · rw [e]; exact h1
    · exact h3 p hp

/-- One more operation of the list, taken. -/
theorem sim_take (st : Static ops eff) {listed : Array Bool} {a : Act} {done : List Nat} {T T' : Held} {L L' : Env} {w : World} (h : Sim ds P ops n eff listed a done T L w) (hl : Like L L')
    {i : Nat} {o : Oper} {v : Value} {F : World → Prop} (ho : ops[i]? = some o) (hnd : i ∉ done) (hin : edgesIn done o = true) (hne : i ∉ eff) (hT : ∀ p ∈ T, p ∈ T')
    {S : List Nat} (hok : dOk n o.dst = true) (htake : TakeOk P ops n L o v F S) (hnow : F w) (hheld : (∀ w, F w) ∨ (i, F) ∈ T') (hlooks : ∀ t ∈ S, t ∈ o.looksAt ops ∧ ehas L t = true) :
    Sim ds P ops n eff listed a (i :: done) T' (eput L' o.dst v) w := by
  have hlt : i < ops.size := (Array.getElem?_eq_some_iff.1 ho).1
  have hiu : listed.getD i true = false := by
    cases hb : listed.getD i true with
    | false => rfl
    | true => exact absurd (h.sub i hlt hb) hnd
  have hg : ∀ t, o.dst ≠ some t → eget (eput L' o.dst v) t = eget L t := fun t ht => by
    cases hd : o.dst with
    | none => exact hl.2 t
    | some u => rw [eget_eput_ne _ _ (by intro e; subst e; exact ht hd)]; exact hl.2 t
  have hh : ∀ t, ehas L t = true → ehas (eput L' o.dst v) t = true := fun t ht => by
    cases hd : o.dst with
    | none => show ehas L' t = true; rw [hl.1 t]; exact ht
    | some u =>
      by_cases e : u = t
      · subst e; exact ehas_eput_same ..
      · rw [ehas_eput_ne _ _ e, hl.1 t]; exact ht
  refine ⟨h.lsz, h.asz, h.adf, fun k hk hkl => List.mem_cons_of_mem _ (h.sub k hk hkl), fun k hk ok hok' => ?_, fun k hk hku => ?_, fun t ht hno => ?_⟩
  · rw [edgesIn_iff]
    intro e he hb
    rcases List.mem_cons.1 hk with e1 | hk
    · subst e1
      rw [ho] at hok'; injection hok' with hok'; subst hok'
      exact List.mem_cons_of_mem _ (edgesIn_iff.1 hin e he hb)
    · exact List.mem_cons_of_mem _ (edgesIn_iff.1 (h.clo k hk ok hok') e he hb)
  · by_cases e1 : k = i
    · subst e1
      refine ⟨o, v, F, S, ho, hne, hok, fun b hb hag => htake b hb fun t ht => ?_, hnow, hheld, fun t ht => ⟨(hlooks t ht).1, hh t (hlooks t ht).2⟩, fun t ht => ?_⟩
      · rw [hag t ht]
        exact hg t fun hd => st.self k o ho t hd (hlooks t ht).1
      · rw [ht]
        exact ⟨ehas_eput_same .., eget_eput_same ..⟩
    · have hk' : k ∈ done := by
        rcases List.mem_cons.1 hk with e2 | e2
        · exact absurd e2 e1
        · exact e2
      obtain ⟨ok, vk, Fk, Sk, hp⟩ := h.pend k hk' hku
      refine ⟨ok, vk, Fk, Sk, hp.at_, hp.neff, hp.ok, fun b hb hag => hp.take b hb fun t ht => ?_, hp.now, hp.held.imp id (hT _), fun t ht => ⟨(hp.looks t ht).1, hh t (hp.looks t ht).2⟩, fun t ht => ?_⟩
      · rw [hag t ht]
        refine hg t fun hd => ?_
        rcases st.pair i k o ok (Ne.symm e1) ho hp.at_ t hd (hp.looks t ht).1 with h1 | ⟨h1, _⟩
        · obtain ⟨e, he, hb, hon⟩ := direct_iff.1 h1
          exact hnd (hon ▸ edgesIn_iff.1 (h.clo k hk' ok hp.at_) e he hb)
        · exact hne h1
      · have hd : o.dst ≠ some t := fun hd => st.dst i k o ok (Ne.symm e1) ho hp.at_ t hd ht
        rw [hg t hd]
        exact ⟨hh t (hp.dst t ht).1, (hp.dst t ht).2⟩
  · have hd : o.dst ≠ some t := hno i (List.mem_cons_self ..) hiu o ho
    rw [hg t hd]
    refine h.agr t ?_ fun k hk hku ok hok' => hno k (List.mem_cons_of_mem _ hk) hku ok hok'
    cases hd' : o.dst with
    | none => rw [hd'] at ht; have ht : ehas L' t = true := ht; rwa [hl.1 t] at ht
    | some u =>
      rw [hd', ehas_eput_ne _ _ (by intro e; subst e; exact hd hd'), hl.1 t] at ht
      exact ht

/-- The next operation of the list comes up: no other one can that has not been taken. -/
theorem sim_step (st : Static ops eff) {listed : Array Bool} {a : Act} {done : List Nat} {T T' : Held} {L L' : Env} {w w' : World} (h : Sim ds P ops n eff listed a done T L w) (hl : Like L L')
    {j : Nat} {o : Oper} (v : Value) (ho : ops[j]? = some o) (hnd : j ∉ done) (hr : j ∈ Region.ready .any ops listed) (hin : edgesIn done o = true) (hok : dOk n o.dst = true)
    (hT : ∀ p ∈ T, direct p.1 o = false → p ∈ T') (hF : ∀ i ∈ done, listed.getD i true = false → ∀ F : World → Prop, (∀ w, F w) ∨ (i, F) ∈ T → F w → F w') :
    Sim ds P ops n eff (listed.setIfInBounds j true) (a.put o.dst v) (j :: done) T' (eput L' o.dst v) w' := by
  obtain ⟨hun, oj, hoj, hall⟩ := mem_ready.1 hr
  have hoo : oj = o := by rw [ho] at hoj; injection hoj with hoj; exact hoj.symm
  subst hoo
  have hg : ∀ t, oj.dst ≠ some t → eget (eput L' oj.dst v) t = eget L t := fun t ht => by
    cases hd : oj.dst with
    | none => exact hl.2 t
    | some u => rw [eget_eput_ne _ _ (by intro e; subst e; exact ht hd)]; exact hl.2 t
  have hh : ∀ t, ehas L t = true → ehas (eput L' oj.dst v) t = true := fun t ht => by
    cases hd : oj.dst with
    | none => show ehas L' t = true; rw [hl.1 t]; exact ht
    | some u =>
      by_cases e : u = t
      · subst e; exact ehas_eput_same ..
      · rw [ehas_eput_ne _ _ e, hl.1 t]; exact ht
  have hset : ∀ k, k ≠ j → (listed.setIfInBounds j true).getD k true = listed.getD k true := fun k hk => getD_set_ne true (Ne.symm hk)
  have hself : (listed.setIfInBounds j true).getD j true = true := by
    have := lt_of_unlisted hun
    simp [this]
  refine ⟨by simpa using h.lsz, by rw [put_size]; exact h.asz, by rw [put_defers]; exact h.adf, fun k hk hkl => ?_, fun k hk ok hok' => ?_, fun k hk hku => ?_, fun t ht hno => ?_⟩
  · by_cases e : k = j
    · subst e; exact List.mem_cons_self ..
    · rw [hset k e] at hkl; exact List.mem_cons_of_mem _ (h.sub k hk hkl)
  · rw [edgesIn_iff]
    intro e he hb
    rcases List.mem_cons.1 hk with e1 | hk
    · subst e1
      rw [ho] at hok'; injection hok' with hok'; subst hok'
      exact List.mem_cons_of_mem _ (edgesIn_iff.1 hin e he hb)
    · exact List.mem_cons_of_mem _ (edgesIn_iff.1 (h.clo k hk ok hok') e he hb)
  · have e1 : k ≠ j := fun e => by rw [e, hself] at hku; cases hku
    rw [hset k e1] at hku
    have hk' : k ∈ done := by
      rcases List.mem_cons.1 hk with e2 | e2
      · exact absurd e2 e1
      · exact e2
    obtain ⟨ok, vk, Fk, Sk, hp⟩ := h.pend k hk' hku
    have hdk : direct k oj = false := not_direct hall hku
    refine ⟨ok, vk, Fk, Sk, hp.at_, hp.neff, hp.ok, fun b hb hag => hp.take b hb fun t ht => ?_, hF k hk' hku Fk hp.held hp.now, ?_, fun t ht => ⟨(hp.looks t ht).1, hh t (hp.looks t ht).2⟩, fun t ht => ?_⟩
    · rw [hag t ht]
      refine hg t fun hd => ?_
      rcases st.pair j k oj ok (Ne.symm e1) ho hp.at_ t hd (hp.looks t ht).1 with h1 | ⟨_, h1⟩
      · obtain ⟨e, he, hb, hon⟩ := direct_iff.1 h1
        exact hnd (hon ▸ edgesIn_iff.1 (h.clo k hk' ok hp.at_) e he hb)
      · rw [hdk] at h1; cases h1
    · exact hp.held.imp id fun hm => hT _ hm hdk
    · have hd : oj.dst ≠ some t := fun hd => st.dst j k oj ok (Ne.symm e1) ho hp.at_ t hd ht
      rw [hg t hd]
      exact ⟨hh t (hp.dst t ht).1, (hp.dst t ht).2⟩
  · by_cases hd : oj.dst = some t
    · rw [hd, put_get_same _ _ _ (by rw [h.asz]; rw [hd] at hok; exact dOk_lt hok), eget_eput_same]
    · rw [put_get_ne _ _ _ hd, hg t hd]
      refine h.agr t ?_ fun k hk hku ok hok' => ?_
      · cases hd' : oj.dst with
        | none => rw [hd'] at ht; have ht : ehas L' t = true := ht; rwa [hl.1 t] at ht
        | some u =>
          rw [hd', ehas_eput_ne _ _ (by intro e; subst e; exact hd hd'), hl.1 t] at ht
          exact ht
      · have e1 : k ≠ j := fun e => by subst e; rw [ho] at hok'; injection hok' with hok'; subst hok'; exact hnd hk
        exact hno k (List.mem_cons_of_mem _ hk) (by rw [hset k e1]; exact hku) ok hok'


/-! How many have not come up. -/

theorem countP_lt {α : Type} {p q : α → Bool} : ∀ {l : List α}, (∀ x ∈ l, p x = true → q x = true) → (∃ x ∈ l, q x = true ∧ p x = false) → l.countP p < l.countP q
  | [], _, h => by obtain ⟨_, h, _⟩ := h; cases h
  | y :: l, hpq, ⟨x, hx, hqx, hpx⟩ => by
    have hle : l.countP p ≤ l.countP q := List.countP_mono_left fun z hz => hpq z (List.mem_cons_of_mem _ hz)
    rcases List.mem_cons.1 hx with e | hx
    · subst e
      rw [List.countP_cons_of_neg (by simp [hpx]), List.countP_cons_of_pos (by simpa using hqx)]
      omega
    · have ih := countP_lt (l := l) (fun z hz => hpq z (List.mem_cons_of_mem _ hz)) ⟨x, hx, hqx, hpx⟩
      cases hp : p y with
      | true =>
        rw [List.countP_cons_of_pos (by simpa using hp), List.countP_cons_of_pos (by simpa using hpq y (List.mem_cons_self ..) hp)]
        omega
      | false =>
        rw [List.countP_cons_of_neg (by simp [hp])]
        cases hq : q y with
        | true => rw [List.countP_cons_of_pos (by simpa using hq)]; omega
        | false => rw [List.countP_cons_of_neg (by simp [hq])]; exact ih

def unl (n : Nat) (listed : Array Bool) : Nat := (List.range n).countP fun i => !listed.getD i true

theorem unl_set {listed : Array Bool} {j : Nat} (hj : j < ops.size) (hu : listed.getD j true = false) : unl ops.size (listed.setIfInBounds j true) < unl ops.size listed := by
  unfold unl
  have hlt := lt_of_unlisted hu
  refine countP_lt (fun i _ h => ?_) ⟨j, by simpa using hj, by simp [hu], by simp [hlt]⟩
  by_cases e : j = i
  · subst e; simp [hlt] at h
  · rwa [getD_set_ne true e] at h

theorem all_listed {listed : Array Bool} (h : unl ops.size listed = 0) : Region.ready .any ops listed = [] := by
  unfold unl at h
  rw [List.countP_eq_zero] at h
  cases hr : Region.ready .any ops listed with
  | nil => rfl
  | cons j l =>
    have hj : j ∈ Region.ready .any ops listed := by rw [hr]; exact List.mem_cons_self ..
    obtain ⟨hun, oj, hoj, _⟩ := mem_ready.1 hj
    have := h j (by simpa using (Array.getElem?_eq_some_iff.1 hoj).1)
    simp [hun] at this

/-- While something has not come up, something is ready. -/
theorem some_ready (st : Static ops eff) {listed : Array Bool} (hs : listed.size = ops.size) (hr : Region.ready .any ops listed = []) : ∀ i, i < ops.size → listed.getD i true = true := by
  intro i
  induction i using Nat.strongRecOn with
  | _ i ih =>
    intro hi
    cases hb : listed.getD i true with
    | true => rfl
    | false =>
      exfalso
      have hm : i ∈ Region.ready .any ops listed := mem_ready.2 ⟨hb, ops[i], Array.getElem?_eq_getElem hi, fun e he hbd => by
        have hlt := st.back i _ (Array.getElem?_eq_getElem hi) e he hbd
        have h1 := ih e.on hlt (by omega)
        have hl : e.on < listed.size := by omega
        simp [hl] at h1 ⊢
        exact h1⟩
      rw [hr] at hm
      cases hm

section
variable {P : Program} {cOk : Nat → Bool} {Q : Exit → Act → World → Prop}

theorem vcTake_elim {L : Env} {o : Oper} {i : Nat} {T : Held} {w : World} {K : Value → Held → Prop} (h : vcTake P L o i T w K) :
    ∃ v F T', (∀ w, F w → runV P L o v w) ∧ F w ∧ ((∀ w, F w) ∨ (i, F) ∈ T') ∧ (∀ p ∈ T, p ∈ T') ∧ K v T' := by
  unfold vcTake at h
  split at h
  · rename_i x hx
    exact ⟨_, fun _ => True, T, fun w _ => by simp [runV, rdN, execOp, hx, pure, Sem.run], trivial, .inl fun _ => trivial, fun _ hp => hp, h⟩
  · rename_i x hx
    exact ⟨_, fun _ => True, T, fun w _ => by simp [runV, rdN, execOp, hx, pure, Sem.run], trivial, .inl fun _ => trivial, fun _ hp => hp, h⟩
  · rename_i c a b hx
    split at h
    · rename_i hc
      exact ⟨_, fun _ => True, T, fun w _ => by simp [runV, rdN, execOp, hx, hc, asBool, bind, Sem.bind, pure, Sem.run], trivial, .inl fun _ => trivial, fun _ hp => hp, h⟩
    · rename_i hc
      exact ⟨_, fun _ => True, T, fun w _ => by simp [runV, rdN, execOp, hx, hc, asBool, bind, Sem.bind, pure, Sem.run], trivial, .inl fun _ => trivial, fun _ hp => hp, h⟩
    · obtain ⟨v, h1, h2⟩ := h
      exact ⟨v, fun _ => True, T, fun w _ => h1 w, trivial, .inl fun _ => trivial, fun _ hp => hp, h2⟩
  · split at h
    · obtain ⟨v, h1, h2⟩ := h
      exact ⟨v, fun _ => True, T, fun w _ => h1 w, trivial, .inl fun _ => trivial, fun _ hp => hp, h2⟩
    · obtain ⟨v, h1, h2⟩ := h
      exact ⟨v, _, _, fun _ hw => hw, h1, .inr (List.mem_cons_self ..), fun _ hp => List.mem_cons_of_mem _ hp, h2⟩

theorem vcD_sound (hP : CallsOk P cOk) (st : Static ops eff) {a0 : Act} {K : Env → World → Prop}
    (hQ : ∀ a L w, Has ds n a L → Off (opsD ops.toList) a0 a → K L w → Q .normal a w) :
    ∀ (order : List Nat) (fuel : Nat) (listed : Array Bool) (a : Act) (done : List Nat) (T : Held) (L : Env) (w : World), unl ops.size listed ≤ fuel →
      okOrder ops.toList eff done order = true → Sim ds P ops n eff listed a done T L w → Off (opsD ops.toList) a0 a → vcD P cOk n ops.toList eff order T L w K →
      wpAny P .any ops Q fuel listed a w := by
  have hmem : ∀ (i : Nat) (o : Oper), ops[i]? = some o → ∀ t, o.dst = some t → t ∈ opsD ops.toList := fun i o ho t ht =>
    List.mem_filterMap.2 ⟨o, by simpa using Array.mem_of_getElem? ho, ht⟩
  intro order
  induction order with
  | nil =>
    intro fuel
    induction fuel with
    | zero =>
      intro listed a done T L w hf hok hs hoff h
      have hr := all_listed (ops := ops) (listed := listed) (by omega)
      refine ⟨hr, hQ a L w ⟨hs.adf, hs.asz, fun t ht => hs.agr t ht fun i hi hiu => ?_⟩ hoff h⟩
      have hlt := lt_of_unlisted hiu
      rw [some_ready st hs.lsz hr i (by rw [← hs.lsz]; exact hlt)] at hiu
      cases hiu
    | succ fuel ih =>
      intro listed a done T L w hf hok hs hoff h
      refine ⟨fun hr => hQ a L w ⟨hs.adf, hs.asz, fun t ht => hs.agr t ht fun i hi hiu => ?_⟩ hoff h, fun j hj => ?_⟩
      · have hlt := lt_of_unlisted hiu
        rw [some_ready st hs.lsz hr i (by rw [← hs.lsz]; exact hlt)] at hiu
        cases hiu
      · obtain ⟨hun, oj, hoj, hall⟩ := mem_ready.1 hj
        have hlt : j < ops.size := (Array.getElem?_eq_some_iff.1 hoj).1
        have hjd : j ∈ done := by
          simp only [okOrder, List.all_eq_true] at hok
          simpa using hok j (by simpa using hlt)
        obtain ⟨o, v, ho, hs', hw⟩ := sim_exec st hs hj hjd (Q := Q)
        exact hw _ (ih _ _ done T L w (by have := unl_set (ops := ops) hlt hun; omega) hok hs' (hoff.trans (Off.put a _ _ (hmem j o ho))) h)
  | cons i rest ihr =>
    intro fuel listed a done T L w hf hok hs hoff h
    simp only [okOrder, Bool.and_eq_true] at hok
    obtain ⟨hok1, hok2⟩ := hok
    simp only [vcD] at h
    cases hoi : ops[i]? with
    | none => simp [hoi] at h
    | some o =>
      have hoi' : ops.toList[i]? = some o := by simpa using hoi
      simp only [hoi'] at h hok1
      simp only [Bool.and_eq_true, Bool.not_eq_true', Bool.or_eq_true] at hok1
      obtain ⟨⟨hnd, hin⟩, heo⟩ := hok1
      have hnd : i ∉ done := by simpa using hnd
      have hlt : i < ops.size := (Array.getElem?_eq_some_iff.1 hoi).1
      cases he : eff.elem i with
      | false =>
        have hne : i ∉ eff := by simpa using he
        simp only [he] at h
        obtain ⟨hgh, L', hl, hh⟩ := vcGuard_cases h
        have hgl : ∀ b : Act, b.tmps.size = n → (∀ t ∈ o.looksAt ops, b.tmps.getD t undef = eget L t) → GAgree n ops o.guard L b.tmps := fun b hb hag =>
          ⟨hb, fun j want t h1 h2 => hag t (looks_guard h1 h2)⟩
        rcases hh with ⟨hA, hw⟩ | ⟨hB, hw⟩
        · obtain ⟨hcov, hA⟩ := chk_elim hA
          obtain ⟨hdst, hA⟩ := vcBindT_elim hA
          obtain ⟨v, F, T', hF, hnow, hheld, hT, hrest⟩ := vcTake_elim hA
          unfold covers at hcov
          rw [Bool.and_eq_true, List.all_eq_true] at hcov
          have hlooks : ∀ t ∈ o.looksAt ops, ehas L t = true := fun t ht => by
            rcases List.mem_append.1 ht with ht | ht
            · obtain ⟨x, hx, hxt⟩ := List.mem_filterMap.1 ht
              have := hcov.2 x hx
              cases x <;> simp at hxt
              subst hxt
              rw [← hl.1]
              exact this
            · cases hgd : o.guard with
              | none => simp [hgd] at ht
              | some g =>
                obtain ⟨j, want⟩ := g
                simp [hgd] at ht
                exact hgh j want t hgd (by simpa using ht)
          have htake : TakeOk P ops n L o v F (o.looksAt ops) := fun b hb hag => .inl ⟨hw _ (hgl b hb hag), fun w' hw' => by
            have := hF w' hw'
            unfold runV rdN at this
            rw [← this]
            congr 1
            refine execOp_congr o (notSelect_ne hcov.1) fun x hx => ?_
            cases x with
            | tmp t => show b.tmps.getD t undef = eget L' t; rw [hl.2, hag t (looks_operand hx)]
            | _ => rfl⟩
          exact ihr fuel listed a (i :: done) T' _ w hf hok2 (sim_take st hs hl hoi hnd hin hne hT hdst htake hnow hheld fun t ht => ⟨ht, hlooks t ht⟩) hoff hrest
        · obtain ⟨hc, hB⟩ := vcSkip_elim hB
          let S := match o.guard with
            | some (g, _) => ((ops[g]?).bind (·.dst)).toList
            | none => []
          have htake : TakeOk P ops n L o undef (fun _ => True) S := fun b hb hag => .inr ⟨hw _ ⟨hb, fun j want t h1 h2 => hag t (by simp [S, h1, h2])⟩, rfl⟩
          refine ihr fuel listed a (i :: done) T _ w hf hok2 (sim_take st hs hl hoi hnd hin hne (fun _ hp => hp) hc htake trivial (.inl fun _ => trivial) fun t ht => ?_) hoff hB
          cases hgd : o.guard with
          | none => simp [S, hgd] at ht
          | some g =>
            obtain ⟨j, want⟩ := g
            simp [S, hgd] at ht
            have ht' : (ops[j]?).bind (·.dst) = some t := by simpa using ht
            exact ⟨looks_guard hgd ht', hgh j want t hgd ht'⟩
      | true =>
        simp only [he] at h
        have heo : onlyOne done i 0 ops.toList = true := heo.resolve_left (by rw [he]; exact Bool.noConfusion)
        have hnl : ∀ (listed : Array Bool) (a : Act), Sim ds P ops n eff listed a done T L w → listed.getD i true = false := fun listed a hs => by
          cases hb : listed.getD i true with
          | false => rfl
          | true => exact absurd (hs.sub i hlt hb) hnd
        induction fuel generalizing listed a with
        | zero =>
          have hr := all_listed (ops := ops) (listed := listed) (by omega)
          have h1 := some_ready st hs.lsz hr i hlt
          rw [hnl listed a hs] at h1
          cases h1
        | succ fuel ih =>
          refine ⟨fun hr => ?_, fun j hj => ?_⟩
          · have h1 := some_ready st hs.lsz hr i hlt
            rw [hnl listed a hs] at h1
            cases h1
          · obtain ⟨hun, oj, hoj, hall⟩ := mem_ready.1 hj
            have hltj : j < ops.size := (Array.getElem?_eq_some_iff.1 hoj).1
            by_cases hjd : j ∈ done
            · obtain ⟨oj', v, ho', hs', hw⟩ := sim_exec st hs hj hjd (Q := Q)
              exact hw _ (ih _ _ (by have := unl_set (ops := ops) hltj hun; omega) hs' (hoff.trans (Off.put a _ _ (hmem j oj' ho'))))
            · have hji : j = i := by
                rcases onlyOne_spec heo j oj (by simpa using hoj) with h1 | h1 | h1
                · exact absurd (by simpa using h1) hjd
                · simpa using h1
                · exfalso
                  have h2 : edgesIn done oj = true := edgesIn_iff.2 fun e he hb => by
                    have h3 := hall e he hb
                    have h4 : e.on < listed.size := by
                      rcases Nat.lt_or_ge e.on listed.size with h' | h'
                      · exact h'
                      · simp [Array.getElem?_eq_none h'] at h3
                    refine hs.sub e.on (by rw [← hs.lsz]; exact h4) ?_
                    simp [h4] at h3 ⊢
                    exact h3
                  rw [h2] at h1; cases h1
              subst hji
              have hoo : oj = o := by rw [hoi] at hoj; injection hoj with hoj; exact hoj.symm
              subst hoo
              obtain ⟨hgh, L', hl, hh⟩ := vcGuard_cases h
              have hag : ∀ t ∈ oj.looksAt ops, ehas L t = true → a.tmps.getD t undef = eget L t := fun t ht hht => by
                refine hs.agr t hht fun k hk hku ok hok' hd => ?_
                have hkj : k ≠ j := fun e => hnd (e ▸ hk)
                rcases st.pair k j ok oj hkj hok' hoi t hd ht with h1 | ⟨h1, _⟩
                · rw [not_direct hall hku] at h1; cases h1
                · obtain ⟨_, _, _, _, hp⟩ := hs.pend k hk hku
                  exact hp.neff h1
              have hga : GAgree n ops oj.guard L a.tmps := ⟨hs.asz, fun g want t h1 h2 => hag t (looks_guard h1 h2) (hgh g want t h1 h2)⟩
              have hfu := unl_set (ops := ops) hltj hun
              unfold wpOp
              simp only [hoi]
              rcases hh with ⟨hA, hw⟩ | ⟨hB, hw⟩ <;> have hw := hw _ hga
              · simp only [hw, if_true]
                obtain ⟨hcov, hA⟩ := chk_elim hA
                rw [dropK_eq] at hA
                obtain ⟨hdst, hA⟩ := vcBind_elim hA
                unfold covers at hcov
                rw [Bool.and_eq_true, List.all_eq_true] at hcov
                refine .inl ?_
                unfold Oper.wp
                have hex : execOp a.eval oj = execOp (evE L') oj := execOp_congr oj (notSelect_ne hcov.1) fun x hx => by
                  cases x with
                  | tmp t =>
                    have h1 := hcov.2 (.tmp t) (by simpa using hx)
                    have h1 : ehas L t = true := by rw [← hl.1]; exact h1
                    show a.tmps.getD t undef = eget L' t
                    rw [hl.2, hag t (looks_operand hx) h1]
                  | _ => rfl
                rw [hex]
                refine upon_of_vcNext (vcNext_mono (fun v w' hv => ?_) (vcOp_sound hP hA))
                obtain ⟨hob, hv⟩ := obl_elim hv
                refine ihr fuel _ _ (j :: done) _ _ w' (by omega) hok2 (sim_step st hs hl v hoi hnd hj hin hdst (fun p hp hd => ?_) (fun k hk hku F hF hw0 => ?_)) (hoff.trans (Off.put a _ _ (hmem j oj hoi))) hv
                · have : p ∈ T.filter fun p => !direct p.1 oj := List.mem_filter.2 ⟨hp, by simp [hd]⟩
                  exact this
                · rcases hF with hF | hF
                  · exact hF w'
                  · exact hob _ (mem_drop hF (not_direct hall hku))
              · simp only [hw, Bool.false_eq_true, if_false]
                obtain ⟨hc, hB⟩ := vcSkip_elim hB
                refine ihr fuel _ _ (j :: done) _ _ w (by omega) hok2 (sim_step st hs hl undef hoi hnd hj hin hc (fun p hp hd => hp) (fun k hk hku F hF hw0 => hw0)) (hoff.trans (Off.put a _ _ (hmem j oj hoi))) hB

end
end


/-! ### A region whose effects may come up in more than one order -/

inductive Tr where
  | z
  | t (i : Nat) (r : Tr)
  | e (i : Nat) (r : Tr)
  | f (i : Nat) (r o : Tr)
def Tr.heads : Tr → List Nat
  | .e i _ => [i]
  | .f i _ o => i :: o.heads
  | _ => []

def onlyThese (done es : List Nat) : Nat → List Oper → Bool
  | _, [] => true
  | j, oj :: rest => (done.elem j || es.elem j || !edgesIn done oj) && onlyThese done es (j + 1) rest
theorem onlyThese_spec {done es : List Nat} : ∀ {l : List Oper} {s : Nat}, onlyThese done es s l = true → ∀ m oj, l[m]? = some oj →
    (s + m) ∈ done ∨ s + m ∈ es ∨ edgesIn done oj = false := by
  intro l
  induction l with
  | nil => intro k _ m ok h; simp at h
  | cons o rest ih =>
    intro s h m oi hm
    simp only [onlyThese, Bool.and_eq_true, Bool.or_eq_true, Bool.not_eq_true'] at h
    cases m with
    | zero =>
      simp at hm; subst hm
      rcases h.1 with (h1 | h1) | h1
      · exact .inl (by simpa using h1)
      · exact .inr (.inl (by simpa using h1))
      · exact .inr (.inr h1)
    | succ m =>
      have := ih h.2 m oi (by simpa using hm)
      rwa [show s + (m + 1) = s + 1 + m from by omega]

def okHead (all : List Oper) (done : List Nat) (i : Nat) : Bool :=
  match all[i]? with
  | none => false
  | some o => !done.elem i && edgesIn done o
def okTree (all : List Oper) (eff : List Nat) : Tr → Bool → List Nat → Bool
  | .z, _, done => (List.range all.length).all fun i => done.elem i
  | .t i r, _, done => okHead all done i && !eff.elem i && okTree all eff r false (i :: done)
  | .e i r, alt, done => okHead all done i && eff.elem i && (alt || onlyThese done [i] 0 all) && okTree all eff r false (i :: done)
  | .f i r o, alt, done => okHead all done i && eff.elem i && (alt || onlyThese done (i :: o.heads) 0 all) && okTree all eff r false (i :: done) && okTree all eff o true done

def vcE (P : Program) (cOk : Nat → Bool) (n : Nat) (all : List Oper) (o : Oper) (T : Held) (L : Env) (w : World) (K : Held → Env → World → Prop) : Prop :=
  vcGuard n all o.guard L
    (fun L => chk (covers L o.op) (dropK o T fun T' => vcBind n o.dst L (vcOp P cOk L o w) fun L' w' => obl T' w' (K T' L' w')))
    (fun L => vcSkip n o.dst L fun L' => K T L' w)
def vcT (P : Program) (cOk : Nat → Bool) (n : Nat) (all : List Oper) : Tr → Held → Env → World → (Env → World → Prop) → Prop
  | .z, _, L, w, K => K L w
  | .t i r, T, L, w, K => match all[i]? with
    | none => False
    | some o => vcGuard n all o.guard L
          (fun L => chk (covers L o.op) (vcBindT n o.dst L (vcTake P L o i T w) fun L' T' => vcT P cOk n all r T' L' w K))
          (fun L => vcSkip n o.dst L fun L' => vcT P cOk n all r T L' w K)
  | .e i r, T, L, w, K => match all[i]? with
    | none => False
    | some o => vcE P cOk n all o T L w fun T' L' w' => vcT P cOk n all r T' L' w' K
  | .f i r q, T, L, w, K => (match all[i]? with
    | none => False
    | some o => vcE P cOk n all o T L w fun T' L' w' => vcT P cOk n all r T' L' w' K) ∧ vcT P cOk n all q T L w K

section
variable {P : Program} {ops : Array Oper} {n : Nat} {eff : List Nat} {cOk : Nat → Bool} {Q : Exit → Act → World → Prop}

/-- An effect comes up. -/
theorem sim_eff (hP : CallsOk P cOk) (st : Static ops eff) {listed : Array Bool} {a : Act} {done : List Nat} {T : Held} {L : Env} {w : World} (hs : Sim ds P ops n eff listed a done T L w)
    {j : Nat} (hj : j ∈ Region.ready .any ops listed) {oj : Oper} (hoi : ops[j]? = some oj) (hnd : j ∉ done) (hin : edgesIn done oj = true) {K : Held → Env → World → Prop} (h : vcE P cOk n ops.toList oj T L w K)
    {R : Act → World → Prop} (hR : ∀ v T' L' w', Sim ds P ops n eff (listed.setIfInBounds j true) (a.put oj.dst v) (j :: done) T' L' w' → K T' L' w' → R (a.put oj.dst v) w') : wpOp P ops Q j R a w := by
  obtain ⟨hun, oj', hoj, hall⟩ := mem_ready.1 hj
  have hoo : oj' = oj := by rw [hoi] at hoj; injection hoj with hoj; exact hoj.symm
  subst hoo
  unfold vcE at h
  obtain ⟨hgh, L', hl, hh⟩ := vcGuard_cases h
  have hag : ∀ t ∈ oj'.looksAt ops, ehas L t = true → a.tmps.getD t undef = eget L t := fun t ht hht => by
    refine hs.agr t hht fun k hk hku ok hok' hd => ?_
    have hkj : k ≠ j := fun e => hnd (e ▸ hk)
    rcases st.pair k j ok oj' hkj hok' hoi t hd ht with h1 | ⟨h1, _⟩
    · rw [not_direct hall hku] at h1; cases h1
    · obtain ⟨_, _, _, _, hp⟩ := hs.pend k hk hku
      exact hp.neff h1
  have hga : GAgree n ops oj'.guard L a.tmps := ⟨hs.asz, fun g want t h1 h2 => hag t (looks_guard h1 h2) (hgh g want t h1 h2)⟩
  unfold wpOp
  simp only [hoi]
  rcases hh with ⟨hA, hw⟩ | ⟨hB, hw⟩ <;> have hw := hw _ hga
  · simp only [hw, if_true]
    obtain ⟨hcov, hA⟩ := chk_elim hA
    rw [dropK_eq] at hA
    obtain ⟨hdst, hA⟩ := vcBind_elim hA
    unfold covers at hcov
    rw [Bool.and_eq_true, List.all_eq_true] at hcov
    refine .inl ?_
    unfold Oper.wp
    have hex : execOp a.eval oj' = execOp (evE L') oj' := execOp_congr oj' (notSelect_ne hcov.1) fun x hx => by
      cases x with
      | tmp t =>
        have h1 := hcov.2 (.tmp t) (by simpa using hx)
        have h1 : ehas L t = true := by rw [← hl.1]; exact h1
        show a.tmps.getD t undef = eget L' t
        rw [hl.2, hag t (looks_operand hx) h1]
      | _ => rfl
    rw [hex]
    refine upon_of_vcNext (vcNext_mono (fun v w' hv => ?_) (vcOp_sound hP hA))
    obtain ⟨hob, hv⟩ := obl_elim hv
    refine hR v _ _ w' (sim_step st hs hl v hoi hnd hj hin hdst (fun p hp hd => ?_) (fun k hk hku F hF hw0 => ?_)) hv
    · have : p ∈ T.filter fun p => !direct p.1 oj' := List.mem_filter.2 ⟨hp, by simp [hd]⟩
      exact this
    · rcases hF with hF | hF
      · exact hF w'
      · exact hob _ (mem_drop hF (not_direct hall hku))
  · simp only [hw, Bool.false_eq_true, if_false]
    obtain ⟨hc, hB⟩ := vcSkip_elim hB
    exact hR undef _ _ w (sim_step st hs hl undef hoi hnd hj hin hc (fun p hp hd => hp) (fun k hk hku F hF hw0 => hw0)) hB

/-- An operation is taken. -/
theorem sim_taken (st : Static ops eff) {listed : Array Bool} {a : Act} {done : List Nat} {T : Held} {L : Env} {w : World} (hs : Sim ds P ops n eff listed a done T L w)
    {i : Nat} {o : Oper} (hoi : ops[i]? = some o) (hnd : i ∉ done) (hin : edgesIn done o = true) (hne : i ∉ eff) {K : Held → Env → Prop}
    (h : vcGuard n ops.toList o.guard L (fun L => chk (covers L o.op) (vcBindT n o.dst L (vcTake P L o i T w) fun L' T' => K T' L')) (fun L => vcSkip n o.dst L fun L' => K T L')) :
    ∃ T' L', Sim ds P ops n eff listed a (i :: done) T' L' w ∧ K T' L' := by
  obtain ⟨hgh, L', hl, hh⟩ := vcGuard_cases h
  have hgl : ∀ b : Act, b.tmps.size = n → (∀ t ∈ o.looksAt ops, b.tmps.getD t undef = eget L t) → GAgree n ops o.guard L b.tmps := fun b hb hag =>
    ⟨hb, fun j want t h1 h2 => hag t (looks_guard h1 h2)⟩
  rcases hh with ⟨hA, hw⟩ | ⟨hB, hw⟩
  · obtain ⟨hcov, hA⟩ := chk_elim hA
    obtain ⟨hdst, hA⟩ := vcBindT_elim hA
    obtain ⟨v, F, T', hF, hnow, hheld, hT, hrest⟩ := vcTake_elim hA
    unfold covers at hcov
    rw [Bool.and_eq_true, List.all_eq_true] at hcov
    have hlooks : ∀ t ∈ o.looksAt ops, ehas L t = true := fun t ht => by
      rcases List.mem_append.1 ht with ht | ht
      · obtain ⟨x, hx, hxt⟩ := List.mem_filterMap.1 ht
        have := hcov.2 x hx
        cases x <;> simp at hxt
        subst hxt
        rw [← hl.1]
        exact this
      · cases hgd : o.guard with
        | none => simp [hgd] at ht
        | some g =>
          obtain ⟨j, want⟩ := g
          simp [hgd] at ht
          exact hgh j want t hgd (by simpa using ht)
    have htake : TakeOk P ops n L o v F (o.looksAt ops) := fun b hb hag => .inl ⟨hw _ (hgl b hb hag), fun w' hw' => by
      have := hF w' hw'
      unfold runV rdN at this
      rw [← this]
      congr 1
      refine execOp_congr o (notSelect_ne hcov.1) fun x hx => ?_
      cases x with
      | tmp t => show b.tmps.getD t undef = eget L' t; rw [hl.2, hag t (looks_operand hx)]
      | _ => rfl⟩
    exact ⟨T', _, sim_take st hs hl hoi hnd hin hne hT hdst htake hnow hheld fun t ht => ⟨ht, hlooks t ht⟩, hrest⟩
  · obtain ⟨hc, hB⟩ := vcSkip_elim hB
    let S := match o.guard with
      | some (g, _) => ((ops[g]?).bind (·.dst)).toList
      | none => []
    have htake : TakeOk P ops n L o undef (fun _ => True) S := fun b hb hag => .inr ⟨hw _ ⟨hb, fun j want t h1 h2 => hag t (by simp [S, h1, h2])⟩, rfl⟩
    refine ⟨T, _, sim_take st hs hl hoi hnd hin hne (fun _ hp => hp) hc htake trivial (.inl fun _ => trivial) fun t ht => ?_, hB⟩
    cases hgd : o.guard with
    | none => simp [S, hgd] at ht
    | some g =>
      obtain ⟨j, want⟩ := g
      simp [S, hgd] at ht
      have ht' : (ops[j]?).bind (·.dst) = some t := by simpa using ht
      exact ⟨looks_guard hgd ht', hgh j want t hgd ht'⟩

theorem okHead_elim {done : List Nat} {i : Nat} (h : okHead ops.toList done i = true) : ∃ o, ops[i]? = some o ∧ i ∉ done ∧ edgesIn done o = true := by
  unfold okHead at h
  cases hoi : ops[i]? with
  | none => simp [hoi] at h
  | some o =>
    have hoi' : ops.toList[i]? = some o := by simpa using hoi
    simp only [hoi', Bool.and_eq_true, Bool.not_eq_true'] at h
    exact ⟨o, rfl, by simpa using h.1, h.2⟩

theorem okHeads_of : ∀ {tr : Tr} {alt : Bool} {done : List Nat}, okTree ops.toList eff tr alt done = true → ∀ j ∈ tr.heads, j < ops.size ∧ j ∉ done := by
  intro tr
  induction tr with
  | z => intro _ _ _ j hj; cases hj
  | t => intro _ _ _ j hj; cases hj
  | e i r ihr =>
    intro alt done hok j hj
    simp only [okTree, Bool.and_eq_true] at hok
    obtain ⟨o, hoi, hnd, hin⟩ := okHead_elim hok.1.1.1
    obtain rfl : j = i := by simpa [Tr.heads] using hj
    exact ⟨(Array.getElem?_eq_some_iff.1 hoi).1, hnd⟩
  | f i r q ihr ihq =>
    intro alt done hok j hj
    simp only [okTree, Bool.and_eq_true] at hok
    obtain ⟨o, hoi, hnd, hin⟩ := okHead_elim hok.1.1.1.1
    rcases List.mem_cons.1 (show j ∈ i :: q.heads from hj) with rfl | hj
    · exact ⟨(Array.getElem?_eq_some_iff.1 hoi).1, hnd⟩
    · exact ihq hok.2 j hj

theorem vcT_sound (hP : CallsOk P cOk) (st : Static ops eff) {a0 : Act} {K : Env → World → Prop}
    (hQ : ∀ a L w, Has ds n a L → Off (opsD ops.toList) a0 a → K L w → Q .normal a w) :
    ∀ (tr : Tr) (alt : Bool) (done : List Nat) (T : Held) (L : Env) (w : World), okTree ops.toList eff tr alt done = true → vcT P cOk n ops.toList tr T L w K →
      (alt = false → ∀ (fuel : Nat) (listed : Array Bool) (a : Act), unl ops.size listed ≤ fuel → Sim ds P ops n eff listed a done T L w → Off (opsD ops.toList) a0 a → wpAny P .any ops Q fuel listed a w) ∧
      (∀ j ∈ tr.heads, ∀ (fuel : Nat) (listed : Array Bool) (a : Act), unl ops.size listed ≤ fuel + 1 → Sim ds P ops n eff listed a done T L w → Off (opsD ops.toList) a0 a → j ∈ Region.ready .any ops listed →
        wpOp P ops Q j (fun a' w' => wpAny P .any ops Q fuel (listed.setIfInBounds j true) a' w') a w) := by
  have hmem : ∀ (i : Nat) (o : Oper), ops[i]? = some o → ∀ t, o.dst = some t → t ∈ opsD ops.toList := fun i o ho t ht =>
    List.mem_filterMap.2 ⟨o, by simpa using Array.mem_of_getElem? ho, ht⟩
  -- what is drawn was taken, or is one of the heads
  have hdraw : ∀ (tr : Tr) (done : List Nat) (T : Held) (L : Env) (w : World), tr.heads ≠ [] → (∀ j ∈ tr.heads, j < ops.size ∧ j ∉ done) → onlyThese done tr.heads 0 ops.toList = true →
      (∀ j ∈ tr.heads, ∀ (fuel : Nat) (listed : Array Bool) (a : Act), unl ops.size listed ≤ fuel + 1 → Sim ds P ops n eff listed a done T L w → Off (opsD ops.toList) a0 a → j ∈ Region.ready .any ops listed →
        wpOp P ops Q j (fun a' w' => wpAny P .any ops Q fuel (listed.setIfInBounds j true) a' w') a w) →
      ∀ (fuel : Nat) (listed : Array Bool) (a : Act), unl ops.size listed ≤ fuel → Sim ds P ops n eff listed a done T L w → Off (opsD ops.toList) a0 a → wpAny P .any ops Q fuel listed a w := by
    intro tr done T L w hne hheads honly halt fuel
    have hnl : ∀ (listed : Array Bool) (a : Act), Sim ds P ops n eff listed a done T L w → ∃ i, i < ops.size ∧ listed.getD i true = false := fun listed a hs => by
      obtain ⟨i, hi⟩ := List.exists_mem_of_ne_nil _ hne
      obtain ⟨hlt, hnd⟩ := hheads i hi
      refine ⟨i, hlt, ?_⟩
      cases hb : listed.getD i true with
      | false => rfl
      | true => exact absurd (hs.sub i hlt hb) hnd
    induction fuel with
    | zero =>
      intro listed a hf hs hoff
      have hr := all_listed (ops := ops) (listed := listed) (by omega)
      obtain ⟨i, hlt, hu⟩ := hnl listed a hs
      have h1 := some_ready st hs.lsz hr i hlt
      rw [hu] at h1
      cases h1
    | succ fuel ih =>
      intro listed a hf hs hoff
      refine ⟨fun hr => ?_, fun j hj => ?_⟩
      · obtain ⟨i, hlt, hu⟩ := hnl listed a hs
        have h1 := some_ready st hs.lsz hr i hlt
        rw [hu] at h1
        cases h1
      · obtain ⟨hun, oj, hoj, hall⟩ := mem_ready.1 hj
        have hltj : j < ops.size := (Array.getElem?_eq_some_iff.1 hoj).1
        by_cases hjd : j ∈ done
        · obtain ⟨oj', v, ho', hs', hw⟩ := sim_exec st hs hj hjd (Q := Q)
          exact hw _ (ih _ _ (by have := unl_set (ops := ops) hltj hun; omega) hs' (hoff.trans (Off.put a _ _ (hmem j oj' ho'))))
        · have hji : j ∈ tr.heads := by
            rcases onlyThese_spec honly j oj (by simpa using hoj) with h1 | h1 | h1
            · exact absurd (by simpa using h1) hjd
            · simpa using h1
            · exfalso
              have h2 : edgesIn done oj = true := edgesIn_iff.2 fun e he hb => by
                have h3 := hall e he hb
                have h4 : e.on < listed.size := by
                  rcases Nat.lt_or_ge e.on listed.size with h' | h'
                  · exact h'
                  · simp [Array.getElem?_eq_none h'] at h3
                refine hs.sub e.on (by rw [← hs.lsz]; exact h4) ?_
                simp [h4] at h3 ⊢
                exact h3
              rw [h2] at h1; cases h1
          exact halt j hji fuel listed a hf hs hoff hj
  intro tr
  induction tr with
  | z =>
    intro alt done T L w hok h
    refine ⟨fun _ fuel => ?_, fun j hj => by cases hj⟩
    simp only [okTree] at hok
    induction fuel with
    | zero =>
      intro listed a hf hs hoff
      have hr := all_listed (ops := ops) (listed := listed) (by omega)
      refine ⟨hr, hQ a L w ⟨hs.adf, hs.asz, fun t ht => hs.agr t ht fun i hi hiu => ?_⟩ hoff h⟩
      have hlt := lt_of_unlisted hiu
      rw [some_ready st hs.lsz hr i (by rw [← hs.lsz]; exact hlt)] at hiu
      cases hiu
    | succ fuel ih =>
      intro listed a hf hs hoff
      refine ⟨fun hr => hQ a L w ⟨hs.adf, hs.asz, fun t ht => hs.agr t ht fun i hi hiu => ?_⟩ hoff h, fun j hj => ?_⟩
      · have hlt := lt_of_unlisted hiu
        rw [some_ready st hs.lsz hr i (by rw [← hs.lsz]; exact hlt)] at hiu
        cases hiu
      · obtain ⟨hun, oj, hoj, hall⟩ := mem_ready.1 hj
        have hlt : j < ops.size := (Array.getElem?_eq_some_iff.1 hoj).1
        have hjd : j ∈ done := by
          rw [List.all_eq_true] at hok
          simpa using hok j (by simpa using hlt)
        obtain ⟨o, v, ho, hs', hw⟩ := sim_exec st hs hj hjd (Q := Q)
        exact hw _ (ih _ _ (by have := unl_set (ops := ops) hlt hun; omega) hs' (hoff.trans (Off.put a _ _ (hmem j o ho))))
  | t i r ihr =>
    intro alt done T L w hok h
    refine ⟨fun _ fuel listed a hf hs hoff => ?_, fun j hj => by cases hj⟩
    simp only [okTree, Bool.and_eq_true, Bool.not_eq_true'] at hok
    obtain ⟨⟨h1, h2⟩, h3⟩ := hok
    obtain ⟨o, hoi, hnd, hin⟩ := okHead_elim h1
    have hoi' : ops.toList[i]? = some o := by simpa using hoi
    simp only [vcT, hoi'] at h
    obtain ⟨T', L', hs', h'⟩ := sim_taken st hs hoi hnd hin (by simpa using h2) h
    exact (ihr false (i :: done) T' L' w h3 h').1 rfl fuel listed a hf hs' hoff
  | e i r ihr =>
    intro alt done T L w hok h
    simp only [okTree, Bool.and_eq_true, Bool.or_eq_true] at hok
    obtain ⟨⟨⟨h1, h2⟩, h4⟩, h3⟩ := hok
    obtain ⟨o, hoi, hnd, hin⟩ := okHead_elim h1
    have hoi' : ops.toList[i]? = some o := by simpa using hoi
    simp only [vcT, hoi'] at h
    have halt : ∀ j ∈ (Tr.e i r).heads, ∀ (fuel : Nat) (listed : Array Bool) (a : Act), unl ops.size listed ≤ fuel + 1 → Sim ds P ops n eff listed a done T L w → Off (opsD ops.toList) a0 a → j ∈ Region.ready .any ops listed →
        wpOp P ops Q j (fun a' w' => wpAny P .any ops Q fuel (listed.setIfInBounds j true) a' w') a w := by
      intro j hj fuel listed a hf hs hoff hrd
      obtain rfl : j = i := by simpa [Tr.heads] using hj
      obtain ⟨hun, oj, hoj, hall⟩ := mem_ready.1 hrd
      have hltj : j < ops.size := (Array.getElem?_eq_some_iff.1 hoj).1
      exact sim_eff hP st hs hrd hoi hnd hin h fun v T' L' w' hs' h' => (ihr false (j :: done) T' L' w' h3 h').1 rfl fuel _ _ (by have := unl_set (ops := ops) hltj hun; omega) hs' (hoff.trans (Off.put a _ _ (hmem j o hoi)))
    refine ⟨fun hf => ?_, halt⟩
    exact hdraw (.e i r) done T L w (by simp [Tr.heads]) (fun j hj => by
      obtain rfl : j = i := by simpa [Tr.heads] using hj
      exact ⟨(Array.getElem?_eq_some_iff.1 hoi).1, hnd⟩) (h4.resolve_left (by simp [hf])) halt
  | f i r q ihr ihq =>
    intro alt done T L w hok h
    simp only [okTree, Bool.and_eq_true, Bool.or_eq_true] at hok
    obtain ⟨⟨⟨⟨h1, h2⟩, h4⟩, h3⟩, h5⟩ := hok
    obtain ⟨o, hoi, hnd, hin⟩ := okHead_elim h1
    have hoi' : ops.toList[i]? = some o := by simpa using hoi
    simp only [vcT, hoi'] at h
    obtain ⟨h, hq⟩ := h
    have hqq := ihq true done T L w h5 hq
    have halt : ∀ j ∈ (Tr.f i r q).heads, ∀ (fuel : Nat) (listed : Array Bool) (a : Act), unl ops.size listed ≤ fuel + 1 → Sim ds P ops n eff listed a done T L w → Off (opsD ops.toList) a0 a → j ∈ Region.ready .any ops listed →
        wpOp P ops Q j (fun a' w' => wpAny P .any ops Q fuel (listed.setIfInBounds j true) a' w') a w := by
      intro j hj fuel listed a hf hs hoff hrd
      rcases List.mem_cons.1 (show j ∈ i :: q.heads from hj) with rfl | hj
      · obtain ⟨hun, oj, hoj, hall⟩ := mem_ready.1 hrd
        have hltj : j < ops.size := (Array.getElem?_eq_some_iff.1 hoj).1
        exact sim_eff hP st hs hrd hoi hnd hin h fun v T' L' w' hs' h' => (ihr false (j :: done) T' L' w' h3 h').1 rfl fuel _ _ (by have := unl_set (ops := ops) hltj hun; omega) hs' (hoff.trans (Off.put a _ _ (hmem j o hoi)))
      · exact hqq.2 j hj fuel listed a hf hs hoff hrd
    refine ⟨fun hf => ?_, halt⟩
    refine hdraw (.f i r q) done T L w (by simp [Tr.heads]) (fun j hj => ?_) (h4.resolve_left (by simp [hf])) halt
    rcases List.mem_cons.1 (show j ∈ i :: q.heads from hj) with rfl | hj
    · exact ⟨(Array.getElem?_eq_some_iff.1 hoi).1, hnd⟩
    · exact okHeads_of h5 j hj
end


/-! ### Code -/

def dsts : Code → List Nat
  | .region _ ops _ => opsD ops.toList
  | .seq a b => dsts a ++ dsts b
  | .cond _ a b => dsts a ++ dsts b
  | .block _ c => dsts c
  | .loop c => dsts c
  | _ => []

/-- What is told beside a code: of a region that draws its effects and an order; of a loop the slots that it carries, and those that its body writes; where ways meet again the slots that are handed on, and those that were written. -/
inductive Sk where
  | z
  | n (a b : Sk)
  | l (ts D : List Nat) (a : Sk)
  | d (eff order : List Nat)
  | t (eff : List Nat) (tr : Tr)
  | j (ts D : List Nat) (a : Sk)
def Sk.left : Sk → Sk
  | .n a _ => a
  | _ => .z
def Sk.right : Sk → Sk
  | .n _ b => b
  | _ => .z

def without (L : Env) (D : List Nat) : Env := L.filter fun p => !D.elem p.1
def withoutK (D : List Nat) : Env → (Env → Prop) → Prop
  | [], k => k []
  | (t, v) :: L, k => match D.elem t with
    | true => withoutK D L k
    | false => withoutK D L fun r => k ((t, v) :: r)
theorem withoutK_eq (D : List Nat) : ∀ (L : Env) (k : Env → Prop), withoutK D L k = k (without L D)
  | [], k => rfl
  | (t, v) :: L, k => by
    unfold without
    cases hd : D.elem t with
    | true => simp only [withoutK, hd]; rw [withoutK_eq D L, List.filter_cons_of_neg (by rw [hd]; exact Bool.noConfusion)]; rfl
    | false => simp only [withoutK, hd]; rw [withoutK_eq D L, List.filter_cons_of_pos (by rw [hd]; rfl)]; rfl

def withVals (L : Env) : List Nat → List Value → Env
  | t :: ts, v :: vs => (t, v) :: withVals L ts vs
  | _, _ => L

/-- A loop that carries some values. -/
inductive mLoop (body : List Value → World → (List Value → World → Prop) → Prop) (vs : List Value) (w : World) : Prop
  | mk (I : List Value → World → Prop) (μ : List Value → World → Nat) (h0 : I vs w) (h1 : ∀ vs w, I vs w → body vs w fun vs' w' => I vs' w' ∧ μ vs' w' < μ vs w) : mLoop body vs w
inductive mLoop0 (body : World → (World → Prop) → Prop) (w : World) : Prop
  | mk (I : World → Prop) (μ : World → Nat) (h0 : I w) (h1 : ∀ w, I w → body w fun w' => I w' ∧ μ w' < μ w) : mLoop0 body w
inductive mLoop1 (body : Value → World → (Value → World → Prop) → Prop) (x : Value) (w : World) : Prop
  | mk (I : Value → World → Prop) (μ : Value → World → Nat) (h0 : I x w) (h1 : ∀ x w, I x w → body x w fun x' w' => I x' w' ∧ μ x' w' < μ x w) : mLoop1 body x w
inductive mLoop2 (body : Value → Value → World → (Value → Value → World → Prop) → Prop) (x y : Value) (w : World) : Prop
  | mk (I : Value → Value → World → Prop) (μ : Value → Value → World → Nat) (h0 : I x y w)
      (h1 : ∀ x y w, I x y w → body x y w fun x' y' w' => I x' y' w' ∧ μ x' y' w' < μ x y w) : mLoop2 body x y w
inductive mLoop3 (body : Value → Value → Value → World → (Value → Value → Value → World → Prop) → Prop) (x y z : Value) (w : World) : Prop
  | mk (I : Value → Value → Value → World → Prop) (μ : Value → Value → Value → World → Nat) (h0 : I x y z w)
      (h1 : ∀ x y z w, I x y z w → body x y z w fun x' y' z' w' => I x' y' z' w' ∧ μ x' y' z' w' < μ x y z w) : mLoop3 body x y z w
inductive mLoop4 (body : Value → Value → Value → Value → World → (Value → Value → Value → Value → World → Prop) → Prop) (x y z u : Value) (w : World) : Prop
  | mk (I : Value → Value → Value → Value → World → Prop) (μ : Value → Value → Value → Value → World → Nat) (h0 : I x y z u w)
      (h1 : ∀ x y z u w, I x y z u w → body x y z u w fun x' y' z' u' w' => I x' y' z' u' w' ∧ μ x' y' z' u' w' < μ x y z u w) : mLoop4 body x y z u w

/-- The loop by its number of carried values. -/
def vcLoop (ts : List Nat) (Lb L : Env) (body : Env → World → (Env → World → Prop) → Prop) (w : World) : Prop :=
  match ts with
  | [] => mLoop0 (fun w k => body Lb w fun L' w' => chk ([].all (ehas L')) (k w')) w
  | [a] => mLoop1 (fun x w k => body ((a, x) :: Lb) w fun L' w' => chk ([a].all (ehas L')) (k (eget L' a) w')) (eget L a) w
  | [a, b] => mLoop2 (fun x y w k => body ((a, x) :: (b, y) :: Lb) w fun L' w' => chk ([a, b].all (ehas L')) (k (eget L' a) (eget L' b) w')) (eget L a) (eget L b) w
  | [a, b, c] => mLoop3 (fun x y z w k => body ((a, x) :: (b, y) :: (c, z) :: Lb) w fun L' w' => chk ([a, b, c].all (ehas L')) (k (eget L' a) (eget L' b) (eget L' c) w'))
      (eget L a) (eget L b) (eget L c) w
  | [a, b, c, d] => mLoop4 (fun x y z u w k => body ((a, x) :: (b, y) :: (c, z) :: (d, u) :: Lb) w fun L' w' =>
      chk ([a, b, c, d].all (ehas L')) (k (eget L' a) (eget L' b) (eget L' c) (eget L' d) w')) (eget L a) (eget L b) (eget L c) (eget L d) w
  | ts => mLoop (fun vs w k => body (withVals Lb ts vs) w fun L' w' => chk (ts.all (ehas L')) (k (ts.map (eget L')) w')) (ts.map (eget L)) w

def onNormal (f : Env → World → Prop) (K : Exit → Env → World → Prop) : Exit → Env → World → Prop := fun e L w =>
  match e with
  | .normal => f L w
  | e => K e L w

/-- Ways that meet again behind a code. -/
def vcJoin (ts D : List Nat) (L : Env) (c : Code) (run : (Exit → Env → World → Prop) → Prop) (K : Exit → Env → World → Prop) : Prop :=
  chk ((dsts c).all fun t => D.elem t) (withoutK D L fun Lb => match ts with
    | [] => mJ (fun J : World → Prop => run (onNormal (fun L' w' => chk ([].all (ehas L')) (J w')) K)) fun w' => K .normal Lb w'
    | [a] => mJ (fun J : Value → World → Prop => run (onNormal (fun L' w' => chk ([a].all (ehas L')) (J (eget L' a) w')) K)) fun x w' => K .normal ((a, x) :: Lb) w'
    | [a, b] => mJ (fun J : Value → Value → World → Prop => run (onNormal (fun L' w' => chk ([a, b].all (ehas L')) (J (eget L' a) (eget L' b) w')) K))
        fun x y w' => K .normal ((a, x) :: (b, y) :: Lb) w'
    | [a, b, c] => mJ (fun J : Value → Value → Value → World → Prop => run (onNormal (fun L' w' => chk ([a, b, c].all (ehas L')) (J (eget L' a) (eget L' b) (eget L' c) w')) K))
        fun x y z w' => K .normal ((a, x) :: (b, y) :: (c, z) :: Lb) w'
    | _ => False)

def vcReg (P : Program) (cOk : Nat → Bool) (n : Nat) (ops : Array Oper) (draw : Bool) (k : Sk) (L : Env) (w : World) (K : Exit → Env → World → Prop) : Prop :=
  match draw with
  | false => vcOps P cOk n ops.toList ops.toList L w (K .normal)
  | true => match k with
    | .d eff order => chk (okDraw ops.toList eff order) (vcD P cOk n ops.toList eff order [] L w.drew (K .normal))
    | .t eff tr => chk (okAll ops.toList eff 0 ops.toList && okTree ops.toList eff tr false []) (vcT P cOk n ops.toList tr [] L w.drew (K .normal))
    | _ => False

def vcC (P : Program) (cOk : Nat → Bool) (n : Nat) : Code → Sk → Env → World → (Exit → Env → World → Prop) → Prop
  | .skip, _, L, w, K => K .normal L w
  | .label _, _, L, w, K => K .normal L w
  | .exit id, _, L, w, K => K (.exit id) L w
  | .ret, _, L, w, K => K .ret L w
  | .seq a b, k, L, w, K => vcC P cOk n a k.left L w (onNormal (fun L' w' => vcC P cOk n b k.right L' w' K) K)
  | .cond c a b, k, L, w, K => match k with
    | .j ts D k => vcJoin ts D L (.cond c a b) (fun K => chk (covO L c) (mIf (evE L c) (vcC P cOk n a k.left L w K) (vcC P cOk n b k.right L w K))) K
    | k => chk (covO L c) (mIf (evE L c) (vcC P cOk n a k.left L w K) (vcC P cOk n b k.right L w K))
  | .block id c, k, L, w, K => vcC P cOk n c k L w fun e L' w' => match e with
    | .exit j => match Nat.beq j id with
      | true => K .normal L' w'
      | false => K (.exit j) L' w'
    | e => K e L' w'
  | .loop c, k, L, w, K => match k with
    | .l ts D k => chk ((dsts c).all (fun t => D.elem t) && ts.all (ehas L)) (withoutK D L fun Lb =>
        vcLoop ts Lb L (fun L' w k' => vcC P cOk n c k L' w (onNormal k' K)) w)
    | _ => False
  | .region id ops draw, k, L, w, K => match k with
    | .j ts D k => vcJoin ts D L (.region id ops draw) (vcReg P cOk n ops draw k L w) K
    | k => vcReg P cOk n ops draw k L w K
  | _, _, _, _, _ => False

def Post (ds : List Deferred) (n : Nat) (a0 : Act) (D : List Nat) (K : Exit → Env → World → Prop) : Exit → Act → World → Prop :=
  fun e a w => ∃ L, Has ds n a L ∧ Off D a0 a ∧ K e L w

theorem vcLoop_elim {ts : List Nat} {Lb L : Env} {body : Env → World → (Env → World → Prop) → Prop} {w : World} (h : vcLoop ts Lb L body w) :
    ∃ (I : List Value → World → Prop) (μ : List Value → World → Nat), I (ts.map (eget L)) w ∧
      ∀ vs w, vs.length = ts.length → I vs w → body (withVals Lb ts vs) w fun L' w' => chk (ts.all (ehas L')) (I (ts.map (eget L')) w' ∧ μ (ts.map (eget L')) w' < μ vs w) := by
  unfold vcLoop at h
  split at h
  · obtain ⟨I, μ, h0, h1⟩ := h
    refine ⟨fun _ w => I w, fun _ w => μ w, h0, fun vs w hv hI => ?_⟩
    obtain rfl : vs = [] := List.eq_nil_of_length_eq_zero (by simpa using hv)
    exact h1 w hI
  · obtain ⟨I, μ, h0, h1⟩ := h
    refine ⟨fun vs w => I (vs.getD 0 undef) w, fun vs w => μ (vs.getD 0 undef) w, h0, fun vs w hv hI => ?_⟩
    match vs, hv with
    | [x], _ => exact h1 x w hI
  · obtain ⟨I, μ, h0, h1⟩ := h
    refine ⟨fun vs w => I (vs.getD 0 undef) (vs.getD 1 undef) w, fun vs w => μ (vs.getD 0 undef) (vs.getD 1 undef) w, h0, fun vs w hv hI => ?_⟩
    match vs, hv with
    | [x, y], _ => exact h1 x y w hI
  · obtain ⟨I, μ, h0, h1⟩ := h
    refine ⟨fun vs w => I (vs.getD 0 undef) (vs.getD 1 undef) (vs.getD 2 undef) w, fun vs w => μ (vs.getD 0 undef) (vs.getD 1 undef) (vs.getD 2 undef) w, h0, fun vs w hv hI => ?_⟩
    match vs, hv with
    | [x, y, z], _ => exact h1 x y z w hI
  · obtain ⟨I, μ, h0, h1⟩ := h
    refine ⟨fun vs w => I (vs.getD 0 undef) (vs.getD 1 undef) (vs.getD 2 undef) (vs.getD 3 undef) w, fun vs w => μ (vs.getD 0 undef) (vs.getD 1 undef) (vs.getD 2 undef) (vs.getD 3 undef) w, h0, fun vs w hv hI => ?_⟩
    match vs, hv with
    | [x, y, z, u], _ => exact h1 x y z u w hI
  · obtain ⟨I, μ, h0, h1⟩ := h
    exact ⟨I, μ, h0, fun vs w _ hI => h1 vs w hI⟩

theorem get_of_at {a a' : Act} {t : Nat} (h : a'.tmps[t]? = a.tmps[t]?) : a'.tmps.getD t undef = a.tmps.getD t undef := by
  rw [Array.getD_eq_getD_getElem?, Array.getD_eq_getD_getElem?, h]

theorem without_has {L : Env} {D : List Nat} {t : Nat} (h : ehas (without L D) t = true) : t ∉ D ∧ ehas L t = true ∧ eget (without L D) t = eget L t := by
  induction L with
  | nil => simp [without, ehas] at h
  | cons p L ih =>
    obtain ⟨k, v⟩ := p
    unfold without at h ih ⊢
    cases hk : D.elem k with
    | true =>
      rw [List.filter_cons_of_neg (by rw [hk]; exact Bool.noConfusion)] at h ⊢
      obtain ⟨h1, h2, h3⟩ := ih h
      have hne : k ≠ t := fun e => h1 (by subst e; simpa using hk)
      exact ⟨h1, by have := ehas_eput_ne L v hne; simp only [eput] at this; rw [this]; exact h2, by have := eget_eput_ne L v hne; simp only [eput] at this; rw [this]; exact h3⟩
    | false =>
      rw [List.filter_cons_of_pos (by rw [hk]; rfl)] at h ⊢
      by_cases e : k = t
      · subst e
        exact ⟨by simpa using hk, by simp [ehas], by simp [eget]⟩
      · have e1 := ehas_eput_ne (L.filter fun p => !D.elem p.1) v e
        have e2 := ehas_eput_ne L v e
        have e3 := eget_eput_ne (L.filter fun p => !D.elem p.1) v e
        have e4 := eget_eput_ne L v e
        simp only [eput] at e1 e2 e3 e4
        rw [e1] at h
        obtain ⟨h1, h2, h3⟩ := ih h
        exact ⟨h1, by rw [e2]; exact h2, by rw [e3, e4]; exact h3⟩

theorem withVals_get {L : Env} {g : Nat → Value} : ∀ {ts : List Nat} {t : Nat}, ehas (withVals L ts (ts.map g)) t = true →
    (t ∈ ts ∧ eget (withVals L ts (ts.map g)) t = g t) ∨ (ehas L t = true ∧ eget (withVals L ts (ts.map g)) t = eget L t)
  | [], t, h => .inr ⟨h, rfl⟩
  | s :: ts, t, h => by
    by_cases e : s = t
    · subst e
      exact .inl ⟨List.mem_cons_self .., by simp [withVals, eget]⟩
    · have e1 := ehas_eput_ne (withVals L ts (ts.map g)) (g s) e
      have e2 := eget_eput_ne (withVals L ts (ts.map g)) (g s) e
      simp only [eput] at e1 e2
      simp only [List.map_cons, withVals] at h ⊢
      rw [e1] at h
      rw [e2]
      exact (withVals_get h).imp (fun ⟨h1, h2⟩ => ⟨List.mem_cons_of_mem _ h1, h2⟩) id

theorem loop_has {n : Nat} {L : Env} {D : List Nat} {ts : List Nat} {a : Act} (hd : a.defers = ds) (hs : a.tmps.size = n) (h : ∀ t, t ∉ D → ehas L t = true → a.tmps.getD t undef = eget L t) :
    Has ds n a (withVals (without L D) ts (ts.map fun t => a.tmps.getD t undef)) := by
  refine ⟨hd, hs, fun t ht => ?_⟩
  rcases withVals_get ht with ⟨_, h1⟩ | ⟨h1, h2⟩
  · exact h1.symm
  · obtain ⟨h3, h4, h5⟩ := without_has h1
    rw [h2, h5]
    exact h t h3 h4

theorem vcJoin_elim {ts D : List Nat} {L : Env} {c : Code} {run : (Exit → Env → World → Prop) → Prop} {K : Exit → Env → World → Prop} (h : vcJoin ts D L c run K) :
    (∀ t, t ∈ dsts c → t ∈ D) ∧ run (onNormal (fun L' w' => chk (ts.all (ehas L')) (K .normal (withVals (without L D) ts (ts.map (eget L'))) w')) K) := by
  unfold vcJoin at h
  obtain ⟨hD, h⟩ := chk_elim h
  rw [withoutK_eq] at h
  refine ⟨fun t ht => by simpa using List.all_eq_true.1 hD t ht, ?_⟩
  split at h
  · exact h.out
  · exact h.out
  · exact h.out
  · exact h.out
  · exact h.elim

theorem wp_join {P : Program} {n : Nat} {ts D : List Nat} {L : Env} {c : Code} {w : World} {K : Exit → Env → World → Prop} {a : Act} (hL : Has ds n a L) (hD : ∀ t, t ∈ dsts c → t ∈ D)
    (h : c.wp P (Post ds n a (dsts c) (onNormal (fun L' w' => chk (ts.all (ehas L')) (K .normal (withVals (without L D) ts (ts.map (eget L'))) w')) K)) a w) : c.wp P (Post ds n a (dsts c) K) a w := by
  refine wp_mono h fun e a1 w1 ⟨L1, hL1, hO1, hK⟩ => ?_
  cases e with
  | normal =>
    obtain ⟨hc, hK⟩ := chk_elim hK
    have hv : ts.map (eget L1) = ts.map fun t => a1.tmps.getD t undef := List.map_congr_left fun t ht => (hL1.get t (List.all_eq_true.1 hc t ht)).symm
    have hag : ∀ t, t ∉ D → ehas L t = true → a1.tmps.getD t undef = eget L t := fun t ht he => (get_of_at (hO1 t fun hx => ht (hD t hx))).trans (hL.get t he)
    exact ⟨_, loop_has hL1.defers hL1.size hag, hO1, by rw [hv] at hK; exact hK⟩
  | _ => exact ⟨L1, hL1, hO1, hK⟩

theorem vcReg_sound {P : Program} {cOk : Nat → Bool} {n : Nat} (hP : CallsOk P cOk) (hm : P.follows .mixedOrders = true) (id : Nat) (ops : Array Oper) (draw : Bool) (k : Sk) (L : Env) (w : World)
    (K : Exit → Env → World → Prop) (a : Act) (hL : Has ds n a L) (h : vcReg P cOk n ops draw k L w K) : (Code.region id ops draw).wp P (Post ds n a (dsts (.region id ops draw)) K) a w := by
  cases draw with
  | false =>
    refine (wpIn_wide (n := 0)).1 (wpIn_region ?_)
    have := vcOps_sound (a0 := a) (Q := Post ds n a (dsts (.region id ops false)) K) (m := 0) hP wideF (fun a1 L1 w1 hL1 hO1 hK => ⟨L1, hL1, hO1, hK⟩) ops.toList 0 rfl a L w hL (Off.refl _ _) h
    rwa [List.range_eq_range']
  | true =>
    simp only [vcReg] at h
    split at h
    case h_3 => exact h.elim
    case h_2 =>
      rename_i eff tr
      obtain ⟨hc, h⟩ := chk_elim h
      rw [Bool.and_eq_true] at hc
      have hun : ∀ i, i < ops.size → (Array.replicate ops.size false).getD i true = false := fun i hi => by simp [hi]
      refine wp_region_any hm ((vcT_sound (a0 := a) hP (static_of hc.1) (fun a1 L1 w1 hL1 hO1 hK => ⟨L1, hL1, hO1, hK⟩) tr false [] [] L w.drew hc.2 h).1 rfl ops.size _ a ?_
        ⟨by simp, hL.size, hL.defers, fun i hi hl => ?_, fun i hi => (by cases hi), fun i hi => (by cases hi), fun t ht _ => hL.get t ht⟩ (Off.refl _ _))
      · unfold unl
        exact Nat.le_trans List.countP_le_length (by simp)
      · rw [hun i hi] at hl; cases hl
    case h_1 =>
      rename_i eff order
      obtain ⟨hc, h⟩ := chk_elim h
      simp only [okDraw, Bool.and_eq_true] at hc
      have hun : ∀ i, i < ops.size → (Array.replicate ops.size false).getD i true = false := fun i hi => by simp [hi]
      refine wp_region_any hm (vcD_sound (a0 := a) hP (static_of hc.1) (fun a1 L1 w1 hL1 hO1 hK => ⟨L1, hL1, hO1, hK⟩) order ops.size _ a [] [] L w.drew ?_ hc.2
        ⟨by simp, hL.size, hL.defers, fun i hi hl => ?_, fun i hi => (by cases hi), fun i hi => (by cases hi), fun t ht _ => hL.get t ht⟩ (Off.refl _ _) h)
      · unfold unl
        exact Nat.le_trans List.countP_le_length (by simp)
      · rw [hun i hi] at hl; cases hl

theorem vcC_sound {P : Program} {cOk : Nat → Bool} {n : Nat} (hP : CallsOk P cOk) (hm : P.follows .mixedOrders = true) :
    ∀ (c : Code) (k : Sk) (L : Env) (w : World) (K : Exit → Env → World → Prop) (a : Act), Has ds n a L → vcC P cOk n c k L w K → c.wp P (Post ds n a (dsts c) K) a w := by
  intro c
  induction c with
  | skip => exact fun k L w K a hL h => wp_skip ⟨L, hL, Off.refl _ _, h⟩
  | label l => exact fun k L w K a hL h => wp_label ⟨L, hL, Off.refl _ _, h⟩
  | exit id => exact fun k L w K a hL h => wp_exit ⟨L, hL, Off.refl _ _, h⟩
  | ret => exact fun k L w K a hL h => wp_ret ⟨L, hL, Off.refl _ _, h⟩
  | seq x y ihx ihy =>
    intro k L w K a hL h
    refine wp_seq (wp_mono (ihx _ L w _ a hL h) fun e a1 w1 ⟨L1, hL1, hO1, hK⟩ => ?_)
    have hl : ∀ t, t ∈ dsts x → t ∈ dsts (.seq x y) := fun t ht => List.mem_append_left _ ht
    have hr : ∀ t, t ∈ dsts y → t ∈ dsts (.seq x y) := fun t ht => List.mem_append_right _ ht
    cases e with
    | normal =>
      exact wp_mono (ihy _ L1 w1 K a1 hL1 hK) fun e a2 w2 ⟨L2, hL2, hO2, hK2⟩ => ⟨L2, hL2, (hO1.mono hl).trans (hO2.mono hr), hK2⟩
    | _ => exact ⟨L1, hL1, hO1.mono hl, hK⟩
  | cond b x y ihx ihy =>
    intro k L w K a hL h
    have key : ∀ (k : Sk) (K : Exit → Env → World → Prop), chk (covO L b) (mIf (evE L b) (vcC P cOk n x k.left L w K) (vcC P cOk n y k.right L w K)) →
        (Code.cond b x y).wp P (Post ds n a (dsts (.cond b x y)) K) a w := by
      intro k K h
      obtain ⟨hc, h⟩ := chk_elim h
      have hl : ∀ t, t ∈ dsts x → t ∈ dsts (.cond b x y) := fun t ht => List.mem_append_left _ ht
      have hr : ∀ t, t ∈ dsts y → t ∈ dsts (.cond b x y) := fun t ht => List.mem_append_right _ ht
      have he := hL.eval hc
      rcases mIf_elim h with ⟨hx, h⟩ | ⟨hx, h⟩
      · exact wp_cond_true (by rw [he, hx]) (wp_mono (ihx _ L w K a hL h) fun e a2 w2 ⟨L2, hL2, hO2, hK2⟩ => ⟨L2, hL2, hO2.mono hl, hK2⟩)
      · exact wp_cond_false (by rw [he, hx]) (wp_mono (ihy _ L w K a hL h) fun e a2 w2 ⟨L2, hL2, hO2, hK2⟩ => ⟨L2, hL2, hO2.mono hr, hK2⟩)
    simp only [vcC] at h
    split at h
    · obtain ⟨hD, h⟩ := vcJoin_elim h
      exact wp_join hL hD (key _ _ h)
    · exact key _ _ h
  | block id x ih =>
    intro k L w K a hL h
    refine wp_block (wp_mono (ih _ L w _ a hL h) fun e a1 w1 ⟨L1, hL1, hO1, hK⟩ => ?_)
    cases e with
    | exit j =>
      simp only [Exit.inBlock]
      by_cases e : j = id
      · subst e
        simp only [Nat.beq_refl] at hK
        simp only [if_true]
        exact ⟨L1, hL1, hO1, hK⟩
      · have : Nat.beq j id = false := by
          cases hb : Nat.beq j id
          · rfl
          · exact absurd (Nat.eq_of_beq_eq_true hb) e
        simp only [this] at hK
        simp only [e, if_false]
        exact ⟨L1, hL1, hO1, hK⟩
    | _ => exact ⟨L1, hL1, hO1, hK⟩
  | loop x ih =>
    intro k L w K a hL h
    simp only [vcC] at h
    split at h
    case h_2 => exact h.elim
    rename_i ts D k
    obtain ⟨hc, h⟩ := chk_elim h
    rw [Bool.and_eq_true] at hc
    obtain ⟨hD, hcar⟩ := hc
    rw [withoutK_eq] at h
    have hcar : ∀ t, t ∈ ts → ehas L t = true := List.all_eq_true.1 hcar
    have hD : ∀ t, t ∈ dsts x → t ∈ D := fun t ht => by simpa using List.all_eq_true.1 hD t ht
    obtain ⟨I, μ, h0, h1⟩ := vcLoop_elim h
    have hval : ts.map (eget L) = ts.map fun t => a.tmps.getD t undef := List.map_congr_left fun t ht => (hL.get t (hcar t ht)).symm
    refine wp_loop (fun a' w' => I (ts.map fun t => a'.tmps.getD t undef) w' ∧ a'.defers = ds ∧ a'.tmps.size = n ∧ Off (dsts x) a a')
      (fun a' w' => μ (ts.map fun t => a'.tmps.getD t undef) w') ⟨by rw [← hval]; exact h0, hL.defers, hL.size, Off.refl _ _⟩ fun a' w' hI => ?_
    obtain ⟨hI, hd', hs', hO'⟩ := hI
    have hag : ∀ t, t ∉ D → ehas L t = true → a'.tmps.getD t undef = eget L t := fun t ht he => (get_of_at (hO' t fun hx => ht (hD t hx))).trans (hL.get t he)
    refine wp_mono (ih _ _ w' _ a' (loop_has hd' hs' hag) (h1 _ w' (by simp) hI)) fun e a2 w2 ⟨L2, hL2, hO2, hK2⟩ => ?_
    cases e with
    | normal =>
      obtain ⟨hc, hk⟩ := chk_elim hK2
      have hv2 : ts.map (eget L2) = ts.map fun t => a2.tmps.getD t undef := List.map_congr_left fun t ht => (hL2.get t (List.all_eq_true.1 hc t ht)).symm
      simp only [hv2] at hk
      exact ⟨⟨hk.1, hL2.defers, hL2.size, hO'.trans hO2⟩, hk.2⟩
    | _ => exact ⟨L2, hL2, hO'.trans hO2, hK2⟩
  | region id ops draw =>
    intro k L w K a hL h
    simp only [vcC] at h
    split at h
    · obtain ⟨hD, h⟩ := vcJoin_elim h
      exact wp_join hL hD (vcReg_sound hP hm id ops draw _ L w _ a hL h)
    · exact vcReg_sound hP hm id ops draw _ L w _ a hL h
  | _ => exact fun k L w K a hL h => (by simp only [vcC] at h)

/-! ### A function -/

def vcRes (P : Program) : List ResultVar → Env → World → (List Value → Prop) → Prop
  | [], _, _, K => K []
  | .tmp t :: rs, L, w, K => chk (ehas L t) (vcRes P rs L w fun vs => K (eget L t :: vs))
  | .cell a t :: rs, L, w, K => chk (ehas L a) (mRes P (cellS t (eget L a)) w fun v => vcRes P rs L w fun vs => K (v :: vs))

def packed : List Value → Value
  | [v] => v
  | vs => .tuple vs.toArray

def argsEnv : Nat → List Value → Env
  | _, [] => []
  | k, v :: vs => (k, v) :: argsEnv (k + 1) vs

def vcF (P : Program) (cOk : Nat → Bool) (k : Sk) (fn : Func) (args : List Value) (w : World) (K : Value → World → Prop) : Prop :=
  match fn.body with
  | none => False
  | some c => chk (Nat.ble args.length fn.ntmps) (vcC P cOk fn.ntmps c k (argsEnv 0 args) w fun e L w' => match e with
    | .normal => vcRes P fn.results.toList L w' fun vs => K (packed vs) w'
    | .ret => vcRes P fn.results.toList L w' fun vs => K (packed vs) w'
    | _ => False)

def resOne (tmps : Array Value) : ResultVar → Sem Value
  | .tmp t => pure (tmps.getD t undef)
  | .cell x t => do loadVar t (← asAddr (tmps.getD x undef))

theorem vcRes_run {P : Program} {n : Nat} {a : Act} {L : Env} {w : World} (hL : Has ds n a L) : ∀ {rs : List ResultVar} {K : List Value → Prop}, vcRes P rs L w K →
    ∃ vs, (rs.mapM (resOne a.tmps)).run P w = .ok vs w ∧ K vs
  | [], K, h => ⟨[], by simp [pure, Sem.run], h⟩
  | .tmp t :: rs, K, h => by
    obtain ⟨hc, h⟩ := chk_elim h
    obtain ⟨vs, h1, h2⟩ := vcRes_run hL h
    refine ⟨eget L t :: vs, ?_, h2⟩
    rw [List.mapM_cons]
    simp only [resOne, Sem.run_bind, Sem.run_pure, Result.andThen_ok, h1, hL.get t hc]
  | .cell x t :: rs, K, h => by
    obtain ⟨hc, v, hv, h⟩ := chk_elim h
    obtain ⟨vs, h1, h2⟩ := vcRes_run hL h
    refine ⟨v :: vs, ?_, h2⟩
    rw [List.mapM_cons]
    unfold rdV cellS at hv
    rw [← hL.get x hc] at hv
    simp only [Sem.run_bind] at hv
    simp only [resOne, Sem.run_bind, hv, Result.andThen_ok, h1, Sem.run_pure]

theorem argsEnv_get : ∀ (vs : List Value) (k t : Nat), ehas (argsEnv k vs) t = true → k ≤ t ∧ t < k + vs.length ∧ eget (argsEnv k vs) t = vs.getD (t - k) undef
  | [], k, t, h => by simp [argsEnv, ehas] at h
  | v :: vs, k, t, h => by
    by_cases e : k = t
    · subst e
      exact ⟨Nat.le_refl _, by simp, by simp [argsEnv, eget]⟩
    · have e1 := ehas_eput_ne (argsEnv (k + 1) vs) v e
      have e2 := eget_eput_ne (argsEnv (k + 1) vs) v e
      simp only [eput] at e1 e2
      simp only [argsEnv] at h ⊢
      rw [e1] at h
      obtain ⟨h1, h2, h3⟩ := argsEnv_get vs (k + 1) t h
      refine ⟨by omega, by simp; omega, ?_⟩
      rw [e2, h3, show t - k = (t - (k + 1)) + 1 from by omega]
      simp

theorem calls_of_vcF {P : Program} {cOk : Nat → Bool} {k : Sk} (hP : CallsOk P cOk) (hm : P.follows .mixedOrders = true) {f : FuncId} {fn : Func} (hf : P.funcs[f]? = some fn)
    {args : List Value} {w : World} {K : Value → World → Prop} (h : vcF P cOk k fn args w K) : Calls P f args.toArray w (retK K) := by
  unfold vcF at h
  split at h
  · exact h.elim
  · rename_i c hc
    obtain ⟨hlen, h⟩ := chk_elim h
    have hlen : args.length ≤ fn.ntmps := Nat.le_of_ble_eq_true hlen
    have hL : Has [] fn.ntmps { tmps := args.toArray ++ Array.replicate (fn.ntmps - args.toArray.size) undef, defers := [] } (argsEnv 0 args) := by
      refine ⟨rfl, by simp; omega, fun t ht => ?_⟩
      obtain ⟨h1, h2, h3⟩ := argsEnv_get args 0 t ht
      rw [h3]
      have h2' : t < args.length := by omega
      simp [Array.getElem?_append, h2']
    refine calls_of_wp hf hc (wp_mono (vcC_sound hP hm c _ _ w _ _ hL h) fun e a w' ⟨L, hL', _, hK⟩ => ?_)
    have hend : ∀ {L : Env}, Has [] fn.ntmps a L → (vcRes P fn.results.toList L w' fun vs => K (packed vs) w') → a.defers = [] ∧ ∃ v, (results fn a.tmps).run P w' = .ok v w' ∧ retK K (.returned v) w' := by
      intro L hL' hr
      obtain ⟨vs, h1, h2⟩ := vcRes_run hL' hr
      refine ⟨hL'.defers, packed vs, ?_, h2⟩
      have hres : results fn a.tmps = (do let vs ← fn.results.mapM (resOne a.tmps); pure (if h : vs.size = 1 then vs[0] else .tuple vs)) := by
        unfold results
        congr 1
      rw [hres, Array.mapM_eq_mapM_toList]
      simp only [Sem.run_bind, Sem.run_map, h1, Result.andThen_ok, Sem.run_pure]
      congr 1
      match vs with
      | [] => rfl
      | [v] => rfl
      | u :: v :: vs => simp [packed]
    cases e <;> first
      | exact hend hL' hK
      | exact hK.elim

/-! ### A range over a function -/

/-- A round, whose left sides are assigned in one region, and whose body is another. -/
theorem round_of_vc {P : Program} {cOk : Nat → Bool} (hP : CallsOk P cOk) {n l ia ib ic : Nat} {f : FuncId} {tmps : Array Value} {asg body : Array Oper} {L : Env} {w : World} {K : Value → World → Prop}
    (hA : Has [] n { tmps := tmps, defers := [] } L)
    (h : vcOps P cOk n asg.toList asg.toList L w fun L1 w1 => ∃ w2, (Instr.beginRound l).run P w1 = .ok () w2 ∧ vcOps P cOk n body.toList body.toList L1 w2 fun _ w3 => ∃ v w4, (Instr.endRound l none).run P w3 = .ok v w4 ∧ K v w4) :
    RoundIn Fence.wide 0 P l f tmps (.region ia asg false) (.block ib (.region ic body false)) w (retK K) := by
  refine roundIn_of_wpIn trivial (wpIn_region ?_)
  have h1 := vcOps_sound (a0 := { tmps := tmps, defers := [] }) (m := 0) hP (wideF_round l) (Q := Exit.then (fun a₁ w₁ => ∃ w₂, (Instr.beginRound l).run P w₁ = .ok () w₂ ∧ (Code.block ib (.region ic body false)).wpIn (Fence.wide.inRound l) 0 P (roundPost P l (retK K)) a₁ w₂) (fun _ _ _ => False))
    (K := fun L1 w1 => ∃ w2, (Instr.beginRound l).run P w1 = .ok () w2 ∧ vcOps P cOk n body.toList body.toList L1 w2 fun _ w3 => ∃ v w4, (Instr.endRound l none).run P w3 = .ok v w4 ∧ K v w4)
    (fun a1 L1 w1 hL1 _ hK => ?_) asg.toList 0 rfl _ L w hA (Off.refl _ _) h
  · rw [List.range_eq_range']
    exact h1
  · obtain ⟨w2, hb, hbody⟩ := hK
    refine ⟨w2, hb, wpIn_block (wpIn_region ?_)⟩
    have h2 := vcOps_sound (a0 := a1) (m := 0) hP (wideF_round l) (Q := Exit.inBlock ib (roundPost P l (retK K))) (K := fun _ w3 => ∃ v w4, (Instr.endRound l none).run P w3 = .ok v w4 ∧ K v w4)
      (fun a3 L3 w3 hL3 _ hK => hK) body.toList 0 rfl a1 L1 w2 hL1 (Off.refl _ _) hbody
    rw [List.range_eq_range']
    exact h2

end Go.Vc
