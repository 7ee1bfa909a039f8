/-
  Rules for the shallow forms: what single operations do, over worlds that are told by their blocks.
-/
import Derived.Test.YthgopkppmppdoaaVc
import Derived.Maps.AppendAt
import Derived.Below
set_option linter.unusedVariables false
set_option linter.unusedSimpArgs false
namespace Go.Vc
open Go

/-! ### Worlds -/

/-- Outside F the old blocks are as they were; nothing else but the tape's place has turned. -/
structure Upd (w w' : World) (F : Nat → Prop) : Prop where
  os : w'.os = w.os
  tape : w'.tape = w.tape
  output : w'.output = w.output
  size : w.heap.size ≤ w'.heap.size
  old : ∀ k, k < w.heap.size → ¬ F k → w'.heap[k]? = w.heap[k]?

abbrev Ext (w w' : World) : Prop := Upd w w' fun _ => False

theorem Upd.refl (w : World) (F : Nat → Prop) : Upd w w F := ⟨rfl, rfl, rfl, Nat.le_refl _, fun _ _ _ => rfl⟩
theorem Upd.drew (w : World) (F : Nat → Prop) : Upd w w.drew F := ⟨rfl, rfl, rfl, Nat.le_refl _, fun _ _ _ => rfl⟩
theorem Upd.trans {w w1 w2 : World} {F G H : Nat → Prop} (h : Upd w w1 F) (k : Upd w1 w2 G) (hF : ∀ i, i < w.heap.size → F i → H i) (hG : ∀ i, i < w.heap.size → G i → H i) : Upd w w2 H :=
  ⟨k.os.trans h.os, k.tape.trans h.tape, k.output.trans h.output, Nat.le_trans h.size k.size, fun i hi hn =>
    (k.old i (Nat.lt_of_lt_of_le hi h.size) fun hg => hn (hG i hi hg)).trans (h.old i hi fun hf => hn (hF i hi hf))⟩
theorem Upd.mono {w w1 : World} {F G : Nat → Prop} (h : Upd w w1 F) (hF : ∀ i, i < w.heap.size → F i → G i) : Upd w w1 G :=
  ⟨h.os, h.tape, h.output, h.size, fun i hi hn => h.old i hi fun hf => hn (hF i hi hf)⟩
/-- The same frame, once more. -/
theorem Upd.then {w w1 w2 : World} {F : Nat → Prop} (h : Upd w w1 F) (k : Upd w1 w2 F) : Upd w w2 F := h.trans k (fun _ _ x => x) fun _ _ x => x
/-- Behind a change that touches nothing of what there was. -/
theorem Upd.ext {w w1 w2 : World} {F : Nat → Prop} (h : Upd w w1 F) (k : Ext w1 w2) : Upd w w2 F := h.trans k (fun _ _ x => x) fun _ _ x => x.elim
theorem Upd.drewn {w w1 : World} {F : Nat → Prop} (h : Upd w w1 F) : Upd w w1.drew F := h.then (Upd.drew _ _)
/-- What is changed is younger than the beginning, or may be. -/
theorem Upd.young {w w1 w2 : World} {F G : Nat → Prop} (h : Upd w w1 F) (k : Upd w1 w2 G) (hG : ∀ i, G i → F i ∨ w.heap.size ≤ i) : Upd w w2 F :=
  h.trans k (fun _ _ x => x) fun i hi g => (hG i g).resolve_right (by omega)

theorem Upd.below {w w' : World} (h : Ext w w') : Go.RowKit.Below w.heap.size w w' := ⟨h.os, h.tape, h.output, h.size, fun k hk => h.old k hk id⟩

/-- A block of cells, whole. -/
def Blk (w : World) (b : Nat) (T : TypeId) (cs : List Value) : Prop := w.heap[b]? = some (.cells cs.toArray T (0, 0))

theorem Blk.lt {w : World} {b : Nat} {T : TypeId} {cs : List Value} (h : Blk w b T cs) : b < w.heap.size := by
  unfold Blk at h
  exact (Array.getElem?_eq_some_iff.1 h).1
theorem Blk.keep {w w' : World} {b : Nat} {T : TypeId} {cs : List Value} {F : Nat → Prop} (h : Blk w b T cs) (u : Upd w w' F) (hn : ¬ F b) : Blk w' b T cs := by
  unfold Blk at *
  rw [u.old b (Blk.lt h) hn]
  exact h
theorem Blk.drew {w : World} {b : Nat} {T : TypeId} {cs : List Value} (h : Blk w b T cs) : Blk w.drew b T cs := h
theorem Blk.cell {w : World} {b : Nat} {T : TypeId} {cs : List Value} (h : Blk w b T cs) {o : Nat} {v : Value} (ho : cs[o]? = some v) : w.cell? ⟨b, o, none⟩ = some v := by
  unfold Blk at h
  simp [World.cell?, h, ho]
theorem Blk.frozen {w : World} {b : Nat} {T : TypeId} {cs : List Value} (h : Blk w b T cs) (o : Nat) : w.frozen? ⟨b, o, none⟩ = false := by
  unfold Blk at h
  simp [World.frozen?, h]
theorem Blk.inj {w : World} {b : Nat} {T T' : TypeId} {cs cs' : List Value} (h : Blk w b T cs) (h' : Blk w b T' cs') : T = T' ∧ cs = cs' := by
  unfold Blk at h h'
  rw [h] at h'
  injection h' with h'
  injection h' with h1 h2
  exact ⟨h2, by simpa using h1⟩
theorem Blk.ne_type {w : World} {b b' : Nat} {T T' : TypeId} {cs cs' : List Value} (h : Blk w b T cs) (h' : Blk w b' T' cs') (hT : T ≠ T') : b ≠ b' := fun e => by
  subst e
  exact hT (h.inj h').1

/-- A store of one cell. -/
theorem Blk.set {w : World} {b : Nat} {T : TypeId} {cs : List Value} (h : Blk w b T cs) (o : Nat) (v : Value) :
    Blk (w.setCell ⟨b, o, none⟩ v) b T (cs.set o v) ∧ Upd w (w.setCell ⟨b, o, none⟩ v) (· = b) ∧ (w.setCell ⟨b, o, none⟩ v).heap.size = w.heap.size := by
  refine ⟨?_, ⟨rfl, rfl, rfl, by simp, fun k hk hn => Go.RowKit.Below.heap_setCell _ _ _ _ hn⟩, by simp⟩
  unfold Blk at *
  simp [World.setCell, Array.getElem?_modify, h]

theorem alloc_upd (w : World) (o : Obj) (F : Nat → Prop) : Upd w (w.alloc o) F := ⟨rfl, rfl, rfl, by simp, fun k hk _ => Go.RowKit.Below.heap_alloc _ _ _ hk⟩
theorem alloc_blk (w : World) (c : Array Value) (T : TypeId) : Blk (w.alloc (.cells c T (0, 0))) w.heap.size T c.toList := by
  unfold Blk
  show (w.heap.push _)[w.heap.size]? = _
  simp

/-! ### Handing on -/

section
variable {P : Program} {w w' : World} {K : Value → World → Prop} {v : Value}

theorem mN_ok {s : Sem Next} (h : s.run P w = .ok (.value v) w') (k : K v w') : mN P s w K := ⟨by rw [h]; exact k⟩
theorem vS_run {s : Sem Value} (h : s.run P w = .ok v w') : (vS s).run P w = .ok (.value v) w' := by
  unfold vS
  simp [h]
theorem mN_v {s : Sem Value} (h : s.run P w = .ok v w') (k : K v w') : mN P (vS s) w K := mN_ok (vS_run h) k
theorem mN_u {s : Sem Unit} (h : s.run P w = .ok () w') (k : K undef w') : mN P (uS s) w K := ⟨by unfold uS; simp [h, vcNext, k]⟩
theorem mP_ok {s : Sem Next} {K : Value → Prop} (h : ∀ w, s.run P w = .ok (.value v) w) (k : K v) : mP P s K := ⟨v, h, k⟩
theorem mP_v {s : Sem Value} {K : Value → Prop} (h : ∀ w, s.run P w = .ok v w) (k : K v) : mP P (vS s) K := ⟨v, fun w => vS_run (h w), k⟩
theorem rdN_v {s : Sem Value} (h : s.run P w = .ok v w) : rdN P (vS s) v w := vS_run h
theorem mR_v {s : Sem Value} {K : Value → Prop} (h : s.run P w = .ok v w) (k : K v) : mR P (vS s) w K := ⟨v, vS_run h, k⟩

theorem mCall_of {f : FuncId} {args : Array Value} {Q : Value → World → Prop} (h : Calls P f args w (retK Q)) (k : ∀ v w', Q v w' → K v w') : mCall P f args w K :=
  ⟨h.mono fun e w' he => by cases e <;> first | exact k _ _ he | exact he.elim⟩
theorem Calls.imp {f : FuncId} {args : Array Value} {Q R : Value → World → Prop} (h : Calls P f args w (retK Q)) (k : ∀ v w', Q v w' → R v w') : Calls P f args w (retK R) :=
  h.mono fun e w' he => by cases e <;> first | exact k _ _ he | exact he.elim

/-- As rules of rewriting. -/
theorem mN_eq {s : Sem Next} (h : s.run P w = .ok (.value v) w') : mN P s w K = K v w' := by
  apply propext
  exact ⟨fun k => by have := k.out; rwa [h] at this, fun k => mN_ok h k⟩
theorem mP_eq {s : Sem Next} {K : Value → Prop} (h : ∀ w, s.run P w = .ok (.value v) w) : mP P s K = K v := by
  apply propext
  refine ⟨fun k => ?_, fun k => mP_ok h k⟩
  obtain ⟨u, hu, hk⟩ := k
  have h1 := hu default
  rw [h] at h1
  injection h1 with h1
  injection h1 with h1
  rwa [h1]
end

theorem mIf_true {A B : Prop} : mIf (.bool true) A B = A := rfl
theorem mIf_false {A B : Prop} : mIf (.bool false) A B = B := rfl
theorem mIf_intro {b : Bool} {A B : Prop} (ha : b = true → A) (hb : b = false → B) : mIf (.bool b) A B := by
  cases b
  · exact hb rfl
  · exact ha rfl
theorem mIf_dec {p : Prop} [Decidable p] {A B : Prop} (ha : p → A) (hb : ¬ p → B) : mIf (.bool (decide p)) A B := by
  by_cases h : p
  · rw [decide_eq_true h]; exact ha h
  · rw [decide_eq_false h]; exact hb h

/-! ### Plain operations -/

section
variable {P : Program} (w : World)

theorem r_nil (a : Addr) : (nilS (.pointer (some a))).run P w = .ok (.value (.pointer (some a))) w := rfl
theorem r_not (b : Bool) : (Op.unary .not (.bool b)).run P w = .ok (.bool (!b)) w := rfl
theorem r_add (T : TypeId) (k : IntKind) (a b : Int) : (binOp .add T (.int k a) (.int k b)).run P w = .ok (.int k (k.wrap (a + b))) w := by simp [binOp, Op.intArith]
theorem r_sub (T : TypeId) (k : IntKind) (a b : Int) : (binOp .sub T (.int k a) (.int k b)).run P w = .ok (.int k (k.wrap (a - b))) w := by simp [binOp, Op.intArith]
theorem r_mul (T : TypeId) (k : IntKind) (a b : Int) : (binOp .mul T (.int k a) (.int k b)).run P w = .ok (.int k (k.wrap (a * b))) w := by simp [binOp, Op.intArith]
theorem r_quo (T : TypeId) (k : IntKind) (a b : Int) (h : b ≠ 0) : (binOp .quo T (.int k a) (.int k b)).run P w = .ok (.int k (k.wrap (a.tdiv b))) w := by simp [binOp, Op.intDiv, h]
theorem r_rem (T : TypeId) (k : IntKind) (a b : Int) (h : b ≠ 0) : (binOp .rem T (.int k a) (.int k b)).run P w = .ok (.int k (a.tmod b)) w := by simp [binOp, Op.intDiv, h]
theorem r_lss (T : TypeId) (k : IntKind) (a b : Int) : (binOp .lss T (.int k a) (.int k b)).run P w = .ok (.bool (decide (a < b))) w := by simp [binOp, Op.intCmp]
theorem r_leq (T : TypeId) (k : IntKind) (a b : Int) : (binOp .leq T (.int k a) (.int k b)).run P w = .ok (.bool (decide (a ≤ b))) w := by simp [binOp, Op.intCmp]
theorem r_gtr (T : TypeId) (k : IntKind) (a b : Int) : (binOp .gtr T (.int k a) (.int k b)).run P w = .ok (.bool (decide (b < a))) w := by simp [binOp, Op.intCmp]
theorem r_geq (T : TypeId) (k : IntKind) (a b : Int) : (binOp .geq T (.int k a) (.int k b)).run P w = .ok (.bool (decide (b ≤ a))) w := by simp [binOp, Op.intCmp]
theorem r_addS (T : TypeId) (a b : ByteArray) (h : a.size + b.size ≤ 9223372036854775807) : (binOp .add T (.string a) (.string b)).run P w = .ok (.string (a ++ b)) w := by
  have : ¬ IntKind.i64.max < (a.size : Int) + (b.size : Int) := by
    have : IntKind.i64.max = 9223372036854775807 := by decide
    omega
  simp only [binOp, Op.stringOp, Int.natCast_add]
  rw [if_neg this]
  rfl
theorem r_extract (l : List Value) (i : Nat) (v : Value) (h : l[i]? = some v) : (Instr.extract (.tuple l.toArray) i).run P w = .ok v w := by simp [Instr.extract, h]

theorem eqG (op : BinOp) (T : TypeId) (cx cy : Bool) (a b : Value) (h : match a, b with | .nilIface, .nilIface => False | .agg _, .agg _ => False | _, _ => True) :
    (eqS op T cx cy a b).run P w = (binOp op T a b).run P w := by
  unfold eqS eqGuard
  cases a <;> cases b <;> first
    | exact h.elim
    | (simp; done)
    | (simp; split <;> simp)
theorem r_eqI (T : TypeId) (cx cy : Bool) (k : IntKind) (a b : Int) : (eqS .eql T cx cy (.int k a) (.int k b)).run P w = .ok (.bool (a == b)) w := by
  rw [eqG _ _ _ _ _ _ _ trivial]; simp [binOp, Op.intCmp]
theorem r_neI (T : TypeId) (cx cy : Bool) (k : IntKind) (a b : Int) : (eqS .neq T cx cy (.int k a) (.int k b)).run P w = .ok (.bool (a != b)) w := by
  rw [eqG _ _ _ _ _ _ _ trivial]; simp [binOp, Op.intCmp]
theorem r_eqS (T : TypeId) (cx cy : Bool) (a b : ByteArray) : (eqS .eql T cx cy (.string a) (.string b)).run P w = .ok (.bool (a.toList == b.toList)) w := by
  rw [eqG _ _ _ _ _ _ _ trivial]; simp [binOp, Op.stringOp]
theorem r_neS (T : TypeId) (cx cy : Bool) (a b : ByteArray) : (eqS .neq T cx cy (.string a) (.string b)).run P w = .ok (.bool (!(a.toList == b.toList))) w := by
  rw [eqG _ _ _ _ _ _ _ trivial]; simp [binOp, Op.stringOp]
theorem underlying_run {T : TypeId} {d : TypeDesc} (h : P.underlying T = some d) : (underlying T).run P w = .ok d w := by
  unfold underlying; simp [h]
theorem eqIn_P (d : Nat) (T E : TypeId) (a : Option Addr) (hT : P.underlying T = some (.pointer E)) : (Op.equalIn (d + 1) T (.pointer a) (.pointer none)).run P w = .ok a.isNone w := by
  cases a <;> simp [Op.equalIn, underlying_run w hT]
theorem eqIn_B (d : Nat) (T : TypeId) (a b : Bool) (hT : P.underlying T = some .bool) : (Op.equalIn (d + 1) T (.bool a) (.bool b)).run P w = .ok (a == b) w := by
  simp [Op.equalIn, underlying_run w hT]
theorem eqIn_Sl (d : Nat) (T E : TypeId) (a : Option Addr) (n c n' c' : Nat) (hT : P.underlying T = some (.slice E)) : (Op.equalIn (d + 1) T (.slice a n c) (.slice none n' c')).run P w = .ok a.isNone w := by
  cases a <;> simp [Op.equalIn, underlying_run w hT]
theorem eq_of_equal {op : BinOp} {T : TypeId} {x y : Value} {r : Bool} (h : (Op.equalIn (9999 + 1) T x y).run P w = .ok r w) :
    ((do pure (.bool (← Op.equal T x y)) : Sem Value).run P w = .ok (.bool r) w) ∧ ((do pure (.bool (!(← Op.equal T x y))) : Sem Value).run P w = .ok (.bool (!r)) w) := by
  have h' : (Op.equal T x y).run P w = .ok r w := h
  constructor <;> simp [h']
theorem r_eqP (T E : TypeId) (cx cy : Bool) (a : Option Addr) (hT : P.underlying T = some (.pointer E)) : (eqS .eql T cx cy (.pointer a) (.pointer none)).run P w = .ok (.bool a.isNone) w := by
  rw [eqG _ _ _ _ _ _ _ trivial]
  exact (eq_of_equal (op := .eql) w (eqIn_P w 9999 T E a hT)).1
theorem r_neP (T E : TypeId) (cx cy : Bool) (a : Option Addr) (hT : P.underlying T = some (.pointer E)) : (eqS .neq T cx cy (.pointer a) (.pointer none)).run P w = .ok (.bool (!a.isNone)) w := by
  rw [eqG _ _ _ _ _ _ _ trivial]
  exact (eq_of_equal (op := .eql) w (eqIn_P w 9999 T E a hT)).2
theorem r_eqB (T : TypeId) (cx cy : Bool) (a b : Bool) (hT : P.underlying T = some .bool) : (eqS .eql T cx cy (.bool a) (.bool b)).run P w = .ok (.bool (a == b)) w := by
  rw [eqG _ _ _ _ _ _ _ trivial]
  exact (eq_of_equal (op := .eql) w (eqIn_B w 9999 T a b hT)).1
theorem r_neB (T : TypeId) (cx cy : Bool) (a b : Bool) (hT : P.underlying T = some .bool) : (eqS .neq T cx cy (.bool a) (.bool b)).run P w = .ok (.bool (!(a == b))) w := by
  rw [eqG _ _ _ _ _ _ _ trivial]
  exact (eq_of_equal (op := .eql) w (eqIn_B w 9999 T a b hT)).2
theorem r_eqSl (T E : TypeId) (cx cy : Bool) (a : Option Addr) (n c n' c' : Nat) (hT : P.underlying T = some (.slice E)) :
    (eqS .eql T cx cy (.slice a n c) (.slice none n' c')).run P w = .ok (.bool a.isNone) w := by
  rw [eqG _ _ _ _ _ _ _ trivial]
  exact (eq_of_equal (op := .eql) w (eqIn_Sl w 9999 T E a n c n' c' hT)).1

theorem r_lenS (T ty : TypeId) (c : Bool) (s : ByteArray) (hT : P.underlying T = some .string) : (builtin .len #[T] ty #[c] #[.string s]).run P w = .ok (.value (.int .i64 s.size)) w := by
  simp [builtin, Builtin.len_, underlying_run w hT, goInt]
theorem r_lenL (T E ty : TypeId) (c : Bool) (a : Option Addr) (n k : Nat) (hT : P.underlying T = some (.slice E)) :
    (builtin .len #[T] ty #[c] #[.slice a n k]).run P w = .ok (.value (.int .i64 n)) w := by
  simp [builtin, Builtin.len_, underlying_run w hT, goInt]

/-- How many cells a type takes. -/
def szOf (P : Program) (T : TypeId) : Option Nat := (P.info? T).map (·.size)
theorem sizeOf_run {T : TypeId} {n : Nat} (h : szOf P T = some n) : (sizeOf T).run P w = .ok n w := by
  unfold szOf at h
  unfold sizeOf typeInfo
  cases hi : P.info? T with
  | none => rw [hi] at h; cases h
  | some i =>
    rw [hi] at h
    simp at h
    simp [hi, h]

def isFieldAt (P : Program) (T : TypeId) (f off : Nat) : Bool :=
  match P.underlying T with
  | some (.struct fs) => match fs[f]? with
    | some x => x.offset == off && (match szOf P x.type with
      | some n => n != 0
      | none => false)
    | none => false
  | _ => false
theorem add_off (b o n : Nat) : (⟨b, o, none⟩ : Addr).add n = ⟨b, o + n, none⟩ := by
  unfold Addr.add
  split
  · simp_all
  · rfl
theorem r_fieldAt {T f off : Nat} (h : isFieldAt P T f off = true) (b o : Nat) : (Instr.fieldAt T (.pointer (some ⟨b, o, none⟩)) f).run P w = .ok (.pointer (some ⟨b, o + off, none⟩)) w := by
  unfold isFieldAt at h
  split at h
  · rename_i fs hT
    split at h
    · rename_i x hx
      rw [Bool.and_eq_true] at h
      obtain ⟨h1, h2⟩ := h
      split at h2
      · rename_i n hn
        have hn0 : n ≠ 0 := by simpa using h2
        have h1 : x.offset = off := by simpa using h1
        simp [Instr.fieldAt, underlying_run w hT, hx, Instr.sureAddr, fieldPlace, sizeOf_run w hn, hn0, h1, add_off]
      · cases h2
    · cases h
  · cases h
/-- Is it a struct or an array? -/
def aggOf (P : Program) (T : TypeId) : Option Bool := (P.underlying T).map fun d => match d with
  | .struct _ | .array _ _ => true
  | _ => false
theorem isAgg_run {T : TypeId} {b : Bool} (h : aggOf P T = some b) : (isAgg T).run P w = .ok b w := by
  unfold aggOf at h
  cases hu : P.underlying T with
  | none => rw [hu] at h; cases h
  | some d =>
    rw [hu] at h
    unfold isAgg
    cases d <;> simp at h <;> simp [underlying_run w hu, ← h]

/-! ### Reading -/

theorem run_load1 {a : Addr} {v : Value} (h : w.cell? a = some v) (m : Mode) : (load a m).run P w = .ok v w := by simp [h]
theorem run_loadCellsFrom {b o : Nat} : ∀ (n i : Nat) (acc : Array Value) (vs : List Value), vs.length = n → (∀ j u, vs[j]? = some u → w.cell? ⟨b, o + (i + j), none⟩ = some u) →
    (loadCellsFrom ⟨b, o, none⟩ i n acc).run P w = .ok (acc ++ vs.toArray) w
  | 0, i, acc, vs, hl, h => by
    obtain rfl : vs = [] := List.eq_nil_of_length_eq_zero hl
    simp [loadCellsFrom]
  | n + 1, i, acc, v :: vs, hl, h => by
    have h0 : w.cell? ⟨b, o + i, none⟩ = some v := by simpa using h 0 v rfl
    have ih := run_loadCellsFrom n (i + 1) (acc.push v) vs (by simpa using hl) fun j u hj => by
      have := h (j + 1) u (by simpa using hj)
      rwa [show o + (i + 1 + j) = o + (i + (j + 1)) from by omega]
    simp only [loadCellsFrom, add_off, Sem.run_bind, run_load1 w h0, Result.andThen_ok, ih]
    simp
theorem run_loadCells {b o n : Nat} {vs : List Value} (hl : vs.length = n) (h : ∀ j u, vs[j]? = some u → w.cell? ⟨b, o + j, none⟩ = some u) :
    (loadCells ⟨b, o, none⟩ n).run P w = .ok vs.toArray w := by
  unfold loadCells
  rw [run_loadCellsFrom w n 0 #[] vs hl (by simpa using h)]
  simp

/-- The cells of a block from a place on. -/
theorem Blk.cells {w : World} {b : Nat} {T : TypeId} {cs : List Value} (h : Blk w b T cs) {o n : Nat} (ho : o + n ≤ cs.length) :
    ((cs.drop o).take n).length = n ∧ ∀ j u, ((cs.drop o).take n)[j]? = some u → w.cell? ⟨b, o + j, none⟩ = some u := by
  refine ⟨by simp; omega, fun j u hj => h.cell ?_⟩
  rw [List.getElem?_take] at hj
  split at hj
  · rwa [List.getElem?_drop] at hj
  · cases hj

theorem r_load1 {T : TypeId} (hA : aggOf P T = some false) {a : Addr} {v : Value} (h : w.cell? a = some v) : (Instr.loadAt T (.pointer (some a))).run P w = .ok v w := by
  simp [Instr.loadAt, Instr.sureAddr, loadVar, isAgg_run w hA, h]
theorem r_loadB {T : TypeId} (hA : aggOf P T = some false) {b o : Nat} {E : TypeId} {cs : List Value} {v : Value} (h : Blk w b E cs) (ho : cs[o]? = some v) :
    (Instr.loadAt T (.pointer (some ⟨b, o, none⟩))).run P w = .ok v w := r_load1 w hA (h.cell ho)
theorem r_loadN {T : TypeId} (hA : aggOf P T = some true) {n : Nat} (hs : szOf P T = some n) {b o : Nat} {E : TypeId} {cs : List Value} (h : Blk w b E cs) (ho : o + n ≤ cs.length) :
    (Instr.loadAt T (.pointer (some ⟨b, o, none⟩))).run P w = .ok (.agg ((cs.drop o).take n).toArray) w := by
  obtain ⟨h1, h2⟩ := h.cells ho
  simp [Instr.loadAt, Instr.sureAddr, loadVar, isAgg_run w hA, sizeOf_run w hs, run_loadCells w h1 h2]
/-- The same, with the cells named. -/
theorem r_loadNs {T : TypeId} (hA : aggOf P T = some true) {n : Nat} (hs : szOf P T = some n) {b o : Nat} {vs : List Value} (hl : vs.length = n)
    (h : ∀ j u, vs[j]? = some u → w.cell? ⟨b, o + j, none⟩ = some u) : (Instr.loadAt T (.pointer (some ⟨b, o, none⟩))).run P w = .ok (.agg vs.toArray) w := by
  simp [Instr.loadAt, Instr.sureAddr, loadVar, isAgg_run w hA, sizeOf_run w hs, run_loadCells w hl h]

/-! ### Writing -/

theorem run_store1 {b o : Nat} {T : TypeId} {cs : List Value} {v : Value} (hv : v.oneCell' = true) (h : Blk w b T cs) (ho : o < cs.length) (m : Mode) :
    (store ⟨b, o, none⟩ v m).run P w = .ok () (w.setCell ⟨b, o, none⟩ v) := by
  have hc : w.cell? ⟨b, o, none⟩ = some cs[o] := h.cell (by simp [ho])
  have hf := h.frozen o
  cases v <;> first
    | (simp [Value.oneCell'] at hv; done)
    | (simp [store, Sem.run, hc, hf]; done)

/-- A row of cells in the place of others. -/
def splice (cs : List Value) (o : Nat) (vs : List Value) : List Value := cs.take o ++ vs ++ cs.drop (o + vs.length)
theorem splice_length {cs : List Value} {o : Nat} {vs : List Value} (h : o + vs.length ≤ cs.length) : (splice cs o vs).length = cs.length := by
  simp [splice]; omega
theorem splice_get {cs : List Value} {o : Nat} {vs : List Value} (h : o + vs.length ≤ cs.length) (i : Nat) :
    (splice cs o vs)[i]? = if i < o then cs[i]? else if i < o + vs.length then vs[i - o]? else cs[i]? := by
  unfold splice
  have hto : (cs.take o).length = o := by simp; omega
  by_cases h1 : i < o
  · rw [if_pos h1, List.append_assoc, List.getElem?_append_left (by omega), List.getElem?_take, if_pos h1]
  · rw [if_neg h1, List.append_assoc, List.getElem?_append_right (by omega), hto]
    by_cases h2 : i < o + vs.length
    · rw [if_pos h2, List.getElem?_append_left (by omega)]
    · rw [if_neg h2, List.getElem?_append_right (by omega), List.getElem?_drop]
      congr 1
      omega
theorem splice_cons {cs : List Value} {o : Nat} {v : Value} {vs : List Value} (h : o + (v :: vs).length ≤ cs.length) : splice (cs.set o v) (o + 1) vs = splice cs o (v :: vs) := by
  simp at h
  apply List.ext_getElem?
  intro i
  rw [splice_get (by simp; omega), splice_get (by simp; omega)]
  simp only [List.length_cons]
  by_cases h1 : i < o
  · rw [if_pos (by omega), if_pos h1, List.getElem?_set_ne (by omega)]
  · by_cases h2 : i = o
    · subst h2
      rw [if_pos (by omega), if_neg (by omega), if_pos (by omega), List.getElem?_set_self (by omega)]
      simp
    · by_cases h3 : i < o + 1 + vs.length
      · rw [if_neg (by omega), if_pos h3, if_neg h1, if_pos (by omega), show i - o = (i - (o + 1)) + 1 from by omega]
        simp
      · rw [if_neg (by omega), if_neg h3, if_neg h1, if_neg (by omega), List.getElem?_set_ne (by omega)]

theorem run_storeCells {b : Nat} {T : TypeId} : ∀ (vs : List Value) (o i : Nat) (w : World) (cs : List Value), Blk w b T cs → o + i + vs.length ≤ cs.length → (∀ v ∈ vs, v.oneCell' = true) →
    ∃ w', (storeCells ⟨b, o, none⟩ vs i).run P w = .ok () w' ∧ Blk w' b T (splice cs (o + i) vs) ∧ Upd w w' (· = b) ∧ w'.heap.size = w.heap.size
  | [], o, i, w, cs, hb, hl, h1 => ⟨w, rfl, by simpa [splice] using hb, Upd.refl _ _, rfl⟩
  | v :: vs, o, i, w, cs, hb, hl, h1 => by
    have hv := h1 v (List.mem_cons_self ..)
    have hlt : o + i < cs.length := by simp at hl; omega
    obtain ⟨hb1, hu1, hs1⟩ := hb.set (o + i) v
    obtain ⟨w2, hr, hb2, hu2, hs2⟩ := run_storeCells vs o (i + 1) _ _ hb1 (by simp at hl ⊢; omega) fun u hu => h1 u (List.mem_cons_of_mem _ hu)
    refine ⟨w2, ?_, ?_, hu1.then hu2, hs2.trans hs1⟩
    · simp only [storeCells, add_off, Sem.run_bind, run_store1 w hv hb hlt, Result.andThen_ok, hr]
    · rw [show o + (i + 1) = o + i + 1 from by omega, splice_cons (by simp at hl ⊢; omega)] at hb2
      exact hb2

theorem r_store1 {T : TypeId} (hs : szOf P T = some 1) {b o : Nat} {E : TypeId} {cs : List Value} {v : Value} (hv : v.oneCell' = true) (hb : Blk w b E cs) (ho : o < cs.length) :
    ∃ w', (Instr.storeAt T (.pointer (some ⟨b, o, none⟩)) v).run P w = .ok () w' ∧ Blk w' b E (cs.set o v) ∧ Upd w w' (· = b) ∧ w'.heap.size = w.heap.size := by
  obtain ⟨hb1, hu1, hs1⟩ := hb.set o v
  refine ⟨_, ?_, hb1, hu1, hs1⟩
  have hc : v.cells = #[v] := by cases v <;> first | rfl | simp [Value.oneCell'] at hv
  simp only [Instr.storeAt, Instr.sureAddr, storeVar, hc, Sem.run_bind, Sem.run_pure, Result.andThen_ok, sizeOf_run w hs]
  simp [storeCells, add_off, run_store1 w hv hb ho]
theorem r_storeN {T : TypeId} {vs : List Value} (hs : szOf P T = some vs.length) {b o : Nat} {E : TypeId} {cs : List Value} (hv : ∀ v ∈ vs, v.oneCell' = true) (hb : Blk w b E cs) (ho : o + vs.length ≤ cs.length) :
    ∃ w', (Instr.storeAt T (.pointer (some ⟨b, o, none⟩)) (.agg vs.toArray)).run P w = .ok () w' ∧ Blk w' b E (splice cs o vs) ∧ Upd w w' (· = b) ∧ w'.heap.size = w.heap.size := by
  obtain ⟨w', h1, h2, h3, h4⟩ := run_storeCells (P := P) vs o 0 w cs hb (by omega) hv
  refine ⟨w', ?_, h2, h3, h4⟩
  simp only [Instr.storeAt, Instr.sureAddr, storeVar, Value.cells, Sem.run_bind, Sem.run_pure, Result.andThen_ok, sizeOf_run w hs]
  simp [h1]
end

section
variable {P : Program} {w : World} {K : Value → World → Prop}

/-- A store of one cell. -/
theorem mN_store1 {T : TypeId} (hs : szOf P T = some 1) {b o : Nat} {E : TypeId} {cs : List Value} {v : Value} (hb : Blk w b E cs) (ho : o < cs.length) (hv : v.oneCell' = true)
    (k : ∀ w', Blk w' b E (cs.set o v) → Upd w w' (· = b) → w'.heap.size = w.heap.size → K undef w') : mN P (uS (Instr.storeAt T (.pointer (some ⟨b, o, none⟩)) v)) w K := by
  obtain ⟨w', h1, h2, h3, h4⟩ := r_store1 (P := P) w hs hv hb ho
  exact mN_u h1 (k w' h2 h3 h4)
/-- A store of a struct or an array. -/
theorem mN_storeN {T : TypeId} {vs : List Value} (hs : szOf P T = some vs.length) {b o : Nat} {E : TypeId} {cs : List Value} (hb : Blk w b E cs) (ho : o + vs.length ≤ cs.length) (hv : ∀ v ∈ vs, v.oneCell' = true)
    (k : ∀ w', Blk w' b E (splice cs o vs) → Upd w w' (· = b) → w'.heap.size = w.heap.size → K undef w') : mN P (uS (Instr.storeAt T (.pointer (some ⟨b, o, none⟩)) (.agg vs.toArray))) w K := by
  obtain ⟨w', h1, h2, h3, h4⟩ := r_storeN (P := P) w hs hv hb ho
  exact mN_u h1 (k w' h2 h3 h4)
/-- A new block. -/
theorem mN_new {s : Sem Value} {v : Value} {c : Array Value} {T : TypeId} (h : s.run P w = .ok v (w.alloc (.cells c T (0, 0))))
    (k : ∀ w', Blk w' w.heap.size T c.toList → Ext w w' → w'.heap.size = w.heap.size + 1 → K v w') : mN P (vS s) w K :=
  mN_v h (k _ (alloc_blk w c T) (alloc_upd w _ _) (by simp))
end

/-! ### Slices -/

section
variable {P : Program} (w : World)
theorem r_indexAt {T E sz : Nat} (hT : P.underlying T = some (.slice E)) (hs : szOf P E = some sz) (b o n c : Nat) (i : Int) (h0 : 0 ≤ i) (h1 : i < n) :
    (Instr.indexAt T (.slice (some ⟨b, o, none⟩) n c) (.int .i64 i)).run P w = .ok (.pointer (some ⟨b, o + i.toNat * sz, none⟩)) w := by
  simp [Instr.indexAt, asIntOf, underlying_run w hT, sizeOf_run w hs, h0, h1, add_off]
theorem r_indexAtA {T E sz len : Nat} (hT : P.underlying T = some (.array len E)) (hs : szOf P E = some sz) (b o : Nat) (i : Int) (h0 : 0 ≤ i) (h1 : i < len) :
    (Instr.indexAt T (.pointer (some ⟨b, o, none⟩)) (.int .i64 i)).run P w = .ok (.pointer (some ⟨b, o + i.toNat * sz, none⟩)) w := by
  simp [Instr.indexAt, asIntOf, underlying_run w hT, sizeOf_run w hs, h0, h1, add_off, Instr.sureAddr]
theorem r_indexS {T : Nat} (hT : P.underlying T = some .string) (s : ByteArray) (i : Int) (h0 : 0 ≤ i) (h1 : i.toNat < s.size) :
    (Instr.index T (.string s) (.int .i64 i)).run P w = .ok (.int .u8 (s[i.toNat]'h1).toNat) w := by
  simp [Instr.index, asIntOf, underlying_run w hT, h0, getElem?_pos s i.toNat h1]
theorem r_bound (k : IntKind) (i : Int) (y : Nat) (c : BoundsCode) (h0 : 0 ≤ i) (h1 : i ≤ y) : (Instr.sliceBound (.int k i) y c).run P w = .ok i.toNat w := by
  simp [Instr.sliceBound, asIntOf, h0, h1]
/-- s[lo:hi] of a text. -/
theorem r_sliceS {T : Nat} (hT : P.underlying T = some .string) (s : ByteArray) (lo hi : Int) (h0 : 0 ≤ lo) (h1 : lo ≤ hi) (h2 : hi ≤ s.size) :
    (Instr.sliceAt T (.string s) (some (.int .i64 lo)) (some (.int .i64 hi)) none).run P w = .ok (.string (s.extract lo.toNat hi.toNat)) w := by
  have e1 := r_bound (P := P) w .i64 hi s.size .sliceAlen (by omega) h2
  have e2 := r_bound (P := P) w .i64 lo hi.toNat .sliceB h0 (by omega)
  simp [Instr.sliceAt, Instr.slice, Instr.sliceBounds, underlying_run w hT, e1, e2]
theorem r_sliceSl {T : Nat} (hT : P.underlying T = some .string) (s : ByteArray) (lo : Int) (h0 : 0 ≤ lo) (h1 : lo ≤ s.size) :
    (Instr.sliceAt T (.string s) (some (.int .i64 lo)) none none).run P w = .ok (.string (s.extract lo.toNat s.size)) w := by
  have e2 := r_bound (P := P) w .i64 lo s.size .sliceB h0 h1
  simp [Instr.sliceAt, Instr.slice, Instr.sliceBounds, underlying_run w hT, e2]
theorem r_sliceSh {T : Nat} (hT : P.underlying T = some .string) (s : ByteArray) (hi : Int) (h1 : 0 ≤ hi) (h2 : hi ≤ s.size) :
    (Instr.sliceAt T (.string s) none (some (.int .i64 hi)) none).run P w = .ok (.string (s.extract 0 hi.toNat)) w := by
  have e1 := r_bound (P := P) w .i64 hi s.size .sliceAlen h1 h2
  simp [Instr.sliceAt, Instr.slice, Instr.sliceBounds, underlying_run w hT, e1]
/-- x[:hi] of an array in memory. -/
theorem r_sliceAh {T E sz len : Nat} (hT : P.underlying T = some (.array len E)) (hs : szOf P E = some sz) (b o : Nat) (hi : Int) (h1 : 0 ≤ hi) (h2 : hi ≤ len) (hl : 0 < len) :
    (Instr.sliceAt T (.pointer (some ⟨b, o, none⟩)) none (some (.int .i64 hi)) none).run P w = .ok (.slice (some ⟨b, o, none⟩) hi.toNat len) w := by
  have e1 := r_bound (P := P) w .i64 hi len .sliceAlen h1 h2
  have h0 : ¬ len = 0 := by omega
  simp [Instr.sliceAt, Instr.sliceBounds, underlying_run w hT, sizeOf_run w hs, e1, Instr.sureAddr, h0, add_off]
theorem r_conv {S T : Nat} {k : IntKind} (hS : ∃ d, P.underlying S = some d) (hT : P.underlying T = some (.int k)) (j : IntKind) (n : Int) : (convert S T (.int j n)).run P w = .ok (.int k (k.wrap n)) w := by
  obtain ⟨d, hS⟩ := hS
  simp [convert, underlying_run w hS, underlying_run w hT, Conv.intToInt]
end

/-! ### Rows of one's own: slices that begin at their block's begin -/

abbrev Row (w : World) (T : TypeId) (sz : Nat) (v : Value) (n : Nat) (xs : List Value) : Prop := w.ownsRow 0 T sz v n xs
/-- A row's block. -/
def Fp (v : Value) (k : Nat) : Prop := v.ownBlock = some k

theorem Row.nil (w : World) (T : TypeId) (sz : Nat) : Row w T sz (.slice none 0 0) 0 [] := ⟨by simp, .inl ⟨rfl, rfl⟩⟩
theorem own_keep {w w' : World} {base : Nat} {T : TypeId} {sz n : Nat} {v : Value} {xs : List Value} {F : Nat → Prop} (h : w.ownsRow base T sz v n xs) (u : Upd w w' F) (hn : ∀ k, Fp v k → ¬ F k) :
    w'.ownsRow base T sz v n xs := by
  refine ⟨h.1, ?_⟩
  rcases h.2 with ⟨rfl, h0⟩ | ⟨g, cap, cur, rfl, hb, hh, h1, h2, h3, h4⟩
  · exact .inl ⟨rfl, h0⟩
  · refine .inr ⟨g, cap, cur, rfl, hb, ?_, h1, h2, h3, h4⟩
    rw [u.old g (Array.getElem?_eq_some_iff.1 hh).1 (hn g rfl)]
    exact hh
theorem Row.of_own {w : World} {base : Nat} {T : TypeId} {sz n : Nat} {v : Value} {xs : List Value} (h : w.ownsRow base T sz v n xs) : Row w T sz v n xs := by
  refine ⟨h.1, h.2.imp id ?_⟩
  rintro ⟨g, cap, cur, h1, _, h2⟩
  exact ⟨g, cap, cur, h1, Nat.zero_le _, h2⟩
theorem own_young {w : World} {base : Nat} {T : TypeId} {sz n : Nat} {v : Value} {xs : List Value} (h : w.ownsRow base T sz v n xs) {k : Nat} (hk : Fp v k) : base ≤ k := by
  rcases h.2 with ⟨rfl, h0⟩ | ⟨g, cap, cur, rfl, hb, hh, _⟩
  · cases hk
  · have : g = k := by simpa [Fp, Value.ownBlock] using hk
    omega
theorem Row.keep {w w' : World} {T : TypeId} {sz n : Nat} {v : Value} {xs : List Value} {F : Nat → Prop} (h : Row w T sz v n xs) (u : Upd w w' F) (hn : ∀ k, Fp v k → ¬ F k) : Row w' T sz v n xs := by
  refine ⟨h.1, ?_⟩
  rcases h.2 with ⟨rfl, h0⟩ | ⟨g, cap, cur, rfl, hb, hh, h1, h2, h3, h4⟩
  · exact .inl ⟨rfl, h0⟩
  · refine .inr ⟨g, cap, cur, rfl, hb, ?_, h1, h2, h3, h4⟩
    rw [u.old g (Array.getElem?_eq_some_iff.1 hh).1 (hn g rfl)]
    exact hh
theorem Row.lt {w : World} {T : TypeId} {sz n : Nat} {v : Value} {xs : List Value} (h : Row w T sz v n xs) {k : Nat} (hk : Fp v k) : k < w.heap.size := by
  rcases h.2 with ⟨rfl, h0⟩ | ⟨g, cap, cur, rfl, hb, hh, _⟩
  · cases hk
  · have : g = k := by simpa [Fp, Value.ownBlock] using hk
    subst this
    exact (Array.getElem?_eq_some_iff.1 hh).1
/-- The shape of a row that isn't empty. -/
theorem Row.form {w : World} {T : TypeId} {sz n : Nat} {v : Value} {xs : List Value} (h : Row w T sz v n xs) :
    (v = .slice none 0 0 ∧ n = 0 ∧ xs = []) ∨ ∃ g cap cs, v = .slice (some ⟨g, 0, none⟩) n cap ∧ Blk w g T cs ∧ n ≤ cap ∧ cs.length = cap * sz ∧ cs.take (n * sz) = xs := by
  rcases h.2 with ⟨rfl, h0⟩ | ⟨g, cap, cur, rfl, hb, hh, h1, h2, h3, h4⟩
  · subst h0
    exact .inl ⟨rfl, rfl, List.eq_nil_of_length_eq_zero (by have := h.1; omega)⟩
  · exact .inr ⟨g, cap, cur.toList, rfl, by simpa [Blk] using hh, h1, by simpa using h3, h4⟩
theorem Row.slice {w : World} {T : TypeId} {sz n : Nat} {v : Value} {xs : List Value} (h : Row w T sz v n xs) : ∃ A c, v = .slice A n c := by
  rcases h.form with ⟨rfl, rfl, _⟩ | ⟨g, cap, cs, rfl, _⟩
  · exact ⟨none, 0, rfl⟩
  · exact ⟨_, cap, rfl⟩
/-- The cells of a row. -/
theorem Row.at_ {w : World} {T : TypeId} {sz n : Nat} {v : Value} {xs : List Value} (h : Row w T sz v n xs) (hn : 0 < n) :
    ∃ g cap cs, v = .slice (some ⟨g, 0, none⟩) n cap ∧ Blk w g T cs ∧ n ≤ cap ∧ cs.length = cap * sz ∧ n * sz ≤ cs.length ∧ ∀ i, i < n * sz → cs[i]? = xs[i]? := by
  rcases h.form with ⟨_, h0, _⟩ | ⟨g, cap, cs, rfl, hb, h1, h2, h3⟩
  · omega
  · refine ⟨g, cap, cs, rfl, hb, h1, h2, by rw [h2]; exact Nat.mul_le_mul_right _ h1, fun i hi => ?_⟩
    rw [← h3, List.getElem?_take, if_pos hi]

section
variable {P : Program} {w : World} {K : Value → World → Prop}

/-- append(s, ys..): whatever the second slice is, as long as its cells are there. -/
theorem mN_append {t ty E : TypeId} {sz bytes : Nat} {z : Value} (ht : P.underlying t = some (.slice E)) (hi : (P.info? E).map (fun i => (i.zero, i.size, i.bytes)) = some (some z, sz, bytes)) (hz : z.cells.size = sz) (hsz : 0 < sz)
    {v : Value} {n : Nat} {xs : List Value} (hr : Row w E sz v n xs) {b o m c : Nat} {ys : List Value} (hl : ys.length = m * sz)
    (hy : ∀ j u, ys[j]? = some u → w.cell? ⟨b, o + j, none⟩ = some u) (h1 : ∀ u ∈ ys, u.oneCell' = true) (h63 : n + m ≤ 9223372036854775807) (hb : (n + m) * bytes ≤ 140737488355328) {c1 c2 : Bool}
    (k : ∀ v' w', Row w' E sz v' (n + m) (xs ++ ys) → Upd w w' (Fp v) → (∀ k, Fp v' k → Fp v k ∨ w.heap.size ≤ k) → K v' w') :
    mN P (builtin .append #[t, t] ty #[c1, c2] #[v, .slice (some ⟨b, o, none⟩) m c]) w K := by
  obtain ⟨i0, hi0, hzz⟩ := Option.map_eq_some_iff.1 hi
  simp only [Prod.mk.injEq] at hzz
  obtain ⟨hz0, hz1, hz2⟩ := hzz
  obtain ⟨v', w', h2, h3, h4, _, h6⟩ := Go.run_append_own_at (P := P) w 0 t ty E i0 z sz bytes ht hi0 hz0 hz1 hz2 hz hsz v n xs hr ⟨b, o, none⟩ m c ys hl (fun j u hj => by rw [add_off]; exact hy j u hj) h1
    (by unfold maxLen; omega) hb (Nat.zero_le _)
  refine mN_ok (v := v') (w' := w') ?_ (k v' w' h3 ⟨h4.os, h4.tape, h4.output, h4.size, fun i hi hn => h4.block i hi fun e => hn e.symm⟩ fun i hk => ?_)
  · simp [builtin, h2]
  · rcases h6 with h6 | h6
    · exact .inl (by unfold Fp at *; rw [← h6]; exact hk)
    · right
      unfold Fp at hk
      rw [h6] at hk
      injection hk with hk
      omega
end

end Go.Vc
