/-
  More single operations: copy, max, min, slices.
-/
import Derived.Test.YthgopkppmppdoaaRul
import Derived.Laws.Small
import Derived.Laws.Cover1
set_option linter.unusedVariables false
set_option linter.unusedSimpArgs false
namespace Go.Vc
open Go

section
variable {P : Program} {w : World} {K : Value → World → Prop}

/-- copy(dst, src) -/
theorem mN_copy {dT sT ty E sz : Nat} (hu : P.underlying dT = some (.slice E)) (hs : szOf P E = some sz) {g o dLen dCap b so sLen sCap : Nat} {T : TypeId} {cur : List Value} (hg : Blk w g T cur) (n : Nat) (hn : Nat.min sLen dLen = n)
    (ys : List Value) (hl : ys.length = n * sz) (hsrc : ∀ j u, ys[j]? = some u → w.cell? ⟨b, so + j, none⟩ = some u) (ho : o + ys.length ≤ cur.length) (h1 : ∀ v ∈ ys, v.oneCell' = true) {c1 c2 : Bool}
    (k : ∀ w', Blk w' g T (splice cur o ys) → Upd w w' (· = g) → w'.heap.size = w.heap.size → K (.int .i64 n) w') :
    mN P (builtin .copy #[dT, sT] ty #[c1, c2] #[.slice (some ⟨g, o, none⟩) dLen dCap, .slice (some ⟨b, so, none⟩) sLen sCap]) w K := by
  obtain ⟨w', h2, h3, h4, h5⟩ := run_storeCells (P := P) ys o 0 w cur hg (by omega) h1
  refine mN_ok (v := .int .i64 n) (w' := w') ?_ (k w' h3 h4 h5)
  have hld := run_loadCells (P := P) w hl hsrc
  simp [builtin, Builtin.copy_, underlying_run w hu, sizeOf_run w hs, Builtin.lenOf, Builtin.firstCells, hn, hld, h2, goInt]

/-- Ways that meet again, when it is known which one is taken. -/
theorem mJ_eq {J : Type} (b : J → Prop) (r : J) : mJ b r = b r := propext ⟨fun h => h.out, fun h => ⟨h⟩⟩

theorem n_max2 (t : TypeId) (c : Array Bool) (ts : Array TypeId) (k k' : IntKind) (x y : Int) (w : World) (K : Value → World → Prop) : mN P (builtin .max ts t c #[.int k x, .int k' y]) w K = K (.int k (if y > x then y else x)) w :=
  mN_eq (by simp [builtin, run_max_int2])
theorem n_min2 (t : TypeId) (c : Array Bool) (ts : Array TypeId) (k k' : IntKind) (x y : Int) (w : World) (K : Value → World → Prop) : mN P (builtin .min ts t c #[.int k x, .int k' y]) w K = K (.int k (if y < x then y else x)) w :=
  mN_eq (by simp [builtin, run_min_int2])
/-- x[lo:] of a slice. -/
theorem r_sliceLl (w : World) {T E sz : Nat} (hT : P.underlying T = some (.slice E)) (hs : szOf P E = some sz) (b o n c : Nat) (lo : Int) (h0 : 0 ≤ lo) (h1 : lo ≤ n) (h2 : lo < c) :
    (Instr.sliceAt T (.slice (some ⟨b, o, none⟩) n c) (some (.int .i64 lo)) none none).run P w = .ok (.slice (some ⟨b, o + lo.toNat * sz, none⟩) (n - lo.toNat) (c - lo.toNat)) w := by
  have e2 := r_bound (P := P) w .i64 lo n .sliceB h0 (by omega)
  have hne : ¬ c = lo.toNat := by omega
  simp [Instr.sliceAt, Instr.slice, Instr.sliceBounds, underlying_run w hT, sizeOf_run w hs, e2, hne, add_off]
/-- x[:hi] of a slice. -/
theorem r_sliceLh (w : World) {T E sz : Nat} (hT : P.underlying T = some (.slice E)) (hs : szOf P E = some sz) (A : Option Addr) (n c : Nat) (hi : Int) (h0 : 0 ≤ hi) (h1 : hi ≤ c) :
    (Instr.sliceAt T (.slice A n c) none (some (.int .i64 hi)) none).run P w = .ok (.slice A hi.toNat c) w := by
  have e2 := r_bound (P := P) w .i64 hi c .sliceAcap h0 (by omega)
  have ha : A.map (·.add 0) = A := by
    cases A with
    | none => rfl
    | some a =>
      show some (a.add 0) = some a
      unfold Addr.add
      split <;> simp_all
  simp only [Instr.sliceAt, Instr.slice, Instr.sliceBounds, Sem.run_bind, Sem.run_pure, Result.andThen_ok, underlying_run w hT, sizeOf_run w hs, e2, Nat.zero_mul, Nat.sub_zero, if_true]
  simp only [ha, ite_self]

/-- What lies in memory and is a result. -/
theorem rdV_N {T n : Nat} (hA : aggOf P T = some true) (hs : szOf P T = some n) {b o : Nat} {E : TypeId} {cs : List Value} (h : Blk w b E cs) (ho : o + n ≤ cs.length) :
    rdV P (cellS T (.pointer (some ⟨b, o, none⟩))) (.agg ((cs.drop o).take n).toArray) w := by
  obtain ⟨h1, h2⟩ := h.cells ho
  unfold rdV cellS
  simp [asAddr, loadVar, isAgg_run w hA, sizeOf_run w hs, run_loadCells w h1 h2]
end
attribute [push_cast] n_max2 n_min2

theorem mIf_eqI {a b : Int} {A B : Prop} (ha : a = b → A) (hb : ¬ a = b → B) : mIf (.bool (a == b)) A B := by
  by_cases h : a = b
  · rw [show (a == b) = true from by simpa using h]; exact ha h
  · rw [show (a == b) = false from by simpa using h]; exact hb h
theorem mIf_neI {a b : Int} {A B : Prop} (ha : ¬ a = b → A) (hb : a = b → B) : mIf (.bool (a != b)) A B := by
  by_cases h : a = b
  · rw [show (a != b) = false from by simpa using h]; exact hb h
  · rw [show (a != b) = true from by simpa using h]; exact ha h

end Go.Vc
