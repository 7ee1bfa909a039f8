/-
  Slices that are read: what stands in an argument's memory.
-/
import Derived.Test.YthgopkppmppdoaaLib
import Derived.ChangeArms
import Derived.DataReads
set_option linter.unusedVariables false
set_option linter.unusedSimpArgs false
namespace Go.Vc
open Go

/-- A slice of elements that take sz cells each, in blocks of fp. -/
def Arr {α : Type} (w : World) (v : Value) (sz : Nat) (fp : Nat → Prop) (l : List α) (R : World → List Value → α → Prop) : Prop :=
  ∃ A c, v = .slice A l.length c ∧ l.length ≤ maxLen ∧ (0 < l.length → ∃ b o, A = some ⟨b, o, none⟩ ∧ fp b ∧ ∀ i x, l[i]? = some x → ∃ cs : List Value, cs.length = sz ∧ (∀ j u, cs[j]? = some u → w.cell? ⟨b, o + i * sz + j, none⟩ = some u) ∧ R w cs x)

theorem cell_keep {w w' : World} {F : Nat → Prop} (u : Upd w w' F) {a : Addr} {v : Value} (h : w.cell? a = some v) (hn : ¬ F a.block) : w'.cell? a = some v := by
  have hlt : a.block < w.heap.size := by
    unfold World.cell? at h
    split at h
    · rename_i c _ _ hb
      exact (Array.getElem?_eq_some_iff.1 hb).1
    · cases h
  unfold World.cell? at *
  rw [u.old a.block hlt hn]
  exact h
theorem cell_lt {w : World} {a : Addr} {v : Value} (h : w.cell? a = some v) : a.block < w.heap.size := by
  unfold World.cell? at h
  split at h
  · rename_i c _ _ hb
    exact (Array.getElem?_eq_some_iff.1 hb).1
  · cases h

/-- What is told of an element stays when nothing of fp turns. -/
def Stable {α : Type} (fp : Nat → Prop) (R : World → List Value → α → Prop) : Prop := ∀ w w' F cs x, Upd w w' F → (∀ k, fp k → ¬ F k) → R w cs x → R w' cs x
theorem Arr.keep {α : Type} {w w' : World} {v : Value} {sz : Nat} {fp F : Nat → Prop} {l : List α} {R : World → List Value → α → Prop} (h : Arr w v sz fp l R) (hR : Stable fp R) (u : Upd w w' F) (hn : ∀ k, fp k → ¬ F k) : Arr w' v sz fp l R := by
  obtain ⟨A, c, rfl, hm, h⟩ := h
  refine ⟨A, c, rfl, hm, fun h0 => ?_⟩
  obtain ⟨b, o, rfl, hb, h⟩ := h h0
  refine ⟨b, o, rfl, hb, fun i x hx => ?_⟩
  obtain ⟨cs, h1, h2, h3⟩ := h i x hx
  exact ⟨cs, h1, fun j u' hu => cell_keep u (h2 j u' hu) (hn b hb), hR _ _ _ _ _ u hn h3⟩
theorem Arr.mono {α : Type} {w : World} {v : Value} {sz : Nat} {fp G : Nat → Prop} {l : List α} {R : World → List Value → α → Prop} (h : Arr w v sz fp l R) (hn : ∀ k, fp k → G k) : Arr w v sz G l R := by
  obtain ⟨A, c, rfl, hm, h⟩ := h
  refine ⟨A, c, rfl, hm, fun h0 => ?_⟩
  obtain ⟨b, o, rfl, hb, h⟩ := h h0
  exact ⟨b, o, rfl, hn b hb, h⟩
theorem Arr.slice {α : Type} {w : World} {v : Value} {sz : Nat} {fp : Nat → Prop} {l : List α} {R : World → List Value → α → Prop} (h : Arr w v sz fp l R) : ∃ A c, v = .slice A l.length c := by
  obtain ⟨A, c, h, _⟩ := h
  exact ⟨A, c, h⟩
theorem Arr.small {α : Type} {w : World} {v : Value} {sz : Nat} {fp : Nat → Prop} {l : List α} {R : World → List Value → α → Prop} (h : Arr w v sz fp l R) : l.length ≤ 9223372036854775807 := by
  obtain ⟨A, c, _, h, _⟩ := h
  have : maxLen = 9223372036854775807 := by decide
  omega
theorem Arr.at_ {α : Type} {w : World} {A : Option Addr} {c n : Nat} {sz : Nat} {fp : Nat → Prop} {l : List α} {R : World → List Value → α → Prop} (h : Arr w (.slice A n c) sz fp l R) {i : Nat} {x : α} (hx : l[i]? = some x) :
    n = l.length ∧ ∃ b o, A = some ⟨b, o, none⟩ ∧ fp b ∧ ∃ cs : List Value, cs.length = sz ∧ (∀ j u, cs[j]? = some u → w.cell? ⟨b, o + i * sz + j, none⟩ = some u) ∧ R w cs x := by
  obtain ⟨A', c', e, _, h⟩ := h
  injection e with e1 e2 e3
  subst e1 e2 e3
  obtain ⟨b, o, rfl, hb, h⟩ := h (by have := (List.getElem?_eq_some_iff.1 hx).1; omega)
  exact ⟨rfl, b, o, rfl, hb, h i x hx⟩

/-- A slice of ints. -/
def isInt (_ : World) (cs : List Value) (x : Int) : Prop := cs = [.int .i64 x]
def isStr (_ : World) (cs : List Value) (x : ByteArray) : Prop := cs = [.string x]
abbrev Ints (w : World) (v : Value) (l : List Int) (fp : Nat → Prop) : Prop := Arr w v 1 fp l isInt
abbrev Strs (w : World) (v : Value) (l : List ByteArray) (fp : Nat → Prop) : Prop := Arr w v 1 fp l isStr
theorem isInt_stable (fp : Nat → Prop) : Stable fp isInt := fun _ _ _ _ _ _ _ h => h
theorem isStr_stable (fp : Nat → Prop) : Stable fp isStr := fun _ _ _ _ _ _ _ h => h
theorem Ints.keep {w w' : World} {v : Value} {l : List Int} {fp F : Nat → Prop} (h : Ints w v l fp) (u : Upd w w' F) (hn : ∀ k, fp k → ¬ F k) : Ints w' v l fp := Arr.keep h (isInt_stable _) u hn
theorem Strs.keep {w w' : World} {v : Value} {l : List ByteArray} {fp F : Nat → Prop} (h : Strs w v l fp) (u : Upd w w' F) (hn : ∀ k, fp k → ¬ F k) : Strs w' v l fp := Arr.keep h (isStr_stable _) u hn

/-! ### Opening what an argument reads -/
section
variable {H : Type} {enc : TypeId × Value → H} {P : Program} {w : World} {spare : Nat → Bool} {held : Bool}

theorem list_of {α : Type} (n : Nat) (Q : Nat → α → Prop) (h : ∀ i, i < n → ∃ x, Q i x) : ∃ l : List α, l.length = n ∧ ∀ i x, l[i]? = some x → Q i x := by
  induction n with
  | zero => exact ⟨[], rfl, fun i x hx => by simp at hx⟩
  | succ n ih =>
    obtain ⟨l, hl, hQ⟩ := ih fun i hi => h i (by omega)
    obtain ⟨x, hx⟩ := h n (by omega)
    refine ⟨l ++ [x], by simp [hl], fun i y hy => ?_⟩
    rw [List.getElem?_append] at hy
    split at hy
    · exact hQ i y hy
    · have : i = n := by
        have := (List.getElem?_eq_some_iff.1 hy).1
        simp at this
        omega
      subst this
      simp [hl] at hy
      subst hy
      exact hx

theorem cells_of {base : Nat} {a : Addr} {n : Nat} {cs : List Value} (h : w.cells? base a n = some cs) : cs.length = n ∧ ∀ j u, cs[j]? = some u → w.cell? (a.add j) = some u := by
  unfold World.cells? at h
  split at h
  · refine ⟨by simpa using mapM_some_length h, fun j u hu => ?_⟩
    have hj : j < n := by
      have := (List.getElem?_eq_some_iff.1 hu).1
      have := mapM_some_length h
      simp at this
      omega
    rw [mapM_some_get h j j (by simp [hj]), hu]
  · cases h

/-- A slice, opened: each element by what it is told. -/
theorem open_arr {α : Type} {t e sz fuel : Nat} {cs : List Value} {x : DataW H × List MemPlace} {R : World → List Value → α → Prop} (ht : P.underlying t = some (.slice e)) (hc : P.cellsOf e = sz) (hsz : 0 < sz)
    (he : ∀ n cs y, DataW.trod enc P w 0 spare held n e cs = some y → ∃ z, R w cs z) (h : DataW.trod enc P w 0 spare held fuel t cs = some x) : ∃ v l, cs = [v] ∧ Arr w v sz (· < w.heap.size) l R := by
  rcases DataW.trod_slice ht h with ⟨rfl, _⟩ | ⟨a, len, cap, elems, rest, n, _, rfl, rfl, hb, hl, hm, hlen, hel, _⟩
  · exact ⟨_, [], rfl, none, 0, rfl, Nat.zero_le _, fun h => by simp at h⟩
  have hall : ∀ i, i < len → ∃ z, ∃ cs : List Value, cs.length = sz ∧ (∀ j u, cs[j]? = some u → w.cell? ((a.add (i * sz)).add j) = some u) ∧ R w cs z := by
    intro i hi
    have h1 := hel i hi
    rw [List.getElem?_eq_getElem (by omega), hc] at h1
    obtain ⟨cs, h2, h3⟩ := Option.bind_eq_some_iff.1 h1
    obtain ⟨z, hz⟩ := he _ _ _ h3
    exact ⟨z, cs, (cells_of h2).1, (cells_of h2).2, hz⟩
  obtain ⟨l, hll, hQ⟩ := list_of len _ hall
  refine ⟨_, l, rfl, some a, cap, by rw [hll], by omega, fun h0 => ?_⟩
  have hspot : a.spot = none ∧ a.block < w.heap.size := by
    obtain ⟨z, cs, h1, h2, _⟩ := hall 0 (by omega)
    obtain ⟨u, hu⟩ : ∃ u, cs[0]? = some u := ⟨_, List.getElem?_eq_getElem (by omega)⟩
    have := h2 0 u hu
    have e : (a.add (0 * sz)).add 0 = a := by
      simp [Addr.add]
    rw [e] at this
    exact ⟨World.cell?_spot this, cell_lt this⟩
  obtain ⟨b, o, sp⟩ := a
  obtain ⟨rfl, hlt⟩ := hspot
  refine ⟨b, o, rfl, hlt, fun i x hx => ?_⟩
  obtain ⟨cs, h1, h2, h3⟩ := hQ i x hx
  refine ⟨cs, h1, fun j u hu => ?_, h3⟩
  have := h2 j u hu
  rwa [add_off, add_off] at this

theorem open_isInt {e : TypeId} (he : P.underlying e = some (.int .i64)) : ∀ n cs y, DataW.trod enc P w 0 spare held n e cs = some y → ∃ z, isInt w cs z := fun n cs y h => by
  obtain ⟨z, rfl, _, _⟩ := DataW.trod_int he h
  exact ⟨z, rfl⟩
theorem open_isStr {e : TypeId} (he : P.underlying e = some .string) : ∀ n cs y, DataW.trod enc P w 0 spare held n e cs = some y → ∃ z, isStr w cs z := fun n cs y h => by
  obtain ⟨z, rfl, _⟩ := DataW.trod_string he h
  exact ⟨z, rfl⟩
end
end Go.Vc
