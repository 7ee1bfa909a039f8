/-
  RegionStays: the walk.
-/
import Derived.Test.YthgopkppmppdoaaReg8
import Derived.Deep.Upon
set_option linter.unusedVariables false
set_option linter.unusedSimpArgs false
set_option maxRecDepth 20000
namespace Go.Proofs.Ythgopkppmppdoaa
open Go Go.Proofs Go.Vc
open Go.RowKit (Below intOf)

section
variable {w : World} {K : Value → World → Prop} {v x : Value} {l : List ByteArray} {n : Nat} {xs : List Value} {fv : Nat → Prop}

theorem mN_appendStrs (hr : Row w 9 1 x n xs) (h : Strs w v l fv) (h1 : n + l.length ≤ 1000000) (k : ∀ v' w', Row w' 9 1 v' (n + l.length) (xs ++ l.map Value.string) → Upd w w' (Fp x) → (∀ k, Fp v' k → Fp x k ∨ w.heap.size ≤ k) → K v' w') :
    mN Try.prog (builtin .append #[67, 67] 67 #[false, false] #[x, v]) w K := by
  obtain ⟨A, c, rfl⟩ := Arr.slice h
  rcases Nat.eq_zero_or_pos l.length with h0 | h0
  · obtain rfl : l = [] := List.eq_nil_of_length_eq_zero h0
    obtain ⟨B, cx, rfl, hle⟩ : ∃ B cx, x = .slice B n cx ∧ n ≤ cx := by
      rcases hr.form with ⟨rfl, h0, _⟩ | ⟨gv, cap, cs, rfl, _, h1, _⟩
      · exact ⟨none, 0, by rw [h0], by omega⟩
      · exact ⟨_, cap, rfl, h1⟩
    have hi : ∃ i, Try.prog.info? 9 = some i ∧ i.size = 1 := ⟨(Try.prog.info? 9).getD default, by kernel_rfl, by kernel_rfl⟩
    obtain ⟨i, hi, hi1⟩ := hi
    have hs : Go.Src Try.prog i.size 67 (.slice A 0 c) 0 [] w := by
      cases A with
      | none => exact Go.Src.ofNil w Try.underlying67 c
      | some a => exact Go.Src.ofSlice w Try.underlying67 a 0 c [] (by simp) (fun j u hu => by simp at hu) fun u hu => by cases hu
    have hrun := Go.run_append_nothing w 67 67 67 9 i Try.underlying67 hi B n cx hle _ hs
    refine mN_ok (v := .slice B n cx) ?_ (k _ w (by simpa using hr) (Upd.refl _ _) fun k hk => .inl hk)
    simp only [List.length_nil]
    simp only [builtin, Sem.run_bind, hrun, Result.andThen_ok, Sem.run_pure]
  · obtain ⟨_, _, e, _, hh⟩ := h
    injection e with e1 e2 e3
    subst e1 e3
    obtain ⟨b, o, rfl, _, hh⟩ := hh h0
    refine mN_append (z := .string ⟨#[]⟩) (sz := 1) (bytes := 16) Try.underlying67 (by kernel_rfl) (by kernel_rfl) (by omega) hr (m := l.length) (ys := l.map Value.string) (by simp) (fun j u hu => ?_) (fun u hu => ?_) (by omega) (by omega) k
    · rw [List.getElem?_map, Option.map_eq_some_iff] at hu
      obtain ⟨s, hs, rfl⟩ := hu
      obtain ⟨cs, _, hc, rfl⟩ := hh j s hs
      have := hc 0 _ rfl
      simpa using this
    · obtain ⟨s, _, rfl⟩ := List.mem_map.1 hu
      rfl
end
end Go.Proofs.Ythgopkppmppdoaa
