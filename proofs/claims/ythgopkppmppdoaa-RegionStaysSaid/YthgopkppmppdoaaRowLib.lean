/-
  From a walk to what a row asks.
-/
import Derived.Test.YthgopkppmppdoaaSh0
import Derived.Test.YthgopkppmppdoaaLib
set_option linter.unusedVariables false
namespace Go.Proofs.Ythgopkppmppdoaa
open Go Go.Proofs Go.Vc
open Go.RowKit (Below)
theorem row_of {f : FuncId} {args : Array Value} {w : World} (h : mCall Try.prog f args w fun v w' => v = .bool true ∧ Below w.heap.size w w') :
    Calls Try.prog f args w fun e w' => e = .returned (.bool true) ∧ Below w.heap.size w w' :=
  h.out.mono fun e w' he => by
    cases e with
    | returned v =>
      obtain ⟨rfl, h⟩ := he
      exact ⟨rfl, h⟩
    | panicked _ => exact he.elim
    | _ => exact he.elim
theorem i64_wf {n : Int} (h : (Lit.int .i64 n).wf = true) : -9223372036854775808 ≤ n ∧ n ≤ 9223372036854775807 := by
  have h' : (decide (IntKind.i64.min ≤ n) && decide (n ≤ IntKind.i64.max)) = true := h
  rw [Bool.and_eq_true, decide_eq_true_iff, decide_eq_true_iff, show IntKind.i64.min = -9223372036854775808 from by decide, show IntKind.i64.max = 9223372036854775807 from by decide] at h'
  exact h'
theorem i64_le {n : Int} (h : (Lit.int .i64 n).wf = true) : n ≤ 9223372036854775807 := (i64_wf h).2
theorem u8_of {n : Int} (h : (Lit.int .u8 n).wf = true) : ∃ b : UInt8, n = b.toNat := by
  have h' : (decide (IntKind.u8.min ≤ n) && decide (n ≤ IntKind.u8.max)) = true := h
  rw [Bool.and_eq_true, decide_eq_true_iff, decide_eq_true_iff, show IntKind.u8.min = 0 from by decide, show IntKind.u8.max = 255 from by decide] at h'
  refine ⟨UInt8.ofNat n.toNat, ?_⟩
  rw [UInt8.toNat_ofNat']
  omega
end Go.Proofs.Ythgopkppmppdoaa
