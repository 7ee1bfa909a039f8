/-
  The shallow forms of the program's functions, printed by a program (tools/shallow.py) off the loaded functions; each theorem 'eqN' says that the generator of verification conditions comes to this form.
-/
import Derived.Test.YthgopkppmppdoaaProg
import Derived.Test.YthgopkppmppdoaaVc
set_option linter.unusedVariables false
set_option maxRecDepth 100000
namespace Go.Proofs.Ythgopkppmppdoaa
open Go Go.Proofs Go.Vc

def cOk (f : Nat) : Bool := (Nat.ble 3 f && Nat.ble f 134) || Nat.beq f 136

theorem callsOk_all : (List.range 137).all (fun f => !cOk f || (match Try.prog.funcs[f]? with
    | some fn => !fn.body.isNone && !(fn.name == "runtime.NumGoroutine")
    | none => false)) = true := by kernel_rfl

theorem callsOk : CallsOk Try.prog cOk := by
  intro f hf
  have hlt : f < 137 := by
    unfold cOk at hf
    rw [Bool.or_eq_true, Bool.and_eq_true] at hf
    rcases hf with hf | hf
    · have := Nat.le_of_ble_eq_true hf.2
      omega
    · have := Nat.eq_of_beq_eq_true hf
      omega
  have h := List.all_eq_true.1 callsOk_all f (by simpa using hlt)
  rw [hf] at h
  cases hfn : Try.prog.funcs[f]? with
  | none => rw [hfn] at h; cases h
  | some fn =>
    rw [hfn] at h
    simp only [Bool.not_true, Bool.false_or, Bool.and_eq_true, Bool.not_eq_true'] at h
    exact ⟨fn, rfl, h.1, h.2⟩

theorem mixed : Try.prog.follows .mixedOrders = true := by kernel_rfl

end Go.Proofs.Ythgopkppmppdoaa
