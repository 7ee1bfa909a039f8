/-
  DiskNil: the walk, off what an argument tells.
-/
import Derived.Test.YthgopkppmppdoaaNilA
import Derived.Test.YthgopkppmppdoaaArg27
set_option linter.unusedVariables false
namespace Go.Proofs.Ythgopkppmppdoaa
open Go Go.Proofs Go.Vc
theorem nil_s {w : World} {K : Value → World → Prop} {cs : Array Value} {s : Step27} {fp : Nat → Prop} (h : isStep27 fp w (Value.agg cs).cells.toList s) (k : ∀ w', Ext w w' → K (.bool true) w') :
    mCall Try.prog 5 #[.agg cs] w K := by
  obtain ⟨v, e, _, _⟩ := h
  have e2 : cs = List.toArray _ := congrArg List.toArray e
  subst e2
  exact nil_c s.what s.at_ s.byte.toNat s.cut k
end Go.Proofs.Ythgopkppmppdoaa
