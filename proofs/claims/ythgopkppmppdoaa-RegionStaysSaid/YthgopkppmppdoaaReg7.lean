/-
  RegionNil: the walk.
-/
import Derived.Test.YthgopkppmppdoaaReg6
set_option linter.unusedVariables false
set_option linter.unusedSimpArgs false
set_option maxRecDepth 20000
namespace Go.Proofs.Ythgopkppmppdoaa
open Go Go.Proofs Go.Vc
open Go.RowKit (Below intOf)

section
variable {w : World} {K : Value → World → Prop} {v : Value}

theorem regionNil_c (k : ∀ w', Ext w w' → K (.bool true) w') : mCall Try.prog 15 #[v] w K := by
  refine ⟨ok15 ?_⟩
  unfold sh15
  refine ⟨ok65 ?_⟩
  unfold sh65
  simp only [push_cast, Option.isNone_none]
  refine mIf_eqI (fun _ => ?_) fun h => absurd rfl h
  refine ⟨ok67 ?_⟩
  unfold sh67
  simp only [push_cast, Option.isNone_none]
  refine mIf_eqI (fun _ => ?_) fun h => absurd rfl h
  refine ⟨ok68 ?_⟩
  unfold sh68
  simp only [push_cast, Option.isNone_none]
  refine mIf_eqI (fun _ => ?_) fun h => absurd rfl h
  refine ⟨ok69 ?_⟩
  unfold sh69
  simp only [push_cast, Option.isNone_none]
  refine mIf_eqI (fun _ => ?_) fun h => absurd rfl h
  refine ⟨ok66 ?_⟩
  unfold sh66
  simp only [push_cast, Option.isNone_none]
  refine mIf_eqI (fun _ => ?_) fun h => absurd rfl h
  refine ⟨ok70 ?_⟩
  unfold sh70
  simp only [push_cast, Option.isNone_none]
  refine mIf_eqI (fun _ => ?_) fun h => absurd rfl h
  exact abc_c k
end
end Go.Proofs.Ythgopkppmppdoaa
