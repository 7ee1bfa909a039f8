/-
  RegionStays returns true, whatever its arguments are; each argument reads behind the call as it read before.
  Conditions: none.
-/
import Derived.Test.YthgopkppmppdoaaRows
import Derived.Test.YthgopkppmppdoaaReg10
import Derived.Test.YthgopkppmppdoaaRowLib
import Derived.WalkKit
import Derived.ProofKit
import Derived.OpenShut
import Derived.ShutString
import Derived.ChangeOld
import Derived.Below
import Derived.SizedLaws
import Derived.Carry
namespace Go.Proofs.Ythgopkppmppdoaa.regionStays
open Go Go.Proofs Go.Vc Go.Proofs.Ythgopkppmppdoaa
open Go.ChangeShapes Go.WideShapes Go.ChangeAt Go.RowKit
open Go.ChangeMaps (open_string shut_string)
set_option linter.unusedVariables false
theorem own : ownKnob Try.prog.godebug = none := by kernel_rfl
theorem laidOut : laidOutB Try.prog = true := by kernel_rfl
set_option maxRecDepth 100000 in
theorem lifted (os : Os) (started : os.Started) (H : Type) (enc : TypeId × Value → H) :
    ReturnsInHanded {} Try.checked os 16 .any (Rows.regionStaysSpec.pre6 enc Try.prog Try.f16 Rows.regionStaysRow.domain false) (Rows.regionStaysSpec.post enc Try.prog Try.f16 false true false false) := by
  refine returnsInHanded_of_change_sized (C := Try.checked) own started (by kernel_rfl) Try.func16
    (ChangeSpec.witness6 (enc := enc) (C := Try.checked) false ⟨#[], #[.slice none 0 0, .agg #[.int .i64 0, .int .i64 0, .slice none 0 0, .bool false, .slice none 0 0], .slice none 0 0], []⟩ 8 (by kernel_rfl) (by kernel_rfl) (by kernel_rfl) (by kernel_rfl)) ?_
  intro W base args ds gs before hval0 hW hcnd hsz0 _
  have hsz : (DataW.weightsEach Try.prog (Try.f16.params.toList ++ Rows.regionStaysSpec.plain.varTypes Try.prog) (ds ++ gs)).all (· ≤ reachBytes) = true := hsz0
  have hval : ∀ (j : Nat) t v, Try.f16.params[j]? = some t → args[j]? = some v → Value.okWide Try.prog W .any base t v := hval0
  have hW' := hW
  obtain ⟨p, q, hA0, hV, rfl, hfz, hnd⟩ := hW
  have hA : DataW.TrodAll enc Try.prog W 0 (fun _ => true) true Try.f16.params.toList args.toList ds p := hA0
  rw [Try.params16] at hA hval hsz
  obtain ⟨v0, vs0, d0, ds0, p0, q0, hargs, rfl, rfl, h0, r0⟩ := trodAll_cons hA
  obtain ⟨v1, vs1, d1, ds1, p1, q1, rfl, rfl, rfl, h1, r1⟩ := trodAll_cons r0
  obtain ⟨v2, vs2, d2, ds2, p2, q2, rfl, rfl, rfl, h2, r2⟩ := trodAll_cons r1
  obtain ⟨rfl, rfl, rfl⟩ := trodAll_nil r2
  obtain rfl : args = #[v0, v1, v2] := by cases args; simp_all
  obtain ⟨rfl, rfl⟩ := trodVars_none hV
  have k0 := h0
  have lt0 : ∀ x ∈ p0, x.block < W.heap.size := by obtain ⟨m, hm⟩ := k0; exact DataW.trod_lt m _ _ _ hm
  have hv0 := (hval 0 67 v0 rfl rfl)
  obtain ⟨l0, i0⟩ : ∃ l, Arr W v0 1 (· < W.heap.size) l isStr := by
    obtain ⟨fuel, hf⟩ := h0
    obtain ⟨A, n, c, rfl⟩ := okWide_slice Try.underlying67 hv0
    obtain ⟨v, l, e, hl⟩ := open_arr (R := isStr) (sz := 1) Try.underlying67 (by kernel_rfl) (by decide) (open_isStr Try.underlying9) hf
    simp [Value.cells] at e
    subst e
    exact ⟨l, hl⟩
  have k1 := h1
  have lt1 : ∀ x ∈ p1, x.block < W.heap.size := by obtain ⟨m, hm⟩ := k1; exact DataW.trod_lt m _ _ _ hm
  have hv1 := (hval 1 110 v1 rfl rfl)
  obtain ⟨cs1, rfl, _⟩ := okWide_struct Try.underlying110 hv1
  have ⟨m1, f1⟩ := h1
  obtain ⟨s1, i1⟩ := open_step30 m1 _ _ f1
  have k2 := h2
  have lt2 : ∀ x ∈ p2, x.block < W.heap.size := by obtain ⟨m, hm⟩ := k2; exact DataW.trod_lt m _ _ _ hm
  have hv2 := (hval 2 67 v2 rfl rfl)
  obtain ⟨l2, i2⟩ : ∃ l, Arr W v2 1 (· < W.heap.size) l isStr := by
    obtain ⟨fuel, hf⟩ := h2
    obtain ⟨A, n, c, rfl⟩ := okWide_slice Try.underlying67 hv2
    obtain ⟨v, l, e, hl⟩ := open_arr (R := isStr) (sz := 1) Try.underlying67 (by kernel_rfl) (by decide) (open_isStr Try.underlying9) hf
    simp [Value.cells] at e
    subst e
    exact ⟨l, hl⟩
  refine (row_of (regionStays_c i0 i1 i2 fun w' u => ⟨rfl, u.below⟩)).mono fun e W' ⟨he, bel⟩ => ?_
  subst he
  exact ⟨_, rfl, _, _, _, [], _, [], hW', trodAll_mk1 (shut_bool Try.underlying4 _), (trodAll_cons_mk (Below.trod laidOut (by kernel_rfl) (of_decide_eq_true (by kernel_rfl)) k0 bel lt0) (trodAll_cons_mk (Below.trod laidOut (by kernel_rfl) (of_decide_eq_true (by kernel_rfl)) k1 bel lt1) (trodAll_cons_mk (Below.trod laidOut (by kernel_rfl) (of_decide_eq_true (by kernel_rfl)) k2 bel lt2) trodAll_mk0))), rfl, bel.frame _, fun h => by cases h⟩
theorem over : Rows.regionStaysRow.holds Try.pinned (OpenSpec.ofChange Rows.regionStaysSpec) :=
  OpenClaim.holds_of_wide 16 Try.f16 rfl rfl rfl rfl rfl rfl rfl ⟨rfl, rfl, rfl, rfl, rfl⟩ rfl rfl rfl rfl rfl (by kernel_rfl) Try.func16 (by kernel_rfl)
    (of_decide_eq_true (by kernel_rfl)) (by unfold Func.isWrapper; first | (rw [if_pos (by decide +kernel)]; kernel_rfl) | (rw [if_neg (by decide +kernel)]; exact ⟨rfl, rfl⟩))
    (fun os started H enc _ => lifted os started H enc)
theorem proved : Rows.RegionStaysSaid := over
end Go.Proofs.Ythgopkppmppdoaa.regionStays
namespace Go.Proofs.Ythgopkppmppdoaa
/-- The row, under a short name, for the claim. -/
theorem regionStays_holds : Rows.RegionStaysSaid := regionStays.proved
end Go.Proofs.Ythgopkppmppdoaa
