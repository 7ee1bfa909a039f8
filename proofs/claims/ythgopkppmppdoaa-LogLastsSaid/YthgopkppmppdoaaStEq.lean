/-
  Structs of ints, compared.
-/
import Derived.Test.YthgopkppmppdoaaSlot1
import Derived.Laws.StructEq
import Derived.ChangeKeysEq
set_option linter.unusedVariables false
set_option linter.unusedSimpArgs false
set_option maxRecDepth 20000
namespace Go.Proofs.Ythgopkppmppdoaa
open Go Go.Proofs Go.Vc

theorem eqFields_ints {P : Program} (w : World) (d : Nat) (xs ys : Array Value) (T : Nat) (hT : P.underlying T = some (.int .i64)) (hk : P.plainKey T = true) :
    ∀ (fs : List Field) (us vs : List Int) (o : Nat), fs.map (fun f => (f.name == "_", f.type, f.offset)) = (List.range' o us.length).map (fun i => (false, T, i)) → us.length = vs.length →
      (∀ (i : Nat) (a : Int), us[i]? = some a → xs[o + i]? = some (.int .i64 a)) → (∀ (i : Nat) (a : Int), vs[i]? = some a → ys[o + i]? = some (.int .i64 a)) →
      (Op.eqFields (d + 1) xs ys fs).run P w = .ok (decide (us = vs)) w
  | [], [], [], o, _, _, _, _ => by simp [Op.eqFields]
  | [], [], _ :: _, o, _, h, _, _ => by simp at h
  | [], _ :: _, vs, o, h, _, _, _ => by simp at h
  | _ :: _, [], vs, o, h, _, _, _ => by simp at h
  | _ :: _, _ :: _, [], o, _, h, _, _ => by simp at h
  | f :: fs, a :: us, b :: vs, o, h, hl, hx, hy => by
    rw [List.length_cons, List.range'_succ, List.map_cons, List.map_cons] at h
    injection h with h1 h2
    simp only [Prod.mk.injEq] at h1
    obtain ⟨hn, ht, ho⟩ := h1
    have hn : f.name ≠ "_" := by simpa using hn
    have ih := eqFields_ints w d xs ys T hT hk fs us vs (o + 1) h2 (by simpa using hl) (fun i c hc => by
      have := hx (i + 1) c (by simpa using hc)
      rwa [show o + 1 + i = o + (i + 1) from by omega]) (fun i c hc => by
      have := hy (i + 1) c (by simpa using hc)
      rwa [show o + 1 + i = o + (i + 1) from by omega])
    have p1 := Go.run_part_plain w hk (hx 0 a rfl)
    have p2 := Go.run_part_plain w hk (hy 0 b rfl)
    rw [Nat.add_zero] at p1 p2
    have e := run_equalIn_int (P := P) w d T .i64 .i64 a b hT
    simp only [Op.eqFields, hn, ne_eq, not_false_eq_true, if_true, ht, ho, Sem.run_bind, p1, p2, e, Result.andThen_ok, Sem.run_ite]
    by_cases hab : a = b
    · subst hab
      simp [ih]
    · simp [hab]

theorem agg_eq {T : Nat} {us vs : List Int} (h1 : Try.prog.underlying T = some (.struct (Try.prog.fieldsOf T))) (h2 : Try.prog.stoodInHeld T = false) (h3 : Try.prog.eqGuardType Try.prog.depth T = false)
    (h4 : ((Try.prog.fieldsOf T).toList.map fun f => (f.name == "_", f.type, f.offset)) = (List.range' 0 us.length).map (fun i => (false, 3, i))) (hl : us.length = vs.length) (cx cy : Bool) (w : World) :
    (eqS .eql T cx cy (.agg (us.map (Value.int .i64)).toArray) (.agg (vs.map (Value.int .i64)).toArray)).run Try.prog w = .ok (.bool (decide (us = vs))) w := by
  have hk : Try.prog.plainKey 3 = true := by kernel_rfl
  have he := eqFields_ints (P := Try.prog) w 9998 (us.map (Value.int .i64)).toArray (vs.map (Value.int .i64)).toArray 3 Try.underlying3 hk _ us vs 0 h4 hl
    (fun i a h => by simp [h]) (fun i a h => by simp [h])
  unfold eqS
  simp only [Sem.run_bind]
  rw [run_eqGuard_agg w .eql T _ _ _ _ h3]
  simp only [Result.andThen_ok]
  rw [run_eql_struct, run_equalIn_struct w 9999 T _ _ h1 h2, he]
  rfl
theorem agg_ne {T : Nat} {us vs : List Int} (h1 : Try.prog.underlying T = some (.struct (Try.prog.fieldsOf T))) (h2 : Try.prog.stoodInHeld T = false) (h3 : Try.prog.eqGuardType Try.prog.depth T = false)
    (h4 : ((Try.prog.fieldsOf T).toList.map fun f => (f.name == "_", f.type, f.offset)) = (List.range' 0 us.length).map (fun i => (false, 3, i))) (hl : us.length = vs.length) (cx cy : Bool) (w : World) :
    (eqS .neq T cx cy (.agg (us.map (Value.int .i64)).toArray) (.agg (vs.map (Value.int .i64)).toArray)).run Try.prog w = .ok (.bool (!decide (us = vs))) w := by
  have hk : Try.prog.plainKey 3 = true := by kernel_rfl
  have he := eqFields_ints (P := Try.prog) w 9998 (us.map (Value.int .i64)).toArray (vs.map (Value.int .i64)).toArray 3 Try.underlying3 hk _ us vs 0 h4 hl
    (fun i a h => by simp [h]) (fun i a h => by simp [h])
  unfold eqS
  simp only [Sem.run_bind]
  rw [run_eqGuard_agg w .neq T _ _ _ _ h3]
  simp only [Result.andThen_ok]
  rw [run_neq_struct, run_equalIn_struct w 9999 T _ _ h1 h2, he]
  rfl

def slotI (s : SM) : List Int := [s.number, s.region, s.bytes, s.records]
theorem slotI_inj {s t : SM} : slotI s = slotI t ↔ s = t := by
  obtain ⟨a, b, c, d⟩ := s
  obtain ⟨a', b', c', d'⟩ := t
  simp [slotI]
instance : DecidableEq SM := fun s t => decidable_of_iff _ slotI_inj
theorem slotV_list (s : SM) : slotV s = .agg ((slotI s).map (Value.int .i64)).toArray := rfl
theorem slot_eq (cx cy : Bool) (s t : SM) (w : World) : (eqS .eql 50 cx cy (slotV s) (slotV t)).run Try.prog w = .ok (.bool (decide (s = t))) w := by
  rw [slotV_list, slotV_list, agg_eq (T := 50) (us := slotI s) (vs := slotI t) (by kernel_rfl) (by kernel_rfl) (by kernel_rfl) (by kernel_rfl) rfl cx cy w]
  congr 2
  rw [decide_eq_decide]
  exact slotI_inj
theorem slot_ne (cx cy : Bool) (s t : SM) (w : World) : (eqS .neq 50 cx cy (slotV s) (slotV t)).run Try.prog w = .ok (.bool (!decide (s = t))) w := by
  rw [slotV_list, slotV_list, agg_ne (T := 50) (us := slotI s) (vs := slotI t) (by kernel_rfl) (by kernel_rfl) (by kernel_rfl) (by kernel_rfl) rfl cx cy w]
  congr 3
  rw [decide_eq_decide]
  exact slotI_inj
theorem slot_ne82 (cx cy : Bool) (s t : SM) (w : World) : (eqS .neq 82 cx cy (slotV s) (slotV t)).run Try.prog w = .ok (.bool (!decide (s = t))) w := by
  rw [slotV_list, slotV_list, agg_ne (T := 82) (us := slotI s) (vs := slotI t) (by kernel_rfl) (by kernel_rfl) (by kernel_rfl) (by kernel_rfl) rfl cx cy w]
  congr 3
  rw [decide_eq_decide]
  exact slotI_inj
end Go.Proofs.Ythgopkppmppdoaa
