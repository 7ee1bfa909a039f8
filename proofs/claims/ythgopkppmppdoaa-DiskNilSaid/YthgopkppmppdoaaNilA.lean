/-
  DiskNil: the walk.
-/
import Derived.Test.YthgopkppmppdoaaLaw27a
set_option linter.unusedVariables false
set_option linter.unusedSimpArgs false
set_option maxRecDepth 20000
namespace Go.Proofs.Ythgopkppmppdoaa
open Go Go.Proofs Go.Vc
open Go.RowKit (Below intOf)

section
variable {w : World} {K : Value → World → Prop} {v : Value} {l : List Int} {fk : Nat → Prop}

theorem read_nil (i : Int) (k : K (.tuple #[.string ⟨#[]⟩, .int .i64 1]) w) : mCall Try.prog 29 #[.pointer none, .int .i64 i] w K := by
  refine ⟨ok29 ?_⟩
  unfold sh29
  refine in_nil i ?_
  simp only [push_cast, Bool.not_false]
  exact k
theorem set_nil (after : Int) (cut : Bool) (k : ∀ w', Ext w w' → K (.int .i64 (if after < 0 then 1 else 271)) w') : mCall Try.prog 26 #[.pointer none, .agg #[.int .i64 after, .bool cut, v]] w K := by
  refine ⟨ok26 ?_⟩
  unfold sh26
  have hbox : (Instr.box 42 (.agg #[.int .i64 after, .bool cut, v])).run Try.prog w = .ok (.pointer (some ⟨w.heap.size, 0, none⟩)) (w.alloc (.cells #[.int .i64 after, .bool cut, v] 42 (0, 0))) := by kernel_rfl
  refine mN_new hbox fun w1 h1 u1 s1 => ?_
  have k1 := k w1 u1
  simp only [push_cast]
  refine mN_v (r_loadB _ (by kernel_rfl) h1 rfl) ?_
  simp only [push_cast]
  refine mIf_dec (fun h0 => ?_) fun h0 => ?_
  · rw [if_pos h0] at k1
    exact k1
  · rw [if_neg h0] at k1
    refine up_nil ?_
    simp only [push_cast, Bool.not_false]
    exact k1
theorem write_nil (i : Int) (s : Value) (k : K (.int .i64 1) w) : mCall Try.prog 20 #[.pointer none, .int .i64 i, s] w K := by
  refine ⟨ok20 ?_⟩
  unfold sh20
  refine in_nil i ?_
  simp only [push_cast, Bool.not_false]
  exact k
theorem flush_nil (k : K (.int .i64 271) w) : mCall Try.prog 22 #[.pointer none] w K := by
  refine ⟨ok22 ?_⟩
  unfold sh22
  refine up_nil ?_
  simp only [push_cast, Bool.not_false]
  exact k
theorem crash_nil (k : K (.int .i64 271) w) : mCall Try.prog 30 #[.pointer none, v] w K := by
  refine ⟨ok30 ?_⟩
  unfold sh30
  refine up_nil ?_
  simp only [push_cast, Bool.not_false]
  exact k
theorem lasts_nil (i : Int) (k : K (.string ⟨#[]⟩) w) : mCall Try.prog 23 #[.pointer none, .int .i64 i] w K := by
  refine ⟨ok23 ?_⟩
  unfold sh23
  refine in_nil i ?_
  simp only [push_cast, Bool.not_false]
  exact k

theorem nil_c (what at_ : Int) (byte : Int) (cut : Bool) (k : ∀ w', Ext w w' → K (.bool true) w') : mCall Try.prog 5 #[.agg #[.int .i64 what, .int .i64 at_, .int .u8 byte, .bool cut, v]] w K := by
  refine ⟨ok5 ?_⟩
  unfold sh5
  have hbox : (Instr.box 37 (.agg #[.int .i64 what, .int .i64 at_, .int .u8 byte, .bool cut, v])).run Try.prog w =
      .ok (.pointer (some ⟨w.heap.size, 0, none⟩)) (w.alloc (.cells #[.int .i64 what, .int .i64 at_, .int .u8 byte, .bool cut, v] 37 (0, 0))) := by kernel_rfl
  refine mN_new hbox fun w1 h1 u1 s1 => ?_
  simp only [push_cast]
  refine mN_v (r_loadB _ (by kernel_rfl) h1 rfl) ?_
  refine read_nil at_ ?_
  simp only [push_cast]
  refine mN_v (r_loadB _ (by kernel_rfl) h1 rfl) ?_
  have hb : (Instr.build 42 #[(0, .int .i64 at_)]).run Try.prog w1 = .ok (.agg #[.int .i64 at_, .bool false, .slice none 0 0]) w1 := by kernel_rfl
  refine mN_v hb ?_
  refine set_nil at_ false fun w2 u2 => ?_
  have h2 := h1.keep u2 id
  unfold mDrew
  have h3 : Blk w2.drew w.heap.size 37 _ := h2.drew
  have u3 : Ext w w2.drew := (u1.ext u2).drewn
  generalize w2.drew = w3 at h3 u3
  simp only [push_cast, beq_self_eq_true]
  refine mR_v (r_loadB _ (by kernel_rfl) h3 rfl) ?_
  rw [show (Value.int .u8 0) = .int .u8 (0 : UInt8).toNat from rfl]
  refine fill27_c 0 fun w4 u4 => ?_
  have h4 := h3.keep u4 id
  have hr : rdN Try.prog (vS (Instr.loadAt 3 (.pointer (some ⟨w.heap.size, 0 + 1, none⟩)))) (.int .i64 at_) w4 := rdN_v (r_loadB _ (by kernel_rfl) h4 rfl)
  have hr5 : mR Try.prog (vS (Instr.loadAt 3 (.pointer (some ⟨w.heap.size, 0 + 1, none⟩)))) w4 = fun K => K (.int .i64 at_) := by
    funext K
    exact propext ⟨fun ⟨v, h, k⟩ => by
      have h' : rdN Try.prog (vS (Instr.loadAt 3 (.pointer (some ⟨w.heap.size, 0 + 1, none⟩)))) v w4 := h
      unfold rdN at h' hr
      rw [hr] at h'
      injection h' with h'
      injection h' with h'
      rw [h']
      exact k, fun k => ⟨_, hr, k⟩⟩
  simp only [Nat.zero_add] at hr hr5
  refine ⟨hr, ?_⟩
  refine write_nil at_ _ ?_
  simp only [push_cast, beq_self_eq_true]
  refine flush_nil ?_
  simp only [push_cast, beq_self_eq_true, hr5]
  by_cases h0 : at_ < 0
  · have d0 : decide (at_ < 0) = true := by simpa using h0
    simp only [d0, if_pos h0, push_cast, beq_self_eq_true]
    refine mR_v (r_loadB _ (by kernel_rfl) h4 rfl) ?_
    refine crash_nil ?_
    refine ⟨hr, ?_⟩
    simp only [push_cast, beq_self_eq_true]
    refine start_nil ?_
    refine ⟨hr, ?_⟩
    simp only [push_cast, beq_self_eq_true]
    refine up_nil ?_
    refine ⟨hr, ?_⟩
    simp only [push_cast, Bool.not_false]
    refine waits_nil ?_
    refine ⟨hr, ?_⟩
    simp only [push_cast, beq_self_eq_true]
    refine blocks_nil ?_
    refine ⟨hr, ?_⟩
    simp only [push_cast, beq_self_eq_true, hr5]
    refine lasts_nil _ ?_
    refine ⟨hr, ?_⟩
    simp only [push_cast, beq_self_eq_true]
    refine torn_c fun w5 u5 => ?_
    have h5 := h4.keep u5 id
    have hq : rdN Try.prog (vS (Instr.loadAt 3 (.pointer (some ⟨w.heap.size, 1, none⟩)))) (.int .i64 at_) w5 := rdN_v (r_loadB _ (by kernel_rfl) h5 rfl)
    exact ⟨hq, k w5 ((u3.ext u4).ext u5)⟩
  · have d0 : decide (at_ < 0) = false := by simpa using h0
    have d1 : decide (0 ≤ at_) = true := by simp; omega
    simp only [d0, d1, if_neg h0, push_cast, beq_self_eq_true, hr5]
    refine mR_v (r_loadB _ (by kernel_rfl) h4 rfl) ?_
    refine crash_nil ?_
    refine ⟨hr, hr, ?_⟩
    simp only [push_cast, beq_self_eq_true]
    refine start_nil ?_
    refine ⟨hr, hr, ?_⟩
    simp only [push_cast, beq_self_eq_true]
    refine up_nil ?_
    refine ⟨hr, hr, ?_⟩
    simp only [push_cast, Bool.not_false]
    refine waits_nil ?_
    refine ⟨hr, hr, ?_⟩
    simp only [push_cast, beq_self_eq_true]
    refine blocks_nil ?_
    refine ⟨hr, hr, ?_⟩
    simp only [push_cast, beq_self_eq_true, hr5]
    refine lasts_nil _ ?_
    refine ⟨hr, hr, ?_⟩
    simp only [push_cast, beq_self_eq_true]
    refine torn_c fun w5 u5 => ?_
    have h5 := h4.keep u5 id
    have hq : rdN Try.prog (vS (Instr.loadAt 3 (.pointer (some ⟨w.heap.size, 1, none⟩)))) (.int .i64 at_) w5 := rdN_v (r_loadB _ (by kernel_rfl) h5 rfl)
    exact ⟨hq, hq, k w5 ((u3.ext u4).ext u5)⟩
end
end Go.Proofs.Ythgopkppmppdoaa
