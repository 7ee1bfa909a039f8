/-
  DiskArms: the walk.
-/
import Derived.Test.YthgopkppmppdoaaArmsA
set_option linter.unusedVariables false
set_option linter.unusedSimpArgs false
set_option maxRecDepth 20000
namespace Go.Proofs.Ythgopkppmppdoaa
open Go Go.Proofs Go.Vc
open Go.RowKit (Below intOf)

section
variable {w : World} {K : Value → World → Prop} {v : Value} {l : List Int} {N : Nat}

theorem arms_c (after : Int) (cut : Bool) (hA : after ≤ 9223372036854775807) (hl : Ints w v l (· < w.heap.size)) (k : ∀ w', Ext w w' → K (.bool true) w') : mCall Try.prog 4 #[.int .i64 after, v, .bool cut] w K := by
  refine ⟨ok4 ?_⟩
  unfold sh4
  refine new_c 8 (fun h => by omega) fun _ _ w1 p fp h1 u1 y1 => ?_
  obtain ⟨A, c, rfl⟩ := Arr.slice hl
  unfold dptr
  simp only [push_cast, Option.isNone_some, Bool.not_false, bne_self_eq_false, beq_self_eq_true]
  refine mIf_dec (fun hlen => torn_c fun w2 u2 => k w2 (u1.ext u2)) fun hlen => ?_
  have hb : (Instr.build 42 #[(0, .int .i64 after), (1, .bool cut)]).run Try.prog w1 = .ok (.agg #[.int .i64 after, .bool cut, .slice none 0 0]) w1 := by kernel_rfl
  refine mN_v hb ?_
  have hnil : Ints w1 (.slice none 0 0) [] (fun _ => False) := ⟨none, 0, rfl, Nat.zero_le _, fun h => by simp at h⟩
  refine isdisk_set h1 after hA cut hnil (by decide) fun w2 ⟨fp2, h2, u2, y2⟩ => ?_
  have z2 := young_of y2 y1 u1.size
  have a2 : Ext w w2 := u1.young u2 fun i hi => .inr (y1 i hi)
  simp only [push_cast]
  refine mIf_dec (fun h0 => ?_) fun h0 => ?_
  · have e : (DM.new (8 : Int).toNat).set after cut [] = (1, DM.new 8) := by
      unfold DM.set
      rw [if_pos h0]
      rfl
    rw [e]
    simp only [push_cast, beq_self_eq_true]
    exact torn_c fun w3 u3 => k w3 (a2.ext u3)
  have e : (DM.new (8 : Int).toNat).set after cut [] = (0, { DM.new 8 with after := after, cut := cut, keep := [], armed := true }) := by
    unfold DM.set
    rw [if_neg h0]
    rfl
  rw [e] at h2 ⊢
  simp only [push_cast]
  refine mLoop2.mk (fun x y wr => ∃ (i : Nat) (off : Bool) (D : DM) (fpr : Nat → Prop), x = .bool off ∧ y = .int .i64 i ∧ i ≤ l.length ∧ ArmsAt after cut i off D ∧ IsDisk wr p fpr D ∧ Ext w wr ∧ ∀ k, fpr k → w.heap.size ≤ k) (fun _ y _ => l.length - (intOf y).toNat) ?_ ?_
  · refine ⟨0, false, _, fp2, rfl, rfl, Nat.zero_le _, ⟨rfl, Nat.le_refl _, fun _ => ⟨by omega, rfl, by simp, rfl, rfl, rfl, rfl⟩, fun x hx => (by cases hx), fun hh => (by cases hh)⟩, h2, a2, z2⟩
  · rintro x y wr ⟨i, off, D, fpr, rfl, rfl, hi, hA', hd, ur, zr⟩
    simp only [push_cast]
    refine mIf_dec (fun hlt => ?_) fun hlt => ?_
    · obtain ⟨at_, hat⟩ : ∃ x, l[i]? = some x := ⟨_, List.getElem?_eq_getElem (by omega)⟩
      have hlr := hl.keep ur fun _ _ => id
      obtain ⟨_, b, o, rfl, _, cs, _, hc, rfl⟩ := Arr.at_ hlr hat
      refine mN_v (r_indexAt wr (sz := 1) Try.underlying35 (by kernel_rfl) b o l.length c i (by omega) (by omega)) ?_
      rw [Int.toNat_natCast]
      refine mN_v (r_load1 wr (by kernel_rfl) (hc 0 _ rfl)) ?_
      simp only [push_cast]
      refine mIf_dec (fun h0 => torn_c fun w3 u3 => k w3 (ur.ext u3)) fun hn0 => ?_
      refine mIf_dec (fun h0 => torn_c fun w3 u3 => k w3 (ur.ext u3)) fun hn7 => ?_
      rw [show (Value.int .u8 1) = .int .u8 (1 : UInt8).toNat from rfl]
      refine fill27_c 1 fun w4 u4 => ?_
      have hd4 := hd.ext u4
      have hwn : D.waits.length ≤ 1000000000 := by have := hA'.wn; omega
      refine isdisk_write hd4 hwn at_ _ fun w5 ⟨fp5, h5, u5, y5⟩ => ?_
      obtain ⟨e1, e2⟩ := arms_step hA' at_ (by omega) (by omega) (fillS 1) (fillS_size 1)
      have a4 : Ext w w4 := ur.ext u4
      have a5 : Ext w w5 := a4.young u5 fun i hi => .inr (zr i hi)
      have z5 := young_of y5 zr a4.size
      rw [e1]
      generalize (D.write at_ (fillS 1)).2 = D5 at h5 e2
      have hdone : ∀ (off' : Bool), off' = (off || decide ((i : Int) = after)) → (∃ (i_1 : Nat) (off : Bool) (D : DM) (fpr : Nat → Prop), Value.bool off' = .bool off ∧ Value.int .i64 (IntKind.wrap .i64 ((i : Int) + 1)) = .int .i64 i_1 ∧ i_1 ≤ l.length ∧ ArmsAt after cut i_1 off D ∧ IsDisk w5 p fpr D ∧ Ext w w5 ∧ ∀ k, fpr k → w.heap.size ≤ k) ∧
          l.length - (intOf (.int .i64 (IntKind.wrap .i64 ((i : Int) + 1)))).toNat < l.length - (intOf (.int .i64 (i : Int))).toNat := by
        intro off' ho
        rw [i64w ((i : Int) + 1) (by omega) (by omega)]
        exact ⟨⟨i + 1, _, D5, fp5, rfl, congrArg (Value.int .i64) (by omega), by omega, ho ▸ e2, h5, a5, z5⟩, by simp only [intOf]; omega⟩
      refine ⟨?_⟩
      simp only [push_cast]
      by_cases hia : (i : Int) = after
      · subst hia
        simp only [beq_self_eq_true, push_cast, decide_true, Bool.or_true] at hdone ⊢
        have hw : armsWant (i : Int) cut i = if cut = true then 271 else 270 := by
          unfold armsWant
          cases cut <;> simp
        rw [hw]
        have hle : decide ((i : Int) ≤ (i : Int)) = true := by simp
        cases cut <;> cases off <;> simp only [mJ_eq, hle, push_cast, Bool.not_false, Bool.not_true, bne_self_eq_false, if_true, if_false, Bool.false_eq_true] <;> exact hdone true rfl
      · have hne : ((i : Int) == after) = false := by simpa using hia
        have hd' : decide ((i : Int) = after) = false := by simpa using hia
        simp only [hne, hd', push_cast, Bool.or_false] at hdone ⊢
        have hw : armsWant after cut i = if (cut && decide (after ≤ (i : Int))) = true then 271 else 0 := by
          unfold armsWant
          by_cases hc : after ≤ (i : Int) <;> cases cut <;> simp [hc, hia]
        rw [hw]
        by_cases hc : after ≤ (i : Int)
        · have hle : decide (after ≤ (i : Int)) = true := by simpa using hc
          cases cut <;> cases off <;> simp only [mJ_eq, hle, push_cast, Bool.not_false, Bool.not_true, Bool.and_true, Bool.and_false, Bool.true_and, Bool.false_and, bne_self_eq_false, if_true, if_false, Bool.false_eq_true] <;> exact hdone _ rfl
        · have hle : decide (after ≤ (i : Int)) = false := by simpa using hc
          cases cut <;> cases off <;> simp only [mJ_eq, hle, push_cast, Bool.not_false, Bool.not_true, Bool.and_true, Bool.and_false, Bool.true_and, Bool.false_and, bne_self_eq_false, if_true, if_false, Bool.false_eq_true] <;> exact hdone _ rfl
    · obtain rfl : i = l.length := by omega
      by_cases hco : cut = true ∧ off = true
      · obtain ⟨rfl, rfl⟩ := hco
        obtain ⟨_, _, b3⟩ := hA'.behind rfl
        obtain ⟨c1, c2⟩ := b3 rfl
        simp only [mJ_eq, push_cast]
        refine isdisk_up hd ?_
        simp only [c1, push_cast, Bool.not_true, Bool.not_false]
        refine isdisk_waits hd ?_
        simp only [c2, List.length_nil, push_cast, beq_self_eq_true]
        exact torn_c fun w3 u3 => k w3 (ur.ext u3)
      · have hco' : (cut && off) = false := by
          cases cut <;> cases off <;> simp_all
        obtain ⟨f1, f2, f3⟩ := arms_flush hA' hco'
        have hfl : mCall Try.prog 22 #[dptr p] wr fun t115 w =>
            mJ (fun (J : Value → World → Prop) => mIf (.bool (!off)) (J (.bool (after == (l.length : Nat))) w) (J (.bool false) w))
            (fun t16 w => mLoop1 (fun t17 w k1 => mN Try.prog (vS (binOp .lss 3 t17 (.int .i64 8))) w fun t125 w =>
              mIf t125 (mIf t16 (mCall Try.prog 23 #[dptr p, t17] w fun t132 w => mCall Try.prog 21 #[(.int .u8 0)] w fun t133 w =>
                mN Try.prog (vS (eqS .neq 9 false false t132 t133)) w fun t134 w => mIf t134 (K (.bool false) w) (mN Try.prog (vS (binOp .add 3 t17 (.int .i64 1))) w fun t127 w => k1 t127 w))
                (mN Try.prog (vS (binOp .add 3 t17 (.int .i64 1))) w fun t127 w => k1 t127 w))
              (mN Try.prog (vS (eqS .neq 24 false true t115 (.int .i64 0))) w fun t137 w => mN Try.prog (vS (eqS .eql 4 false false t137 t16)) w fun t139 w =>
                mIf t139 (mCall Try.prog 28 #[dptr p] w fun t142 w => mN Try.prog (vS (eqS .eql 3 false true t142 (.int .i64 0))) w fun t143 w => mIf t143 (mCall Try.prog 19 #[] w fun t146 w => K t146 w) (K (.bool false) w)) (K (.bool false) w)))
              (.int .i64 0) w) := by
          refine isdisk_flush hd fun w3 ⟨fp3, h3, u3, y3⟩ => ?_
          have z3 := young_of y3 zr ur.size
          have a3 : Ext w w3 := ur.young u3 fun i hi => .inr (zr i hi)
          have hfin : ∀ fails : Bool, (fails = true ↔ off = false ∧ after = l.length) → mLoop1 (fun t17 w k1 => mN Try.prog (vS (binOp .lss 3 t17 (.int .i64 8))) w fun t125 w =>
              mIf t125 (mIf (.bool fails) (mCall Try.prog 23 #[dptr p, t17] w fun t132 w => mCall Try.prog 21 #[(.int .u8 0)] w fun t133 w =>
                mN Try.prog (vS (eqS .neq 9 false false t132 t133)) w fun t134 w => mIf t134 (K (.bool false) w) (mN Try.prog (vS (binOp .add 3 t17 (.int .i64 1))) w fun t127 w => k1 t127 w))
                (mN Try.prog (vS (binOp .add 3 t17 (.int .i64 1))) w fun t127 w => k1 t127 w))
              (mN Try.prog (vS (eqS .neq 24 false true (.int .i64 D.flush.1) (.int .i64 0))) w fun t137 w => mN Try.prog (vS (eqS .eql 4 false false t137 (.bool fails))) w fun t139 w =>
                mIf t139 (mCall Try.prog 28 #[dptr p] w fun t142 w => mN Try.prog (vS (eqS .eql 3 false true t142 (.int .i64 0))) w fun t143 w => mIf t143 (mCall Try.prog 19 #[] w fun t146 w => K t146 w) (K (.bool false) w)) (K (.bool false) w)))
              (.int .i64 0) w3 := by
            intro fails hf
            refine mLoop1.mk (fun x wq => ∃ j : Nat, x = .int .i64 j ∧ j ≤ 8 ∧ IsDisk wq p fp3 D.flush.2 ∧ Ext w wq) (fun x _ => 8 - (intOf x).toNat) ⟨0, rfl, by omega, h3, a3⟩ ?_
            rintro x wq ⟨j, rfl, hj, hq, uq⟩
            simp only [push_cast]
            refine mIf_dec (fun hlt => ?_) fun hlt => ?_
            · have hnx : ∀ wz, IsDisk wz p fp3 D.flush.2 → Ext w wz → (∃ j_1 : Nat, Value.int .i64 (IntKind.wrap .i64 ((j : Int) + 1)) = .int .i64 j_1 ∧ j_1 ≤ 8 ∧ IsDisk wz p fp3 D.flush.2 ∧ Ext w wz) ∧ 8 - (intOf (.int .i64 (IntKind.wrap .i64 ((j : Int) + 1)))).toNat < 8 - (intOf (.int .i64 (j : Int))).toNat := by
                intro wz hz uz
                rw [i64w ((j : Int) + 1) (by omega) (by omega)]
                exact ⟨⟨j + 1, congrArg (Value.int .i64) (by omega), by omega, hz, uz⟩, by simp only [intOf]; omega⟩
              cases hfc : fails with
              | false =>
                simp only [push_cast]
                exact hnx wq hq uq
              | true =>
                simp only [push_cast]
                refine isdisk_lasts hq j fun w4 u4 => ?_
                rw [show (Value.int .u8 0) = .int .u8 (0 : UInt8).toNat from rfl]
                refine fill27_c 0 fun w5 u5 => ?_
                have hz := f3 (hf.1 hfc)
                have hla : D.flush.2.lasts j = fillS 0 := by
                  unfold DM.lasts
                  rw [hz, if_neg (by simp; omega), Int.toNat_natCast, List.getD_eq_getElem?_getD, List.getElem?_replicate, if_pos (by omega)]
                  exact joined_cutS zeroS_size
                rw [hla]
                simp only [push_cast, beq_self_eq_true, Bool.not_true]
                exact hnx w5 ((hq.ext u4).ext u5) ((uq.ext u4).ext u5)
            · obtain rfl : j = 8 := by omega
              have hgf : (D.flush.1 != 0) = fails := by
                cases hfc : fails with
                | false =>
                  have : D.flush.1 = 0 := f1.2 fun hh => by have := hf.2 hh; rw [hfc] at this; cases this
                  simp [this]
                | true =>
                  have : D.flush.1 ≠ 0 := fun hh => (f1.1 hh) (hf.1 hfc)
                  simpa using this
              simp only [push_cast, hgf, beq_self_eq_true]
              refine isdisk_waits hq ?_
              simp only [f2, List.length_nil, push_cast, beq_self_eq_true]
              exact torn_c fun w5 u5 => k w5 (uq.ext u5)
          cases off with
          | false =>
            have hfin' := hfin (after == ((l.length : Nat) : Int)) (by simp)
            simp only [mJ_eq, push_cast, Bool.not_false] at hfin' ⊢
            exact hfin'
          | true =>
            have hfin' := hfin false (by simp)
            simp only [mJ_eq, push_cast, Bool.not_true] at hfin' ⊢
            exact hfin'
        cases cut <;> cases off <;> first
          | exact absurd hco' (by decide)
          | (simp only [mJ_eq, push_cast, Bool.not_true, Bool.not_false] at hfl ⊢
             exact hfl)
end
end Go.Proofs.Ythgopkppmppdoaa
