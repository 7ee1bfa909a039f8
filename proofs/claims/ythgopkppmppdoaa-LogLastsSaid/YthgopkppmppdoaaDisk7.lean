/-
  Disks: flushing, arms, crashes; a disk as one fact.
-/
import Derived.Test.YthgopkppmppdoaaDisk6
set_option linter.unusedVariables false
set_option linter.unusedSimpArgs false
set_option maxRecDepth 20000
namespace Go.Proofs.Ythgopkppmppdoaa
open Go Go.Proofs Go.Vc
open Go.RowKit (Below intOf)

section
variable {w : World} {K : Value → World → Prop} {p : Nat} {fp fk : Nat → Prop} {D : DM} {vb vw vk v : Value} {keep : List Int}

/-- What waits is done away with. -/
theorem clear_c (h : DiskAt w p fp D vb vw vk) {K : World → Prop} (k : ∀ w', DiskAt w' p fp { D with waits := [] } vb (.slice none 0 0) vk → Upd w w' fp → K w') :
    mN Try.prog (uS (Instr.storeAt 129 (.pointer (some ⟨p, 1, none⟩)) (.slice none 0 0))) w fun _ w => K w := by
  refine mN_store1 (by kernel_rfl) h.cells (by simp) rfl fun w1 h1 u1 s1 => ?_
  refine k w1 ⟨h1, ?_, Row.nil _ _ _, ?_, h.fpp, h.fpb, fun k hk => (by cases hk), h.fpk, fun k hk => (by rw [s1]; exact h.fplt k hk), h.b4, fun x hx => (by cases hx), h.bn⟩ (u1.mono fun i _ e => by rw [e]; exact h.fpp)
  · exact h.blocks.keep u1 fun k hf e => row_ne h.blocks h.cells (by decide) (e ▸ hf)
  · exact h.keep.keep u1 fun k hf e => row_ne h.keep h.cells (by decide) (e ▸ hf)

theorem flush0_c (h : DiskAt w p fp D vb vw vk) (ha : D.after ≤ 9223372036854775807)
    (k : ∀ w' vw', DiskAt w' p fp D.flush.2 vb vw' vk → Upd w w' fp → K (.int .i64 D.flush.1) w') : mCall Try.prog 22 #[dptr p] w K := by
  refine ⟨ok22 ?_⟩
  unfold sh22
  refine up_c h ?_
  try simp only [push_cast, Bool.not_not]
  cases hd : D.down with
  | true =>
    have e : D.flush = (271, D) := by simp [DM.flush, hd]
    rw [e] at k
    try simp only [push_cast]
    exact k w vw h (Upd.refl _ _)
  | false =>
    have e : D.flush = match D.goes.1 with
        | some e => (e, { D.goes.2 with waits := [] })
        | none => (0, { D.goes.2 with blocks := flushTo D.goes.2.blocks D.goes.2.waits D.goes.2.waits.length, waits := [] }) := by
      unfold DM.flush
      rw [if_neg (by simp [hd])]
      cases D.goes.1 <;> rfl
    try simp only [push_cast]
    refine goes_c h ha fun w1 vw1 hd1 u1 => ?_
    unfold goesV
    cases hg : D.goes.1 with
    | some e1 =>
      rw [hg] at e
      rw [e] at k
      unfold dptr
      try simp only [push_cast, Option.getD_some, Option.isSome_some]
      exact clear_c hd1 fun w2 hd2 u2 => k w2 _ hd2 (u1.then u2)
    | none =>
      rw [hg] at e
      rw [e] at k
      generalize D.goes.2 = E at hd1 k
      have hwn : E.waits.length ≤ 9223372036854775807 := Row.small hd1.waits
      unfold dptr
      try simp only [push_cast, Option.getD_none, Option.isSome_none]
      refine mN_v (r_loadB _ (by kernel_rfl) hd1.cells rfl) ?_
      obtain ⟨A, c, rfl⟩ := hd1.waits.slice
      try simp only [push_cast]
      refine mLoop1.mk (fun x wr => ∃ j : Nat, x = .int .i64 j ∧ j ≤ E.waits.length ∧ DiskAt wr p fp { E with blocks := flushTo E.blocks E.waits j } vb (.slice A E.waits.length c) vk ∧ Upd w wr fp) (fun x _ => E.waits.length - (intOf x).toNat) ?_ ?_
      · exact ⟨0, rfl, Nat.zero_le _, hd1, u1⟩
      · rintro x wr ⟨j, rfl, hj, hd, ur⟩
        try simp only [push_cast]
        refine mIf_dec (fun hlt => ?_) fun hlt => ?_
        · obtain ⟨y, hy⟩ : ∃ y, E.waits[j]? = some y := ⟨_, List.getElem?_eq_getElem (by omega)⟩
          have hyS := hd.w4 y (List.mem_of_getElem? hy)
          have hy4 := hyS.1.1
          obtain ⟨g', cap', hA, _, cs', hg', hle', hcs'⟩ := row_elem (f := encW) hd.waits (fun x hx => by rw [encW_len, (hd.w4 x hx).1.1]) hy
          injection hA with hA _ _
          subst hA
          refine mN_v (r_indexAt wr (sz := 5) Try.underlying129 (by kernel_rfl) g' 0 E.waits.length c j (by omega) (by omega)) ?_
          rw [Nat.zero_add, Int.toNat_natCast]
          refine mN_v (r_loadN wr (n := 5) (by kernel_rfl) (by kernel_rfl) hg' hle') ?_
          rw [hcs']
          refine mN_new (zero136 wr) fun w3 hb3 hu3 hs3 => ?_
          refine mN_storeN (by rw [encW_len, hy4]; kernel_rfl) hb3 (by simp [encW, encB, hy4]) encW_one fun w4 hb4' hu4 hs4 => ?_
          rw [splice_all _ _ (by simp [encW, encB, hy4])] at hb4'
          have u4 : Ext wr w4 := hu3.trans hu4 (fun _ _ x => x) fun i hi e => by omega
          have hd4 := hd.stay u4 fun _ _ => id
          unfold mDrew
          have hd5 := hd4.stay (Upd.drew w4 _) (fun _ _ => id)
          have hb5 : Blk w4.drew wr.heap.size 136 (encW y) := hb4'
          generalize hw5 : w4.drew = w5 at hd5 hb5
          have u5 : Ext wr w5 := hw5 ▸ u4.drewn
          try simp only [push_cast]
          refine mR_v (r_loadB _ (by kernel_rfl) hd5.cells rfl) ?_
          try simp only [push_cast]
          refine mR_v (r_loadB _ (by kernel_rfl) hb5 rfl) ?_
          try simp only [push_cast]
          refine mR_v (r_loadN w5 (n := 4) (by kernel_rfl) (by kernel_rfl) hb5 (by rw [encW_len, hy4]; omega)) ?_
          rw [show ((encW y).drop 1).take 4 = encB y.2 from by rw [encW, List.drop_one, List.tail_cons, List.take_of_length_le (by rw [encB_len, hy4]; omega)]]
          have hlb : y.1.toNat < (flushTo E.blocks E.waits j).length := by
            rw [flushTo_length]
            have := (hd1.w4 y (List.mem_of_getElem? hy)).2
            omega
          obtain ⟨b, hb⟩ : ∃ b, (flushTo E.blocks E.waits j)[y.1.toNat]? = some b := ⟨_, List.getElem?_eq_getElem hlb⟩
          obtain ⟨gb, capb, rfl, _, csb, hgb, hleb, hcsb⟩ := row_elem (f := encB) hd5.blocks (fun x hx => by rw [encB_len, (hd5.b4 x hx).1]) hb
          refine mP_v (fun w => r_indexAt w (sz := 4) Try.underlying127 (by kernel_rfl) gb 0 _ capb y.1 hyS.2.1 (by omega)) ?_
          rw [Nat.zero_add]
          refine mN_storeN (by rw [encB_len, hy4]; kernel_rfl) hgb (by rw [encB_len, hy4]; omega) encB_one fun w6 h6 u6 hs6 => ?_
          have hd6 := hd5.putB hgb hlb hyS.1 h6 u6 hs6
          try simp only [push_cast]
          rw [i64w ((j : Int) + 1) (by omega) (by omega)]
          have hstep : flushTo E.blocks E.waits (j + 1) = (flushTo E.blocks E.waits j).set y.1.toNat y.2 := by
            conv => lhs; unfold flushTo
            rw [hy]
          refine ⟨⟨j + 1, congrArg (Value.int .i64) (by omega), by omega, ?_, ?_⟩, by simp only [intOf]; omega⟩
          · rw [hstep]
            have := hd6
            simp only [flushTo_length] at this ⊢
            exact this
          · exact (ur.ext u5).trans u6 (fun _ _ x => x) fun i hi e => by
              rw [e]
              exact h.fpb _ rfl
        · obtain rfl : j = E.waits.length := by omega
          try simp only [push_cast]
          exact clear_c hd fun w2 hd2 u2 => k w2 _ hd2 (ur.then u2)

theorem crash0_c (h : DiskAt w p fp D vb vw vk) (hk : Ints w v keep fk) (hne : ∀ k, fk k → ¬ fp k)
    (k : ∀ w' vw', DiskAt w' p fp (D.crash keep).2 vb vw' vk → Upd w w' fp → K (.int .i64 (D.crash keep).1) w') : mCall Try.prog 30 #[dptr p, v] w K := by
  refine ⟨ok30 ?_⟩
  unfold sh30
  refine up_c h ?_
  try simp only [push_cast, Bool.not_not]
  cases hd : D.down with
  | true =>
    have e : D.crash keep = (271, D) := by simp [DM.crash, hd]
    rw [e] at k
    try simp only [push_cast]
    exact k w vw h (Upd.refl _ _)
  | false =>
    have e : D.crash keep = (0, D.fall keep) := by simp [DM.crash, hd]
    rw [e] at k
    try simp only [push_cast]
    exact fall_c h hk (fun i hi => ⟨fun e => hne i hi (e ▸ h.fpp), fun hf => hne i hi (h.fpb i hf)⟩) fun w' hd' u => k w' _ hd' u
end
end Go.Proofs.Ythgopkppmppdoaa
