/-
  The reference's disk: writing, flushing, arms; each function as one fact about the model.
-/
import Derived.Test.YthgopkppmppdoaaRef1
set_option linter.unusedVariables false
set_option linter.unusedSimpArgs false
set_option maxRecDepth 20000
namespace Go.Proofs.Ythgopkppmppdoaa
open Go Go.Proofs Go.Vc
open Go.RowKit (Below intOf)

section
variable {w : World} {K : Value → World → Prop} {p N : Nat} {fp fk : Nat → Prop} {D : DM} {vb vw vk v : Value} {keep : List Int}

theorem RefAt.nlt (h : RefAt w p fp N D vb vw vk) : N ≤ p := h.fpN p h.fpp

theorem rwrite_c (h : RefAt w p fp N D vb vw vk) (ha : D.after ≤ 9223372036854775807) (hwn : D.waits.length ≤ 1000000000) (hN : N ≤ w.heap.size) (i : Int) (s : ByteArray)
    (k : ∀ w' fp' vw', RefAt w' p fp' N (D.write i s).2 vb vw' vk → Upd w w' fp → (∀ k, fp' k → fp k ∨ w.heap.size ≤ k) → K (.int .i64 (D.write i s).1) w') : mCall Try.prog 37 #[dptr p, .int .i64 i, .string s] w K := by
  refine ⟨ok37 ?_⟩
  unfold sh37 dptr
  try simp only [push_cast]
  obtain ⟨A, c, hA⟩ := h.blocks.slice
  by_cases hi : 0 ≤ i ∧ i < D.blocks.length
  case neg =>
    have e : D.write i s = (1, D) := by simp only [DM.write, hi, not_false_eq_true, true_or, if_true]
    rw [e] at k
    refine mIf_dec (fun h0 => k w fp vw h (Upd.refl _ _) fun _ x => .inl x) fun h0 => ?_
    refine mN_v (r_loadB _ (by kernel_rfl) h.cells rfl) ?_
    rw [hA]
    try simp only [push_cast]
    rw [show decide ((D.blocks.length : Int) ≤ i) = true from by simp; omega]
    try simp only [push_cast]
    exact k w fp vw h (Upd.refl _ _) fun _ x => .inl x
  rw [show decide (i < 0) = false from by simp; omega]
  try simp only [push_cast]
  refine mN_v (r_loadB _ (by kernel_rfl) h.cells rfl) ?_
  rw [hA]
  try simp only [push_cast]
  rw [show decide ((D.blocks.length : Int) ≤ i) = false from by simp; omega]
  try simp only [push_cast]
  by_cases hs : s.size = 256
  case neg =>
    have e : D.write i s = (1, D) := by simp only [DM.write, hs, ne_eq, not_false_eq_true, or_true, if_true]
    rw [e] at k
    rw [show ((s.size : Int) != 256) = true from by simp; omega]
    try simp only [push_cast]
    exact k w fp vw h (Upd.refl _ _) fun _ x => .inl x
  rw [show ((s.size : Int) != 256) = false from by simp; omega]
  try simp only [push_cast]
  refine mN_v (r_loadB _ (by kernel_rfl) h.cells rfl) ?_
  cases hd : D.down with
  | true =>
    have e : D.write i s = (271, D) := by simp only [DM.write, hi, hs, hd, and_self, not_true_eq_false, ne_eq, or_self, if_true, if_false]
    rw [e] at k
    try simp only [push_cast]
    exact k w fp vw h (Upd.refl _ _) fun _ x => .inl x
  | false =>
    have e : D.write i s = match D.goes.1 with
        | some e => (e, D.goes.2)
        | none => (0, { D.goes.2 with waits := D.goes.2.waits ++ [(i, cutS s)] }) := by
      unfold DM.write
      rw [if_neg (by simp [hi, hs]), if_neg (by simp [hd])]
      cases D.goes.1 <;> rfl
    try simp only [push_cast]
    refine rgoes_c h ha fun w1 vw1 hd1 u1 => ?_
    obtain ⟨gl1, gl2, gl3, _, _⟩ := goes_len D
    cases hg : D.goes.1 with
    | some e1 =>
      rw [hg] at e
      rw [e] at k
      have he1 : e1 = 270 ∨ e1 = 271 := by
        unfold DM.goes at hg
        split at hg
        · cases hg
        · split at hg
          · cases hg
          · split at hg
            · injection hg with hg; exact .inl hg.symm
            · injection hg with hg; exact .inr hg.symm
      have k1 := k w1 fp vw1 hd1 u1 fun _ x => .inl x
      try simp only [push_cast, Option.getD_some]
      rw [show (e1 == 0) = false from by rcases he1 with rfl | rfl <;> rfl]
      try simp only [push_cast]
      exact k1
    | none =>
      rw [hg] at e
      rw [e] at k
      obtain ⟨g1, g2, g3⟩ := gl3 hg
      try simp only [push_cast, Option.getD_none, beq_self_eq_true]
      refine mN_v (r_loadB _ (by kernel_rfl) hd1.cells rfl) ?_
      have hbuild : ∀ w, (Instr.build 150 #[(0, .int .i64 i), (1, .string s)]).run Try.prog w = .ok (.agg #[.int .i64 i, .string s]) w := fun w => by kernel_rfl
      refine mN_v (hbuild _) ?_
      have hsl : (Instr.buildSlice 103 1 #[(0, .agg #[.int .i64 i, .string s])]).run Try.prog w1 = .ok (.slice (some ⟨w1.heap.size, 0, none⟩) 1 1) (w1.alloc (.cells #[.int .i64 i, .string s] 150 (0, 0))) := by kernel_rfl
      refine mN_new hsl fun w4 h4 u4 s4 => ?_
      have hd4 := hd1.ext u4
      have he : encR (i, cutS s) = [.int .i64 i, .string s] := by
        unfold encR
        rw [joined_cutS hs]
      refine mN_append (z := ((Try.prog.info? 150).getD default).zero.getD default) (sz := 2) (bytes := 24) Try.underlying103 (by kernel_rfl) (by kernel_rfl) (by omega) hd4.waits (ys := encR (i, cutS s)) (by simp [encR]) (fun j u hu => h4.cell (by rw [he] at hu; simpa using hu)) encR_one
        (by omega) (by omega) fun vw5 w5 hr5 u5 hy5 => ?_
      try simp only [push_cast]
      have hne5 : ¬ Fp vw1 p := row_ne hd4.waits hd4.cells (by decide)
      have hc5 := hd4.cells.keep u5 hne5
      have ho : vw5.oneCell' = true := by
        obtain ⟨A, c, rfl⟩ := hr5.slice
        rfl
      refine mN_store1 (by kernel_rfl) hc5 (by simp) ho fun w6 h6 u6 s6 => ?_
      have hlen : D.goes.2.waits.length + 1 = (D.goes.2.waits ++ [(i, cutS s)]).length := by simp
      have hfl : D.goes.2.waits.flatMap encR ++ encR (i, cutS s) = (D.goes.2.waits ++ [(i, cutS s)]).flatMap encR := by simp [List.flatMap_append]
      rw [hlen, hfl] at hr5
      have u4' : Upd w w4 fp := u1.ext u4
      refine k w6 (fun k => fp k ∨ Fp vw5 k) vw5 ⟨h6, ?_, ?_, ?_, .inl hd4.fpp, fun k hk => .inl (hd4.fpb k hk), fun k hk => .inr hk, fun k hk => ?_, fun k hk => ?_, hd4.b4, fun x hx => ?_, hd4.bn⟩ ?_ fun k hk => ?_
      · exact (hd4.blocks.keep u5 fun k hf hf2 => row_ne_row hd4.blocks hd4.waits (by decide) hf hf2).keep u6 fun k hf e => row_ne hd4.blocks hd4.cells (by decide) (e ▸ hf)
      · exact hr5.keep u6 fun k hf e => row_ne hr5 hc5 (by decide) (e ▸ hf)
      · exact (hd4.keep.keep u5 fun k hf hf2 => by have := hd4.fpN k (hd4.fpw k hf2); omega).keep u6 fun k hf e => by have := hd4.nlt; omega
      · rcases hk with hk | hk
        · exact hd4.fpN k hk
        · rcases hy5 k hk with hk | hk
          · exact hd4.fpN k (hd4.fpw k hk)
          · have := u4'.size
            omega
      · rw [s6]
        rcases hk with hk | hk
        · exact Nat.lt_of_lt_of_le (hd4.fplt k hk) u5.size
        · exact hr5.lt hk
      · show Sec x.2 ∧ 0 ≤ x.1 ∧ x.1 < D.goes.2.blocks.length
        rcases List.mem_append.1 hx with hx | hx
        · exact hd4.w4 x hx
        · rw [List.mem_singleton] at hx
          subst hx
          exact ⟨cutS_sec hs, hi.1, by rw [gl1]; exact hi.2⟩
      · refine (u4'.trans u5 (fun _ _ x => x) fun i hi hf => hd4.fpw i hf).trans u6 (fun _ _ x => x) fun i hi e => ?_
        rw [e]
        exact hd4.fpp
      · rcases hk with hk | hk
        · exact .inl hk
        · rcases hy5 k hk with hk | hk
          · exact .inl (hd4.fpw k hk)
          · have := u4'.size
            exact .inr (by omega)

/-- What waits is done away with. -/
theorem rclear_c (h : RefAt w p fp N D vb vw vk) {K : World → Prop} (k : ∀ w', RefAt w' p fp N { D with waits := [] } vb (.slice none 0 0) vk → Upd w w' fp → K w') :
    mN Try.prog (uS (Instr.storeAt 103 (.pointer (some ⟨p, 1, none⟩)) (.slice none 0 0))) w fun _ w => K w := by
  refine mN_store1 (by kernel_rfl) h.cells (by simp) rfl fun w1 h1 u1 s1 => ?_
  refine k w1 ⟨h1, ?_, Row.nil _ _ _, ?_, h.fpp, h.fpb, fun k hk => (by cases hk), h.fpN, fun k hk => (by rw [s1]; exact h.fplt k hk), h.b4, fun x hx => (by cases hx), h.bn⟩ (u1.mono fun i _ e => by rw [e]; exact h.fpp)
  · exact h.blocks.keep u1 fun k hf e => row_ne h.blocks h.cells (by decide) (e ▸ hf)
  · exact h.keep.keep u1 fun k hf e => by have := h.nlt; omega

theorem rflush_c (h : RefAt w p fp N D vb vw vk) (ha : D.after ≤ 9223372036854775807)
    (k : ∀ w' vw', RefAt w' p fp N D.flush.2 vb vw' vk → Upd w w' fp → K (.int .i64 D.flush.1) w') : mCall Try.prog 79 #[dptr p] w K := by
  refine ⟨ok79 ?_⟩
  unfold sh79 dptr
  try simp only [push_cast]
  refine mN_v (r_loadB _ (by kernel_rfl) h.cells rfl) ?_
  cases hd : D.down with
  | true =>
    have e : D.flush = (271, D) := by simp [DM.flush, hd]
    rw [e] at k
    try simp only [push_cast]
    exact k w vw h (Upd.refl _ _)
  | false =>
    have e : D.flush = match D.goes.1 with
        | some e => (e, { D.goes.2 with waits := [] })
        | none => (0, { D.goes.2 with blocks := flushTo D.goes.2.blocks D.goes.2.waits D.goes.2.waits.length, waits := [] }) := by
      unfold DM.flush
      rw [if_neg (by simp [hd])]
      cases D.goes.1 <;> rfl
    try simp only [push_cast]
    refine rgoes_c h ha fun w1 vw1 hd1 u1 => ?_
    cases hg : D.goes.1 with
    | some e1 =>
      rw [hg] at e
      rw [e] at k
      have he1 : e1 = 270 ∨ e1 = 271 := by
        unfold DM.goes at hg
        split at hg
        · cases hg
        · split at hg
          · cases hg
          · split at hg
            · injection hg with hg; exact .inl hg.symm
            · injection hg with hg; exact .inr hg.symm
      try simp only [push_cast, Option.getD_some]
      rw [show (e1 == 0) = false from by rcases he1 with rfl | rfl <;> rfl]
      try simp only [push_cast]
      exact rclear_c hd1 fun w2 hd2 u2 => k w2 _ hd2 (u1.then u2)
    | none =>
      rw [hg] at e
      rw [e] at k
      generalize D.goes.2 = E at hd1 k
      have hwn : E.waits.length ≤ 9223372036854775807 := Row.small hd1.waits
      try simp only [push_cast, Option.getD_none, beq_self_eq_true]
      refine mN_v (r_loadB _ (by kernel_rfl) hd1.cells rfl) ?_
      obtain ⟨A, c, rfl⟩ := hd1.waits.slice
      try simp only [push_cast]
      refine mLoop1.mk (fun x wr => ∃ j : Nat, x = .int .i64 j ∧ j ≤ E.waits.length ∧ RefAt wr p fp N { E with blocks := flushTo E.blocks E.waits j } vb (.slice A E.waits.length c) vk ∧ Upd w wr fp) (fun x _ => E.waits.length - (intOf x).toNat) ?_ ?_
      · exact ⟨0, rfl, Nat.zero_le _, hd1, u1⟩
      · rintro x wr ⟨j, rfl, hj, hd, ur⟩
        try simp only [push_cast]
        refine mIf_dec (fun hlt => ?_) fun hlt => ?_
        · obtain ⟨y, hy⟩ : ∃ y, E.waits[j]? = some y := ⟨_, List.getElem?_eq_getElem (by omega)⟩
          have hyS := hd.w4 y (List.mem_of_getElem? hy)
          obtain ⟨g', cap', hA, _, cs', hg', hle', hcs'⟩ := row_elem (f := encR) hd.waits (fun x hx => rfl) hy
          injection hA with hA _ _
          subst hA
          refine mN_v (r_indexAt wr (sz := 2) Try.underlying103 (by kernel_rfl) g' 0 E.waits.length c j (by omega) (by omega)) ?_
          rw [Nat.zero_add, Int.toNat_natCast]
          refine mN_v (r_loadN wr (n := 2) (by kernel_rfl) (by kernel_rfl) hg' hle') ?_
          rw [hcs']
          refine mN_new (zero150 wr) fun w3 hb3 hu3 hs3 => ?_
          refine mN_storeN (by kernel_rfl) hb3 (by simp [encR]) encR_one fun w4 hb4' hu4 hs4 => ?_
          rw [splice_all _ _ (by simp [encR])] at hb4'
          have u4 : Ext wr w4 := hu3.trans hu4 (fun _ _ x => x) fun i hi e => by omega
          have hd4 := hd.ext u4
          unfold mDrew
          have hd5 := hd4.ext (Upd.drew w4 _)
          have hb5 : Blk w4.drew wr.heap.size 150 (encR y) := hb4'
          generalize hw5 : w4.drew = w5 at hd5 hb5
          have u5 : Ext wr w5 := hw5 ▸ u4.drewn
          have hlb : y.1.toNat < (flushTo E.blocks E.waits j).length := by
            rw [flushTo_length]
            have := (hd1.w4 y (List.mem_of_getElem? hy)).2
            omega
          obtain ⟨b, hb⟩ : ∃ b, (flushTo E.blocks E.waits j)[y.1.toNat]? = some b := ⟨_, List.getElem?_eq_getElem hlb⟩
          obtain ⟨gb, capb, rfl, _, csb, hgb, hleb, hcsb⟩ := row_elem (f := encS) hd5.blocks (fun x hx => rfl) hb
          try simp only [push_cast]
          refine mR_v (r_loadB _ (by kernel_rfl) hd5.cells rfl) ?_
          try simp only [push_cast]
          refine mR_v (r_loadB _ (by kernel_rfl) hb5 rfl) ?_
          try simp only [push_cast]
          refine mR_v (r_loadB _ (by kernel_rfl) hb5 rfl) ?_
          refine mP_v (fun w => r_indexAt w (sz := 1) Try.underlying67 (by kernel_rfl) gb 0 _ capb y.1 hyS.2.1 (by omega)) ?_
          rw [Nat.zero_add, Nat.mul_one]
          refine mN_store1 (by kernel_rfl) hgb (by omega) rfl fun w6 h6 u6 hs6 => ?_
          have hd6 := hd5.putB hgb (by omega) hlb hyS.1 h6 u6 hs6
          try simp only [push_cast]
          rw [i64w ((j : Int) + 1) (by omega) (by omega)]
          have hstep : flushTo E.blocks E.waits (j + 1) = (flushTo E.blocks E.waits j).set y.1.toNat y.2 := by
            conv => lhs; unfold flushTo
            rw [hy]
          refine ⟨⟨j + 1, congrArg (Value.int .i64) (by omega), by omega, ?_, ?_⟩, by simp only [intOf]; omega⟩
          · rw [hstep]
            have := hd6
            simp only [flushTo_length] at this ⊢
            exact this
          · exact (ur.ext u5).trans u6 (fun _ _ x => x) fun i hi e => by
              rw [e]
              exact h.fpb _ rfl
        · obtain rfl : j = E.waits.length := by omega
          try simp only [push_cast]
          exact rclear_c hd fun w2 hd2 u2 => k w2 _ hd2 (ur.then u2)
end
end Go.Proofs.Ythgopkppmppdoaa
