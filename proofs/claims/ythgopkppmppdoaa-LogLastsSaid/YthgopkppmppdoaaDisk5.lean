/-
  Disks: the power goes.
-/
import Derived.Test.YthgopkppmppdoaaDisk4
set_option linter.unusedVariables false
set_option linter.unusedSimpArgs false
set_option maxRecDepth 20000
namespace Go.Proofs.Ythgopkppmppdoaa
open Go Go.Proofs Go.Vc
open Go.RowKit (Below intOf)

section
variable {w : World} {K : Value → World → Prop} {p : Nat} {fp fk : Nat → Prop} {D : DM} {vb vw vk v : Value} {keep : List Int}

theorem DiskAt.stay {w' : World} {F : Nat → Prop} (h : DiskAt w p fp D vb vw vk) (u : Upd w w' F) (hn : ∀ k, fp k → ¬ F k) : DiskAt w' p fp D vb vw vk :=
  ⟨h.cells.keep u (hn p h.fpp), h.blocks.keep u fun k hk => hn k (h.fpb k hk), h.waits.keep u fun k hk => hn k (h.fpw k hk), h.keep.keep u fun k hk => hn k (h.fpk k hk), h.fpp, h.fpb, h.fpw, h.fpk,
    fun k hk => Nat.lt_of_lt_of_le (h.fplt k hk) u.size, h.b4, h.w4, h.bn⟩
/-- A row of ints, as a slice that is read. -/
theorem Ints.of_row (h : Row w 3 1 v keep.length (encI keep)) : Ints w v keep (Fp v) := by
  obtain ⟨A, c, rfl⟩ := h.slice
  refine ⟨A, c, rfl, Row.small' h, fun h0 => ?_⟩
  obtain ⟨g, cap, cs, e, hb, h1, h2, h3, h4⟩ := h.at_ h0
  injection e with e1 _ e2
  subst e1 e2
  refine ⟨g, 0, rfl, rfl, fun i x hx => ⟨[.int .i64 x], rfl, fun j u hu => ?_, rfl⟩⟩
  have hi := (List.getElem?_eq_some_iff.1 hx).1
  obtain ⟨rfl, rfl⟩ : j = 0 ∧ u = .int .i64 x := by
    cases j with
    | zero => simp at hu; exact ⟨rfl, hu.symm⟩
    | succ j => simp at hu
  refine hb.cell ?_
  rw [Nat.zero_add, Nat.mul_one, Nat.add_zero, h4 i (by omega)]
  simp [encI, hx]

/-- Some cells are written over; the others are as they were. -/
theorem splice_part {cs xs ys : List Value} {o n sz : Nat} (hx : xs.length = sz) (hy : (cs.drop o).take sz = ys) (ho : o + sz ≤ cs.length) (hn : n ≤ sz) : splice cs o (xs.take n) = splice cs o (xs.take n ++ ys.drop n) := by
  have hyl : ys.length = sz := by rw [← hy]; simp; omega
  have e : cs.drop o = ys ++ cs.drop (o + sz) := by rw [← hy, ← List.drop_drop, List.take_append_drop]
  have e2 : cs.drop (o + n) = ys.drop n ++ cs.drop (o + sz) := by rw [← List.drop_drop, e, List.drop_append_of_le_length (by omega)]
  have l1 : (xs.take n).length = n := by simp; omega
  have l2 : (xs.take n ++ ys.drop n).length = sz := by simp; omega
  unfold splice
  rw [l1, l2, e2]
  simp [List.append_assoc]

/-- One of a disk's blocks is written. -/
theorem DiskAt.putB {w' : World} {gb cap i : Nat} {csb : List Value} {b : List ByteArray} (h : DiskAt w p fp D (.slice (some ⟨gb, 0, none⟩) D.blocks.length cap) vw vk) (hgb : Blk w gb 124 csb) (hi : i < D.blocks.length) (hb : Sec b)
    (h1 : Blk w' gb 124 (splice csb (i * 4) (encB b))) (u : Upd w w' (· = gb)) (hs : w'.heap.size = w.heap.size) :
    DiskAt w' p fp { D with blocks := D.blocks.set i b } (.slice (some ⟨gb, 0, none⟩) D.blocks.length cap) vw vk := by
  refine ⟨h.cells.keep u fun e => ?_, ?_, h.waits.keep u fun k hk e => ?_, h.keep.keep u fun k hk e => ?_, h.fpp, h.fpb, h.fpw, h.fpk, fun k hk => by rw [hs]; exact h.fplt k hk, sec_set h.b4 hb, fun x hx => ?_, ?_⟩
  · exact (hgb.ne_type h.cells (by decide)) e.symm
  · exact row_store h.blocks hgb (fun x hx => by rw [encB_len, (h.b4 x hx).1]) hi (by rw [encB_len, hb.1]) h1
  · exact row_ne h.waits hgb (by decide) (e ▸ hk)
  · exact row_ne h.keep hgb (by decide) (e ▸ hk)
  · show Sec x.2 ∧ 0 ≤ x.1 ∧ x.1 < (D.blocks.set i b).length
    rw [List.length_set]
    exact h.w4 x hx
  · show (D.blocks.set i b).length ≤ 128
    rw [List.length_set]
    exact h.bn

/-- How many sectors of a write last. -/
theorem many_c {A : Option Addr} {c : Nat} (hk : Ints w (.slice A keep.length c) keep fk) (j : Nat) (hj : j ≤ 9223372036854775807) {J : Value → World → Prop} (k : J (.int .i64 (nOf keep j)) w) :
    mIf (.bool (decide ((j : Int) < (keep.length : Nat)))) (mN Try.prog (vS (Instr.indexAt 35 (.slice A keep.length c) (.int .i64 j))) w fun t23 w =>
      mN Try.prog (vS (Instr.loadAt 3 t23)) w fun t24 w => mN Try.prog (builtin .max #[3, 3] 3 #[false, true] #[t24, (.int .i64 0)]) w fun t25 w =>
      mN Try.prog (builtin .min #[3, 3] 3 #[false, true] #[t25, (.int .i64 4)]) w fun t26 w => J t26 w) (J (.int .i64 0) w) := by
  refine mIf_dec (fun hlt => ?_) fun hlt => ?_
  · obtain ⟨x, hx⟩ : ∃ x, keep[j]? = some x := ⟨_, List.getElem?_eq_getElem (by omega)⟩
    obtain ⟨_, b, o, rfl, _, cs, hcl, hc, rfl⟩ := Arr.at_ hk hx
    refine mN_v (r_indexAt w (sz := 1) Try.underlying35 (by kernel_rfl) b o keep.length c j (by omega) (by omega)) ?_
    rw [Int.toNat_natCast]
    refine mN_v (r_load1 w (by kernel_rfl) (hc 0 _ rfl)) ?_
    try simp only [push_cast]
    have e : ((nOf keep j : Nat) : Int) = if 4 < (if 0 > x then 0 else x) then 4 else if 0 > x then 0 else x := by
      unfold nOf
      rw [hx]
      show ((min (max x 0) 4).toNat : Int) = _
      split <;> split <;> omega
    rw [e] at k
    exact k
  · have : nOf keep j = 0 := by
      unfold nOf
      rw [List.getElem?_eq_none (by omega)]
    rw [this] at k
    exact k

theorem fall_c (h : DiskAt w p fp D vb vw vk) (hk : Ints w v keep fk) (hne : ∀ k, fk k → k ≠ p ∧ ¬ Fp vb k)
    (k : ∀ w', DiskAt w' p fp (D.fall keep) vb (.slice none 0 0) vk → Upd w w' fp → K (.tuple #[]) w') : mCall Try.prog 84 #[dptr p, v] w K := by
  have hwn : D.waits.length ≤ 9223372036854775807 := Row.small h.waits
  refine ⟨ok84 ?_⟩
  unfold sh84 dptr
  try simp only [push_cast]
  refine mN_v (r_loadB _ (by kernel_rfl) h.cells rfl) ?_
  obtain ⟨A, c, rfl⟩ := h.waits.slice
  obtain ⟨A2, c2, rfl⟩ := Arr.slice hk
  try simp only [push_cast]
  refine mLoop1.mk (fun x wr => ∃ j : Nat, x = .int .i64 j ∧ j ≤ D.waits.length ∧ DiskAt wr p fp { D with blocks := fallTo D.blocks D.waits keep j } vb (.slice A D.waits.length c) vk ∧ Upd w wr fp ∧ Ints wr (.slice A2 keep.length c2) keep fk) (fun x _ => D.waits.length - (intOf x).toNat) ?_ ?_
  · exact ⟨0, rfl, Nat.zero_le _, h, Upd.refl _ _, hk⟩
  · rintro x wr ⟨j, rfl, hj, hd, ur, hkr⟩
    try simp only [push_cast]
    refine mIf_dec (fun hlt => ?_) fun hlt => ?_
    · obtain ⟨y, hy⟩ : ∃ y, D.waits[j]? = some y := ⟨_, List.getElem?_eq_getElem (by omega)⟩
      have hyS := hd.w4 y (List.mem_of_getElem? hy)
      have hy4 := hyS.1.1
      obtain ⟨g', cap', hA, _, cs', hg', hle', hcs'⟩ := row_elem (f := encW) hd.waits (fun x hx => by rw [encW_len, (hd.w4 x hx).1.1]) hy
      injection hA with hA _ _
      subst hA
      refine mN_v (r_indexAt wr (sz := 5) Try.underlying129 (by kernel_rfl) g' 0 D.waits.length c j (by omega) (by omega)) ?_
      rw [Nat.zero_add, Int.toNat_natCast]
      refine mN_v (r_loadN wr (n := 5) (by kernel_rfl) (by kernel_rfl) hg' hle') ?_
      rw [hcs']
      refine mN_new (zero136 wr) fun w3 hb3 hu3 hs3 => ?_
      refine mN_storeN (by rw [encW_len, hy4]; kernel_rfl) hb3 (by simp [encW, encB, hy4]) encW_one fun w4 hb4' hu4 hs4 => ?_
      rw [splice_all _ _ (by simp [encW, encB, hy4])] at hb4'
      have u4 : Ext wr w4 := hu3.trans hu4 (fun _ _ x => x) fun i hi e => by omega
      have hd4 := hd.stay u4 fun _ _ => id
      have hk4 := hkr.keep u4 fun _ _ => id
      try simp only [push_cast]
      refine ⟨many_c hk4 j (by omega) ?_⟩
      unfold mDrew
      have hd5 := hd4.stay (Upd.drew w4 _) (fun _ _ => id)
      have hk5 := hk4.keep (Upd.drew w4 _) (fun _ _ => id)
      have hb5 : Blk w4.drew wr.heap.size 136 (encW y) := hb4'
      generalize hw5 : w4.drew = w5 at hd5 hk5 hb5
      have u5 : Ext wr w5 := hw5 ▸ u4.drewn
      try simp only [push_cast]
      refine mR_v (r_loadB _ (by kernel_rfl) hd5.cells rfl) ?_
      try simp only [push_cast]
      refine mR_v (r_loadB _ (by kernel_rfl) hb5 rfl) ?_
      have hlb : y.1.toNat < (fallTo D.blocks D.waits keep j).length := by
        rw [fallTo_length]
        have := (h.w4 y (List.mem_of_getElem? hy)).2
        omega
      obtain ⟨b, hb⟩ : ∃ b, (fallTo D.blocks D.waits keep j)[y.1.toNat]? = some b := ⟨_, List.getElem?_eq_getElem hlb⟩
      have hbS := hd5.b4 b (List.mem_of_getElem? hb)
      obtain ⟨gb, capb, rfl, _, csb, hgb, hleb, hcsb⟩ := row_elem (f := encB) hd5.blocks (fun x hx => by rw [encB_len, (hd5.b4 x hx).1]) hb
      refine mP_v (fun w => r_indexAt w (sz := 4) Try.underlying127 (by kernel_rfl) gb 0 _ capb y.1 hyS.2.1 (by omega)) ?_
      rw [Nat.zero_add]
      have hn4 := nOf_le keep j
      refine mP_v (fun w => r_sliceAh w (sz := 1) Try.underlying124 (by kernel_rfl) gb _ (nOf keep j) (by omega) (by omega) (by omega)) ?_
      try simp only [push_cast]
      refine mP_v (fun w => r_sliceAh w (sz := 1) Try.underlying124 (by kernel_rfl) wr.heap.size _ (nOf keep j) (by omega) (by omega) (by omega)) ?_
      have hnn : Nat.min ((nOf keep j : Int)).toNat ((nOf keep j : Int)).toNat = nOf keep j := by rw [Int.toNat_natCast]; exact Nat.min_self _
      have hcl : ((encB y.2).take (nOf keep j)).length = nOf keep j * 1 := by rw [List.length_take, encB_len, hy4]; omega
      refine mN_copy Try.underlying67 (by kernel_rfl) hgb (nOf keep j) hnn ((encB y.2).take (nOf keep j)) hcl (fun i u hu => hb5.cell ?_) (by omega) (fun u hu => encB_one u (List.mem_of_mem_take hu)) fun w6 h6 u6 hs6 => ?_
      · rw [Nat.add_comm]
        show (encB y.2)[i]? = _
        rw [List.getElem?_take] at hu
        split at hu
        · exact hu
        · cases hu
      · have hpart : splice csb (y.1.toNat * 4) ((encB y.2).take (nOf keep j)) = splice csb (y.1.toNat * 4) (encB (mixB y.2 b (nOf keep j))) := by
          rw [splice_part (ys := encB b) (sz := 4) (by rw [encB_len, hy4]) hcsb hleb hn4]
          simp [encB, mixB, List.map_append, List.map_take, List.map_drop]
        rw [hpart] at h6
        have hd6 := hd5.putB hgb hlb (mixB_sec hyS.1 hbS hn4) h6 u6 hs6
        have hb6 : Blk w6 wr.heap.size 136 (encW y) := hb5.keep u6 (hb5.ne_type hgb (by decide))
        refine ⟨rdN_v (r_loadB _ (by kernel_rfl) hb6 rfl), rdN_v (r_loadB _ (by kernel_rfl) hd6.cells rfl), ?_⟩
        try simp only [push_cast]
        rw [i64w ((j : Int) + 1) (by omega) (by omega)]
        have hstep : fallTo D.blocks D.waits keep (j + 1) = (fallTo D.blocks D.waits keep j).set y.1.toNat (mixB y.2 b (nOf keep j)) := by
          conv => lhs; unfold fallTo
          rw [hy]
          show fallOne _ _ _ = _
          unfold fallOne
          rw [List.getD_eq_getElem?_getD, hb]
          rfl
        refine ⟨⟨j + 1, congrArg (Value.int .i64) (by omega), by omega, ?_, ?_, hk5.keep u6 fun k hk e => (hne k hk).2 (by rw [e]; rfl)⟩, by simp only [intOf]; omega⟩
        · rw [hstep]
          have := hd6
          simp only [fallTo_length] at this ⊢
          exact this
        · exact (ur.ext u5).trans u6 (fun _ _ x => x) fun i hi e => by
            rw [e]
            exact h.fpb _ rfl
    · obtain rfl : j = D.waits.length := by omega
      try simp only [push_cast]
      refine mN_store1 (by kernel_rfl) hd.cells (by simp) rfl fun w1 h1 u1 s1 => ?_
      try simp only [push_cast]
      refine mN_store1 (by kernel_rfl) h1 (by simp) rfl fun w2 h2 u2 s2 => ?_
      try simp only [push_cast]
      refine mN_store1 (by kernel_rfl) h2 (by simp) rfl fun w3 h3 u3 s3 => ?_
      try simp only [push_cast]
      have u13 : Upd wr w3 (· = p) := (u1.then u2).then u3
      have hs13 : w3.heap.size = wr.heap.size := by omega
      refine k w3 ⟨h3, ?_, ?_, ?_, h.fpp, h.fpb, fun k hk => (by cases hk), h.fpk, fun k hk => (by rw [hs13]; exact hd.fplt k hk), hd.b4, fun x hx => (by cases hx), hd.bn⟩ (ur.trans u13 (fun _ _ x => x) fun i hi e => by rw [e]; exact h.fpp)
      · exact hd.blocks.keep u13 fun k hf e => row_ne hd.blocks hd.cells (by decide) (e ▸ hf)
      · exact Row.nil _ _ _
      · exact hd.keep.keep u13 fun k hf e => row_ne hd.keep hd.cells (by decide) (e ▸ hf)
end
end Go.Proofs.Ythgopkppmppdoaa
