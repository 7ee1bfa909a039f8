/-
  The reference's disk: the power goes, an arm goes off, reading.
-/
import Derived.Test.YthgopkppmppdoaaRef0
set_option linter.unusedVariables false
set_option linter.unusedSimpArgs false
set_option maxRecDepth 20000
namespace Go.Proofs.Ythgopkppmppdoaa
open Go Go.Proofs Go.Vc
open Go.RowKit (Below intOf)

/-- The bytes of sectors, cut behind some of them. -/
theorem joined_take {b : List ByteArray} (h : Sec b) {n : Nat} (hn : n ≤ 4) : (joined b).extract 0 (64 * n) = joined (b.take n) ∧ (joined b).extract (64 * n) 256 = joined (b.drop n) := by
  obtain ⟨h4, hs⟩ := h
  have hl : ((b.map fun x => x.data.toList).flatten) = ((b.take n).map fun x => x.data.toList).flatten ++ ((b.drop n).map fun x => x.data.toList).flatten := by
    rw [← List.flatten_append, ← List.map_append, List.take_append_drop]
  have ht : (((b.take n).map fun x => x.data.toList).flatten).length = 64 * n := by
    rw [joined_len _ fun s hs' => hs s (List.mem_of_mem_take hs'), List.length_take]
    omega
  have hd : (((b.drop n).map fun x => x.data.toList).flatten).length = 256 - 64 * n := by
    rw [joined_len _ fun s hs' => hs s (List.mem_of_mem_drop hs'), List.length_drop]
    omega
  constructor
  · apply ByteArray.ext
    rw [ByteArray.data_extract]
    show (List.toArray _).extract 0 (64 * n) = List.toArray _
    rw [hl, List.extract_toArray, List.extract_eq_take_drop, List.drop_zero, Nat.sub_zero, List.take_append_of_le_length (by omega), List.take_of_length_le (by omega)]
  · apply ByteArray.ext
    rw [ByteArray.data_extract]
    show (List.toArray _).extract (64 * n) 256 = List.toArray _
    rw [hl, List.extract_toArray, List.extract_eq_take_drop, List.drop_append_of_le_length (by omega), List.drop_of_length_le (by omega), List.nil_append, List.take_of_length_le (by omega)]
theorem joined_append (a b : List ByteArray) : joined a ++ joined b = joined (a ++ b) := by
  apply ByteArray.ext
  rw [ByteArray.data_append]
  show List.toArray _ ++ List.toArray _ = List.toArray _
  rw [List.append_toArray, List.map_append, List.flatten_append]

section
variable {w : World} {K : Value → World → Prop} {p N : Nat} {fp fk : Nat → Prop} {D : DM} {vb vw vk v : Value} {keep : List Int}

/-- How many sectors of a write last. -/
theorem rmany_c {A : Option Addr} {c : Nat} (hk : Ints w (.slice A keep.length c) keep fk) (j : Nat) (hj : j ≤ 9223372036854775807) {R : Value → World → Prop} (k : R (.int .i64 (nOf keep j)) w) :
    mJ (fun (J : Value → World → Prop) => mIf (.bool (decide ((j : Int) < (keep.length : Nat)))) (mN Try.prog (vS (Instr.indexAt 35 (.slice A keep.length c) (.int .i64 j))) w fun t24 w =>
      mN Try.prog (vS (Instr.loadAt 3 t24)) w fun t25 w => mN Try.prog (vS (binOp .gtr 3 t25 (.int .i64 0))) w fun t26 w => J t26 w) (J (.bool false) w))
    (fun t27 w => mJ (fun (J : Value → World → Prop) => mIf t27 (mN Try.prog (vS (Instr.indexAt 35 (.slice A keep.length c) (.int .i64 j))) w fun t30 w =>
      mN Try.prog (vS (Instr.loadAt 3 t30)) w fun t31 w => J t31 w) (J (.int .i64 0) w))
    (fun t6 w => mN Try.prog (vS (binOp .gtr 3 t6 (.int .i64 4))) w fun t33 w => mJ (fun (J : Value → World → Prop) => mIf t33 (J (.int .i64 4) w) (J t6 w)) R)) := by
  rw [mJ_eq]
  refine mIf_dec (fun hlt => ?_) fun hlt => ?_
  · obtain ⟨x, hx⟩ : ∃ x, keep[j]? = some x := ⟨_, List.getElem?_eq_getElem (by omega)⟩
    obtain ⟨_, b, o, rfl, _, cs, hcl, hc, rfl⟩ := Arr.at_ hk hx
    have e : ((nOf keep j : Nat) : Int) = (min (max x 0) 4) := by
      unfold nOf
      rw [hx]
      show ((min (max x 0) 4).toNat : Int) = _
      omega
    rw [e] at k
    have hi := r_indexAt w (sz := 1) Try.underlying35 (by kernel_rfl) b o keep.length c j (by omega) (by omega)
    refine mN_v hi ?_
    rw [Int.toNat_natCast]
    refine mN_v (r_load1 w (by kernel_rfl) (hc 0 _ rfl)) ?_
    try simp only [push_cast, mJ_eq]
    refine mIf_dec (fun h0 => ?_) fun h0 => ?_
    · refine mN_v hi ?_
      rw [Int.toNat_natCast]
      refine mN_v (r_load1 w (by kernel_rfl) (hc 0 _ rfl)) ?_
      try simp only [push_cast]
      refine mIf_dec (fun h4 => ?_) fun h4 => ?_
      · rw [show min (max x 0) 4 = 4 from by omega] at k
        exact k
      · rw [show min (max x 0) 4 = x from by omega] at k
        exact k
    · try simp only [push_cast]
      rw [show min (max x 0) 4 = 0 from by omega] at k
      exact k
  · have : nOf keep j = 0 := by
      unfold nOf
      rw [List.getElem?_eq_none (by omega)]
    rw [this] at k
    try simp only [push_cast, mJ_eq]
    exact k

theorem rfall_c (h : RefAt w p fp N D vb vw vk) (hk : Ints w v keep (· < N))
    (k : ∀ w', RefAt w' p fp N (D.fall keep) vb (.slice none 0 0) vk → Upd w w' fp → K (.tuple #[]) w') : mCall Try.prog 118 #[dptr p, v] w K := by
  have hwn : D.waits.length ≤ 9223372036854775807 := Row.small h.waits
  refine ⟨ok118 ?_⟩
  unfold sh118 dptr
  try simp only [push_cast]
  refine mN_v (r_loadB _ (by kernel_rfl) h.cells rfl) ?_
  obtain ⟨A, c, rfl⟩ := h.waits.slice
  obtain ⟨A2, c2, rfl⟩ := Arr.slice hk
  try simp only [push_cast]
  refine mLoop1.mk (fun x wr => ∃ j : Nat, x = .int .i64 j ∧ j ≤ D.waits.length ∧ RefAt wr p fp N { D with blocks := fallTo D.blocks D.waits keep j } vb (.slice A D.waits.length c) vk ∧ Upd w wr fp ∧ Ints wr (.slice A2 keep.length c2) keep (· < N)) (fun x _ => D.waits.length - (intOf x).toNat) ?_ ?_
  · exact ⟨0, rfl, Nat.zero_le _, h, Upd.refl _ _, hk⟩
  · rintro x wr ⟨j, rfl, hj, hd, ur, hkr⟩
    try simp only [push_cast]
    refine mIf_dec (fun hlt => ?_) fun hlt => ?_
    · obtain ⟨y, hy⟩ : ∃ y, D.waits[j]? = some y := ⟨_, List.getElem?_eq_getElem (by omega)⟩
      have hyS := hd.w4 y (List.mem_of_getElem? hy)
      obtain ⟨g', cap', hA, _, cs', hg', hle', hcs'⟩ := row_elem (f := encR) hd.waits (fun x hx => rfl) hy
      injection hA with hA _ _
      subst hA
      refine mN_v (r_indexAt wr (sz := 2) Try.underlying103 (by kernel_rfl) g' 0 D.waits.length c j (by omega) (by omega)) ?_
      rw [Nat.zero_add, Int.toNat_natCast]
      refine mN_v (r_loadN wr (n := 2) (by kernel_rfl) (by kernel_rfl) hg' hle') ?_
      rw [hcs']
      refine mN_new (zero150 wr) fun w3 hb3 hu3 hs3 => ?_
      refine mN_storeN (by kernel_rfl) hb3 (by simp [encR]) encR_one fun w4 hb4' hu4 hs4 => ?_
      rw [splice_all _ _ (by simp [encR])] at hb4'
      have u4 : Ext wr w4 := hu3.trans hu4 (fun _ _ x => x) fun i hi e => by omega
      have hd4 := hd.ext u4
      have hk4 := hkr.keep u4 fun _ _ => id
      try simp only [push_cast]
      refine rmany_c hk4 j (by omega) ?_
      unfold mDrew
      have hd5 := hd4.ext (Upd.drew w4 _)
      have hk5 := hk4.keep (Upd.drew w4 _) (fun _ _ => id)
      have hb5 : Blk w4.drew wr.heap.size 150 (encR y) := hb4'
      generalize hw5 : w4.drew = w5 at hd5 hk5 hb5
      have u5 : Ext wr w5 := hw5 ▸ u4.drewn
      have hlb : y.1.toNat < (fallTo D.blocks D.waits keep j).length := by
        rw [fallTo_length]
        have := (h.w4 y (List.mem_of_getElem? hy)).2
        omega
      obtain ⟨b, hb⟩ : ∃ b, (fallTo D.blocks D.waits keep j)[y.1.toNat]? = some b := ⟨_, List.getElem?_eq_getElem hlb⟩
      have hbS := hd5.b4 b (List.mem_of_getElem? hb)
      obtain ⟨gb, capb, rfl, _, csb, hgb, hleb, hcsb⟩ := row_elem (f := encS) hd5.blocks (fun x hx => rfl) hb
      rw [Nat.mul_one] at hleb hcsb
      have hcb : csb[y.1.toNat]? = some (.string (joined b)) := by
        have := congrArg (fun l => l[0]?) hcsb
        simpa [encS, List.getElem?_take, List.getElem?_drop] using this
      have hn4 := nOf_le keep j
      have e64 : IntKind.wrap .i64 (64 * (nOf keep j : Int)) = 64 * (nOf keep j : Int) := i64w _ (by omega) (by omega)
      try simp only [push_cast]
      refine mR_v (r_loadB _ (by kernel_rfl) hd5.cells rfl) ?_
      try simp only [push_cast]
      refine mR_v (r_loadB _ (by kernel_rfl) hb5 rfl) ?_
      try simp only [push_cast]
      refine mR_v (r_loadB _ (by kernel_rfl) hb5 rfl) ?_
      try simp only [push_cast, e64]
      refine mP_v (fun w => r_sliceSh w Try.underlying9 _ _ (by omega) (by rw [joined_size hyS.1]; omega)) ?_
      refine mR_v (r_loadB _ (by kernel_rfl) hd5.cells rfl) ?_
      try simp only [push_cast]
      refine mR_v (r_loadB _ (by kernel_rfl) hb5 rfl) ?_
      refine mP_v (fun w => r_indexAt w (sz := 1) Try.underlying67 (by kernel_rfl) gb 0 _ capb y.1 hyS.2.1 (by omega)) ?_
      rw [Nat.zero_add, Nat.mul_one]
      refine mR_v (r_loadB _ (by kernel_rfl) hgb hcb) ?_
      try simp only [push_cast, e64]
      refine mP_v (fun w => r_sliceSl w Try.underlying9 _ _ (by omega) (by rw [joined_size hbS]; omega)) ?_
      rw [show (64 * (nOf keep j : Int)).toNat = 64 * nOf keep j from by omega, joined_size hbS, (joined_take hyS.1 hn4).1, (joined_take hbS hn4).2]
      have hmS := mixB_sec hyS.1 hbS hn4
      have hms : (joined (y.2.take (nOf keep j))).size + (joined (b.drop (nOf keep j))).size = 256 := by
        rw [← ByteArray.size_append, joined_append]
        exact joined_size hmS
      refine mP_v (fun w => r_addS w _ _ _ (by omega)) ?_
      rw [joined_append]
      refine mP_v (fun w => r_indexAt w (sz := 1) Try.underlying67 (by kernel_rfl) gb 0 _ capb y.1 hyS.2.1 (by omega)) ?_
      rw [Nat.zero_add, Nat.mul_one]
      refine mN_store1 (by kernel_rfl) hgb (by omega) rfl fun w6 h6 u6 hs6 => ?_
      have hd6 := hd5.putB hgb (by omega) hlb hmS h6 u6 hs6
      try simp only [push_cast]
      rw [i64w ((j : Int) + 1) (by omega) (by omega)]
      have hstep : fallTo D.blocks D.waits keep (j + 1) = (fallTo D.blocks D.waits keep j).set y.1.toNat (mixB y.2 b (nOf keep j)) := by
        conv => lhs; unfold fallTo
        rw [hy]
        show fallOne _ _ _ = _
        unfold fallOne
        rw [List.getD_eq_getElem?_getD, hb]
        rfl
      refine ⟨⟨j + 1, congrArg (Value.int .i64) (by omega), by omega, ?_, ?_, hk5.keep u6 fun k hk e => ?_⟩, by simp only [intOf]; omega⟩
      · rw [hstep]
        have := hd6
        simp only [fallTo_length] at this ⊢
        exact this
      · exact (ur.ext u5).trans u6 (fun _ _ x => x) fun i hi e => by
          rw [e]
          exact h.fpb _ rfl
      · have := h.fpN gb (h.fpb _ rfl)
        omega
    · obtain rfl : j = D.waits.length := by omega
      try simp only [push_cast]
      refine mN_store1 (by kernel_rfl) hd.cells (by simp) rfl fun w1 h1 u1 s1 => ?_
      try simp only [push_cast]
      refine mN_store1 (by kernel_rfl) h1 (by simp) rfl fun w2 h2 u2 s2 => ?_
      try simp only [push_cast]
      refine mN_store1 (by kernel_rfl) h2 (by simp) rfl fun w3 h3 u3 s3 => ?_
      try simp only [push_cast]
      have u13 : Upd wr w3 (· = p) := (u1.then u2).then u3
      have hs13 : w3.heap.size = wr.heap.size := by omega
      refine k w3 ⟨h3, ?_, ?_, ?_, h.fpp, h.fpb, fun k hk => (by cases hk), h.fpN, fun k hk => (by rw [hs13]; exact hd.fplt k hk), hd.b4, fun x hx => (by cases hx), hd.bn⟩ (ur.trans u13 (fun _ _ x => x) fun i hi e => by rw [e]; exact h.fpp)
      · exact hd.blocks.keep u13 fun k hf e => row_ne hd.blocks hd.cells (by decide) (e ▸ hf)
      · exact Row.nil _ _ _
      · exact hd.keep.keep u13 fun k hf e => by have := h.fpN p h.fpp; omega

theorem rgoes_c (h : RefAt w p fp N D vb vw vk) (ha : D.after ≤ 9223372036854775807) (k : ∀ w' vw', RefAt w' p fp N D.goes.2 vb vw' vk → Upd w w' fp → K (.int .i64 (D.goes.1.getD 0)) w') : mCall Try.prog 91 #[dptr p] w K := by
  refine ⟨ok91 ?_⟩
  unfold sh91 dptr
  try simp only [push_cast]
  refine mN_v (r_loadB _ (by kernel_rfl) h.cells rfl) ?_
  try simp only [push_cast]
  cases har : D.armed with
  | false =>
    have e : D.goes = (none, D) := by simp [DM.goes, har]
    rw [e] at k
    try simp only [push_cast, Bool.not_false]
    exact k w vw h (Upd.refl _ _)
  | true =>
    try simp only [push_cast, Bool.not_true]
    refine mN_v (r_loadB _ (by kernel_rfl) h.cells rfl) ?_
    try simp only [push_cast]
    refine mIf_dec (fun h0 => ?_) fun h0 => ?_
    · have e : D.goes = (none, { D with after := D.after - 1 }) := by simp [DM.goes, har, h0]
      rw [e] at k
      refine mN_v (r_loadB _ (by kernel_rfl) h.cells rfl) ?_
      try simp only [push_cast]
      rw [i64w (D.after - 1) (by omega) (by omega)]
      refine mN_store1 (by kernel_rfl) h.cells (by simp) rfl fun w1 h1 u1 s1 => ?_
      exact k w1 vw (h.put (D' := { D with after := D.after - 1 }) rfl rfl rfl u1 s1 h1) (u1.mono fun i _ e => by rw [e]; exact h.fpp)
    · refine mN_store1 (by kernel_rfl) h.cells (by simp) rfl fun w1 h1 u1 s1 => ?_
      have hd1 := h.put (D' := { D with armed := false }) rfl rfl rfl u1 s1 h1
      try simp only [push_cast]
      refine mN_v (r_loadB _ (by kernel_rfl) hd1.cells rfl) ?_
      try simp only [push_cast]
      cases hc : D.cut with
      | false =>
        have e : D.goes = (some 270, { D with armed := false }) := by simp [DM.goes, har, h0, hc]
        rw [e] at k
        try simp only [push_cast]
        exact k w1 vw hd1 (u1.mono fun i _ e => by rw [e]; exact h.fpp)
      | true =>
        have e : D.goes = (some 271, { D with armed := false }.fall D.keep) := by simp [DM.goes, har, h0, hc]
        rw [e] at k
        try simp only [push_cast]
        refine mN_v (r_loadB _ (by kernel_rfl) hd1.cells rfl) ?_
        refine rfall_c hd1 hd1.keep fun w2 hd2 u2 => ?_
        exact k w2 _ hd2 (u1.trans u2 (fun i _ e => by rw [e]; exact h.fpp) fun _ _ x => x)

theorem rread_c (h : RefAt w p fp N D vb vw vk) (i : Int) (k : ∀ w', Ext w w' → K (.tuple #[.string (D.read i).1, .int .i64 (D.read i).2]) w') : mCall Try.prog 96 #[dptr p, .int .i64 i] w K := by
  have hwn : D.waits.length ≤ 9223372036854775807 := Row.small h.waits
  unfold DM.read at k
  refine ⟨ok96 ?_⟩
  unfold sh96 dptr
  try simp only [push_cast]
  refine mIf_dec (fun h0 => ?_) fun h0 => ?_
  · rw [if_pos (by omega)] at k
    exact k w (Upd.refl _ _)
  refine mN_v (r_loadB _ (by kernel_rfl) h.cells rfl) ?_
  obtain ⟨A, c, rfl⟩ := h.blocks.slice
  try simp only [push_cast]
  refine mIf_dec (fun h1 => ?_) fun h1 => ?_
  · rw [if_pos (by omega)] at k
    exact k w (Upd.refl _ _)
  rw [if_neg (by omega)] at k
  refine mN_v (r_loadB _ (by kernel_rfl) h.cells rfl) ?_
  cases hd : D.down with
  | true =>
    rw [if_pos hd] at k
    try simp only [push_cast]
    exact k w (Upd.refl _ _)
  | false =>
    rw [if_neg (by simp [hd])] at k
    try simp only [push_cast]
    refine mN_v (r_loadB _ (by kernel_rfl) h.cells rfl) ?_
    obtain ⟨b, hb⟩ : ∃ b, D.blocks[i.toNat]? = some b := ⟨_, List.getElem?_eq_getElem (by omega)⟩
    rw [List.getD_eq_getElem?_getD, hb] at k
    obtain ⟨gb, capb, hA, _, csb, hgb, hleb, hcsb⟩ := row_elem (f := encS) h.blocks (fun x hx => rfl) hb
    injection hA with hA _ _
    subst hA
    rw [Nat.mul_one] at hleb hcsb
    have hcb : csb[i.toNat]? = some (.string (joined b)) := by
      have := congrArg (fun l => l[0]?) hcsb
      simpa [encS, List.getElem?_take, List.getElem?_drop] using this
    refine mN_v (r_indexAt w (sz := 1) Try.underlying67 (by kernel_rfl) gb 0 _ c i (by omega) (by omega)) ?_
    rw [Nat.zero_add, Nat.mul_one]
    refine mN_v (r_loadB _ (by kernel_rfl) hgb hcb) ?_
    try simp only [push_cast]
    refine mN_v (r_loadB _ (by kernel_rfl) h.cells rfl) ?_
    obtain ⟨A2, c2, rfl⟩ := h.waits.slice
    try simp only [push_cast]
    refine mLoop2.mk (fun x y wr => ∃ j : Nat, x = .string (joined (lastW i b (D.waits.take j))) ∧ y = .int .i64 j ∧ j ≤ D.waits.length ∧ Ext w wr) (fun _ y _ => D.waits.length - (intOf y).toNat) ?_ ?_
    · exact ⟨0, by simp [lastW], rfl, Nat.zero_le _, Upd.refl _ _⟩
    · rintro x y wr ⟨j, rfl, rfl, hj, ur⟩
      try simp only [push_cast]
      refine mIf_dec (fun hlt => ?_) fun hlt => ?_
      · obtain ⟨y, hy⟩ : ∃ y, D.waits[j]? = some y := ⟨_, List.getElem?_eq_getElem (by omega)⟩
        have hd' := h.ext ur
        obtain ⟨g', cap', hA, _, cs', hg', hle', hcs'⟩ := row_elem (f := encR) hd'.waits (fun x hx => rfl) hy
        injection hA with hA _ _
        subst hA
        refine mN_v (r_indexAt wr (sz := 2) Try.underlying103 (by kernel_rfl) g' 0 D.waits.length c2 j (by omega) (by omega)) ?_
        rw [Nat.zero_add, Int.toNat_natCast]
        refine mN_v (r_loadN wr (n := 2) (by kernel_rfl) (by kernel_rfl) hg' hle') ?_
        rw [hcs']
        refine mN_new (zero150 wr) fun w3 hb3 hu3 hs3 => ?_
        refine mN_storeN (by kernel_rfl) hb3 (by simp [encR]) encR_one fun w4 hb4' hu4 hs4 => ?_
        rw [splice_all _ _ (by simp [encR])] at hb4'
        have u4 : Ext w w4 := (ur.ext hu3).trans hu4 (fun _ _ x => x) fun i hi e => by have := ur.size; omega
        try simp only [push_cast]
        refine mN_v (r_loadB _ (by kernel_rfl) hb4' rfl) ?_
        try simp only [push_cast]
        rw [i64w ((j : Int) + 1) (by omega) (by omega)]
        have hsn := lastW_snoc i b (D.waits.take j) y
        have hmu : ∀ q : Nat, j + 1 = q → D.waits.length - (intOf (.int .i64 (q : Int))).toNat < D.waits.length - (intOf (.int .i64 (j : Int))).toNat := by
          intro q hq
          simp only [intOf, Int.toNat_natCast]
          omega
        by_cases hyi : y.1 = i
        · rw [show (y.1 == i) = true from by simpa using hyi]
          try simp only [push_cast]
          refine mN_v (r_loadB _ (by kernel_rfl) hb4' rfl) ?_
          refine ⟨⟨j + 1, ?_, congrArg (Value.int .i64) (by omega), by omega, u4⟩, hmu _ rfl⟩
          rw [take_snoc hy, hsn, if_pos hyi]
        · rw [show (y.1 == i) = false from by simpa using hyi]
          try simp only [push_cast]
          refine ⟨⟨j + 1, ?_, congrArg (Value.int .i64) (by omega), by omega, u4⟩, hmu _ rfl⟩
          rw [take_snoc hy, hsn, if_neg hyi]
      · have hj' : D.waits.take j = D.waits := List.take_of_length_le (by omega)
        rw [hj']
        exact k wr ur
end
end Go.Proofs.Ythgopkppmppdoaa
