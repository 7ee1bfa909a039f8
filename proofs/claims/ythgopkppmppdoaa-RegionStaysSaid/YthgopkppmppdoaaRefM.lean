/-
  The reference's disk: the same model, its blocks and its writes as texts.
-/
import Derived.Test.YthgopkppmppdoaaLaw27a
set_option linter.unusedVariables false
set_option linter.unusedSimpArgs false
set_option maxRecDepth 20000
namespace Go.Proofs.Ythgopkppmppdoaa
open Go Go.Proofs Go.Vc
open Go.RowKit (Below intOf)

def encS (b : List ByteArray) : List Value := [.string (joined b)]
def encR (x : Int × List ByteArray) : List Value := [.int .i64 x.1, .string (joined x.2)]
theorem encS_len {b : List ByteArray} : (encS b).length = 1 := rfl
theorem encR_len {x : Int × List ByteArray} : (encR x).length = 2 := rfl
theorem encS_one {b : List ByteArray} : ∀ v ∈ encS b, v.oneCell' = true := by
  intro v hv
  rw [encS, List.mem_singleton] at hv
  subst hv
  rfl
theorem encR_one {x : Int × List ByteArray} : ∀ v ∈ encR x, v.oneCell' = true := by
  intro v hv
  simp only [encR, List.mem_cons, List.not_mem_nil, or_false] at hv
  rcases hv with rfl | rfl <;> rfl

structure RefAt (w : World) (p : Nat) (fp : Nat → Prop) (N : Nat) (D : DM) (vb vw vk : Value) : Prop where
  cells : Blk w p 106 [vb, vw, .bool D.down, .bool D.armed, .int .i64 D.after, .bool D.cut, vk]
  blocks : Row w 9 1 vb D.blocks.length (D.blocks.flatMap encS)
  waits : Row w 150 2 vw D.waits.length (D.waits.flatMap encR)
  keep : Ints w vk D.keep (· < N)
  fpp : fp p
  fpb : ∀ k, Fp vb k → fp k
  fpw : ∀ k, Fp vw k → fp k
  fpN : ∀ k, fp k → N ≤ k
  fplt : ∀ k, fp k → k < w.heap.size
  b4 : ∀ b ∈ D.blocks, Sec b
  w4 : ∀ x ∈ D.waits, Sec x.2 ∧ 0 ≤ x.1 ∧ x.1 < D.blocks.length
  bn : D.blocks.length ≤ 128

def IsRef (w : World) (p : Nat) (fp : Nat → Prop) (N : Nat) (D : DM) : Prop := (∃ vb vw vk, RefAt w p fp N D vb vw vk) ∧ D.after ≤ 9223372036854775807

section
variable {w : World} {K : Value → World → Prop} {p N : Nat} {fp fk : Nat → Prop} {D : DM} {vb vw vk v : Value} {keep : List Int}

theorem RefAt.stay {w' : World} {F : Nat → Prop} (h : RefAt w p fp N D vb vw vk) (u : Upd w w' F) (hn : ∀ k, fp k → ¬ F k) (hN : ∀ k, k < N → ¬ F k) : RefAt w' p fp N D vb vw vk :=
  ⟨h.cells.keep u (hn p h.fpp), h.blocks.keep u fun k hk => hn k (h.fpb k hk), h.waits.keep u fun k hk => hn k (h.fpw k hk), h.keep.keep u hN, h.fpp, h.fpb, h.fpw, h.fpN,
    fun k hk => Nat.lt_of_lt_of_le (h.fplt k hk) u.size, h.b4, h.w4, h.bn⟩
theorem RefAt.ext {w' : World} (h : RefAt w p fp N D vb vw vk) (u : Ext w w') : RefAt w' p fp N D vb vw vk := h.stay u (fun _ _ => id) fun _ _ => id

/-- A store into a disk's own cells. -/
theorem RefAt.put {w' : World} (h : RefAt w p fp N D vb vw vk) {D' : DM} (hb : D'.blocks = D.blocks) (hw : D'.waits = D.waits) (hk : D'.keep = D.keep) (u : Upd w w' (· = p)) (hs : w'.heap.size = w.heap.size)
    (hc : Blk w' p 106 [vb, vw, .bool D'.down, .bool D'.armed, .int .i64 D'.after, .bool D'.cut, vk]) : RefAt w' p fp N D' vb vw vk := by
  refine ⟨hc, ?_, ?_, ?_, h.fpp, h.fpb, h.fpw, h.fpN, fun k hk => (by rw [hs]; exact h.fplt k hk), by rw [hb]; exact h.b4, by rw [hb, hw]; exact h.w4, by rw [hb]; exact h.bn⟩
  · rw [hb]
    exact h.blocks.keep u fun k hf e => row_ne h.blocks h.cells (by decide) (e ▸ hf)
  · rw [hw]
    exact h.waits.keep u fun k hf e => row_ne h.waits h.cells (by decide) (e ▸ hf)
  · rw [hk]
    exact h.keep.keep u fun k hf e => by have := h.fpN p h.fpp; omega

theorem set_splice {cs : List Value} {i : Nat} {v : Value} (h : i < cs.length) : cs.set i v = splice cs (i * 1) [v] := by
  rw [Nat.mul_one, List.set_eq_take_append_cons_drop, if_pos h]
  simp [splice]

/-- One of a disk's blocks is written. -/
theorem RefAt.putB {w' : World} {gb cap i : Nat} {csb : List Value} {b : List ByteArray} (h : RefAt w p fp N D (.slice (some ⟨gb, 0, none⟩) D.blocks.length cap) vw vk) (hgb : Blk w gb 9 csb) (hl : i < csb.length) (hi : i < D.blocks.length) (hb : Sec b)
    (h1 : Blk w' gb 9 (csb.set i (.string (joined b)))) (u : Upd w w' (· = gb)) (hs : w'.heap.size = w.heap.size) :
    RefAt w' p fp N { D with blocks := D.blocks.set i b } (.slice (some ⟨gb, 0, none⟩) D.blocks.length cap) vw vk := by
  refine ⟨h.cells.keep u fun e => ?_, ?_, h.waits.keep u fun k hk e => ?_, h.keep.keep u fun k hk e => ?_, h.fpp, h.fpb, h.fpw, h.fpN, fun k hk => by rw [hs]; exact h.fplt k hk, sec_set h.b4 hb, fun x hx => ?_, ?_⟩
  · exact (hgb.ne_type h.cells (by decide)) e.symm
  · rw [set_splice hl] at h1
    exact row_store h.blocks hgb (fun x hx => rfl) hi rfl h1
  · exact row_ne h.waits hgb (by decide) (e ▸ hk)
  · have := h.fpN gb (h.fpb gb rfl)
    omega
  · show Sec x.2 ∧ 0 ≤ x.1 ∧ x.1 < (D.blocks.set i b).length
    rw [List.length_set]
    exact h.w4 x hx
  · show (D.blocks.set i b).length ≤ 128
    rw [List.length_set]
    exact h.bn

theorem zero150 (w : World) : (Instr.alloc 150 true (.tuple #[])).run Try.prog w = .ok (.pointer (some ⟨w.heap.size, 0, none⟩)) (w.alloc (.cells #[.int .i64 0, .string ⟨#[]⟩] 150 (0, 0))) := by kernel_rfl

theorem joined_zeroB : joined zeroB = zeroS := joined_cutS zeroS_size

theorem rnew_c (n : Nat) (hn : n ≤ 128) (hN : N ≤ w.heap.size) (k : ∀ w' p fp, IsRef w' p fp N (DM.new n) → Ext w w' → (∀ k, fp k → w.heap.size ≤ k) → K (dptr p) w') : mCall Try.prog 24 #[.int .i64 n] w K := by
  refine ⟨ok24 ?_⟩
  unfold sh24
  refine mLoop2.mk (fun x y wr => ∃ j : Nat, x = .string ⟨(List.replicate j (0 : UInt8)).toArray⟩ ∧ y = .int .i64 j ∧ j ≤ 256 ∧ wr = w) (fun _ y _ => 256 - (intOf y).toNat) ?_ ?_
  · exact ⟨0, rfl, rfl, by omega, rfl⟩
  rintro x y wr ⟨j, rfl, rfl, hj, rfl⟩
  try simp only [push_cast]
  refine mIf_dec (fun hlt => ?_) fun hlt => ?_
  · have hsz : (⟨(List.replicate j (0 : UInt8)).toArray⟩ : ByteArray).size = j := by
      show (List.toArray _).size = _
      simp
    refine mN_v (r_addS _ _ _ _ (by rw [hsz]; show j + 1 ≤ _; omega)) ?_
    try simp only [push_cast]
    rw [i64w ((j : Int) + 1) (by omega) (by omega)]
    refine ⟨⟨j + 1, ?_, congrArg (Value.int .i64) (by omega), by omega, trivial⟩, by simp only [intOf]; omega⟩
    congr 1
    apply ByteArray.ext
    rw [ByteArray.data_append]
    show (List.replicate j (0 : UInt8)).toArray ++ [0].toArray = _
    rw [List.append_toArray, List.replicate_succ']
  obtain rfl : j = 256 := by omega
  have hb : (Instr.build 106 #[]).run Try.prog wr = .ok (.agg #[.slice none 0 0, .slice none 0 0, .bool false, .bool false, .int .i64 0, .bool false, .slice none 0 0]) wr := by kernel_rfl
  refine mN_v hb ?_
  have hbox : (Instr.box 106 (.agg #[.slice none 0 0, .slice none 0 0, .bool false, .bool false, .int .i64 0, .bool false, .slice none 0 0])).run Try.prog wr =
      .ok (.pointer (some ⟨wr.heap.size, 0, none⟩)) (wr.alloc (.cells #[.slice none 0 0, .slice none 0 0, .bool false, .bool false, .int .i64 0, .bool false, .slice none 0 0] 106 (0, 0))) := by kernel_rfl
  refine mN_new hbox fun w1 h1 u1 s1 => ?_
  have hz : (⟨(List.replicate 256 (0 : UInt8)).toArray⟩ : ByteArray) = zeroS := rfl
  rw [hz]
  refine mLoop1.mk (fun x w2 => ∃ j : Nat, x = .int .i64 j ∧ j ≤ n ∧ Ext wr w2 ∧ ∃ vb, RefAt w2 wr.heap.size (fun k => k = wr.heap.size ∨ Fp vb k) N (DM.new j) vb (.slice none 0 0) (.slice none 0 0) ∧ ∀ k, Fp vb k → wr.heap.size ≤ k) (fun x _ => n - (intOf x).toNat) ?_ ?_
  · have hnil : Ints w1 (.slice none 0 0) [] (· < N) := ⟨none, 0, rfl, Nat.zero_le _, fun h => by simp at h⟩
    refine ⟨0, rfl, by omega, u1, .slice none 0 0, ⟨h1, Row.nil _ _ _, Row.nil _ _ _, hnil, .inl rfl, fun k hk => .inr hk, fun k hk => (by cases hk), fun k hk => ?_, fun k hk => ?_, fun b hb => (by cases hb), fun x hx => (by cases hx), by decide⟩, fun k hk => by cases hk⟩
    · rcases hk with rfl | hk
      · exact hN
      · cases hk
    · rcases hk with rfl | hk
      · omega
      · cases hk
  · rintro x w2 ⟨j, rfl, hj, u2, vb, h2, y2⟩
    try simp only [push_cast]
    refine mIf_dec (fun hlt => ?_) fun hlt => ?_
    · refine mN_v (r_loadB _ (by kernel_rfl) h2.cells rfl) ?_
      have hsl : (Instr.buildSlice 67 1 #[(0, .string zeroS)]).run Try.prog w2 = .ok (.slice (some ⟨w2.heap.size, 0, none⟩) 1 1) (w2.alloc (.cells #[.string zeroS] 9 (0, 0))) := by kernel_rfl
      refine mN_new hsl fun w3 h3 u3 s3 => ?_
      have hd3 := h2.ext u3
      have hl : (DM.new j).blocks.length = j := by simp [DM.new]
      refine mN_append (z := .string ⟨#[]⟩) (sz := 1) (bytes := 16) Try.underlying67 (by kernel_rfl) (by kernel_rfl) (by omega) hd3.blocks (ys := [.string zeroS]) (by simp) (fun j u hu => h3.cell (by simpa using hu)) (fun u hu => by rw [List.mem_singleton] at hu; subst hu; rfl)
        (by rw [hl]; omega) (by rw [hl]; omega) fun vb4 w4 hr4 u4 y4 => ?_
      have hne4 : ¬ Fp vb wr.heap.size := row_ne hd3.blocks hd3.cells (by decide)
      have hc4 := hd3.cells.keep u4 hne4
      have ho : vb4.oneCell' = true := by
        obtain ⟨A, c, rfl⟩ := hr4.slice
        rfl
      try simp only [push_cast]
      refine mN_store1 (by kernel_rfl) hc4 (by simp) ho fun w5 h5 u5 s5 => ?_
      try simp only [push_cast]
      rw [i64w ((j : Int) + 1) (by omega) (by omega)]
      have y4' : ∀ k, Fp vb4 k → wr.heap.size ≤ k := fun k hk => (y4 k hk).elim (y2 k) fun h => by have := u2.size; have := u3.size; omega
      have hlen : (DM.new j).blocks.length + 1 = (DM.new (j + 1)).blocks.length := by simp [DM.new]
      have hfl : (DM.new j).blocks.flatMap encS ++ [.string zeroS] = (DM.new (j + 1)).blocks.flatMap encS := by
        show (List.replicate j zeroB).flatMap encS ++ _ = (List.replicate (j + 1) zeroB).flatMap encS
        rw [List.replicate_succ', List.flatMap_append]
        simp [encS, joined_zeroB]
      rw [hlen, hfl] at hr4
      refine ⟨⟨j + 1, congrArg (Value.int .i64) (by omega), by omega, ?_, vb4, ⟨h5, ?_, Row.nil _ _ _, ?_, .inl rfl, fun k hk => .inr hk, fun k hk => (by cases hk), fun k hk => ?_, fun k hk => ?_, fun b hb => ?_, fun x hx => (by cases hx), ?_⟩, y4'⟩, by simp only [intOf]; omega⟩
      · refine ((u2.ext u3).young u4 fun i hi => .inr (y2 i hi)).trans u5 (fun _ _ x => x) fun i hi e => by omega
      · exact hr4.keep u5 fun k hf e => row_ne hr4 hc4 (by decide) (e ▸ hf)
      · exact (hd3.keep.keep u4 fun k hk hf => by have := y2 k hf; omega).keep u5 fun k hk e => by omega
      · rcases hk with rfl | hk
        · exact hN
        · have := y4' k hk; omega
      · rcases hk with rfl | hk
        · rw [s5]; exact hc4.lt
        · rw [s5]; exact hr4.lt hk
      · rw [List.eq_of_mem_replicate hb]
        exact zeroB_sec
      · rw [← hlen, hl]; omega
    · obtain rfl : j = n := by omega
      refine k w2 wr.heap.size (fun k => k = wr.heap.size ∨ Fp vb k) ⟨⟨_, _, _, h2⟩, by show (0 : Int) ≤ _; omega⟩ u2 fun k hk => ?_
      rcases hk with rfl | hk
      · omega
      · exact y2 k hk
end
end Go.Proofs.Ythgopkppmppdoaa

/-
  The reference's disk: the power goes, an arm goes off, reading.
-/
set_option linter.unusedVariables false
set_option linter.unusedSimpArgs false
set_option maxRecDepth 20000
namespace Go.Proofs.Ythgopkppmppdoaa
open Go Go.Proofs Go.Vc
open Go.RowKit (Below intOf)

/-- The bytes of sectors, cut behind some of them. -/
theorem joined_take {b : List ByteArray} (h : Sec b) {n : Nat} (hn : n ≤ 4) : (joined b).extract 0 (64 * n) = joined (b.take n) ∧ (joined b).extract (64 * n) 256 = joined (b.drop n) := by
  obtain ⟨h4, hs⟩ := h
  have hl : ((b.map fun x => x.data.toList).flatten) = ((b.take n).map fun x => x.data.toList).flatten ++ ((b.drop n).map fun x => x.data.toList).flatten := by
    rw [← List.flatten_append, ← List.map_append, List.take_append_drop]
  have ht : (((b.take n).map fun x => x.data.toList).flatten).length = 64 * n := by
    rw [joined_len _ fun s hs' => hs s (List.mem_of_mem_take hs'), List.length_take]
    omega
  have hd : (((b.drop n).map fun x => x.data.toList).flatten).length = 256 - 64 * n := by
    rw [joined_len _ fun s hs' => hs s (List.mem_of_mem_drop hs'), List.length_drop]
    omega
  constructor
  · apply ByteArray.ext
    rw [ByteArray.data_extract]
    show (List.toArray _).extract 0 (64 * n) = List.toArray _
    rw [hl, List.extract_toArray, List.extract_eq_take_drop, List.drop_zero, Nat.sub_zero, List.take_append_of_le_length (by omega), List.take_of_length_le (by omega)]
  · apply ByteArray.ext
    rw [ByteArray.data_extract]
    show (List.toArray _).extract (64 * n) 256 = List.toArray _
    rw [hl, List.extract_toArray, List.extract_eq_take_drop, List.drop_append_of_le_length (by omega), List.drop_of_length_le (by omega), List.nil_append, List.take_of_length_le (by omega)]
theorem joined_append (a b : List ByteArray) : joined a ++ joined b = joined (a ++ b) := by
  apply ByteArray.ext
  rw [ByteArray.data_append]
  show List.toArray _ ++ List.toArray _ = List.toArray _
  rw [List.append_toArray, List.map_append, List.flatten_append]

section
variable {w : World} {K : Value → World → Prop} {p N : Nat} {fp fk : Nat → Prop} {D : DM} {vb vw vk v : Value} {keep : List Int}

/-- How many sectors of a write last. -/
theorem rmany_c {A : Option Addr} {c : Nat} (hk : Ints w (.slice A keep.length c) keep fk) (j : Nat) (hj : j ≤ 9223372036854775807) {R : Value → World → Prop} (k : R (.int .i64 (nOf keep j)) w) :
    mJ (fun (J : Value → World → Prop) => mIf (.bool (decide ((j : Int) < (keep.length : Nat)))) (mN Try.prog (vS (Instr.indexAt 35 (.slice A keep.length c) (.int .i64 j))) w fun t24 w =>
      mN Try.prog (vS (Instr.loadAt 3 t24)) w fun t25 w => mN Try.prog (vS (binOp .gtr 3 t25 (.int .i64 0))) w fun t26 w => J t26 w) (J (.bool false) w))
    (fun t27 w => mJ (fun (J : Value → World → Prop) => mIf t27 (mN Try.prog (vS (Instr.indexAt 35 (.slice A keep.length c) (.int .i64 j))) w fun t30 w =>
      mN Try.prog (vS (Instr.loadAt 3 t30)) w fun t31 w => J t31 w) (J (.int .i64 0) w))
    (fun t6 w => mN Try.prog (vS (binOp .gtr 3 t6 (.int .i64 4))) w fun t33 w => mJ (fun (J : Value → World → Prop) => mIf t33 (J (.int .i64 4) w) (J t6 w)) R)) := by
  rw [mJ_eq]
  refine mIf_dec (fun hlt => ?_) fun hlt => ?_
  · obtain ⟨x, hx⟩ : ∃ x, keep[j]? = some x := ⟨_, List.getElem?_eq_getElem (by omega)⟩
    obtain ⟨_, b, o, rfl, _, cs, hcl, hc, rfl⟩ := Arr.at_ hk hx
    have e : ((nOf keep j : Nat) : Int) = (min (max x 0) 4) := by
      unfold nOf
      rw [hx]
      show ((min (max x 0) 4).toNat : Int) = _
      omega
    rw [e] at k
    have hi := r_indexAt w (sz := 1) Try.underlying35 (by kernel_rfl) b o keep.length c j (by omega) (by omega)
    refine mN_v hi ?_
    rw [Int.toNat_natCast]
    refine mN_v (r_load1 w (by kernel_rfl) (hc 0 _ rfl)) ?_
    try simp only [push_cast, mJ_eq]
    refine mIf_dec (fun h0 => ?_) fun h0 => ?_
    · refine mN_v hi ?_
      rw [Int.toNat_natCast]
      refine mN_v (r_load1 w (by kernel_rfl) (hc 0 _ rfl)) ?_
      try simp only [push_cast]
      refine mIf_dec (fun h4 => ?_) fun h4 => ?_
      · rw [show min (max x 0) 4 = 4 from by omega] at k
        exact k
      · rw [show min (max x 0) 4 = x from by omega] at k
        exact k
    · try simp only [push_cast]
      rw [show min (max x 0) 4 = 0 from by omega] at k
      exact k
  · have : nOf keep j = 0 := by
      unfold nOf
      rw [List.getElem?_eq_none (by omega)]
    rw [this] at k
    try simp only [push_cast, mJ_eq]
    exact k

theorem rfall_c (h : RefAt w p fp N D vb vw vk) (hk : Ints w v keep (· < N))
    (k : ∀ w', RefAt w' p fp N (D.fall keep) vb (.slice none 0 0) vk → Upd w w' fp → K (.tuple #[]) w') : mCall Try.prog 118 #[dptr p, v] w K := by
  have hwn : D.waits.length ≤ 9223372036854775807 := Row.small h.waits
  refine ⟨ok118 ?_⟩
  unfold sh118 dptr
  try simp only [push_cast]
  refine mN_v (r_loadB _ (by kernel_rfl) h.cells rfl) ?_
  obtain ⟨A, c, rfl⟩ := h.waits.slice
  obtain ⟨A2, c2, rfl⟩ := Arr.slice hk
  try simp only [push_cast]
  refine mLoop1.mk (fun x wr => ∃ j : Nat, x = .int .i64 j ∧ j ≤ D.waits.length ∧ RefAt wr p fp N { D with blocks := fallTo D.blocks D.waits keep j } vb (.slice A D.waits.length c) vk ∧ Upd w wr fp ∧ Ints wr (.slice A2 keep.length c2) keep (· < N)) (fun x _ => D.waits.length - (intOf x).toNat) ?_ ?_
  · exact ⟨0, rfl, Nat.zero_le _, h, Upd.refl _ _, hk⟩
  · rintro x wr ⟨j, rfl, hj, hd, ur, hkr⟩
    try simp only [push_cast]
    refine mIf_dec (fun hlt => ?_) fun hlt => ?_
    · obtain ⟨y, hy⟩ : ∃ y, D.waits[j]? = some y := ⟨_, List.getElem?_eq_getElem (by omega)⟩
      have hyS := hd.w4 y (List.mem_of_getElem? hy)
      obtain ⟨g', cap', hA, _, cs', hg', hle', hcs'⟩ := row_elem (f := encR) hd.waits (fun x hx => rfl) hy
      injection hA with hA _ _
      subst hA
      refine mN_v (r_indexAt wr (sz := 2) Try.underlying103 (by kernel_rfl) g' 0 D.waits.length c j (by omega) (by omega)) ?_
      rw [Nat.zero_add, Int.toNat_natCast]
      refine mN_v (r_loadN wr (n := 2) (by kernel_rfl) (by kernel_rfl) hg' hle') ?_
      rw [hcs']
      refine mN_new (zero150 wr) fun w3 hb3 hu3 hs3 => ?_
      refine mN_storeN (by kernel_rfl) hb3 (by simp [encR]) encR_one fun w4 hb4' hu4 hs4 => ?_
      rw [splice_all _ _ (by simp [encR])] at hb4'
      have u4 : Ext wr w4 := hu3.trans hu4 (fun _ _ x => x) fun i hi e => by omega
      have hd4 := hd.ext u4
      have hk4 := hkr.keep u4 fun _ _ => id
      try simp only [push_cast]
      refine rmany_c hk4 j (by omega) ?_
      unfold mDrew
      have hd5 := hd4.ext (Upd.drew w4 _)
      have hk5 := hk4.keep (Upd.drew w4 _) (fun _ _ => id)
      have hb5 : Blk w4.drew wr.heap.size 150 (encR y) := hb4'
      generalize hw5 : w4.drew = w5 at hd5 hk5 hb5
      have u5 : Ext wr w5 := hw5 ▸ u4.drewn
      have hlb : y.1.toNat < (fallTo D.blocks D.waits keep j).length := by
        rw [fallTo_length]
        have := (h.w4 y (List.mem_of_getElem? hy)).2
        omega
      obtain ⟨b, hb⟩ : ∃ b, (fallTo D.blocks D.waits keep j)[y.1.toNat]? = some b := ⟨_, List.getElem?_eq_getElem hlb⟩
      have hbS := hd5.b4 b (List.mem_of_getElem? hb)
      obtain ⟨gb, capb, rfl, _, csb, hgb, hleb, hcsb⟩ := row_elem (f := encS) hd5.blocks (fun x hx => rfl) hb
      rw [Nat.mul_one] at hleb hcsb
      have hcb : csb[y.1.toNat]? = some (.string (joined b)) := by
        have := congrArg (fun l => l[0]?) hcsb
        simpa [encS, List.getElem?_take, List.getElem?_drop] using this
      have hn4 := nOf_le keep j
      have e64 : IntKind.wrap .i64 (64 * (nOf keep j : Int)) = 64 * (nOf keep j : Int) := i64w _ (by omega) (by omega)
      try simp only [push_cast]
      refine mR_v (r_loadB _ (by kernel_rfl) hd5.cells rfl) ?_
      try simp only [push_cast]
      refine mR_v (r_loadB _ (by kernel_rfl) hb5 rfl) ?_
      try simp only [push_cast]
      refine mR_v (r_loadB _ (by kernel_rfl) hb5 rfl) ?_
      try simp only [push_cast, e64]
      refine mP_v (fun w => r_sliceSh w Try.underlying9 _ _ (by omega) (by rw [joined_size hyS.1]; omega)) ?_
      refine mR_v (r_loadB _ (by kernel_rfl) hd5.cells rfl) ?_
      try simp only [push_cast]
      refine mR_v (r_loadB _ (by kernel_rfl) hb5 rfl) ?_
      refine mP_v (fun w => r_indexAt w (sz := 1) Try.underlying67 (by kernel_rfl) gb 0 _ capb y.1 hyS.2.1 (by omega)) ?_
      rw [Nat.zero_add, Nat.mul_one]
      refine mR_v (r_loadB _ (by kernel_rfl) hgb hcb) ?_
      try simp only [push_cast, e64]
      refine mP_v (fun w => r_sliceSl w Try.underlying9 _ _ (by omega) (by rw [joined_size hbS]; omega)) ?_
      rw [show (64 * (nOf keep j : Int)).toNat = 64 * nOf keep j from by omega, joined_size hbS, (joined_take hyS.1 hn4).1, (joined_take hbS hn4).2]
      have hmS := mixB_sec hyS.1 hbS hn4
      have hms : (joined (y.2.take (nOf keep j))).size + (joined (b.drop (nOf keep j))).size = 256 := by
        rw [← ByteArray.size_append, joined_append]
        exact joined_size hmS
      refine mP_v (fun w => r_addS w _ _ _ (by omega)) ?_
      rw [joined_append]
      refine mP_v (fun w => r_indexAt w (sz := 1) Try.underlying67 (by kernel_rfl) gb 0 _ capb y.1 hyS.2.1 (by omega)) ?_
      rw [Nat.zero_add, Nat.mul_one]
      refine mN_store1 (by kernel_rfl) hgb (by omega) rfl fun w6 h6 u6 hs6 => ?_
      have hd6 := hd5.putB hgb (by omega) hlb hmS h6 u6 hs6
      try simp only [push_cast]
      rw [i64w ((j : Int) + 1) (by omega) (by omega)]
      have hstep : fallTo D.blocks D.waits keep (j + 1) = (fallTo D.blocks D.waits keep j).set y.1.toNat (mixB y.2 b (nOf keep j)) := by
        conv => lhs; unfold fallTo
        rw [hy]
        show fallOne _ _ _ = _
        unfold fallOne
        rw [List.getD_eq_getElem?_getD, hb]
        rfl
      refine ⟨⟨j + 1, congrArg (Value.int .i64) (by omega), by omega, ?_, ?_, hk5.keep u6 fun k hk e => ?_⟩, by simp only [intOf]; omega⟩
      · rw [hstep]
        have := hd6
        simp only [fallTo_length] at this ⊢
        exact this
      · exact (ur.ext u5).trans u6 (fun _ _ x => x) fun i hi e => by
          rw [e]
          exact h.fpb _ rfl
      · have := h.fpN gb (h.fpb _ rfl)
        omega
    · obtain rfl : j = D.waits.length := by omega
      try simp only [push_cast]
      refine mN_store1 (by kernel_rfl) hd.cells (by simp) rfl fun w1 h1 u1 s1 => ?_
      try simp only [push_cast]
      refine mN_store1 (by kernel_rfl) h1 (by simp) rfl fun w2 h2 u2 s2 => ?_
      try simp only [push_cast]
      refine mN_store1 (by kernel_rfl) h2 (by simp) rfl fun w3 h3 u3 s3 => ?_
      try simp only [push_cast]
      have u13 : Upd wr w3 (· = p) := (u1.then u2).then u3
      have hs13 : w3.heap.size = wr.heap.size := by omega
      refine k w3 ⟨h3, ?_, ?_, ?_, h.fpp, h.fpb, fun k hk => (by cases hk), h.fpN, fun k hk => (by rw [hs13]; exact hd.fplt k hk), hd.b4, fun x hx => (by cases hx), hd.bn⟩ (ur.trans u13 (fun _ _ x => x) fun i hi e => by rw [e]; exact h.fpp)
      · exact hd.blocks.keep u13 fun k hf e => row_ne hd.blocks hd.cells (by decide) (e ▸ hf)
      · exact Row.nil _ _ _
      · exact hd.keep.keep u13 fun k hf e => by have := h.fpN p h.fpp; omega

theorem rgoes_c (h : RefAt w p fp N D vb vw vk) (ha : D.after ≤ 9223372036854775807) (k : ∀ w' vw', RefAt w' p fp N D.goes.2 vb vw' vk → Upd w w' fp → K (.int .i64 (D.goes.1.getD 0)) w') : mCall Try.prog 91 #[dptr p] w K := by
  refine ⟨ok91 ?_⟩
  unfold sh91 dptr
  try simp only [push_cast]
  refine mN_v (r_loadB _ (by kernel_rfl) h.cells rfl) ?_
  try simp only [push_cast]
  cases har : D.armed with
  | false =>
    have e : D.goes = (none, D) := by simp [DM.goes, har]
    rw [e] at k
    try simp only [push_cast, Bool.not_false]
    exact k w vw h (Upd.refl _ _)
  | true =>
    try simp only [push_cast, Bool.not_true]
    refine mN_v (r_loadB _ (by kernel_rfl) h.cells rfl) ?_
    try simp only [push_cast]
    refine mIf_dec (fun h0 => ?_) fun h0 => ?_
    · have e : D.goes = (none, { D with after := D.after - 1 }) := by simp [DM.goes, har, h0]
      rw [e] at k
      refine mN_v (r_loadB _ (by kernel_rfl) h.cells rfl) ?_
      try simp only [push_cast]
      rw [i64w (D.after - 1) (by omega) (by omega)]
      refine mN_store1 (by kernel_rfl) h.cells (by simp) rfl fun w1 h1 u1 s1 => ?_
      exact k w1 vw (h.put (D' := { D with after := D.after - 1 }) rfl rfl rfl u1 s1 h1) (u1.mono fun i _ e => by rw [e]; exact h.fpp)
    · refine mN_store1 (by kernel_rfl) h.cells (by simp) rfl fun w1 h1 u1 s1 => ?_
      have hd1 := h.put (D' := { D with armed := false }) rfl rfl rfl u1 s1 h1
      try simp only [push_cast]
      refine mN_v (r_loadB _ (by kernel_rfl) hd1.cells rfl) ?_
      try simp only [push_cast]
      cases hc : D.cut with
      | false =>
        have e : D.goes = (some 270, { D with armed := false }) := by simp [DM.goes, har, h0, hc]
        rw [e] at k
        try simp only [push_cast]
        exact k w1 vw hd1 (u1.mono fun i _ e => by rw [e]; exact h.fpp)
      | true =>
        have e : D.goes = (some 271, { D with armed := false }.fall D.keep) := by simp [DM.goes, har, h0, hc]
        rw [e] at k
        try simp only [push_cast]
        refine mN_v (r_loadB _ (by kernel_rfl) hd1.cells rfl) ?_
        refine rfall_c hd1 hd1.keep fun w2 hd2 u2 => ?_
        exact k w2 _ hd2 (u1.trans u2 (fun i _ e => by rw [e]; exact h.fpp) fun _ _ x => x)

theorem rread_c (h : RefAt w p fp N D vb vw vk) (i : Int) (k : ∀ w', Ext w w' → K (.tuple #[.string (D.read i).1, .int .i64 (D.read i).2]) w') : mCall Try.prog 96 #[dptr p, .int .i64 i] w K := by
  have hwn : D.waits.length ≤ 9223372036854775807 := Row.small h.waits
  unfold DM.read at k
  refine ⟨ok96 ?_⟩
  unfold sh96 dptr
  try simp only [push_cast]
  refine mIf_dec (fun h0 => ?_) fun h0 => ?_
  · rw [if_pos (by omega)] at k
    exact k w (Upd.refl _ _)
  refine mN_v (r_loadB _ (by kernel_rfl) h.cells rfl) ?_
  obtain ⟨A, c, rfl⟩ := h.blocks.slice
  try simp only [push_cast]
  refine mIf_dec (fun h1 => ?_) fun h1 => ?_
  · rw [if_pos (by omega)] at k
    exact k w (Upd.refl _ _)
  rw [if_neg (by omega)] at k
  refine mN_v (r_loadB _ (by kernel_rfl) h.cells rfl) ?_
  cases hd : D.down with
  | true =>
    rw [if_pos hd] at k
    try simp only [push_cast]
    exact k w (Upd.refl _ _)
  | false =>
    rw [if_neg (by simp [hd])] at k
    try simp only [push_cast]
    refine mN_v (r_loadB _ (by kernel_rfl) h.cells rfl) ?_
    obtain ⟨b, hb⟩ : ∃ b, D.blocks[i.toNat]? = some b := ⟨_, List.getElem?_eq_getElem (by omega)⟩
    rw [List.getD_eq_getElem?_getD, hb] at k
    obtain ⟨gb, capb, hA, _, csb, hgb, hleb, hcsb⟩ := row_elem (f := encS) h.blocks (fun x hx => rfl) hb
    injection hA with hA _ _
    subst hA
    rw [Nat.mul_one] at hleb hcsb
    have hcb : csb[i.toNat]? = some (.string (joined b)) := by
      have := congrArg (fun l => l[0]?) hcsb
      simpa [encS, List.getElem?_take, List.getElem?_drop] using this
    refine mN_v (r_indexAt w (sz := 1) Try.underlying67 (by kernel_rfl) gb 0 _ c i (by omega) (by omega)) ?_
    rw [Nat.zero_add, Nat.mul_one]
    refine mN_v (r_loadB _ (by kernel_rfl) hgb hcb) ?_
    try simp only [push_cast]
    refine mN_v (r_loadB _ (by kernel_rfl) h.cells rfl) ?_
    obtain ⟨A2, c2, rfl⟩ := h.waits.slice
    try simp only [push_cast]
    refine mLoop2.mk (fun x y wr => ∃ j : Nat, x = .string (joined (lastW i b (D.waits.take j))) ∧ y = .int .i64 j ∧ j ≤ D.waits.length ∧ Ext w wr) (fun _ y _ => D.waits.length - (intOf y).toNat) ?_ ?_
    · exact ⟨0, by simp [lastW], rfl, Nat.zero_le _, Upd.refl _ _⟩
    · rintro x y wr ⟨j, rfl, rfl, hj, ur⟩
      try simp only [push_cast]
      refine mIf_dec (fun hlt => ?_) fun hlt => ?_
      · obtain ⟨y, hy⟩ : ∃ y, D.waits[j]? = some y := ⟨_, List.getElem?_eq_getElem (by omega)⟩
        have hd' := h.ext ur
        obtain ⟨g', cap', hA, _, cs', hg', hle', hcs'⟩ := row_elem (f := encR) hd'.waits (fun x hx => rfl) hy
        injection hA with hA _ _
        subst hA
        refine mN_v (r_indexAt wr (sz := 2) Try.underlying103 (by kernel_rfl) g' 0 D.waits.length c2 j (by omega) (by omega)) ?_
        rw [Nat.zero_add, Int.toNat_natCast]
        refine mN_v (r_loadN wr (n := 2) (by kernel_rfl) (by kernel_rfl) hg' hle') ?_
        rw [hcs']
        refine mN_new (zero150 wr) fun w3 hb3 hu3 hs3 => ?_
        refine mN_storeN (by kernel_rfl) hb3 (by simp [encR]) encR_one fun w4 hb4' hu4 hs4 => ?_
        rw [splice_all _ _ (by simp [encR])] at hb4'
        have u4 : Ext w w4 := (ur.ext hu3).trans hu4 (fun _ _ x => x) fun i hi e => by have := ur.size; omega
        try simp only [push_cast]
        refine mN_v (r_loadB _ (by kernel_rfl) hb4' rfl) ?_
        try simp only [push_cast]
        rw [i64w ((j : Int) + 1) (by omega) (by omega)]
        have hsn := lastW_snoc i b (D.waits.take j) y
        have hmu : ∀ q : Nat, j + 1 = q → D.waits.length - (intOf (.int .i64 (q : Int))).toNat < D.waits.length - (intOf (.int .i64 (j : Int))).toNat := by
          intro q hq
          simp only [intOf, Int.toNat_natCast]
          omega
        by_cases hyi : y.1 = i
        · rw [show (y.1 == i) = true from by simpa using hyi]
          try simp only [push_cast]
          refine mN_v (r_loadB _ (by kernel_rfl) hb4' rfl) ?_
          refine ⟨⟨j + 1, ?_, congrArg (Value.int .i64) (by omega), by omega, u4⟩, hmu _ rfl⟩
          rw [take_snoc hy, hsn, if_pos hyi]
        · rw [show (y.1 == i) = false from by simpa using hyi]
          try simp only [push_cast]
          refine ⟨⟨j + 1, ?_, congrArg (Value.int .i64) (by omega), by omega, u4⟩, hmu _ rfl⟩
          rw [take_snoc hy, hsn, if_neg hyi]
      · have hj' : D.waits.take j = D.waits := List.take_of_length_le (by omega)
        rw [hj']
        exact k wr ur
end
end Go.Proofs.Ythgopkppmppdoaa

/-
  The reference's disk: writing, flushing, arms; each function as one fact about the model.
-/
set_option linter.unusedVariables false
set_option linter.unusedSimpArgs false
set_option maxRecDepth 20000
namespace Go.Proofs.Ythgopkppmppdoaa
open Go Go.Proofs Go.Vc
open Go.RowKit (Below intOf)

section
variable {w : World} {K : Value → World → Prop} {p N : Nat} {fp fk : Nat → Prop} {D : DM} {vb vw vk v : Value} {keep : List Int}

theorem RefAt.nlt (h : RefAt w p fp N D vb vw vk) : N ≤ p := h.fpN p h.fpp

theorem rwrite_c (h : RefAt w p fp N D vb vw vk) (ha : D.after ≤ 9223372036854775807) (hwn : D.waits.length ≤ 1000000000) (hN : N ≤ w.heap.size) (i : Int) (s : ByteArray)
    (k : ∀ w' fp' vw', RefAt w' p fp' N (D.write i s).2 vb vw' vk → Upd w w' fp → (∀ k, fp' k → fp k ∨ w.heap.size ≤ k) → K (.int .i64 (D.write i s).1) w') : mCall Try.prog 37 #[dptr p, .int .i64 i, .string s] w K := by
  refine ⟨ok37 ?_⟩
  unfold sh37 dptr
  try simp only [push_cast]
  obtain ⟨A, c, hA⟩ := h.blocks.slice
  by_cases hi : 0 ≤ i ∧ i < D.blocks.length
  case neg =>
    have e : D.write i s = (1, D) := by simp only [DM.write, hi, not_false_eq_true, true_or, if_true]
    rw [e] at k
    refine mIf_dec (fun h0 => k w fp vw h (Upd.refl _ _) fun _ x => .inl x) fun h0 => ?_
    refine mN_v (r_loadB _ (by kernel_rfl) h.cells rfl) ?_
    rw [hA]
    try simp only [push_cast]
    rw [show decide ((D.blocks.length : Int) ≤ i) = true from by simp; omega]
    try simp only [push_cast]
    exact k w fp vw h (Upd.refl _ _) fun _ x => .inl x
  rw [show decide (i < 0) = false from by simp; omega]
  try simp only [push_cast]
  refine mN_v (r_loadB _ (by kernel_rfl) h.cells rfl) ?_
  rw [hA]
  try simp only [push_cast]
  rw [show decide ((D.blocks.length : Int) ≤ i) = false from by simp; omega]
  try simp only [push_cast]
  by_cases hs : s.size = 256
  case neg =>
    have e : D.write i s = (1, D) := by simp only [DM.write, hs, ne_eq, not_false_eq_true, or_true, if_true]
    rw [e] at k
    rw [show ((s.size : Int) != 256) = true from by simp; omega]
    try simp only [push_cast]
    exact k w fp vw h (Upd.refl _ _) fun _ x => .inl x
  rw [show ((s.size : Int) != 256) = false from by simp; omega]
  try simp only [push_cast]
  refine mN_v (r_loadB _ (by kernel_rfl) h.cells rfl) ?_
  cases hd : D.down with
  | true =>
    have e : D.write i s = (271, D) := by simp only [DM.write, hi, hs, hd, and_self, not_true_eq_false, ne_eq, or_self, if_true, if_false]
    rw [e] at k
    try simp only [push_cast]
    exact k w fp vw h (Upd.refl _ _) fun _ x => .inl x
  | false =>
    have e : D.write i s = match D.goes.1 with
        | some e => (e, D.goes.2)
        | none => (0, { D.goes.2 with waits := D.goes.2.waits ++ [(i, cutS s)] }) := by
      unfold DM.write
      rw [if_neg (by simp [hi, hs]), if_neg (by simp [hd])]
      cases D.goes.1 <;> rfl
    try simp only [push_cast]
    refine rgoes_c h ha fun w1 vw1 hd1 u1 => ?_
    obtain ⟨gl1, gl2, gl3, _, _⟩ := goes_len D
    cases hg : D.goes.1 with
    | some e1 =>
      rw [hg] at e
      rw [e] at k
      have he1 : e1 = 270 ∨ e1 = 271 := by
        unfold DM.goes at hg
        split at hg
        · cases hg
        · split at hg
          · cases hg
          · split at hg
            · injection hg with hg; exact .inl hg.symm
            · injection hg with hg; exact .inr hg.symm
      have k1 := k w1 fp vw1 hd1 u1 fun _ x => .inl x
      try simp only [push_cast, Option.getD_some]
      rw [show (e1 == 0) = false from by rcases he1 with rfl | rfl <;> rfl]
      try simp only [push_cast]
      exact k1
    | none =>
      rw [hg] at e
      rw [e] at k
      obtain ⟨g1, g2, g3⟩ := gl3 hg
      try simp only [push_cast, Option.getD_none, beq_self_eq_true]
      refine mN_v (r_loadB _ (by kernel_rfl) hd1.cells rfl) ?_
      have hbuild : ∀ w, (Instr.build 150 #[(0, .int .i64 i), (1, .string s)]).run Try.prog w = .ok (.agg #[.int .i64 i, .string s]) w := fun w => by kernel_rfl
      refine mN_v (hbuild _) ?_
      have hsl : (Instr.buildSlice 103 1 #[(0, .agg #[.int .i64 i, .string s])]).run Try.prog w1 = .ok (.slice (some ⟨w1.heap.size, 0, none⟩) 1 1) (w1.alloc (.cells #[.int .i64 i, .string s] 150 (0, 0))) := by kernel_rfl
      refine mN_new hsl fun w4 h4 u4 s4 => ?_
      have hd4 := hd1.ext u4
      have he : encR (i, cutS s) = [.int .i64 i, .string s] := by
        unfold encR
        rw [joined_cutS hs]
      refine mN_append (z := ((Try.prog.info? 150).getD default).zero.getD default) (sz := 2) (bytes := 24) Try.underlying103 (by kernel_rfl) (by kernel_rfl) (by omega) hd4.waits (ys := encR (i, cutS s)) (by simp [encR]) (fun j u hu => h4.cell (by rw [he] at hu; simpa using hu)) encR_one
        (by omega) (by omega) fun vw5 w5 hr5 u5 hy5 => ?_
      try simp only [push_cast]
      have hne5 : ¬ Fp vw1 p := row_ne hd4.waits hd4.cells (by decide)
      have hc5 := hd4.cells.keep u5 hne5
      have ho : vw5.oneCell' = true := by
        obtain ⟨A, c, rfl⟩ := hr5.slice
        rfl
      refine mN_store1 (by kernel_rfl) hc5 (by simp) ho fun w6 h6 u6 s6 => ?_
      have hlen : D.goes.2.waits.length + 1 = (D.goes.2.waits ++ [(i, cutS s)]).length := by simp
      have hfl : D.goes.2.waits.flatMap encR ++ encR (i, cutS s) = (D.goes.2.waits ++ [(i, cutS s)]).flatMap encR := by simp [List.flatMap_append]
      rw [hlen, hfl] at hr5
      have u4' : Upd w w4 fp := u1.ext u4
      refine k w6 (fun k => fp k ∨ Fp vw5 k) vw5 ⟨h6, ?_, ?_, ?_, .inl hd4.fpp, fun k hk => .inl (hd4.fpb k hk), fun k hk => .inr hk, fun k hk => ?_, fun k hk => ?_, hd4.b4, fun x hx => ?_, hd4.bn⟩ ?_ fun k hk => ?_
      · exact (hd4.blocks.keep u5 fun k hf hf2 => row_ne_row hd4.blocks hd4.waits (by decide) hf hf2).keep u6 fun k hf e => row_ne hd4.blocks hd4.cells (by decide) (e ▸ hf)
      · exact hr5.keep u6 fun k hf e => row_ne hr5 hc5 (by decide) (e ▸ hf)
      · exact (hd4.keep.keep u5 fun k hf hf2 => by have := hd4.fpN k (hd4.fpw k hf2); omega).keep u6 fun k hf e => by have := hd4.nlt; omega
      · rcases hk with hk | hk
        · exact hd4.fpN k hk
        · rcases hy5 k hk with hk | hk
          · exact hd4.fpN k (hd4.fpw k hk)
          · have := u4'.size
            omega
      · rw [s6]
        rcases hk with hk | hk
        · exact Nat.lt_of_lt_of_le (hd4.fplt k hk) u5.size
        · exact hr5.lt hk
      · show Sec x.2 ∧ 0 ≤ x.1 ∧ x.1 < D.goes.2.blocks.length
        rcases List.mem_append.1 hx with hx | hx
        · exact hd4.w4 x hx
        · rw [List.mem_singleton] at hx
          subst hx
          exact ⟨cutS_sec hs, hi.1, by rw [gl1]; exact hi.2⟩
      · refine (u4'.trans u5 (fun _ _ x => x) fun i hi hf => hd4.fpw i hf).trans u6 (fun _ _ x => x) fun i hi e => ?_
        rw [e]
        exact hd4.fpp
      · rcases hk with hk | hk
        · exact .inl hk
        · rcases hy5 k hk with hk | hk
          · exact .inl (hd4.fpw k hk)
          · have := u4'.size
            exact .inr (by omega)

/-- What waits is done away with. -/
theorem rclear_c (h : RefAt w p fp N D vb vw vk) {K : World → Prop} (k : ∀ w', RefAt w' p fp N { D with waits := [] } vb (.slice none 0 0) vk → Upd w w' fp → K w') :
    mN Try.prog (uS (Instr.storeAt 103 (.pointer (some ⟨p, 1, none⟩)) (.slice none 0 0))) w fun _ w => K w := by
  refine mN_store1 (by kernel_rfl) h.cells (by simp) rfl fun w1 h1 u1 s1 => ?_
  refine k w1 ⟨h1, ?_, Row.nil _ _ _, ?_, h.fpp, h.fpb, fun k hk => (by cases hk), h.fpN, fun k hk => (by rw [s1]; exact h.fplt k hk), h.b4, fun x hx => (by cases hx), h.bn⟩ (u1.mono fun i _ e => by rw [e]; exact h.fpp)
  · exact h.blocks.keep u1 fun k hf e => row_ne h.blocks h.cells (by decide) (e ▸ hf)
  · exact h.keep.keep u1 fun k hf e => by have := h.nlt; omega

theorem rflush_c (h : RefAt w p fp N D vb vw vk) (ha : D.after ≤ 9223372036854775807)
    (k : ∀ w' vw', RefAt w' p fp N D.flush.2 vb vw' vk → Upd w w' fp → K (.int .i64 D.flush.1) w') : mCall Try.prog 79 #[dptr p] w K := by
  refine ⟨ok79 ?_⟩
  unfold sh79 dptr
  try simp only [push_cast]
  refine mN_v (r_loadB _ (by kernel_rfl) h.cells rfl) ?_
  cases hd : D.down with
  | true =>
    have e : D.flush = (271, D) := by simp [DM.flush, hd]
    rw [e] at k
    try simp only [push_cast]
    exact k w vw h (Upd.refl _ _)
  | false =>
    have e : D.flush = match D.goes.1 with
        | some e => (e, { D.goes.2 with waits := [] })
        | none => (0, { D.goes.2 with blocks := flushTo D.goes.2.blocks D.goes.2.waits D.goes.2.waits.length, waits := [] }) := by
      unfold DM.flush
      rw [if_neg (by simp [hd])]
      cases D.goes.1 <;> rfl
    try simp only [push_cast]
    refine rgoes_c h ha fun w1 vw1 hd1 u1 => ?_
    cases hg : D.goes.1 with
    | some e1 =>
      rw [hg] at e
      rw [e] at k
      have he1 : e1 = 270 ∨ e1 = 271 := by
        unfold DM.goes at hg
        split at hg
        · cases hg
        · split at hg
          · cases hg
          · split at hg
            · injection hg with hg; exact .inl hg.symm
            · injection hg with hg; exact .inr hg.symm
      try simp only [push_cast, Option.getD_some]
      rw [show (e1 == 0) = false from by rcases he1 with rfl | rfl <;> rfl]
      try simp only [push_cast]
      exact rclear_c hd1 fun w2 hd2 u2 => k w2 _ hd2 (u1.then u2)
    | none =>
      rw [hg] at e
      rw [e] at k
      generalize D.goes.2 = E at hd1 k
      have hwn : E.waits.length ≤ 9223372036854775807 := Row.small hd1.waits
      try simp only [push_cast, Option.getD_none, beq_self_eq_true]
      refine mN_v (r_loadB _ (by kernel_rfl) hd1.cells rfl) ?_
      obtain ⟨A, c, rfl⟩ := hd1.waits.slice
      try simp only [push_cast]
      refine mLoop1.mk (fun x wr => ∃ j : Nat, x = .int .i64 j ∧ j ≤ E.waits.length ∧ RefAt wr p fp N { E with blocks := flushTo E.blocks E.waits j } vb (.slice A E.waits.length c) vk ∧ Upd w wr fp) (fun x _ => E.waits.length - (intOf x).toNat) ?_ ?_
      · exact ⟨0, rfl, Nat.zero_le _, hd1, u1⟩
      · rintro x wr ⟨j, rfl, hj, hd, ur⟩
        try simp only [push_cast]
        refine mIf_dec (fun hlt => ?_) fun hlt => ?_
        · obtain ⟨y, hy⟩ : ∃ y, E.waits[j]? = some y := ⟨_, List.getElem?_eq_getElem (by omega)⟩
          have hyS := hd.w4 y (List.mem_of_getElem? hy)
          obtain ⟨g', cap', hA, _, cs', hg', hle', hcs'⟩ := row_elem (f := encR) hd.waits (fun x hx => rfl) hy
          injection hA with hA _ _
          subst hA
          refine mN_v (r_indexAt wr (sz := 2) Try.underlying103 (by kernel_rfl) g' 0 E.waits.length c j (by omega) (by omega)) ?_
          rw [Nat.zero_add, Int.toNat_natCast]
          refine mN_v (r_loadN wr (n := 2) (by kernel_rfl) (by kernel_rfl) hg' hle') ?_
          rw [hcs']
          refine mN_new (zero150 wr) fun w3 hb3 hu3 hs3 => ?_
          refine mN_storeN (by kernel_rfl) hb3 (by simp [encR]) encR_one fun w4 hb4' hu4 hs4 => ?_
          rw [splice_all _ _ (by simp [encR])] at hb4'
          have u4 : Ext wr w4 := hu3.trans hu4 (fun _ _ x => x) fun i hi e => by omega
          have hd4 := hd.ext u4
          unfold mDrew
          have hd5 := hd4.ext (Upd.drew w4 _)
          have hb5 : Blk w4.drew wr.heap.size 150 (encR y) := hb4'
          generalize hw5 : w4.drew = w5 at hd5 hb5
          have u5 : Ext wr w5 := hw5 ▸ u4.drewn
          have hlb : y.1.toNat < (flushTo E.blocks E.waits j).length := by
            rw [flushTo_length]
            have := (hd1.w4 y (List.mem_of_getElem? hy)).2
            omega
          obtain ⟨b, hb⟩ : ∃ b, (flushTo E.blocks E.waits j)[y.1.toNat]? = some b := ⟨_, List.getElem?_eq_getElem hlb⟩
          obtain ⟨gb, capb, rfl, _, csb, hgb, hleb, hcsb⟩ := row_elem (f := encS) hd5.blocks (fun x hx => rfl) hb
          try simp only [push_cast]
          refine mR_v (r_loadB _ (by kernel_rfl) hd5.cells rfl) ?_
          try simp only [push_cast]
          refine mR_v (r_loadB _ (by kernel_rfl) hb5 rfl) ?_
          try simp only [push_cast]
          refine mR_v (r_loadB _ (by kernel_rfl) hb5 rfl) ?_
          refine mP_v (fun w => r_indexAt w (sz := 1) Try.underlying67 (by kernel_rfl) gb 0 _ capb y.1 hyS.2.1 (by omega)) ?_
          rw [Nat.zero_add, Nat.mul_one]
          refine mN_store1 (by kernel_rfl) hgb (by omega) rfl fun w6 h6 u6 hs6 => ?_
          have hd6 := hd5.putB hgb (by omega) hlb hyS.1 h6 u6 hs6
          try simp only [push_cast]
          rw [i64w ((j : Int) + 1) (by omega) (by omega)]
          have hstep : flushTo E.blocks E.waits (j + 1) = (flushTo E.blocks E.waits j).set y.1.toNat y.2 := by
            conv => lhs; unfold flushTo
            rw [hy]
          refine ⟨⟨j + 1, congrArg (Value.int .i64) (by omega), by omega, ?_, ?_⟩, by simp only [intOf]; omega⟩
          · rw [hstep]
            have := hd6
            simp only [flushTo_length] at this ⊢
            exact this
          · exact (ur.ext u5).trans u6 (fun _ _ x => x) fun i hi e => by
              rw [e]
              exact h.fpb _ rfl
        · obtain rfl : j = E.waits.length := by omega
          try simp only [push_cast]
          exact rclear_c hd fun w2 hd2 u2 => k w2 _ hd2 (ur.then u2)
end
end Go.Proofs.Ythgopkppmppdoaa

/-
  The reference's disk: each function as one fact about the model.
-/
set_option linter.unusedVariables false
set_option linter.unusedSimpArgs false
set_option maxRecDepth 20000
namespace Go.Proofs.Ythgopkppmppdoaa
open Go Go.Proofs Go.Vc
open Go.RowKit (Below intOf)

section
variable {w : World} {K : Value → World → Prop} {p N : Nat} {fp fk : Nat → Prop} {D : DM} {vb vw vk v : Value} {keep : List Int}

/-- What a function that changes a reference's disk leaves. -/
def RAfter (w : World) (p : Nat) (fp : Nat → Prop) (N : Nat) (D' : DM) (w' : World) : Prop := ∃ fp', IsRef w' p fp' N D' ∧ Upd w w' fp ∧ ∀ k, fp' k → fp k ∨ w.heap.size ≤ k

theorem IsRef.stay {w' : World} {F : Nat → Prop} (h : IsRef w p fp N D) (u : Upd w w' F) (hn : ∀ k, fp k → ¬ F k) (hN : ∀ k, k < N → ¬ F k) : IsRef w' p fp N D := by
  obtain ⟨⟨vb, vw, vk, h⟩, ha⟩ := h
  exact ⟨⟨vb, vw, vk, h.stay u hn hN⟩, ha⟩
theorem IsRef.lt (h : IsRef w p fp N D) {k : Nat} (hk : fp k) : k < w.heap.size := by
  obtain ⟨⟨vb, vw, vk, h⟩, ha⟩ := h
  exact h.fplt k hk
theorem IsRef.young (h : IsRef w p fp N D) {k : Nat} (hk : fp k) : N ≤ k := by
  obtain ⟨⟨vb, vw, vk, h⟩, ha⟩ := h
  exact h.fpN k hk
theorem IsRef.ext {w' : World} (h : IsRef w p fp N D) (u : Ext w w') : IsRef w' p fp N D := h.stay u (fun _ _ => id) fun _ _ => id

theorem isref_write (h : IsRef w p fp N D) (hwn : D.waits.length ≤ 1000000000) (hN : N ≤ w.heap.size) (i : Int) (s : ByteArray) (k : ∀ w', RAfter w p fp N (D.write i s).2 w' → K (.int .i64 (D.write i s).1) w') : mCall Try.prog 37 #[dptr p, .int .i64 i, .string s] w K := by
  obtain ⟨⟨vb, vw, vk, h⟩, ha⟩ := h
  refine rwrite_c h ha hwn hN i s fun w' fp' vw' h' u y => k w' ⟨fp', ⟨⟨_, _, _, h'⟩, ?_⟩, u, y⟩
  have := (goes_len D).2.2.2.2 ha
  unfold DM.write
  split
  · exact ha
  · split
    · exact ha
    · split <;> exact this
theorem isref_flush (h : IsRef w p fp N D) (k : ∀ w', RAfter w p fp N D.flush.2 w' → K (.int .i64 D.flush.1) w') : mCall Try.prog 79 #[dptr p] w K := by
  obtain ⟨⟨vb, vw, vk, h⟩, ha⟩ := h
  refine rflush_c h ha fun w' vw' h' u => k w' ⟨fp, ⟨⟨_, _, _, h'⟩, ?_⟩, u, fun _ x => .inl x⟩
  have := (goes_len D).2.2.2.2 ha
  unfold DM.flush
  split
  · exact ha
  · split <;> exact this
theorem isref_set (h : IsRef w p fp N D) (after : Int) (hA : after ≤ 9223372036854775807) (cut : Bool) (hk : Ints w v keep (· < N)) (hN : N ≤ w.heap.size) (k : ∀ w', RAfter w p fp N (D.set after cut keep).2 w' → K (.int .i64 (D.set after cut keep).1) w') :
    mCall Try.prog 82 #[dptr p, .agg #[.int .i64 after, .bool cut, v]] w K := by
  obtain ⟨⟨vb, vw, vk, h⟩, ha⟩ := h
  refine ⟨ok82 ?_⟩
  unfold sh82
  have hbox : (Instr.box 104 (.agg #[.int .i64 after, .bool cut, v])).run Try.prog w = .ok (.pointer (some ⟨w.heap.size, 0, none⟩)) (w.alloc (.cells #[.int .i64 after, .bool cut, v] 104 (0, 0))) := by kernel_rfl
  refine mN_new hbox fun w1 h1 u1 s1 => ?_
  have hd1 := h.ext u1
  have hk1 := hk.keep u1 fun _ _ => id
  unfold dptr
  try simp only [push_cast]
  refine mN_v (r_loadB _ (by kernel_rfl) h1 rfl) ?_
  try simp only [push_cast]
  refine mIf_dec (fun h0 => ?_) fun h0 => ?_
  · have e : D.set after cut keep = (1, D) := by simp [DM.set, h0]
    rw [e] at k
    exact k w1 ⟨fp, ⟨⟨_, _, _, hd1⟩, ha⟩, u1.mono fun _ _ => False.elim, fun _ x => .inl x⟩
  refine mN_v (r_loadB _ (by kernel_rfl) hd1.cells rfl) ?_
  cases hd : D.down with
  | true =>
    have e : D.set after cut keep = (271, D) := by simp [DM.set, h0, hd]
    rw [e] at k
    try simp only [push_cast]
    exact k w1 ⟨fp, ⟨⟨_, _, _, hd1⟩, ha⟩, u1.mono fun _ _ => False.elim, fun _ x => .inl x⟩
  | false =>
    have e : D.set after cut keep = (0, { D with after := after, cut := cut, keep := keep, armed := true }) := by simp [DM.set, h0, hd]
    rw [e] at k
    try simp only [push_cast]
    have ho : v.oneCell' = true := by
      obtain ⟨A, c, rfl⟩ := Arr.slice hk
      rfl
    refine mN_v (r_loadN w1 (n := 3) (by kernel_rfl) (by kernel_rfl) h1 (by simp)) ?_
    refine mN_storeN (vs := [.int .i64 after, .bool cut, v]) (by kernel_rfl) hd1.cells (by simp) (fun u hu => ?_) fun w4 h4 u4 s4 => ?_
    · simp only [List.mem_cons, List.not_mem_nil, or_false] at hu
      rcases hu with rfl | rfl | rfl
      · rfl
      · rfl
      · exact ho
    · try simp only [push_cast]
      refine mN_store1 (by kernel_rfl) h4 (by simp [splice]) rfl fun w5 h5 u5 s5 => ?_
      have u35 : Upd w1 w5 (· = p) := u4.then u5
      have hs35 : w5.heap.size = w1.heap.size := by omega
      have hpN := h.fpN p h.fpp
      refine k w5 ⟨fp, ⟨⟨_, _, v, ⟨h5, ?_, ?_, ?_, hd1.fpp, hd1.fpb, hd1.fpw, hd1.fpN, fun k hk => (by rw [hs35]; exact hd1.fplt k hk), hd1.b4, hd1.w4, hd1.bn⟩⟩, hA⟩, ?_, fun _ x => .inl x⟩
      · exact hd1.blocks.keep u35 fun k hf e => row_ne hd1.blocks hd1.cells (by decide) (e ▸ hf)
      · exact hd1.waits.keep u35 fun k hf e => row_ne hd1.waits hd1.cells (by decide) (e ▸ hf)
      · exact hk1.keep u35 fun k hf e => by omega
      · exact u1.trans u35 (fun _ _ x => x.elim) fun i hi e => by rw [e]; exact h.fpp
theorem isref_crash (h : IsRef w p fp N D) (hk : Ints w v keep (· < N)) (k : ∀ w', RAfter w p fp N (D.crash keep).2 w' → K (.int .i64 (D.crash keep).1) w') : mCall Try.prog 80 #[dptr p, v] w K := by
  obtain ⟨⟨vb, vw, vk, h⟩, ha⟩ := h
  refine ⟨ok80 ?_⟩
  unfold sh80 dptr
  try simp only [push_cast]
  refine mN_v (r_loadB _ (by kernel_rfl) h.cells rfl) ?_
  cases hd : D.down with
  | true =>
    have e : D.crash keep = (271, D) := by simp [DM.crash, hd]
    rw [e] at k
    try simp only [push_cast]
    exact k w ⟨fp, ⟨⟨_, _, _, h⟩, ha⟩, Upd.refl _ _, fun _ x => .inl x⟩
  | false =>
    have e : D.crash keep = (0, D.fall keep) := by simp [DM.crash, hd]
    rw [e] at k
    try simp only [push_cast]
    exact rfall_c h hk fun w' hd' u => k w' ⟨fp, ⟨⟨_, _, _, hd'⟩, ha⟩, u, fun _ x => .inl x⟩
theorem isref_start (h : IsRef w p fp N D) (k : ∀ w', RAfter w p fp N D.start.2 w' → K (.int .i64 D.start.1) w') : mCall Try.prog 81 #[dptr p] w K := by
  obtain ⟨⟨vb, vw, vk, h⟩, ha⟩ := h
  refine ⟨ok81 ?_⟩
  unfold sh81 dptr
  try simp only [push_cast]
  refine mN_v (r_loadB _ (by kernel_rfl) h.cells rfl) ?_
  cases hd : D.down with
  | false =>
    have e : D.start = (7, D) := by simp [DM.start, hd]
    rw [e] at k
    try simp only [push_cast, Bool.not_false]
    exact k w ⟨fp, ⟨⟨_, _, _, h⟩, ha⟩, Upd.refl _ _, fun _ x => .inl x⟩
  | true =>
    have e : D.start = (0, { D with down := false }) := by simp [DM.start, hd]
    rw [e] at k
    try simp only [push_cast, Bool.not_true]
    refine mN_store1 (by kernel_rfl) h.cells (by simp) rfl fun w' hb hu hs => ?_
    exact k w' ⟨fp, ⟨⟨_, _, _, h.put (D' := { D with down := false }) rfl rfl rfl hu hs hb⟩, ha⟩, hu.mono fun i _ e => by rw [e]; exact h.fpp, fun _ x => .inl x⟩
theorem isref_read (h : IsRef w p fp N D) (i : Int) (k : ∀ w', Ext w w' → K (.tuple #[.string (D.read i).1, .int .i64 (D.read i).2]) w') : mCall Try.prog 96 #[dptr p, .int .i64 i] w K := by
  obtain ⟨⟨vb, vw, vk, h⟩, ha⟩ := h
  exact rread_c h i k
end
end Go.Proofs.Ythgopkppmppdoaa
