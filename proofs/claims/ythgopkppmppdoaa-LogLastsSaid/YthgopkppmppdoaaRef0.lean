/-
  The reference's disk: the same model, its blocks and its writes as texts.
-/
import Derived.Test.YthgopkppmppdoaaLaw27a
set_option linter.unusedVariables false
set_option linter.unusedSimpArgs false
set_option maxRecDepth 20000
namespace Go.Proofs.Ythgopkppmppdoaa
open Go Go.Proofs Go.Vc
open Go.RowKit (Below intOf)

def encS (b : List ByteArray) : List Value := [.string (joined b)]
def encR (x : Int × List ByteArray) : List Value := [.int .i64 x.1, .string (joined x.2)]
theorem encS_len {b : List ByteArray} : (encS b).length = 1 := rfl
theorem encR_len {x : Int × List ByteArray} : (encR x).length = 2 := rfl
theorem encS_one {b : List ByteArray} : ∀ v ∈ encS b, v.oneCell' = true := by
  intro v hv
  rw [encS, List.mem_singleton] at hv
  subst hv
  rfl
theorem encR_one {x : Int × List ByteArray} : ∀ v ∈ encR x, v.oneCell' = true := by
  intro v hv
  simp only [encR, List.mem_cons, List.not_mem_nil, or_false] at hv
  rcases hv with rfl | rfl <;> rfl

structure RefAt (w : World) (p : Nat) (fp : Nat → Prop) (N : Nat) (D : DM) (vb vw vk : Value) : Prop where
  cells : Blk w p 106 [vb, vw, .bool D.down, .bool D.armed, .int .i64 D.after, .bool D.cut, vk]
  blocks : Row w 9 1 vb D.blocks.length (D.blocks.flatMap encS)
  waits : Row w 150 2 vw D.waits.length (D.waits.flatMap encR)
  keep : Ints w vk D.keep (· < N)
  fpp : fp p
  fpb : ∀ k, Fp vb k → fp k
  fpw : ∀ k, Fp vw k → fp k
  fpN : ∀ k, fp k → N ≤ k
  fplt : ∀ k, fp k → k < w.heap.size
  b4 : ∀ b ∈ D.blocks, Sec b
  w4 : ∀ x ∈ D.waits, Sec x.2 ∧ 0 ≤ x.1 ∧ x.1 < D.blocks.length
  bn : D.blocks.length ≤ 128

def IsRef (w : World) (p : Nat) (fp : Nat → Prop) (N : Nat) (D : DM) : Prop := (∃ vb vw vk, RefAt w p fp N D vb vw vk) ∧ D.after ≤ 9223372036854775807

section
variable {w : World} {K : Value → World → Prop} {p N : Nat} {fp fk : Nat → Prop} {D : DM} {vb vw vk v : Value} {keep : List Int}

theorem RefAt.stay {w' : World} {F : Nat → Prop} (h : RefAt w p fp N D vb vw vk) (u : Upd w w' F) (hn : ∀ k, fp k → ¬ F k) (hN : ∀ k, k < N → ¬ F k) : RefAt w' p fp N D vb vw vk :=
  ⟨h.cells.keep u (hn p h.fpp), h.blocks.keep u fun k hk => hn k (h.fpb k hk), h.waits.keep u fun k hk => hn k (h.fpw k hk), h.keep.keep u hN, h.fpp, h.fpb, h.fpw, h.fpN,
    fun k hk => Nat.lt_of_lt_of_le (h.fplt k hk) u.size, h.b4, h.w4, h.bn⟩
theorem RefAt.ext {w' : World} (h : RefAt w p fp N D vb vw vk) (u : Ext w w') : RefAt w' p fp N D vb vw vk := h.stay u (fun _ _ => id) fun _ _ => id

/-- A store into a disk's own cells. -/
theorem RefAt.put {w' : World} (h : RefAt w p fp N D vb vw vk) {D' : DM} (hb : D'.blocks = D.blocks) (hw : D'.waits = D.waits) (hk : D'.keep = D.keep) (u : Upd w w' (· = p)) (hs : w'.heap.size = w.heap.size)
    (hc : Blk w' p 106 [vb, vw, .bool D'.down, .bool D'.armed, .int .i64 D'.after, .bool D'.cut, vk]) : RefAt w' p fp N D' vb vw vk := by
  refine ⟨hc, ?_, ?_, ?_, h.fpp, h.fpb, h.fpw, h.fpN, fun k hk => (by rw [hs]; exact h.fplt k hk), by rw [hb]; exact h.b4, by rw [hb, hw]; exact h.w4, by rw [hb]; exact h.bn⟩
  · rw [hb]
    exact h.blocks.keep u fun k hf e => row_ne h.blocks h.cells (by decide) (e ▸ hf)
  · rw [hw]
    exact h.waits.keep u fun k hf e => row_ne h.waits h.cells (by decide) (e ▸ hf)
  · rw [hk]
    exact h.keep.keep u fun k hf e => by have := h.fpN p h.fpp; omega

theorem set_splice {cs : List Value} {i : Nat} {v : Value} (h : i < cs.length) : cs.set i v = splice cs (i * 1) [v] := by
  rw [Nat.mul_one, List.set_eq_take_append_cons_drop, if_pos h]
  simp [splice]

/-- One of a disk's blocks is written. -/
theorem RefAt.putB {w' : World} {gb cap i : Nat} {csb : List Value} {b : List ByteArray} (h : RefAt w p fp N D (.slice (some ⟨gb, 0, none⟩) D.blocks.length cap) vw vk) (hgb : Blk w gb 9 csb) (hl : i < csb.length) (hi : i < D.blocks.length) (hb : Sec b)
    (h1 : Blk w' gb 9 (csb.set i (.string (joined b)))) (u : Upd w w' (· = gb)) (hs : w'.heap.size = w.heap.size) :
    RefAt w' p fp N { D with blocks := D.blocks.set i b } (.slice (some ⟨gb, 0, none⟩) D.blocks.length cap) vw vk := by
  refine ⟨h.cells.keep u fun e => ?_, ?_, h.waits.keep u fun k hk e => ?_, h.keep.keep u fun k hk e => ?_, h.fpp, h.fpb, h.fpw, h.fpN, fun k hk => by rw [hs]; exact h.fplt k hk, sec_set h.b4 hb, fun x hx => ?_, ?_⟩
  · exact (hgb.ne_type h.cells (by decide)) e.symm
  · rw [set_splice hl] at h1
    exact row_store h.blocks hgb (fun x hx => rfl) hi rfl h1
  · exact row_ne h.waits hgb (by decide) (e ▸ hk)
  · have := h.fpN gb (h.fpb gb rfl)
    omega
  · show Sec x.2 ∧ 0 ≤ x.1 ∧ x.1 < (D.blocks.set i b).length
    rw [List.length_set]
    exact h.w4 x hx
  · show (D.blocks.set i b).length ≤ 128
    rw [List.length_set]
    exact h.bn

theorem zero150 (w : World) : (Instr.alloc 150 true (.tuple #[])).run Try.prog w = .ok (.pointer (some ⟨w.heap.size, 0, none⟩)) (w.alloc (.cells #[.int .i64 0, .string ⟨#[]⟩] 150 (0, 0))) := by kernel_rfl

theorem joined_zeroB : joined zeroB = zeroS := joined_cutS zeroS_size

theorem rnew_c (n : Nat) (hn : n ≤ 128) (hN : N ≤ w.heap.size) (k : ∀ w' p fp, IsRef w' p fp N (DM.new n) → Ext w w' → (∀ k, fp k → w.heap.size ≤ k) → K (dptr p) w') : mCall Try.prog 24 #[.int .i64 n] w K := by
  refine ⟨ok24 ?_⟩
  unfold sh24
  refine mLoop2.mk (fun x y wr => ∃ j : Nat, x = .string ⟨(List.replicate j (0 : UInt8)).toArray⟩ ∧ y = .int .i64 j ∧ j ≤ 256 ∧ wr = w) (fun _ y _ => 256 - (intOf y).toNat) ?_ ?_
  · exact ⟨0, rfl, rfl, by omega, rfl⟩
  rintro x y wr ⟨j, rfl, rfl, hj, rfl⟩
  try simp only [push_cast]
  refine mIf_dec (fun hlt => ?_) fun hlt => ?_
  · have hsz : (⟨(List.replicate j (0 : UInt8)).toArray⟩ : ByteArray).size = j := by
      show (List.toArray _).size = _
      simp
    refine mN_v (r_addS _ _ _ _ (by rw [hsz]; show j + 1 ≤ _; omega)) ?_
    try simp only [push_cast]
    rw [i64w ((j : Int) + 1) (by omega) (by omega)]
    refine ⟨⟨j + 1, ?_, congrArg (Value.int .i64) (by omega), by omega, trivial⟩, by simp only [intOf]; omega⟩
    congr 1
    apply ByteArray.ext
    rw [ByteArray.data_append]
    show (List.replicate j (0 : UInt8)).toArray ++ [0].toArray = _
    rw [List.append_toArray, List.replicate_succ']
  obtain rfl : j = 256 := by omega
  have hb : (Instr.build 106 #[]).run Try.prog wr = .ok (.agg #[.slice none 0 0, .slice none 0 0, .bool false, .bool false, .int .i64 0, .bool false, .slice none 0 0]) wr := by kernel_rfl
  refine mN_v hb ?_
  have hbox : (Instr.box 106 (.agg #[.slice none 0 0, .slice none 0 0, .bool false, .bool false, .int .i64 0, .bool false, .slice none 0 0])).run Try.prog wr =
      .ok (.pointer (some ⟨wr.heap.size, 0, none⟩)) (wr.alloc (.cells #[.slice none 0 0, .slice none 0 0, .bool false, .bool false, .int .i64 0, .bool false, .slice none 0 0] 106 (0, 0))) := by kernel_rfl
  refine mN_new hbox fun w1 h1 u1 s1 => ?_
  have hz : (⟨(List.replicate 256 (0 : UInt8)).toArray⟩ : ByteArray) = zeroS := rfl
  rw [hz]
  refine mLoop1.mk (fun x w2 => ∃ j : Nat, x = .int .i64 j ∧ j ≤ n ∧ Ext wr w2 ∧ ∃ vb, RefAt w2 wr.heap.size (fun k => k = wr.heap.size ∨ Fp vb k) N (DM.new j) vb (.slice none 0 0) (.slice none 0 0) ∧ ∀ k, Fp vb k → wr.heap.size ≤ k) (fun x _ => n - (intOf x).toNat) ?_ ?_
  · have hnil : Ints w1 (.slice none 0 0) [] (· < N) := ⟨none, 0, rfl, Nat.zero_le _, fun h => by simp at h⟩
    refine ⟨0, rfl, by omega, u1, .slice none 0 0, ⟨h1, Row.nil _ _ _, Row.nil _ _ _, hnil, .inl rfl, fun k hk => .inr hk, fun k hk => (by cases hk), fun k hk => ?_, fun k hk => ?_, fun b hb => (by cases hb), fun x hx => (by cases hx), by decide⟩, fun k hk => by cases hk⟩
    · rcases hk with rfl | hk
      · exact hN
      · cases hk
    · rcases hk with rfl | hk
      · omega
      · cases hk
  · rintro x w2 ⟨j, rfl, hj, u2, vb, h2, y2⟩
    try simp only [push_cast]
    refine mIf_dec (fun hlt => ?_) fun hlt => ?_
    · refine mN_v (r_loadB _ (by kernel_rfl) h2.cells rfl) ?_
      have hsl : (Instr.buildSlice 67 1 #[(0, .string zeroS)]).run Try.prog w2 = .ok (.slice (some ⟨w2.heap.size, 0, none⟩) 1 1) (w2.alloc (.cells #[.string zeroS] 9 (0, 0))) := by kernel_rfl
      refine mN_new hsl fun w3 h3 u3 s3 => ?_
      have hd3 := h2.ext u3
      have hl : (DM.new j).blocks.length = j := by simp [DM.new]
      refine mN_append (z := .string ⟨#[]⟩) (sz := 1) (bytes := 16) Try.underlying67 (by kernel_rfl) (by kernel_rfl) (by omega) hd3.blocks (ys := [.string zeroS]) (by simp) (fun j u hu => h3.cell (by simpa using hu)) (fun u hu => by rw [List.mem_singleton] at hu; subst hu; rfl)
        (by rw [hl]; omega) (by rw [hl]; omega) fun vb4 w4 hr4 u4 y4 => ?_
      have hne4 : ¬ Fp vb wr.heap.size := row_ne hd3.blocks hd3.cells (by decide)
      have hc4 := hd3.cells.keep u4 hne4
      have ho : vb4.oneCell' = true := by
        obtain ⟨A, c, rfl⟩ := hr4.slice
        rfl
      try simp only [push_cast]
      refine mN_store1 (by kernel_rfl) hc4 (by simp) ho fun w5 h5 u5 s5 => ?_
      try simp only [push_cast]
      rw [i64w ((j : Int) + 1) (by omega) (by omega)]
      have y4' : ∀ k, Fp vb4 k → wr.heap.size ≤ k := fun k hk => (y4 k hk).elim (y2 k) fun h => by have := u2.size; have := u3.size; omega
      have hlen : (DM.new j).blocks.length + 1 = (DM.new (j + 1)).blocks.length := by simp [DM.new]
      have hfl : (DM.new j).blocks.flatMap encS ++ [.string zeroS] = (DM.new (j + 1)).blocks.flatMap encS := by
        show (List.replicate j zeroB).flatMap encS ++ _ = (List.replicate (j + 1) zeroB).flatMap encS
        rw [List.replicate_succ', List.flatMap_append]
        simp [encS, joined_zeroB]
      rw [hlen, hfl] at hr4
      refine ⟨⟨j + 1, congrArg (Value.int .i64) (by omega), by omega, ?_, vb4, ⟨h5, ?_, Row.nil _ _ _, ?_, .inl rfl, fun k hk => .inr hk, fun k hk => (by cases hk), fun k hk => ?_, fun k hk => ?_, fun b hb => ?_, fun x hx => (by cases hx), ?_⟩, y4'⟩, by simp only [intOf]; omega⟩
      · refine ((u2.ext u3).young u4 fun i hi => .inr (y2 i hi)).trans u5 (fun _ _ x => x) fun i hi e => by omega
      · exact hr4.keep u5 fun k hf e => row_ne hr4 hc4 (by decide) (e ▸ hf)
      · exact (hd3.keep.keep u4 fun k hk hf => by have := y2 k hf; omega).keep u5 fun k hk e => by omega
      · rcases hk with rfl | hk
        · exact hN
        · have := y4' k hk; omega
      · rcases hk with rfl | hk
        · rw [s5]; exact hc4.lt
        · rw [s5]; exact hr4.lt hk
      · rw [List.eq_of_mem_replicate hb]
        exact zeroB_sec
      · rw [← hlen, hl]; omega
    · obtain rfl : j = n := by omega
      refine k w2 wr.heap.size (fun k => k = wr.heap.size ∨ Fp vb k) ⟨⟨_, _, _, h2⟩, by show (0 : Int) ≤ _; omega⟩ u2 fun k hk => ?_
      rcases hk with rfl | hk
      · omega
      · exact y2 k hk
end
end Go.Proofs.Ythgopkppmppdoaa
