/-
  Disks: a new one; and each function of package disk as one fact about the model.
-/
import Derived.Test.YthgopkppmppdoaaDisk8
set_option linter.unusedVariables false
set_option linter.unusedSimpArgs false
set_option maxRecDepth 20000
namespace Go.Proofs.Ythgopkppmppdoaa
open Go Go.Proofs Go.Vc
open Go.RowKit (Below intOf)

def IsDisk (w : World) (p : Nat) (fp : Nat → Prop) (D : DM) : Prop := (∃ vb vw vk, DiskAt w p fp D vb vw vk) ∧ D.after ≤ 9223372036854775807
def DM.new (n : Nat) : DM := ⟨List.replicate n zeroB, [], false, false, 0, false, []⟩

section
variable {w : World} {K : Value → World → Prop} {p : Nat} {fp fk : Nat → Prop} {D : DM} {v : Value} {keep : List Int}

theorem IsDisk.stay {w' : World} {F : Nat → Prop} (h : IsDisk w p fp D) (u : Upd w w' F) (hn : ∀ k, fp k → ¬ F k) : IsDisk w' p fp D := by
  obtain ⟨⟨vb, vw, vk, h⟩, ha⟩ := h
  exact ⟨⟨vb, vw, vk, h.stay u hn⟩, ha⟩
theorem IsDisk.lt (h : IsDisk w p fp D) {k : Nat} (hk : fp k) : k < w.heap.size := by
  obtain ⟨⟨vb, vw, vk, h⟩, ha⟩ := h
  exact h.fplt k hk
theorem IsDisk.ext {w' : World} (h : IsDisk w p fp D) (u : Ext w w') : IsDisk w' p fp D := h.stay u fun _ _ => id

theorem new_c (n : Int) (k0 : (n < 4 ∨ 128 < n) → K (.tuple #[.pointer none, .int .i64 1]) w)
    (k1 : 4 ≤ n → n ≤ 128 → ∀ w' p fp, IsDisk w' p fp (DM.new n.toNat) → Ext w w' → (∀ k, fp k → w.heap.size ≤ k) → K (.tuple #[dptr p, .int .i64 0]) w') : mCall Try.prog 17 #[.int .i64 n] w K := by
  refine ⟨ok17 ?_⟩
  unfold sh17
  try simp only [push_cast]
  refine mIf_dec (fun h => k0 (.inl h)) fun h4 => ?_
  refine mIf_dec (fun h => k0 (.inr h)) fun h128 => ?_
  have hrep := Try.strings_Repeat ⟨#[0]⟩ 256 w (by omega) (by decide)
  refine mCall_kit hrep fun w1 hb1 => ?_
  have ez : (⟨(Lib.repeatL (⟨#[0]⟩ : ByteArray).data.toList 256).toArray⟩ : ByteArray) = zeroS := by
    show (⟨(Lib.repeatL [0] 256).toArray⟩ : ByteArray) = _
    rw [repeat_zero]
    rfl
  rw [ez]
  refine cut_c zeroS_size fun w2 u2 => ?_
  refine mN_new (zero124 w2) fun w3 h3 u3 s3 => ?_
  refine mN_storeN (by kernel_rfl) h3 (by simp [encB, cutS]) encB_one fun w4 h4' u4 s4 => ?_
  rw [splice_all _ _ (by simp [encB, cutS])] at h4'
  refine mN_v (r_loadN w4 (n := 4) (by kernel_rfl) (by kernel_rfl) h4' (by simp [encB, cutS])) ?_
  have e4 : ((encB (cutS zeroS)).drop 0).take 4 = encB zeroB := rfl
  rw [e4]
  have hsl : (Instr.buildSlice 127 1 #[(0, .agg (encB zeroB).toArray)]).run Try.prog w4 = .ok (.slice (some ⟨w4.heap.size, 0, none⟩) 1 1) (w4.alloc (.cells (encB zeroB).toArray 124 (0, 0))) := by kernel_rfl
  refine mN_new hsl fun w5 h5 u5 s5 => ?_
  rw [show (Value.int .i64 n) = .int .i64 (n.toNat : Nat) from congrArg _ (by omega)]
  refine repeat_c zeroB_sec.1 h5 n.toNat (by omega) (by omega) fun w6 g' hr u6 hg' => ?_
  have hbuild : (Instr.build 131 #[(0, .slice (some ⟨g', 0, none⟩) n.toNat n.toNat)]).run Try.prog w6 = .ok (.agg #[.slice (some ⟨g', 0, none⟩) n.toNat n.toNat, .slice none 0 0, .bool false, .bool false, .int .i64 0, .bool false, .slice none 0 0]) w6 := by kernel_rfl
  refine mN_v hbuild ?_
  have hbox : (Instr.box 131 (.agg #[.slice (some ⟨g', 0, none⟩) n.toNat n.toNat, .slice none 0 0, .bool false, .bool false, .int .i64 0, .bool false, .slice none 0 0])).run Try.prog w6 =
      .ok (.pointer (some ⟨w6.heap.size, 0, none⟩)) (w6.alloc (.cells #[.slice (some ⟨g', 0, none⟩) n.toNat n.toNat, .slice none 0 0, .bool false, .bool false, .int .i64 0, .bool false, .slice none 0 0] 131 (0, 0))) := by kernel_rfl
  refine mN_new hbox fun w7 h7 u7 s7 => ?_
  have u14 : Ext w w4 := (((ext_of_below hb1).ext u2).ext u3).trans u4 (fun _ _ x => x) fun i hi e => by
    have := hb1.size
    have := u2.size
    omega
  have hall : Ext w w7 := ((u14.ext u5).ext u6).ext u7
  have hsz : w.heap.size ≤ w4.heap.size := u14.size
  have hsz6 : w5.heap.size ≤ w6.heap.size := u6.size
  have hr7 := hr.keep u7 fun _ _ => id
  have hn : (DM.new n.toNat).blocks.length = n.toNat := by simp [DM.new]
  refine k1 (by omega) (by omega) w7 w6.heap.size (fun k => k = w6.heap.size ∨ k = g') ⟨⟨_, _, _, h7, ?_, Row.nil _ _ _, Row.nil _ _ _, .inl rfl, fun k hk => ?_, fun k hk => (by cases hk), fun k hk => (by cases hk), fun k hk => ?_, fun b hb => ?_, fun x hx => (by cases hx), ?_⟩, by show (0 : Int) ≤ _; omega⟩ hall fun k hk => ?_
  · rw [hn]
    exact hr7
  · right
    have : g' = k := by simpa [Fp, Value.ownBlock] using hk
    exact this.symm
  · rcases hk with rfl | rfl
    · omega
    · exact hr7.lt (by rfl)
  · rw [List.eq_of_mem_replicate hb]
    exact zeroB_sec
  · rw [hn]
    omega
  · rcases hk with rfl | rfl <;> omega

theorem isdisk_blocks (h : IsDisk w p fp D) (k : K (.int .i64 D.blocks.length) w) : mCall Try.prog 32 #[dptr p] w K := by
  obtain ⟨⟨vb, vw, vk, h⟩, ha⟩ := h
  exact blocks_c h k
theorem isdisk_waits (h : IsDisk w p fp D) (k : K (.int .i64 D.waits.length) w) : mCall Try.prog 28 #[dptr p] w K := by
  obtain ⟨⟨vb, vw, vk, h⟩, ha⟩ := h
  exact waits_c h k
theorem isdisk_up (h : IsDisk w p fp D) (k : K (.bool (!D.down)) w) : mCall Try.prog 27 #[dptr p] w K := by
  obtain ⟨⟨vb, vw, vk, h⟩, ha⟩ := h
  exact up_c h k
theorem isdisk_lasts (h : IsDisk w p fp D) (i : Int) (k : ∀ w', Ext w w' → K (.string (D.lasts i)) w') : mCall Try.prog 23 #[dptr p, .int .i64 i] w K := by
  obtain ⟨⟨vb, vw, vk, h⟩, ha⟩ := h
  unfold DM.lasts at k
  refine lasts_c h i (fun h0 => ?_) fun h0 b hb w' u => ?_
  · rw [if_pos (by omega)] at k
    exact k w (Upd.refl _ _)
  · have := (List.getElem?_eq_some_iff.1 hb).1
    rw [if_neg (by omega)] at k
    rw [List.getD_eq_getElem?_getD, hb] at k
    exact k w' u
theorem isdisk_read (h : IsDisk w p fp D) (i : Int) (k : ∀ w', Ext w w' → K (.tuple #[.string (D.read i).1, .int .i64 (D.read i).2]) w') : mCall Try.prog 29 #[dptr p, .int .i64 i] w K := by
  obtain ⟨⟨vb, vw, vk, h⟩, ha⟩ := h
  unfold DM.read at k
  refine read_c h i (fun h0 => ?_) (fun h0 h1 hd => ?_) fun h0 b hb hd w' u => ?_
  · rw [if_pos (by omega)] at k
    exact k w (Upd.refl _ _)
  · rw [if_neg (by omega), if_pos hd] at k
    exact k w (Upd.refl _ _)
  · have := (List.getElem?_eq_some_iff.1 hb).1
    rw [if_neg (by omega), if_neg (by simp [hd])] at k
    rw [List.getD_eq_getElem?_getD, hb] at k
    exact k w' u

/-- What a function that changes a disk leaves. -/
def DAfter (w : World) (p : Nat) (fp : Nat → Prop) (D' : DM) (w' : World) : Prop := ∃ fp', IsDisk w' p fp' D' ∧ Upd w w' fp ∧ ∀ k, fp' k → fp k ∨ w.heap.size ≤ k

theorem isdisk_write (h : IsDisk w p fp D) (hwn : D.waits.length ≤ 1000000000) (i : Int) (s : ByteArray) (k : ∀ w', DAfter w p fp (D.write i s).2 w' → K (.int .i64 (D.write i s).1) w') : mCall Try.prog 20 #[dptr p, .int .i64 i, .string s] w K := by
  obtain ⟨⟨vb, vw, vk, h⟩, ha⟩ := h
  refine write0_c h ha hwn i s fun w' fp' vw' h' u y => k w' ⟨fp', ⟨⟨_, _, _, h'⟩, ?_⟩, u, y⟩
  have := (goes_len D).2.2.2.2 ha
  unfold DM.write
  split
  · exact ha
  · split
    · exact ha
    · split <;> exact this
theorem isdisk_flush (h : IsDisk w p fp D) (k : ∀ w', DAfter w p fp D.flush.2 w' → K (.int .i64 D.flush.1) w') : mCall Try.prog 22 #[dptr p] w K := by
  obtain ⟨⟨vb, vw, vk, h⟩, ha⟩ := h
  refine flush0_c h ha fun w' vw' h' u => k w' ⟨fp, ⟨⟨_, _, _, h'⟩, ?_⟩, u, fun _ x => .inl x⟩
  have := (goes_len D).2.2.2.2 ha
  unfold DM.flush
  split
  · exact ha
  · split <;> exact this
theorem isdisk_set (h : IsDisk w p fp D) (after : Int) (hA : after ≤ 9223372036854775807) (cut : Bool) (hk : Ints w v keep fk) (hn : keep.length ≤ 1000000) (k : ∀ w', DAfter w p fp (D.set after cut keep).2 w' → K (.int .i64 (D.set after cut keep).1) w') :
    mCall Try.prog 26 #[dptr p, .agg #[.int .i64 after, .bool cut, v]] w K := by
  obtain ⟨⟨vb, vw, vk, h⟩, ha⟩ := h
  refine set0_c h after cut hk hn fun w' fp' vk' h' u y => k w' ⟨fp', ⟨⟨_, _, _, h'⟩, ?_⟩, u, y⟩
  unfold DM.set
  split
  · exact ha
  · split
    · exact ha
    · exact hA
theorem isdisk_crash (h : IsDisk w p fp D) (hk : Ints w v keep fk) (hne : ∀ k, fk k → ¬ fp k) (k : ∀ w', DAfter w p fp (D.crash keep).2 w' → K (.int .i64 (D.crash keep).1) w') : mCall Try.prog 30 #[dptr p, v] w K := by
  obtain ⟨⟨vb, vw, vk, h⟩, ha⟩ := h
  refine crash0_c h hk hne fun w' vw' h' u => k w' ⟨fp, ⟨⟨_, _, _, h'⟩, ?_⟩, u, fun _ x => .inl x⟩
  unfold DM.crash
  split <;> exact ha
theorem isdisk_start (h : IsDisk w p fp D) (k : ∀ w', DAfter w p fp D.start.2 w' → K (.int .i64 D.start.1) w') : mCall Try.prog 31 #[dptr p] w K := by
  obtain ⟨⟨vb, vw, vk, h⟩, ha⟩ := h
  unfold DM.start at k
  refine start_c h (fun h0 => ?_) fun h0 w' h' u s => ?_
  · rw [if_pos h0] at k
    exact k w ⟨fp, ⟨⟨_, _, _, h⟩, ha⟩, Upd.refl _ _, fun _ x => .inl x⟩
  · rw [if_neg (by simp [h0])] at k
    refine k w' ⟨fp, ⟨⟨_, _, _, h'⟩, ha⟩, u.mono fun i _ e => by rw [e]; exact h.fpp, fun _ x => .inl x⟩
end
end Go.Proofs.Ythgopkppmppdoaa
