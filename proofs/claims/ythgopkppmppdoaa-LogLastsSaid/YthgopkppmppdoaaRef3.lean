/-
  The reference's disk: each function as one fact about the model.
-/
import Derived.Test.YthgopkppmppdoaaRef2
set_option linter.unusedVariables false
set_option linter.unusedSimpArgs false
set_option maxRecDepth 20000
namespace Go.Proofs.Ythgopkppmppdoaa
open Go Go.Proofs Go.Vc
open Go.RowKit (Below intOf)

section
variable {w : World} {K : Value → World → Prop} {p N : Nat} {fp fk : Nat → Prop} {D : DM} {vb vw vk v : Value} {keep : List Int}

/-- What a function that changes a reference's disk leaves. -/
def RAfter (w : World) (p : Nat) (fp : Nat → Prop) (N : Nat) (D' : DM) (w' : World) : Prop := ∃ fp', IsRef w' p fp' N D' ∧ Upd w w' fp ∧ ∀ k, fp' k → fp k ∨ w.heap.size ≤ k

theorem IsRef.stay {w' : World} {F : Nat → Prop} (h : IsRef w p fp N D) (u : Upd w w' F) (hn : ∀ k, fp k → ¬ F k) (hN : ∀ k, k < N → ¬ F k) : IsRef w' p fp N D := by
  obtain ⟨⟨vb, vw, vk, h⟩, ha⟩ := h
  exact ⟨⟨vb, vw, vk, h.stay u hn hN⟩, ha⟩
theorem IsRef.lt (h : IsRef w p fp N D) {k : Nat} (hk : fp k) : k < w.heap.size := by
  obtain ⟨⟨vb, vw, vk, h⟩, ha⟩ := h
  exact h.fplt k hk
theorem IsRef.young (h : IsRef w p fp N D) {k : Nat} (hk : fp k) : N ≤ k := by
  obtain ⟨⟨vb, vw, vk, h⟩, ha⟩ := h
  exact h.fpN k hk
theorem IsRef.ext {w' : World} (h : IsRef w p fp N D) (u : Ext w w') : IsRef w' p fp N D := h.stay u (fun _ _ => id) fun _ _ => id

theorem isref_write (h : IsRef w p fp N D) (hwn : D.waits.length ≤ 1000000000) (hN : N ≤ w.heap.size) (i : Int) (s : ByteArray) (k : ∀ w', RAfter w p fp N (D.write i s).2 w' → K (.int .i64 (D.write i s).1) w') : mCall Try.prog 37 #[dptr p, .int .i64 i, .string s] w K := by
  obtain ⟨⟨vb, vw, vk, h⟩, ha⟩ := h
  refine rwrite_c h ha hwn hN i s fun w' fp' vw' h' u y => k w' ⟨fp', ⟨⟨_, _, _, h'⟩, ?_⟩, u, y⟩
  have := (goes_len D).2.2.2.2 ha
  unfold DM.write
  split
  · exact ha
  · split
    · exact ha
    · split <;> exact this
theorem isref_flush (h : IsRef w p fp N D) (k : ∀ w', RAfter w p fp N D.flush.2 w' → K (.int .i64 D.flush.1) w') : mCall Try.prog 79 #[dptr p] w K := by
  obtain ⟨⟨vb, vw, vk, h⟩, ha⟩ := h
  refine rflush_c h ha fun w' vw' h' u => k w' ⟨fp, ⟨⟨_, _, _, h'⟩, ?_⟩, u, fun _ x => .inl x⟩
  have := (goes_len D).2.2.2.2 ha
  unfold DM.flush
  split
  · exact ha
  · split <;> exact this
theorem isref_set (h : IsRef w p fp N D) (after : Int) (hA : after ≤ 9223372036854775807) (cut : Bool) (hk : Ints w v keep (· < N)) (hN : N ≤ w.heap.size) (k : ∀ w', RAfter w p fp N (D.set after cut keep).2 w' → K (.int .i64 (D.set after cut keep).1) w') :
    mCall Try.prog 82 #[dptr p, .agg #[.int .i64 after, .bool cut, v]] w K := by
  obtain ⟨⟨vb, vw, vk, h⟩, ha⟩ := h
  refine ⟨ok82 ?_⟩
  unfold sh82
  have hbox : (Instr.box 104 (.agg #[.int .i64 after, .bool cut, v])).run Try.prog w = .ok (.pointer (some ⟨w.heap.size, 0, none⟩)) (w.alloc (.cells #[.int .i64 after, .bool cut, v] 104 (0, 0))) := by kernel_rfl
  refine mN_new hbox fun w1 h1 u1 s1 => ?_
  have hd1 := h.ext u1
  have hk1 := hk.keep u1 fun _ _ => id
  unfold dptr
  try simp only [push_cast]
  refine mN_v (r_loadB _ (by kernel_rfl) h1 rfl) ?_
  try simp only [push_cast]
  refine mIf_dec (fun h0 => ?_) fun h0 => ?_
  · have e : D.set after cut keep = (1, D) := by simp [DM.set, h0]
    rw [e] at k
    exact k w1 ⟨fp, ⟨⟨_, _, _, hd1⟩, ha⟩, u1.mono fun _ _ => False.elim, fun _ x => .inl x⟩
  refine mN_v (r_loadB _ (by kernel_rfl) hd1.cells rfl) ?_
  cases hd : D.down with
  | true =>
    have e : D.set after cut keep = (271, D) := by simp [DM.set, h0, hd]
    rw [e] at k
    try simp only [push_cast]
    exact k w1 ⟨fp, ⟨⟨_, _, _, hd1⟩, ha⟩, u1.mono fun _ _ => False.elim, fun _ x => .inl x⟩
  | false =>
    have e : D.set after cut keep = (0, { D with after := after, cut := cut, keep := keep, armed := true }) := by simp [DM.set, h0, hd]
    rw [e] at k
    try simp only [push_cast]
    have ho : v.oneCell' = true := by
      obtain ⟨A, c, rfl⟩ := Arr.slice hk
      rfl
    refine mN_v (r_loadN w1 (n := 3) (by kernel_rfl) (by kernel_rfl) h1 (by simp)) ?_
    refine mN_storeN (vs := [.int .i64 after, .bool cut, v]) (by kernel_rfl) hd1.cells (by simp) (fun u hu => ?_) fun w4 h4 u4 s4 => ?_
    · simp only [List.mem_cons, List.not_mem_nil, or_false] at hu
      rcases hu with rfl | rfl | rfl
      · rfl
      · rfl
      · exact ho
    · try simp only [push_cast]
      refine mN_store1 (by kernel_rfl) h4 (by simp [splice]) rfl fun w5 h5 u5 s5 => ?_
      have u35 : Upd w1 w5 (· = p) := u4.then u5
      have hs35 : w5.heap.size = w1.heap.size := by omega
      have hpN := h.fpN p h.fpp
      refine k w5 ⟨fp, ⟨⟨_, _, v, ⟨h5, ?_, ?_, ?_, hd1.fpp, hd1.fpb, hd1.fpw, hd1.fpN, fun k hk => (by rw [hs35]; exact hd1.fplt k hk), hd1.b4, hd1.w4, hd1.bn⟩⟩, hA⟩, ?_, fun _ x => .inl x⟩
      · exact hd1.blocks.keep u35 fun k hf e => row_ne hd1.blocks hd1.cells (by decide) (e ▸ hf)
      · exact hd1.waits.keep u35 fun k hf e => row_ne hd1.waits hd1.cells (by decide) (e ▸ hf)
      · exact hk1.keep u35 fun k hf e => by omega
      · exact u1.trans u35 (fun _ _ x => x.elim) fun i hi e => by rw [e]; exact h.fpp
theorem isref_crash (h : IsRef w p fp N D) (hk : Ints w v keep (· < N)) (k : ∀ w', RAfter w p fp N (D.crash keep).2 w' → K (.int .i64 (D.crash keep).1) w') : mCall Try.prog 80 #[dptr p, v] w K := by
  obtain ⟨⟨vb, vw, vk, h⟩, ha⟩ := h
  refine ⟨ok80 ?_⟩
  unfold sh80 dptr
  try simp only [push_cast]
  refine mN_v (r_loadB _ (by kernel_rfl) h.cells rfl) ?_
  cases hd : D.down with
  | true =>
    have e : D.crash keep = (271, D) := by simp [DM.crash, hd]
    rw [e] at k
    try simp only [push_cast]
    exact k w ⟨fp, ⟨⟨_, _, _, h⟩, ha⟩, Upd.refl _ _, fun _ x => .inl x⟩
  | false =>
    have e : D.crash keep = (0, D.fall keep) := by simp [DM.crash, hd]
    rw [e] at k
    try simp only [push_cast]
    exact rfall_c h hk fun w' hd' u => k w' ⟨fp, ⟨⟨_, _, _, hd'⟩, ha⟩, u, fun _ x => .inl x⟩
theorem isref_start (h : IsRef w p fp N D) (k : ∀ w', RAfter w p fp N D.start.2 w' → K (.int .i64 D.start.1) w') : mCall Try.prog 81 #[dptr p] w K := by
  obtain ⟨⟨vb, vw, vk, h⟩, ha⟩ := h
  refine ⟨ok81 ?_⟩
  unfold sh81 dptr
  try simp only [push_cast]
  refine mN_v (r_loadB _ (by kernel_rfl) h.cells rfl) ?_
  cases hd : D.down with
  | false =>
    have e : D.start = (7, D) := by simp [DM.start, hd]
    rw [e] at k
    try simp only [push_cast, Bool.not_false]
    exact k w ⟨fp, ⟨⟨_, _, _, h⟩, ha⟩, Upd.refl _ _, fun _ x => .inl x⟩
  | true =>
    have e : D.start = (0, { D with down := false }) := by simp [DM.start, hd]
    rw [e] at k
    try simp only [push_cast, Bool.not_true]
    refine mN_store1 (by kernel_rfl) h.cells (by simp) rfl fun w' hb hu hs => ?_
    exact k w' ⟨fp, ⟨⟨_, _, _, h.put (D' := { D with down := false }) rfl rfl rfl hu hs hb⟩, ha⟩, hu.mono fun i _ e => by rw [e]; exact h.fpp, fun _ x => .inl x⟩
theorem isref_read (h : IsRef w p fp N D) (i : Int) (k : ∀ w', Ext w w' → K (.tuple #[.string (D.read i).1, .int .i64 (D.read i).2]) w') : mCall Try.prog 96 #[dptr p, .int .i64 i] w K := by
  obtain ⟨⟨vb, vw, vk, h⟩, ha⟩ := h
  exact rread_c h i k
end
end Go.Proofs.Ythgopkppmppdoaa
