/-
  Package log: Open; rectoplain.Texts.
-/
import Derived.Test.YthgopkppmppdoaaLog2
set_option linter.unusedVariables false
set_option linter.unusedSimpArgs false
set_option maxRecDepth 20000
namespace Go.Proofs.Ythgopkppmppdoaa
open Go Go.Proofs Go.Vc
open Go.Lib (BuilderAt IsBuilder byteCells)
open Go.RowKit (Below intOf)

/-- The text of a row of blocks. -/
def DM.text (D : DM) (start : Nat) : Nat → List UInt8
  | 0 => []
  | n + 1 => D.text start n ++ (D.read ((start : Int) + n)).1.data.toList
def DM.openL (D : DM) (start blocks sealed : Int) : Int × Option LM :=
  if start < 0 ∨ blocks < 1 ∨ D.blocks.length < blocks ∨ D.blocks.length - blocks < start ∨ sealed < 0 ∨ 256 * blocks < sealed then (1, none)
  else if 0 < sealed ∧ D.down = true then (271, none)
  else if (parseL ((D.text start.toNat (nblk sealed.toNat)).take sealed.toNat)).2 = [] then (0, some ⟨start.toNat, blocks.toNat, (D.text start.toNat (nblk sealed.toNat)).take sealed.toNat, sealed.toNat⟩)
  else (290, none)

theorem bld_keep {w w' : World} {B b : Nat} {bs : List Value} {F : Nat → Prop} (h : IsBuilder 153 5 B b bs w) (u : Upd w w' F) (hF : ∀ k, B ≤ k → ¬ F k) : IsBuilder 153 5 B b bs w' := by
  have hrow : ∀ {v : Value} {n : Nat} {xs : List Value}, w.ownsRow B 5 1 v n xs → ∀ g, Fp v g → B ≤ g := by
    intro v n xs h g hg
    rcases h with ⟨hv, ⟨rfl, rfl⟩ | ⟨g', c, cs, rfl, hB, hrest⟩⟩
    · cases hg
    · have : g' = g := by simpa [Fp, Value.ownBlock] using hg
      omega
  rcases h with h | h
  · have hB := h.1
    obtain ⟨v, hb, hr, hne⟩ := bld_blk h
    exact .inl ⟨hB, v, hb.keep u (hF b hB), own_keep hr u fun g hg => hF g (hrow hr g hg), hne⟩
  · have hB := h.1
    obtain ⟨v, hb, hr, hne⟩ := bld_blk h
    exact .inr ⟨hB, v, hb.keep u (hF b hB), own_keep hr u fun g hg => hF g (hrow hr g hg), hne⟩

section
variable {w : World} {K : Value → World → Prop} {p dp : Nat} {fp : Nat → Prop} {D : DM} {L : LM}

theorem isdisk_bn (h : IsDisk w p fp D) : D.blocks.length ≤ 128 := by
  obtain ⟨⟨vb, vw, vk, h⟩, _⟩ := h
  exact h.bn
theorem isdisk_read_in (h : IsDisk w p fp D) {i : Int} (h0 : 0 ≤ i) (h1 : i < D.blocks.length) (hd : D.down = false) : (D.read i).2 = 0 ∧ (D.read i).1.size = 256 := by
  obtain ⟨⟨vb, vw, vk, h⟩, _⟩ := h
  unfold DM.read
  rw [if_neg (by simp; omega), if_neg (by simp [hd])]
  refine ⟨rfl, ?_⟩
  obtain ⟨b, hb⟩ : ∃ b, D.blocks[i.toNat]? = some b := ⟨_, List.getElem?_eq_getElem (by omega)⟩
  have : Sec (lastW i (D.blocks.getD i.toNat []) D.waits) := lastW_sec (by
    rw [List.getD_eq_getElem?_getD, hb]
    exact h.b4 b (List.mem_of_getElem? hb)) fun x hx => (h.w4 x hx).1
  exact joined_size this
theorem read_down {D : DM} {i : Int} (h0 : 0 ≤ i) (h1 : i < D.blocks.length) (hd : D.down = true) : D.read i = (⟨#[]⟩, 271) := by
  unfold DM.read
  rw [if_neg (by simp; omega), if_pos hd]
theorem text_len (h : IsDisk w p fp D) (hd : D.down = false) {s : Nat} : ∀ n, s + n ≤ D.blocks.length → (D.text s n).length = 256 * n
  | 0, _ => rfl
  | n + 1, hn => by
    show (D.text s n ++ _).length = _
    have := (isdisk_read_in (i := (s : Int) + n) h (by omega) (by omega) hd).2
    have e : (D.read ((s : Int) + n)).1.data.toList.length = 256 := this
    rw [List.length_append, text_len h hd n (by omega), e]
    omega

theorem build_log (dp : Nat) (a b : Int) (s : ByteArray) (n : Int) (w : World) : (Instr.build 159 #[(0, dptr dp), (1, .int .i64 a), (2, .int .i64 b), (3, .string s), (4, .int .i64 n)]).run Try.prog w = .ok (.agg #[dptr dp, .int .i64 a, .int .i64 b, .string s, .int .i64 n]) w := by kernel_rfl
theorem box_log (dp : Nat) (a b : Int) (s : ByteArray) (n : Int) (w : World) : (Instr.box 159 (.agg #[dptr dp, .int .i64 a, .int .i64 b, .string s, .int .i64 n])).run Try.prog w = .ok (.pointer (some ⟨w.heap.size, 0, none⟩)) (w.alloc (.cells #[dptr dp, .int .i64 a, .int .i64 b, .string s, .int .i64 n] 159 (0, 0))) := by kernel_rfl

/-- log.Open -/
theorem open_c (h : IsDisk w dp fp D) (start blocks sealed : Int) (k0 : ∀ e, D.openL start blocks sealed = (e, none) → e ≠ 0 → ∀ w', Ext w w' → K (.tuple #[.pointer none, .int .i64 e]) w')
    (k1 : ∀ L, D.openL start blocks sealed = (0, some L) → L.Ok → ∀ w' q, Blk w' q 159 (logC dp L) → Ext w w' → w.heap.size ≤ q → K (.tuple #[dptr q, .int .i64 0]) w') : mCall Try.prog 38 #[dptr dp, .int .i64 start, .int .i64 blocks, .int .i64 sealed] w K := by
  have hbn := isdisk_bn h
  have hbad : (start < 0 ∨ blocks < 1 ∨ D.blocks.length < blocks ∨ D.blocks.length - blocks < start ∨ sealed < 0 ∨ 256 * blocks < sealed) → K (.tuple #[.pointer none, .int .i64 1]) w := fun hb =>
    k0 1 (if_pos hb) (by decide) w (Upd.refl _ _)
  refine ⟨ok38 ?_⟩
  unfold sh38
  try simp only [push_cast]
  refine mIf_dec (fun h1 => hbad (by omega)) fun h1 => ?_
  refine mIf_dec (fun h2 => hbad (by omega)) fun h2 => ?_
  refine isdisk_blocks h ?_
  try simp only [push_cast]
  refine mIf_dec (fun h3 => hbad (by omega)) fun h3 => ?_
  refine isdisk_blocks h ?_
  try simp only [push_cast]
  rw [i64w _ (by omega) (by omega)]
  refine mIf_dec (fun h4 => hbad (by omega)) fun h4 => ?_
  refine mIf_dec (fun h5 => hbad (by omega)) fun h5 => ?_
  rw [i64w _ (by omega) (by omega)]
  refine mIf_dec (fun h6 => hbad (by omega)) fun h6 => ?_
  clear hbad
  obtain ⟨s, rfl⟩ : ∃ n : Nat, start = n := ⟨start.toNat, by omega⟩
  obtain ⟨bl, rfl⟩ : ∃ n : Nat, blocks = n := ⟨blocks.toNat, by omega⟩
  obtain ⟨m, rfl⟩ : ∃ n : Nat, sealed = n := ⟨sealed.toNat, by omega⟩
  unfold DM.openL at k0 k1
  rw [if_neg (by omega)] at k0 k1
  rw [Int.toNat_natCast, Int.toNat_natCast, Int.toNat_natCast] at k0 k1
  refine mN_new (zero153 w) fun w1 g1 u1 s1 => ?_
  refine blocksOf_c m (by omega) ?_
  have hnb : nblk m ≤ bl := by unfold nblk; omega
  refine mLoop1.mk (fun x wr => ∃ j : Nat, x = .int .i64 j ∧ j ≤ nblk m ∧ IsBuilder 153 5 w.heap.size w.heap.size (byteCells (D.text s j)) wr ∧ Ext w wr ∧ (0 < j → D.down = false)) (fun x _ => nblk m - (intOf x).toNat) ?_ ?_
  · exact ⟨0, rfl, Nat.zero_le _, builder_new g1, u1, fun h => absurd h (by decide)⟩
  rintro x wr ⟨j, rfl, hj, hb, ur, hdn⟩
  try simp only [push_cast]
  refine mIf_dec (fun hlt => ?_) fun hlt => ?_
  · rw [i64w ((s : Int) + j) (by omega) (by omega)]
    have hdr := h.ext ur
    refine isdisk_read hdr _ fun w2 u2 => ?_
    try simp only [push_cast]
    have hb2 := bld_keep hb u2 fun _ _ => id
    have a2 : Ext w w2 := ur.ext u2
    cases hd : D.down with
    | true =>
      rw [read_down (by omega) (by omega) hd]
      refine mIf_neI (fun _ => ?_) fun h => absurd h (by decide)
      refine k0 271 ?_ (by decide) w2 a2
      rw [if_pos ⟨by unfold nblk at hlt; omega, hd⟩]
    | false =>
      obtain ⟨e0, e1⟩ := isdisk_read_in (i := (s : Int) + j) h (by omega) (by omega) hd
      rw [e0]
      refine mIf_neI (fun h => absurd rfl h) fun _ => ?_
      have htl := text_len h hd (s := s) j (by omega)
      refine write_c (l := D.text s j) (s := (D.read ((s : Int) + j)).1) hb2 a2.size (by omega) fun w3 hb3 bel3 => ?_
      try simp only [push_cast]
      rw [i64w ((j : Int) + 1) (by omega) (by omega)]
      refine ⟨⟨j + 1, congrArg (Value.int .i64) (by omega), by omega, hb3, ?_, fun _ => by first | trivial | exact hd⟩, ?_⟩
      · exact ⟨bel3.os.trans a2.os, bel3.tape.trans a2.tape, by rw [bel3.output, a2.output], Nat.le_trans a2.size bel3.size, fun i hi _ => by rw [bel3.block i hi, a2.old i hi id]⟩
      · simp only [intOf]
        omega
  · obtain rfl : j = nblk m := by omega
    have hsz := ur.size
    refine mCall_kit (Try.Builder_String_any w.heap.size w.heap.size (D.text s (nblk m)) wr hb (by omega)) fun w2 b2 => ?_
    have a2 : Ext w w2 := ⟨b2.os.trans ur.os, b2.tape.trans ur.tape, by rw [b2.output, ur.output], Nat.le_trans ur.size b2.size, fun i hi _ => by rw [b2.block i hi, ur.old i hi id]⟩
    have htm : m ≤ (D.text s (nblk m)).length := by
      rcases Nat.eq_zero_or_pos m with h0 | h0
      · omega
      · rw [text_len h (hdn (by unfold nblk; omega)) _ (by omega)]
        unfold nblk
        omega
    refine mN_v (r_sliceSh w2 Try.underlying9 _ _ (by omega) (by show (m : Int) ≤ ((ofL _).size : Int); rw [ofL_size]; omega)) ?_
    rw [show (⟨(D.text s (nblk m)).toArray⟩ : ByteArray) = ofL (D.text s (nblk m)) from rfl, ofL_extract, List.drop_zero, Int.toNat_natCast, Nat.sub_zero]
    have htl : ((D.text s (nblk m)).take m).length = m := by rw [List.length_take]; omega
    rw [if_neg (by
      rintro ⟨h7, h8⟩
      rw [hdn (by unfold nblk; omega)] at h8
      cases h8)] at k0 k1
    generalize (D.text s (nblk m)).take m = t at htl k0 k1 ⊢
    refine whole_c (by omega) fun w3 u3 => ?_
    have a3 := a2.ext u3
    try simp only [push_cast]
    by_cases hw : (parseL t).2 = []
    · simp only [hw, decide_true, Bool.not_true]
      rw [if_pos hw] at k1
      try simp only [push_cast]
      refine mN_v (build_log _ _ _ _ _ _) ?_
      refine mN_new (box_log _ _ _ _ _ _) fun w4 h4 u4 s4 => ?_
      exact k1 ⟨s, bl, t, m⟩ rfl ⟨by show s ≤ 128; omega, by show bl ≤ 128; omega, by show t.length ≤ 256 * bl; omega, by show m ≤ t.length; omega⟩ w4 _ h4 (a3.ext u4) a3.size
    · simp only [hw, decide_false, Bool.not_false]
      rw [if_neg hw] at k0
      exact k0 290 rfl (by decide) w3 a3
end
end Go.Proofs.Ythgopkppmppdoaa
