/-
  The reference's logs: Open, Add, Drop, Write.
-/
import Derived.Test.YthgopkppmppdoaaLog6
set_option linter.unusedVariables false
set_option linter.unusedSimpArgs false
set_option maxRecDepth 20000
namespace Go.Proofs.Ythgopkppmppdoaa
open Go Go.Proofs Go.Vc
open Go.RowKit (Below intOf)

theorem openL_some {D : DM} {s b m : Int} {L : LM} {e : Int} (h : D.openL s b m = (e, some L)) :
    ¬ (s < 0 ∨ b < 1 ∨ D.blocks.length < b ∨ D.blocks.length - b < s ∨ m < 0 ∨ 256 * b < m) ∧ ¬ (0 < m ∧ D.down = true) ∧ (parseL L.b).2 = [] ∧ L.start = s.toNat ∧ L.blocks = b.toNat ∧ L.sealed = m.toNat ∧ L.b = (D.text s.toNat (nblk m.toNat)).take m.toNat ∧ e = 0 := by
  unfold DM.openL at h
  split at h
  · cases h
  rename_i h1
  split at h
  · cases h
  rename_i h2
  split at h
  · rename_i h3
    injection h with h4 h5
    injection h5 with h5
    subst h5
    exact ⟨h1, h2, h3, rfl, rfl, rfl, rfl, h4.symm⟩
  · cases h

/-- The reference's log of a log. -/
def LM.ref (L : LM) : RM := ⟨L.start, L.blocks, (parseL L.b).1, (parseL L.b).1.length⟩

/-- A log and the reference's. -/
structure Same (L : LM) (R : RM) : Prop where
  start : L.start = R.start
  blocks : L.blocks = R.blocks
  b : L.b = recsL R.recs
  sd : L.sealed = (recsL (R.recs.take R.sealed)).length
  short : ∀ s ∈ R.recs, s.length ≤ 65536
  sle : R.sealed ≤ R.recs.length
  ok : L.Ok

theorem recsL_split (l : List (List UInt8)) (n : Nat) : recsL l = recsL (l.take n) ++ recsL (l.drop n) := by rw [← recsL_append, List.take_append_drop]
theorem recsL_len (l : List (List UInt8)) : l.length ≤ (recsL l).length := by
  induction l with
  | nil => exact Nat.le_refl _
  | cons s l ih =>
    rw [recsL_cons, List.length_append, textL_len]
    simp
    omega

def RM.add (R : RM) (s : List UInt8) : Int × RM :=
  if 65536 < s.length then (2, R) else if 256 * R.blocks < (recsL R.recs).length + (textL s).length then (5, R) else (0, { R with recs := R.recs ++ [s] })
theorem Same.add {L : LM} {R : RM} (h : Same L R) (s : List UInt8) : (R.add s).1 = (L.add s).1 ∧ Same (L.add s).2 (R.add s).2 := by
  have ok := LM.add_ok (s := s) h.ok
  unfold LM.add at *
  unfold RM.add
  rw [← h.b, ← h.blocks]
  split
  · exact ⟨rfl, h⟩
  rename_i h1
  rw [if_neg h1] at ok
  split
  · exact ⟨rfl, h⟩
  rename_i h2
  rw [if_neg h2] at ok
  refine ⟨rfl, ⟨h.start, rfl, ?_, ?_, ?_, ?_, ok⟩⟩
  · show L.b ++ textL s = recsL (R.recs ++ [s])
    rw [recsL_append, recsL_one, h.b]
  · show L.sealed = (recsL ((R.recs ++ [s]).take R.sealed)).length
    rw [List.take_append_of_le_length h.sle]
    exact h.sd
  · intro t ht
    rcases List.mem_append.1 ht with ht | ht
    · exact h.short t ht
    · rw [List.mem_singleton] at ht
      subst ht
      omega
  · show R.sealed ≤ (R.recs ++ [s]).length
    have := h.sle
    simp
    omega
theorem Same.seal {L : LM} {R : RM} (h : Same L R) : Same { L with sealed := L.b.length } { R with sealed := R.recs.length } := by
  refine ⟨h.start, h.blocks, h.b, ?_, h.short, Nat.le_refl _, ⟨h.ok.s, h.ok.n, h.ok.len, Nat.le_refl _⟩⟩
  show L.b.length = (recsL (R.recs.take R.recs.length)).length
  rw [List.take_of_length_le (Nat.le_refl _), h.b]
theorem Same.drop {L : LM} {R : RM} (h : Same L R) : Same { L with b := L.b.take L.sealed } { R with recs := R.recs.take R.sealed } := by
  have hb : L.b.take L.sealed = recsL (R.recs.take R.sealed) := by
    rw [h.b, h.sd]
    conv => lhs; rw [recsL_split R.recs R.sealed]
    rw [List.take_append_of_le_length (Nat.le_refl _), List.take_of_length_le (Nat.le_refl _)]
  have hl := congrArg List.length hb
  have h2 := h.ok.sl
  have h3 := h.ok.len
  rw [List.length_take] at hl
  refine ⟨h.start, h.blocks, hb, ?_, fun s hs => h.short s (List.mem_of_mem_take hs), ?_, ⟨h.ok.s, h.ok.n, ?_, ?_⟩⟩
  · show L.sealed = (recsL ((R.recs.take R.sealed).take R.sealed)).length
    rw [List.take_take, Nat.min_self]
    exact h.sd
  · show R.sealed ≤ (R.recs.take R.sealed).length
    rw [List.length_take]
    have := h.sle
    omega
  · show (L.b.take L.sealed).length ≤ 256 * L.blocks
    rw [List.length_take]
    omega
  · show L.sealed ≤ (L.b.take L.sealed).length
    rw [List.length_take]
    omega
theorem Same.open_ {D : DM} {s b m : Int} {L : LM} (h : D.openL s b m = (0, some L)) (ok : L.Ok) (hl : L.b.length = L.sealed) : Same L L.ref := by
  obtain ⟨_, _, h3, _⟩ := openL_some h
  have hw := parseL_whole h3
  refine ⟨rfl, rfl, hw, ?_, (parseL_spec L.b).2, Nat.le_refl _, ok⟩
  show L.sealed = (recsL ((parseL L.b).1.take (parseL L.b).1.length)).length
  rw [List.take_of_length_le (Nat.le_refl _), ← hw, hl]

section
variable {w : World} {K : Value → World → Prop} {p q g N : Nat} {fp fq fr : Nat → Prop} {D : DM} {L : LM} {R : RM}

theorem isref_read_in (h : IsRef w q fq N D) {i : Int} (h0 : 0 ≤ i) (h1 : i < D.blocks.length) (hd : D.down = false) : (D.read i).2 = 0 ∧ (D.read i).1.size = 256 := by
  obtain ⟨⟨vb, vw, vk, h⟩, _⟩ := h
  unfold DM.read
  rw [if_neg (by simp; omega), if_neg (by simp [hd])]
  refine ⟨rfl, ?_⟩
  obtain ⟨b, hb⟩ : ∃ b, D.blocks[i.toNat]? = some b := ⟨_, List.getElem?_eq_getElem (by omega)⟩
  have : Sec (lastW i (D.blocks.getD i.toNat []) D.waits) := lastW_sec (by
    rw [List.getD_eq_getElem?_getD, hb]
    exact h.b4 b (List.mem_of_getElem? hb)) fun x hx => (h.w4 x hx).1
  exact joined_size this
theorem rtext_len (h : IsRef w q fq N D) (hd : D.down = false) {s : Nat} : ∀ n, s + n ≤ D.blocks.length → (D.text s n).length = 256 * n
  | 0, _ => rfl
  | n + 1, hn => by
    show (D.text s n ++ _).length = _
    have := (isref_read_in (i := (s : Int) + n) h (by omega) (by omega) hd).2
    have e : (D.read ((s : Int) + n)).1.data.toList.length = 256 := this
    rw [List.length_append, rtext_len h hd n (by omega), e]
    omega
theorem isref_bn (h : IsRef w q fq N D) : D.blocks.length ≤ 128 := by
  obtain ⟨⟨vb, vw, vk, h⟩, _⟩ := h
  exact h.bn
theorem isref_cells (h : IsRef w q fq N D) : ∃ A c vw vk, Blk w q 106 [.slice A D.blocks.length c, vw, .bool D.down, .bool D.armed, .int .i64 D.after, .bool D.cut, vk] := by
  obtain ⟨⟨vb, vw, vk, h⟩, _⟩ := h
  obtain ⟨A, c, rfl⟩ := h.blocks.slice
  exact ⟨A, c, vw, vk, h.cells⟩

theorem zero62 (w : World) : (Instr.alloc 62 true (.tuple #[])).run Try.prog w = .ok (.pointer (some ⟨w.heap.size, 0, none⟩)) (w.alloc (.cells #[.pointer none, .int .i64 0] 62 (0, 0))) := by kernel_rfl
theorem build62e (e : Int) (w : World) : (Instr.build 62 #[(1, .int .i64 e)]).run Try.prog w = .ok (.agg #[.pointer none, .int .i64 e]) w := by kernel_rfl
theorem build62p (g : Nat) (w : World) : (Instr.build 62 #[(0, .pointer (some ⟨g, 0, none⟩))]).run Try.prog w = .ok (.agg #[.pointer (some ⟨g, 0, none⟩), .int .i64 0]) w := by kernel_rfl
theorem box65 (a b c : Int) (w : World) : (Instr.box 65 (.agg #[.int .i64 a, .int .i64 b, .int .i64 c])).run Try.prog w = .ok (.pointer (some ⟨w.heap.size, 0, none⟩)) (w.alloc (.cells #[.int .i64 a, .int .i64 b, .int .i64 c] 65 (0, 0))) := by kernel_rfl
theorem build70 (a b : Int) (A : Option Addr) (n c : Nat) (m : Int) (w : World) : (Instr.build 70 #[(0, .int .i64 a), (1, .int .i64 b), (2, .slice A n c), (3, .int .i64 m)]).run Try.prog w = .ok (.agg #[.int .i64 a, .int .i64 b, .slice A n c, .int .i64 m]) w := by kernel_rfl
theorem box70 (a b : Int) (A : Option Addr) (n c : Nat) (m : Int) (w : World) : (Instr.box 70 (.agg #[.int .i64 a, .int .i64 b, .slice A n c, .int .i64 m])).run Try.prog w = .ok (.pointer (some ⟨w.heap.size, 0, none⟩)) (w.alloc (.cells #[.int .i64 a, .int .i64 b, .slice A n c, .int .i64 m] 70 (0, 0))) := by kernel_rfl

theorem r62_fail {g : Nat} {cs : List Value} (e : Int) (h : Blk w g 62 cs) (hl : cs.length = 2) {w0 : World} (u : Ext w0 w) (hg : w0.heap.size ≤ g) (k : ∀ w', Ext w0 w' → K (.agg #[.pointer none, .int .i64 e]) w') :
    mN Try.prog (vS (Instr.build 62 #[(1, .int .i64 e)])) w fun t w => mN Try.prog (uS (Instr.storeAt 62 (.pointer (some ⟨g, 0, none⟩)) t)) w fun _ w => mRes Try.prog (cellS 62 (.pointer (some ⟨g, 0, none⟩))) w fun r0 => K r0 w := by
  refine mN_v (build62e e w) ?_
  exact ret_agg (vs := [.pointer none, .int .i64 e]) (by kernel_rfl) (n := 2) rfl (by kernel_rfl) h hl (by intro u hu; simp at hu; rcases hu with rfl | rfl <;> rfl) u hg k

/-- rectoref29.Open -/
theorem ropen_c (h : IsRef w q fq N D) (start blocks sealed : Int) (k0 : ∀ e, D.openL start blocks sealed = (e, none) → e ≠ 0 → ∀ w', Ext w w' → K (.agg #[.pointer none, .int .i64 e]) w')
    (k1 : ∀ L, D.openL start blocks sealed = (0, some L) → L.Ok → L.b.length = L.sealed → ∀ w' g, IsRL w' g (fun k => w.heap.size ≤ k ∧ k < w'.heap.size) L.ref → Ext w w' → K (.agg #[.pointer (some ⟨g, 0, none⟩), .int .i64 0]) w') :
    mCall Try.prog 39 #[dptr q, .agg #[.int .i64 start, .int .i64 blocks, .int .i64 sealed]] w K := by
  have hbn := isref_bn h
  refine ⟨ok39 ?_⟩
  unfold sh39
  refine mN_new (box65 _ _ _ w) fun w1 h1 u1 s1 => ?_
  refine mN_new (zero62 w1) fun w2 h2 u2 s2 => ?_
  unfold mDrew
  have u3 : Ext w2 w2.drew := Upd.drew w2 _
  have g1 := (h1.keep u2 id).keep u3 id
  have g2 := h2.keep u3 id
  have a3 : Ext w w2.drew := (u1.ext u2).ext u3
  generalize w2.drew = w3 at u3 g1 g2 a3
  have hsz1 : w.heap.size ≤ w1.heap.size := u1.size
  have h3 := h.ext a3
  obtain ⟨A, c, vw, vk, hc⟩ := isref_cells h3
  have hbad : (start < 0 ∨ blocks < 1 ∨ D.blocks.length < blocks ∨ D.blocks.length - blocks < start ∨ sealed < 0 ∨ 256 * blocks < sealed) →
      mN Try.prog (vS (Instr.build 62 #[(1, .int .i64 1)])) w3 fun t w => mN Try.prog (uS (Instr.storeAt 62 (.pointer (some ⟨w1.heap.size, 0, none⟩)) t)) w fun _ w => mRes Try.prog (cellS 62 (.pointer (some ⟨w1.heap.size, 0, none⟩))) w fun r0 => K r0 w := fun hb =>
    r62_fail 1 g2 rfl a3 hsz1 (k0 1 (if_pos hb) (by decide))
  unfold dptr
  try simp only [push_cast]
  refine mR_v (r_loadB _ (by kernel_rfl) g1 rfl) ?_
  try simp only [push_cast]
  refine mIf_dec (fun h1 => hbad (by omega)) fun n1 => ?_
  refine mR_v (r_loadB _ (by kernel_rfl) g1 rfl) ?_
  try simp only [push_cast]
  refine mIf_dec (fun h1 => hbad (by omega)) fun n2 => ?_
  refine mR_v (r_loadB _ (by kernel_rfl) g1 rfl) ?_
  try simp only [push_cast]
  refine mR_v (r_loadB _ (by kernel_rfl) hc rfl) ?_
  try simp only [push_cast]
  refine mIf_dec (fun h1 => hbad (by omega)) fun n3 => ?_
  refine mR_v (r_loadB _ (by kernel_rfl) g1 rfl) ?_
  try simp only [push_cast]
  refine mR_v (r_loadB _ (by kernel_rfl) hc rfl) ?_
  try simp only [push_cast]
  refine mR_v (r_loadB _ (by kernel_rfl) g1 rfl) ?_
  try simp only [push_cast]
  rw [i64w _ (by omega) (by omega)]
  refine mIf_dec (fun h1 => hbad (by omega)) fun n4 => ?_
  refine mR_v (r_loadB _ (by kernel_rfl) g1 rfl) ?_
  try simp only [push_cast]
  refine mIf_dec (fun h1 => hbad (by omega)) fun n5 => ?_
  refine mR_v (r_loadB _ (by kernel_rfl) g1 rfl) ?_
  try simp only [push_cast]
  refine mR_v (r_loadB _ (by kernel_rfl) g1 rfl) ?_
  try simp only [push_cast]
  rw [i64w _ (by omega) (by omega)]
  refine mIf_dec (fun h1 => hbad (by omega)) fun n6 => ?_
  clear hbad
  obtain ⟨s, rfl⟩ : ∃ n : Nat, start = n := ⟨start.toNat, by omega⟩
  obtain ⟨bl, rfl⟩ : ∃ n : Nat, blocks = n := ⟨blocks.toNat, by omega⟩
  obtain ⟨m, rfl⟩ : ∃ n : Nat, sealed = n := ⟨sealed.toNat, by omega⟩
  unfold DM.openL at k0 k1
  rw [if_neg (by omega)] at k0 k1
  rw [Int.toNat_natCast, Int.toNat_natCast, Int.toNat_natCast] at k0 k1
  refine mN_v (r_loadB _ (by kernel_rfl) g1 rfl) ?_
  have hnb : nblk m ≤ bl := by unfold nblk; omega
  refine mLoop2.mk (fun x y wr => ∃ j : Nat, x = .string (ofL (D.text s j)) ∧ y = .int .i64 ((s : Int) + j) ∧ j ≤ nblk m ∧ Ext w3 wr ∧ (0 < j → D.down = false)) (fun _ y _ => s + nblk m - (intOf y).toNat) ?_ ?_
  · exact ⟨0, rfl, congrArg (Value.int .i64) (by omega), Nat.zero_le _, Upd.refl _ _, fun h => absurd h (by decide)⟩
  rintro x y wr ⟨j, rfl, rfl, hj, ur, hdn⟩
  have g1' := g1.keep ur id
  have g2' := g2.keep ur id
  have a4 : Ext w wr := a3.ext ur
  have htl : (D.text s j).length = 256 * j := by
    rcases Nat.eq_zero_or_pos j with rfl | h0
    · rfl
    · exact rtext_len h (hdn h0) j (by omega)
  try simp only [push_cast, ofL_size]
  refine mN_v (r_loadB _ (by kernel_rfl) g1' rfl) ?_
  try simp only [push_cast]
  rw [htl]
  refine mIf_dec (fun hlt => ?_) fun hlt => ?_
  · have hjn : j < nblk m := by unfold nblk; omega
    refine isref_read (h3.ext ur) _ fun w5 u5 => ?_
    try simp only [push_cast]
    cases hd : D.down with
    | true =>
      rw [read_down (by omega) (by omega) hd]
      refine mIf_neI (fun _ => ?_) fun h => absurd h (by decide)
      exact r62_fail 271 (g2'.keep u5 id) rfl (a4.ext u5) hsz1 (k0 271 (by rw [if_pos ⟨by omega, hd⟩]) (by decide))
    | false =>
      obtain ⟨e0, e1⟩ := isref_read_in (i := (s : Int) + j) h (by omega) (by omega) hd
      rw [e0]
      refine mIf_neI (fun h => absurd rfl h) fun _ => ?_
      obtain ⟨x, hx⟩ := ofL_of (D.read ((s : Int) + j)).1
      have hxl : x.length = 256 := by rw [hx] at e1; exact e1
      rw [hx]
      refine mN_v (r_addS _ _ _ _ (by rw [ofL_size, ofL_size]; omega)) ?_
      rw [ofL_append]
      try simp only [push_cast]
      rw [i64w _ (by omega) (by omega)]
      refine ⟨⟨j + 1, ?_, congrArg (Value.int .i64) (by omega), hjn, ur.ext u5, fun _ => by first | trivial | exact hd⟩, ?_⟩
      · show _ = Value.string (ofL (D.text s j ++ (D.read ((s : Int) + j)).1.data.toList))
        rw [hx]
        rfl
      · simp only [intOf]
        omega
  · have hjn : j = nblk m := by unfold nblk at *; omega
    subst hjn
    rw [if_neg (by
      rintro ⟨h7, h8⟩
      rw [hdn (by unfold nblk; omega)] at h8
      cases h8)] at k0 k1
    refine mN_v (r_loadB _ (by kernel_rfl) g1' rfl) ?_
    refine mN_v (r_sliceSh wr Try.underlying9 _ _ (by omega) (by rw [ofL_size]; omega)) ?_
    rw [ofL_extract, List.drop_zero, Int.toNat_natCast, Nat.sub_zero]
    have htm : ((D.text s (nblk m)).take m).length = m := by rw [List.length_take]; omega
    generalize (D.text s (nblk m)).take m = t at htm k0 k1 ⊢
    refine of_c (by omega) (fun hne w5 u5 => ?_) fun he v w5 hv fv u5 => ?_
    · refine mN_new (zero163 w5) fun w6 h6 u6 s6 => ?_
      refine mN_storeN (vs := [.slice none 0 0, .bool false]) (by kernel_rfl) h6 (by simp) (by intro v hv; simp at hv; rcases hv with rfl | rfl <;> rfl) fun w7 h7 u7 s7 => ?_
      rw [splice_all _ _ (by simp)] at h7
      have a7 : Ext wr w7 := (u5.ext u6).trans u7 (fun _ _ x => x) fun i hi e => by have := u5.size; omega
      try simp only [push_cast]
      refine mN_v (r_loadB _ (by kernel_rfl) h7 rfl) ?_
      try simp only [push_cast, Bool.not_false]
      rw [if_neg hne] at k0
      exact r62_fail 290 (g2'.keep a7 id) rfl (a4.ext a7) hsz1 (k0 290 rfl (by decide))
    · refine mN_new (zero163 w5) fun w6 h6 u6 s6 => ?_
      refine mN_storeN (vs := [v, .bool true]) (by kernel_rfl) h6 (by simp) (by intro u hu; simp at hu; rcases hu with rfl | rfl <;> first | rfl | exact row_one hv) fun w7 h7 u7 s7 => ?_
      rw [splice_all _ _ (by simp)] at h7
      have hs5 := u5.size
      have a7 : Ext wr w7 := (u5.ext u6).trans u7 (fun _ _ x => x) fun i hi e => by omega
      have g17 := g1'.keep a7 id
      have hv7 := (hv.keep u6 fun _ _ => id).keep u7 fun k hk e => by have := hv.lt hk; omega
      obtain ⟨A9, c9, rfl⟩ := hv7.slice
      try simp only [push_cast]
      refine mN_v (r_loadB _ (by kernel_rfl) h7 rfl) ?_
      try simp only [push_cast, Bool.not_true]
      refine mN_v (r_loadB _ (by kernel_rfl) g17 rfl) ?_
      try simp only [push_cast]
      refine mN_v (r_loadB _ (by kernel_rfl) g17 rfl) ?_
      try simp only [push_cast]
      refine mN_v (r_loadB _ (by kernel_rfl) h7 rfl) ?_
      try simp only [push_cast]
      refine mN_v (r_loadB _ (by kernel_rfl) h7 rfl) ?_
      try simp only [push_cast]
      refine mN_v (build70 _ _ _ _ _ _ _) ?_
      refine mN_new (box70 _ _ _ _ _ _ _) fun w8 h8 u8 s8 => ?_
      refine mN_v (build62p _ _) ?_
      have a8 : Ext w w8 := (a4.ext a7).ext u8
      have hs7 := a7.size
      have hs4 := a4.size
      have g28 := (g2'.keep a7 id).keep u8 id
      have hg28 := g2'.lt
      refine ret_aggU (vs := [.pointer (some ⟨w7.heap.size, 0, none⟩), .int .i64 0]) (by kernel_rfl) (n := 2) rfl (by kernel_rfl) g28 rfl (by intro u hu; simp at hu; rcases hu with rfl | rfl <;> rfl) fun w9 u9 s9 => ?_
      rw [if_pos he] at k1
      refine k1 ⟨s, bl, t, m⟩ rfl ⟨by show s ≤ 128; omega, by show bl ≤ 128; omega, by show t.length ≤ 256 * bl; omega, by show m ≤ t.length; omega⟩ htm w9 w7.heap.size ⟨_, h8.keep u9 (by omega), (hv7.keep u8 fun _ _ => id).keep u9 fun k hk e => by have := fv k hk; omega, ⟨by omega, by omega⟩, fun k hk => ⟨by have := fv k hk; omega, by have := hv7.lt hk; omega⟩, fun k hk => hk.2⟩
        (a8.trans u9 (fun _ _ x => x) fun i hi e => by omega)
end
end Go.Proofs.Ythgopkppmppdoaa
