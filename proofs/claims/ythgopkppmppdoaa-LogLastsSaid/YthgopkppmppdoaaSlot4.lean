/-
  Slots: putting, formatting; two slots, one behind the other.
-/
import Derived.Test.YthgopkppmppdoaaSlot3
import Derived.Test.YthgopkppmppdoaaStEq
set_option linter.unusedVariables false
set_option linter.unusedSimpArgs false
set_option maxRecDepth 20000
namespace Go.Proofs.Ythgopkppmppdoaa
open Go Go.Proofs Go.Vc
open Go.RowKit (Below intOf)

theorem goes_free {D : DM} (h : D.armed = false) : D.goes = (none, D) := by simp [DM.goes, h]
theorem write_free {D : DM} (h : D.armed = false) (hd : D.down = false) {i : Int} (h0 : 0 ≤ i) (h1 : i < D.blocks.length) {s : ByteArray} (hs : s.size = 256) :
    D.write i s = (0, { D with waits := D.waits ++ [(i, cutS s)] }) := by
  unfold DM.write
  rw [if_neg (by simp [hs]; omega), if_neg (by simp [hd]), goes_free h]
theorem flush_free {D : DM} (h : D.armed = false) (hd : D.down = false) : D.flush = (0, { D with blocks := flushTo D.blocks D.waits D.waits.length, waits := [] }) := by
  unfold DM.flush
  rw [if_neg (by simp [hd]), goes_free h]
theorem write_waits (D : DM) (i : Int) (s : ByteArray) : (D.write i s).2.waits.length ≤ D.waits.length + 1 := by
  have hg := (goes_len D).2.1
  unfold DM.write
  repeat' split
  all_goals first
    | (show _ ≤ _; simp; omega)
    | (simp; done)
    | omega

section
variable {w : World} {K : Value → World → Prop} {p : Nat} {fp : Nat → Prop} {D : DM}

theorem IsDisk.after {w' : World} (h : IsDisk w p fp D) (u : Ext w w') : DAfter w p fp D w' := ⟨fp, h.ext u, u.mono fun _ _ => False.elim, fun _ x => .inl x⟩

/-- slot.Put -/
theorem put_c (h : IsDisk w p fp D) (hwn : D.waits.length ≤ 1000000000) (s : SM) (k : ∀ w', DAfter w p fp (D.put s).2 w' → K (.int .i64 (D.put s).1) w') : mCall Try.prog 53 #[dptr p, slotV s] w K := by
  have hlt : ∀ k, fp k → k < w.heap.size := fun k hk => h.lt hk
  refine ⟨ok53 ?_⟩
  unfold sh53
  refine mN_new (box50 s w) fun w1 h1 u1 s1 => ?_
  refine choose_c (h.ext u1) fun w2 u2 => ?_
  try simp only [push_cast]
  refine mN_new (zero50 w2) fun w3 h3 u3 s3 => ?_
  refine mN_storeN (vs := slotC D.choose.1) (by kernel_rfl) h3 (by simp [slotC]) (slotC_one _) fun w4 h4 u4 s4 => ?_
  rw [splice_all _ _ (by simp [slotC])] at h4
  have u24 : Ext w2 w4 := u3.trans u4 (fun _ _ x => x) fun i hi e => by omega
  have a4 : Ext w w4 := (u1.ext u2).ext u24
  have hb4 := (h1.keep u2 id).keep u24 id
  unfold DM.put at k
  try simp only [push_cast]
  refine mIf_neI (fun he => ?_) fun he => ?_
  · rw [if_pos he] at k
    exact k w4 (h.after a4)
  rw [if_neg (by simp [he])] at k
  obtain ⟨hcr, hat⟩ := choose_right he
  obtain ⟨r1, r2, _⟩ := SM.right_iff.1 hcr
  refine mN_v (r_loadB _ (by kernel_rfl) h4 rfl) ?_
  try simp only [push_cast]
  rw [i64w (D.choose.1.number + 1) (by omega) (by omega)]
  refine mN_store1 (by kernel_rfl) hb4 (by simp [slotC]) rfl fun w5 h5 u5 s5 => ?_
  have e5 : (slotC s).toArray.toList.set 0 (.int .i64 (D.choose.1.number + 1)) = slotC (D.choose.1.next s) := rfl
  rw [e5] at h5
  have a5 : Ext w w5 := a4.trans u5 (fun _ _ x => x) fun i hi e => by omega
  have hl := r_loadN (P := Try.prog) w5 (T := 50) (n := 4) (by kernel_rfl) (by kernel_rfl) h5 (o := 0) (by simp [slotC])
  refine mN_v hl ?_
  refine block_c (D.choose.1.next s) (fun hr w6 u6 => ?_) fun hr w6 u6 => ?_
  · rw [if_pos hr] at k
    try simp only [push_cast]
    refine mIf_neI (fun _ => ?_) fun h => absurd h (by decide)
    exact k w6 (h.after (a5.ext u6))
  rw [if_neg (by simp [hr])] at k
  try simp only [push_cast, bne_self_eq_false]
  rw [i64w _ (by omega) (by omega)]
  have a6 := a5.ext u6
  refine isdisk_write (h.ext a6) hwn (1 - D.choose.2.1) _ fun w7 d7 => ?_
  have d7' := d7.pre hlt a6
  try simp only [push_cast]
  refine mIf_neI (fun hw => ?_) fun hw => ?_
  · rw [if_pos hw] at k
    exact k w7 d7'
  rw [if_neg (by simp [hw])] at k
  obtain ⟨fp7, h7, u7, y7⟩ := d7'
  refine isdisk_flush h7 fun w8 d8 => ?_
  exact k w8 (DAfter.then u7 y7 d8)

theorem zeroS_pad : ofL (padL []) = zeroS := rfl
theorem build50_one (w : World) : (Instr.build 50 #[(0, .int .i64 1)]).run Try.prog w = .ok (slotV SM.one) w := by kernel_rfl
theorem build175 (a b : ByteArray) (w : World) : (Instr.build 175 #[(0, .string a), (1, .string b)]).run Try.prog w = .ok (.agg #[.string a, .string b]) w := by kernel_rfl
theorem ix175_0 (a b : ByteArray) (w : World) : (Instr.index 175 (.agg #[.string a, .string b]) (.int .i64 0)).run Try.prog w = .ok (.string a) w := by kernel_rfl
theorem ix175_1 (a b : ByteArray) (w : World) : (Instr.index 175 (.agg #[.string a, .string b]) (.int .i64 1)).run Try.prog w = .ok (.string b) w := by kernel_rfl
theorem one_right : SM.one.right = true := by decide

/-- slot.Format -/
theorem format_c (h : IsDisk w p fp D) (hwn : D.waits.length ≤ 1000000) (k : ∀ w', DAfter w p fp D.format.2 w' → K (.int .i64 D.format.1) w') : mCall Try.prog 52 #[dptr p] w K := by
  have hlt : ∀ k, fp k → k < w.heap.size := fun k hk => h.lt hk
  unfold DM.format at k
  refine ⟨ok52 ?_⟩
  unfold sh52
  refine mN_v (build50_one w) ?_
  refine block_c SM.one (fun hr => by rw [one_right] at hr; cases hr) fun _ w1 u1 => ?_
  try simp only [push_cast]
  have e0 : (⟨#[]⟩ : ByteArray) = ofL [] := rfl
  rw [e0]
  refine padded_c (by simp) fun w2 u2 => ?_
  rw [zeroS_pad]
  refine mN_v (build175 _ _ _) ?_
  have a2 : Ext w w2 := u1.ext u2
  have hww := write_waits D 0 (ofL (blockL SM.one))
  refine mLoop1.mk (fun x wr => (x = .int .i64 0 ∧ Ext w wr) ∨ (x = .int .i64 1 ∧ (D.write 0 (ofL (blockL SM.one))).1 = 0 ∧ DAfter w p fp (D.write 0 (ofL (blockL SM.one))).2 wr) ∨
      (x = .int .i64 2 ∧ (D.write 0 (ofL (blockL SM.one))).1 = 0 ∧ ((D.write 0 (ofL (blockL SM.one))).2.write 1 zeroS).1 = 0 ∧ DAfter w p fp ((D.write 0 (ofL (blockL SM.one))).2.write 1 zeroS).2 wr)) (fun x _ => 2 - (intOf x).toNat) (.inl ⟨rfl, a2⟩) ?_
  rintro x wr (⟨rfl, ur⟩ | ⟨rfl, e1, d1⟩ | ⟨rfl, e1, e2, d2⟩)
  · try simp only [push_cast]
    refine mIf_dec (fun _ => ?_) fun h => absurd (by decide) h
    refine mN_v (ix175_0 _ _ _) ?_
    refine isdisk_write (h.ext ur) (by omega) 0 _ fun w3 d3 => ?_
    have d3 := d3.pre hlt ur
    try simp only [push_cast]
    refine mIf_neI (fun he => ?_) fun he => ?_
    · rw [if_pos he] at k
      exact k w3 d3
    · exact ⟨.inr (.inl ⟨rfl, he, d3⟩), by decide⟩
  · rw [if_neg (by simp [e1])] at k
    obtain ⟨fp1, h1, ux, yx⟩ := d1
    try simp only [push_cast]
    refine mIf_dec (fun _ => ?_) fun h => absurd (by decide) h
    refine mN_v (ix175_1 _ _ _) ?_
    refine isdisk_write h1 (by omega) 1 _ fun w3 d3 => ?_
    have d3 := DAfter.then ux yx d3
    try simp only [push_cast]
    refine mIf_neI (fun he => ?_) fun he => ?_
    · rw [if_pos he] at k
      exact k w3 d3
    · exact ⟨.inr (.inr ⟨rfl, e1, he, d3⟩), by decide⟩
  · rw [if_neg (by simp [e1]), if_neg (by simp [e2])] at k
    obtain ⟨fp1, h1, ux, yx⟩ := d2
    try simp only [push_cast]
    refine mIf_dec (fun h => absurd h (by decide)) fun _ => ?_
    refine isdisk_flush h1 fun w3 d3 => ?_
    exact k w3 (DAfter.then ux yx d3)

/-! ### two -/

def SM.two : SM := ⟨2, 1, 5, 0⟩
def twoB1 : List ByteArray := cutS (ofL (blockL SM.one))
def twoB2 : List ByteArray := cutS (ofL (blockL SM.two))
def twoD (b : List ByteArray) : DM := { DM.new 4 with blocks := [twoB1, b, zeroB, zeroB] }
theorem block_size {s : SM} (h : s.right = true) : (ofL (blockL s)).size = 256 := blockL_len h
theorem two_right : SM.two.right = true := by decide
theorem two_format : (DM.new 4).format = (0, twoD (cutS zeroS)) := by
  have hw1 : (DM.new 4).write 0 (ofL (blockL SM.one)) = (0, { DM.new 4 with waits := [(0, twoB1)] }) := write_free rfl rfl (by decide) (by decide) (block_size one_right)
  have hw2 : ({ DM.new 4 with waits := [(0, twoB1)] } : DM).write 1 zeroS = (0, { DM.new 4 with waits := [(0, twoB1), (1, cutS zeroS)] }) := write_free rfl rfl (by decide) (by decide) zeroS_size
  have hf : ({ DM.new 4 with waits := [(0, twoB1), (1, cutS zeroS)] } : DM).flush = (0, twoD (cutS zeroS)) := flush_free rfl rfl
  unfold DM.format
  rw [hw1]
  simp only
  rw [hw2]
  simp only
  rw [hf]
  rfl
theorem zeroL : zeroS.data.toList = List.replicate 256 0 := rfl
theorem read_zero : readL zeroS.data.toList = none := readL_none fun h => by
  have := h.2
  rw [zeroL] at this
  revert this
  decide
theorem twoD_read0 (b : List ByteArray) : (twoD b).read 0 = (ofL (blockL SM.one), 0) := by
  have : (twoD b).read 0 = (joined twoB1, 0) := rfl
  rw [this]
  unfold twoB1
  rw [joined_cutS (block_size one_right)]
theorem twoD_choose1 : (twoD (cutS zeroS)).choose = (SM.one, 0, 0) := by
  have h0 := twoD_read0 (cutS zeroS)
  have h1 : (twoD (cutS zeroS)).read 1 = (zeroS, 0) := by
    have : (twoD (cutS zeroS)).read 1 = (joined (cutS zeroS), 0) := rfl
    rw [this, joined_cutS zeroS_size]
  have r0 : rd (twoD (cutS zeroS)) 0 = some SM.one := by
    unfold rd
    rw [h0]
    exact readL_block one_right
  have r1 : rd (twoD (cutS zeroS)) 1 = none := by
    unfold rd
    rw [h1]
    exact read_zero
  unfold DM.choose
  rw [h0, h1, r0, r1]
  rfl
theorem twoD_put : (twoD (cutS zeroS)).put ⟨0, 1, 5, 0⟩ = (0, twoD twoB2) := by
  unfold DM.put
  rw [twoD_choose1]
  simp only
  have e : SM.one.next ⟨0, 1, 5, 0⟩ = SM.two := rfl
  rw [e, if_neg (by simp), if_neg (by rw [two_right]; simp)]
  have hw1 : (twoD (cutS zeroS)).write (1 - 0) (ofL (blockL SM.two)) = (0, { twoD (cutS zeroS) with waits := [(1, twoB2)] }) := write_free rfl rfl (by decide) (by decide) (block_size two_right)
  have hf : ({ twoD (cutS zeroS) with waits := [(1, twoB2)] } : DM).flush = (0, twoD twoB2) := flush_free rfl rfl
  rw [hw1]
  simp only
  rw [hf]
  rfl
theorem twoD_choose2 : (twoD twoB2).choose = (SM.two, 1, 0) := by
  have h0 := twoD_read0 twoB2
  have h1 : (twoD twoB2).read 1 = (ofL (blockL SM.two), 0) := by
    have : (twoD twoB2).read 1 = (joined twoB2, 0) := rfl
    rw [this]
    unfold twoB2
    rw [joined_cutS (block_size two_right)]
  have r0 : rd (twoD twoB2) 0 = some SM.one := by
    unfold rd
    rw [h0]
    exact readL_block one_right
  have r1 : rd (twoD twoB2) 1 = some SM.two := by
    unfold rd
    rw [h1]
    exact readL_block two_right
  unfold DM.choose
  rw [h0, h1, r0, r1]
  rfl

theorem two_c (k : ∀ w', Ext w w' → K (.bool true) w') : mCall Try.prog 34 #[] w K := by
  refine ⟨ok34 ?_⟩
  unfold sh34
  refine new_c 4 (fun h => by omega) fun _ _ w1 p fp h1 u1 y1 => ?_
  unfold dptr
  try simp only [push_cast, Option.isNone_some, bne_self_eq_false]
  refine format_c h1 (by decide) fun w2 d2 => ?_
  rw [show (DM.new (4 : Int).toNat) = DM.new 4 from rfl, two_format] at d2 ⊢
  obtain ⟨fp2, h2, u2, y2⟩ := d2
  have z2 := young_of y2 y1 u1.size
  have a2 : Ext w w2 := u1.young u2 fun i hi => .inr (y1 i hi)
  have hb : (Instr.build 50 #[(1, .int .i64 1), (2, .int .i64 5)]).run Try.prog w2 = .ok (slotV ⟨0, 1, 5, 0⟩) w2 := by kernel_rfl
  refine mN_v hb ?_
  refine put_c h2 (by decide) ⟨0, 1, 5, 0⟩ fun w3 d3 => ?_
  rw [twoD_put] at d3 ⊢
  obtain ⟨fp3, h3, u3, y3⟩ := d3
  have a3 : Ext w w3 := a2.young u3 fun i hi => .inr (z2 i hi)
  refine choose_c h3 fun w4 u4 => ?_
  rw [twoD_choose2]
  try simp only [push_cast]
  refine mN_new (zero50 w4) fun w5 h5 u5 s5 => ?_
  refine mN_storeN (vs := slotC SM.two) (by kernel_rfl) h5 (by simp [slotC]) (slotC_one _) fun w6 h6 u6 s6 => ?_
  rw [splice_all _ _ (by simp [slotC])] at h6
  have a6 : Ext w w6 := ((a3.ext u4).ext u5).trans u6 (fun _ _ x => x) fun i hi e => by have := (a3.ext u4).size; omega
  try simp only [push_cast, beq_self_eq_true]
  have hl := r_loadN (P := Try.prog) w6 (T := 50) (n := 4) (by kernel_rfl) (by kernel_rfl) h6 (o := 0) (by simp [slotC])
  refine mN_v hl ?_
  have hb2 : (Instr.build 50 #[(0, .int .i64 2), (1, .int .i64 1), (2, .int .i64 5)]).run Try.prog w6 = .ok (slotV SM.two) w6 := by kernel_rfl
  refine mN_v hb2 ?_
  refine mN_v (slot_eq _ _ SM.two SM.two w6) ?_
  try simp only [decide_true, push_cast, beq_self_eq_true]
  exact k w6 a6
end
end Go.Proofs.Ythgopkppmppdoaa
