/-
  Layer 28's steps: a disk and the reference's, side by side.
-/
import Derived.Test.YthgopkppmppdoaaSlotR
import Derived.Test.YthgopkppmppdoaaDoes27
import Derived.Test.YthgopkppmppdoaaArg28
set_option linter.unusedVariables false
set_option linter.unusedSimpArgs false
set_option maxRecDepth 20000
namespace Go.Proofs.Ythgopkppmppdoaa
open Go Go.Proofs Go.Vc
open Go.RowKit (Below intOf)

def DM.step28 (D : DM) (s : Step28) : Int × DM :=
  if s.what = 0 ∨ s.what = 1 then D.put s.s
  else if s.what = 3 then D.format
  else if s.what = 4 then D.write s.at_ (fillS s.byte)
  else if s.what = 5 then D.flush
  else if s.what = 6 then D.crash s.keep
  else if s.what = 7 then D.start
  else if s.what = 8 then D.set s.at_ s.cut s.keep
  else (0, D)

theorem flush_waits (D : DM) : D.flush.2.waits.length ≤ D.waits.length := by
  have hg := (goes_len D).2.1
  unfold DM.flush
  repeat' split
  all_goals first
    | exact Nat.zero_le _
    | exact Nat.le_refl _
theorem put_waits (D : DM) (s : SM) : (D.put s).2.waits.length ≤ D.waits.length + 1 := by
  have h1 := write_waits D (1 - D.choose.2.1) (ofL (blockL (D.choose.1.next s)))
  have h2 := flush_waits (D.write (1 - D.choose.2.1) (ofL (blockL (D.choose.1.next s)))).2
  unfold DM.put
  repeat' split
  all_goals first
    | exact Nat.le_succ _
    | omega
theorem format_waits (D : DM) : D.format.2.waits.length ≤ D.waits.length + 2 := by
  have h1 := write_waits D 0 (ofL (blockL SM.one))
  have h2 := write_waits (D.write 0 (ofL (blockL SM.one))).2 1 zeroS
  have h3 := flush_waits ((D.write 0 (ofL (blockL SM.one))).2.write 1 zeroS).2
  unfold DM.format
  repeat' split
  all_goals omega
theorem step28_waits (D : DM) (s : Step28) : (D.step28 s).2.waits.length ≤ D.waits.length + 2 := by
  have h1 := put_waits D s.s
  have h2 := format_waits D
  have h3 := write_waits D s.at_ (fillS s.byte)
  have h4 := flush_waits D
  unfold DM.step28 DM.crash DM.start DM.set DM.fall
  repeat' split
  all_goals first
    | omega
    | exact Nat.zero_le _
    | exact Nat.le_succ_of_le (Nat.le_succ _)

section
variable {w : World} {K : Value → World → Prop} {p q N : Nat} {fp fq : Nat → Prop} {D E : DM}

theorem fill28_c (b : UInt8) (k : ∀ w', Ext w w' → K (.string (fillS b)) w') : mCall Try.prog 103 #[.int .u8 b.toNat] w K := ⟨ok103 (fill_sh b k)⟩

theorem box78 (s : Step28) (A : Option Addr) (n c : Nat) (w : World) : (Instr.box 78 (.agg (step28C s (.slice A n c)).toArray)).run Try.prog w =
    .ok (.pointer (some ⟨w.heap.size, 0, none⟩)) (w.alloc (.cells (step28C s (.slice A n c)).toArray 78 (0, 0))) := by kernel_rfl

theorem does28_c (h : Two w N p q fp fq D E) (hN : N ≤ w.heap.size) (hwd : D.waits.length ≤ 1000000) (hwe : E.waits.length ≤ 1000000) {s : Step28} (hkl : s.keep.length ≤ 1000000) {cs : Array Value} (hs : isStep28 (· < N) w cs.toList s)
    (k : ∀ w', TwoAfter w N p q (D.step28 s).2 (E.step28 s).2 w' → K (.bool ((D.step28 s).1 == (E.step28 s).1)) w') : mCall Try.prog 48 #[dptr p, dptr q, .agg cs] w K := by
  obtain ⟨v, e, hA, hv⟩ := hs
  have e2 : cs = List.toArray _ := congrArg List.toArray e
  subst e2
  obtain ⟨A, c, rfl⟩ := Arr.slice hv
  refine ⟨ok48 ?_⟩
  unfold sh48
  refine mN_new (box78 s A _ c w) fun w1 h1 u1 s1 => ?_
  simp only [step28C] at h1
  have hT1 := h.ext u1
  have hv1 := hv.keep u1 fun _ _ => id
  have hN1 : N ≤ w1.heap.size := by omega
  try simp only [push_cast]
  refine mN_v (r_loadB _ (by kernel_rfl) h1 rfl) ?_
  try simp only [push_cast]
  unfold DM.step28 at k
  have hslot : ∀ {w' : World}, Blk w' w.heap.size 78 [.int .i64 s.what, .int .i64 s.at_, .int .i64 s.s.number, .int .i64 s.s.region, .int .i64 s.s.bytes, .int .i64 s.s.records, .int .u8 s.byte.toNat, .bool s.cut, .slice A s.keep.length c] →
      (Instr.loadAt 50 (.pointer (some ⟨w.heap.size, 0 + 2, none⟩))).run Try.prog w' = .ok (slotV s.s) w' := fun h => by
    have := r_loadN (P := Try.prog) _ (T := 50) (n := 4) (by kernel_rfl) (by kernel_rfl) h (o := 0 + 2) (by simp)
    exact this
  refine mJ1_intro (fun x w' => x = .bool (decide (s.what = 0 ∨ s.what = 1)) ∧ w' = w1) (fun J hJ => ?_) ?_
  · refine mIf_eqI (fun h0 => hJ _ _ ⟨by simp [h0], rfl⟩) fun h0 => ?_
    refine hJ _ _ ⟨?_, rfl⟩
    congr 1
    by_cases h2 : s.what = 1 <;> simp [h0, h2]
  rintro x w' ⟨rfl, rfl⟩
  have hNp : ∀ {F : Nat → Prop}, (∀ k, F k → fp k) → ¬ F w.heap.size := fun hF hf => by
    have := h.d.lt (hF _ hf)
    omega
  refine mIf_dec (fun hw => ?_) fun hw => ?_
  · simp only [if_pos hw] at k
    unfold mDrew
    have hT2 := hT1.ext (Upd.drew w' _)
    have h2 : Blk w'.drew w.heap.size 78 _ := h1.drew
    have u2 : Ext w w'.drew := u1.drewn
    generalize w'.drew = w2 at hT2 h2 u2
    refine mR_v (hslot h2) ?_
    refine mR_v (hslot h2) ?_
    refine put_c hT2.d (by omega) s.s fun w3 a3 => ?_
    have h3 := h2.keep a3.choose_spec.2.1 fun hf => by have := h.d.lt (show fp w.heap.size from hf); omega
    obtain ⟨fp3, hT3, u3⟩ := hT2.left (Nat.le_trans hN u2.size) a3
    refine ⟨rdN_v (hslot h3), ?_⟩
    refine ref_c s.s fun w4 u4 => ?_
    have hT4 := hT3.ext u4
    have hN4 : N ≤ w4.heap.size := Nat.le_trans hN (Nat.le_trans u2.size (Nat.le_trans u3.size u4.size))
    refine rput_c hT4.r (by omega) hN4 s.s fun w5 a5 => ?_
    obtain ⟨fq5, hT5, u5⟩ := hT4.right hN4 a5
    try simp only [push_cast]
    exact k w5 ⟨fp3, fq5, hT5, (((u2.mono fun _ _ => False.elim).then u3).ext u4).then u5⟩
  simp only [if_neg hw] at k
  refine mIf_eqI (fun hw3 => ?_) fun hw3 => ?_
  · simp only [if_pos hw3] at k
    refine format_c hT1.d hwd fun w2 a2 => ?_
    obtain ⟨fp2, hT2, u2⟩ := hT1.left hN1 a2
    refine rformat_c hT2.r hwe (Nat.le_trans hN1 u2.size) fun w3 a3 => ?_
    obtain ⟨fq3, hT3, u3⟩ := hT2.right (Nat.le_trans hN1 u2.size) a3
    try simp only [push_cast]
    exact k w3 ⟨fp2, fq3, hT3, ((u1.mono fun _ _ => False.elim).then u2).then u3⟩
  simp only [if_neg hw3] at k
  refine mIf_eqI (fun hw4 => ?_) fun hw4 => ?_
  · simp only [if_pos hw4] at k
    unfold mDrew
    have hT2 := hT1.ext (Upd.drew w' _)
    have h2 : Blk w'.drew w.heap.size 78 _ := h1.drew
    have u2 : Ext w w'.drew := u1.drewn
    generalize w'.drew = w2 at hT2 h2 u2
    refine mR_v (r_loadB _ (by kernel_rfl) h2 rfl) ?_
    refine mR_v (r_loadB _ (by kernel_rfl) h2 rfl) ?_
    refine mR_v (r_loadB _ (by kernel_rfl) h2 rfl) ?_
    refine mR_v (r_loadB _ (by kernel_rfl) h2 rfl) ?_
    refine fill28_c s.byte fun w3 u3 => ?_
    have hT3 := hT2.ext u3
    have h3 := h2.keep u3 id
    have a3 : Ext w w3 := u2.ext u3
    refine ⟨rdN_v (r_loadB _ (by kernel_rfl) h3 rfl), rdN_v (r_loadB _ (by kernel_rfl) h3 rfl), rdN_v (r_loadB _ (by kernel_rfl) h3 rfl), ?_⟩
    refine isdisk_write hT3.d (by omega) s.at_ _ fun w4 a4 => ?_
    have h4 := h3.keep a4.choose_spec.2.1 fun hf => by have := h.d.lt (show fp w.heap.size from hf); omega
    obtain ⟨fp4, hT4, u4⟩ := hT3.left (Nat.le_trans hN a3.size) a4
    refine ⟨rdN_v (r_loadB _ (by kernel_rfl) h4 rfl), rdN_v (r_loadB _ (by kernel_rfl) h4 rfl), ?_⟩
    refine fill28_c s.byte fun w5 u5 => ?_
    have hT5 := hT4.ext u5
    have h5 := h4.keep u5 id
    refine ⟨rdN_v (r_loadB _ (by kernel_rfl) h5 rfl), ?_⟩
    refine isref_write hT5.r (by omega) (Nat.le_trans hN (Nat.le_trans a3.size (Nat.le_trans u4.size u5.size))) s.at_ _ fun w6 a6 => ?_
    obtain ⟨fq6, hT6, u6⟩ := hT5.right (Nat.le_trans hN (Nat.le_trans a3.size (Nat.le_trans u4.size u5.size))) a6
    try simp only [push_cast]
    exact k w6 ⟨fp4, fq6, hT6, (((a3.mono fun _ _ => False.elim).then u4).ext u5).then u6⟩
  simp only [if_neg hw4] at k
  refine mIf_eqI (fun hw5 => ?_) fun hw5 => ?_
  · simp only [if_pos hw5] at k
    refine isdisk_flush hT1.d fun w2 a2 => ?_
    obtain ⟨fp2, hT2, u2⟩ := hT1.left hN1 a2
    refine isref_flush hT2.r fun w3 a3 => ?_
    obtain ⟨fq3, hT3, u3⟩ := hT2.right (Nat.le_trans hN1 u2.size) a3
    try simp only [push_cast]
    exact k w3 ⟨fp2, fq3, hT3, ((u1.mono fun _ _ => False.elim).then u2).then u3⟩
  simp only [if_neg hw5] at k
  refine mIf_eqI (fun hw6 => ?_) fun hw6 => ?_
  · simp only [if_pos hw6] at k
    unfold mDrew
    have hT2 := hT1.ext (Upd.drew w' _)
    have h2 : Blk w'.drew w.heap.size 78 _ := h1.drew
    have u2 : Ext w w'.drew := u1.drewn
    have hv2 := hv.keep u2 fun _ _ => id
    generalize w'.drew = w2 at hT2 h2 u2 hv2
    refine mR_v (r_loadB _ (by kernel_rfl) h2 rfl) ?_
    refine mR_v (r_loadB _ (by kernel_rfl) h2 rfl) ?_
    refine isdisk_crash hT2.d hv2 (fun k hk hf => by have := h.y k hf; omega) fun w3 a3 => ?_
    have h3 := h2.keep a3.choose_spec.2.1 fun hf => by have := h.d.lt (show fp w.heap.size from hf); omega
    obtain ⟨fp3, hT3, u3⟩ := hT2.left (Nat.le_trans hN u2.size) a3
    refine ⟨rdN_v (r_loadB _ (by kernel_rfl) h3 rfl), ?_⟩
    refine isref_crash hT3.r (hv2.keep u3 fun k hk hf => by omega) fun w4 a4 => ?_
    obtain ⟨fq4, hT4, u4⟩ := hT3.right (Nat.le_trans hN (Nat.le_trans u2.size u3.size)) a4
    try simp only [push_cast]
    exact k w4 ⟨fp3, fq4, hT4, ((u2.mono fun _ _ => False.elim).then u3).then u4⟩
  simp only [if_neg hw6] at k
  refine mIf_eqI (fun hw7 => ?_) fun hw7 => ?_
  · simp only [if_pos hw7] at k
    refine isdisk_start hT1.d fun w2 a2 => ?_
    obtain ⟨fp2, hT2, u2⟩ := hT1.left hN1 a2
    refine isref_start hT2.r fun w3 a3 => ?_
    obtain ⟨fq3, hT3, u3⟩ := hT2.right (Nat.le_trans hN1 u2.size) a3
    try simp only [push_cast]
    exact k w3 ⟨fp2, fq3, hT3, ((u1.mono fun _ _ => False.elim).then u2).then u3⟩
  simp only [if_neg hw7] at k
  refine mIf_eqI (fun hw8 => ?_) fun hw8 => ?_
  · simp only [if_pos hw8] at k
    unfold mDrew
    have hT2 := hT1.ext (Upd.drew w' _)
    have h2 : Blk w'.drew w.heap.size 78 _ := h1.drew
    have u2 : Ext w w'.drew := u1.drewn
    have hv2 := hv.keep u2 fun _ _ => id
    generalize w'.drew = w2 at hT2 h2 u2 hv2
    refine mR_v (r_loadB _ (by kernel_rfl) h2 rfl) ?_
    refine mR_v (r_loadB _ (by kernel_rfl) h2 rfl) ?_
    refine mR_v (r_loadB _ (by kernel_rfl) h2 rfl) ?_
    refine mP_v (build42 s.at_ s.cut A _ c) ?_
    refine mR_v (r_loadB _ (by kernel_rfl) h2 rfl) ?_
    refine mR_v (r_loadB _ (by kernel_rfl) h2 rfl) ?_
    refine mR_v (r_loadB _ (by kernel_rfl) h2 rfl) ?_
    refine mP_v (build104 s.at_ s.cut A _ c) ?_
    refine isdisk_set hT2.d s.at_ hA s.cut hv2 hkl fun w3 a3 => ?_
    have h3 := h2.keep a3.choose_spec.2.1 fun hf => by have := h.d.lt (show fp w.heap.size from hf); omega
    obtain ⟨fp3, hT3, u3⟩ := hT2.left (Nat.le_trans hN u2.size) a3
    refine ⟨rdN_v (r_loadB _ (by kernel_rfl) h3 rfl), rdN_v (r_loadB _ (by kernel_rfl) h3 rfl), rdN_v (r_loadB _ (by kernel_rfl) h3 rfl), rdN_v (r_loadB _ (by kernel_rfl) h3 rfl), rdN_v (r_loadB _ (by kernel_rfl) h3 rfl), rdN_v (r_loadB _ (by kernel_rfl) h3 rfl), ?_⟩
    refine isref_set hT3.r s.at_ hA s.cut (hv2.keep u3 fun k hk hf => by omega) (Nat.le_trans hN (Nat.le_trans u2.size u3.size)) fun w4 a4 => ?_
    have h4 := h3.keep a4.choose_spec.2.1 fun hf => by have := h.r.lt (show fq w.heap.size from hf); omega
    obtain ⟨fq4, hT4, u4⟩ := hT3.right (Nat.le_trans hN (Nat.le_trans u2.size u3.size)) a4
    refine ⟨rdN_v (r_loadB _ (by kernel_rfl) h4 rfl), rdN_v (r_loadB _ (by kernel_rfl) h4 rfl), rdN_v (r_loadB _ (by kernel_rfl) h4 rfl), rdN_v (r_loadB _ (by kernel_rfl) h4 rfl), rdN_v (r_loadB _ (by kernel_rfl) h4 rfl), rdN_v (r_loadB _ (by kernel_rfl) h4 rfl), ?_⟩
    try simp only [push_cast]
    exact k w4 ⟨fp3, fq4, hT4, ((u2.mono fun _ _ => False.elim).then u3).then u4⟩
  simp only [if_neg hw8] at k
  exact k w' ⟨fp, fq, hT1, u1.mono fun _ _ => False.elim⟩
end
end Go.Proofs.Ythgopkppmppdoaa
