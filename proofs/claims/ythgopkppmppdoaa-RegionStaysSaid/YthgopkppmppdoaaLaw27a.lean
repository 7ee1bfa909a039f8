/-
  Layer 27's laws: their helpers.
-/
import Derived.Test.YthgopkppmppdoaaDiskM
import Derived.Laws.IdiomStrings
set_option linter.unusedVariables false
set_option linter.unusedSimpArgs false
set_option maxRecDepth 20000
namespace Go.Proofs.Ythgopkppmppdoaa
open Go Go.Proofs Go.Vc
open Go.RowKit (Below intOf)

def fillS (b : UInt8) : ByteArray := ⟨(List.replicate 256 b).toArray⟩
theorem fillS_size (b : UInt8) : (fillS b).size = 256 := by
  show (List.toArray _).size = _
  simp

section
variable {w : World} {K : Value → World → Prop}

theorem fill_sh (b : UInt8) (k : ∀ w', Ext w w' → K (.string (fillS b)) w') : sh21 (.int .u8 b.toNat) w K := by
  unfold sh21
  have hmk := run_makeSlice (P := Try.prog) w 52 5 ((Try.prog.info? 5).getD default) (((Try.prog.info? 5).getD default).zero.getD default) Try.underlying52 (by kernel_rfl) (by kernel_rfl) .i64 .i64 256 256 (by omega) (by omega)
    (by rw [show ((Try.prog.info? 5).getD default).size = 1 from by kernel_rfl]; decide) (by rw [show ((Try.prog.info? 5).getD default).bytes = 1 from by kernel_rfl]; decide) (by omega)
  rw [show ((Try.prog.info? 5).getD default).size = 1 from by kernel_rfl] at hmk
  refine mN_new hmk fun w1 h1 u1 s1 => ?_
  have hl1 : (madeCells (((Try.prog.info? 5).getD default).zero.getD default).cells ((256 : Int).toNat * 1)).toList.length = 256 := by
    rw [Array.length_toList, size_madeCells]
    rfl
  generalize (madeCells (((Try.prog.info? 5).getD default).zero.getD default).cells ((256 : Int).toNat * 1)).toList = cs0 at h1 hl1
  rw [show (256 : Int).toNat = 256 from rfl]
  try simp only [push_cast]
  refine mLoop1.mk (fun x wr => ∃ j : Nat, x = .int .i64 j ∧ j ≤ 256 ∧ Ext w wr ∧ ∃ cs, Blk wr w.heap.size 5 cs ∧ cs.length = 256 ∧ cs.take j = List.replicate j (.int .u8 b.toNat)) (fun x _ => 256 - (intOf x).toNat) ?_ ?_
  · exact ⟨0, rfl, by omega, u1, cs0, h1, hl1, by simp⟩
  · rintro x wr ⟨j, rfl, hj, ur, cs, hc, hcl, hct⟩
    try simp only [push_cast]
    refine mIf_dec (fun hlt => ?_) fun hlt => ?_
    · have hlt' : j < 256 := by omega
      refine mN_v (r_indexAt wr (sz := 1) Try.underlying52 (by kernel_rfl) _ 0 256 256 j (by omega) (by omega)) ?_
      refine mN_store1 (by kernel_rfl) hc (by rw [hcl]; omega) rfl fun w2 h2 u2 s2 => ?_
      try simp only [push_cast]
      rw [i64w ((j : Int) + 1) (by omega) (by omega)]
      refine ⟨⟨j + 1, congrArg (Value.int .i64) (by omega), by omega, ur.trans u2 (fun _ _ x => x) fun i hi e => by omega, _, h2, by rw [List.length_set, hcl], ?_⟩, by simp only [intOf]; omega⟩
      rw [Nat.zero_add, Nat.mul_one, Int.toNat_natCast, List.take_add_one, List.getElem?_set_self (by omega), List.take_set_of_le (by omega), hct]
      simp [List.replicate_succ']
    · obtain rfl : j = 256 := by omega
      have hcs : cs = List.replicate 256 (.int .u8 b.toNat) := by rw [← hct, List.take_of_length_le (by omega)]
      have hcv := run_convert_bytes_back (P := Try.prog) wr 52 9 5 ⟨w.heap.size, 0, none⟩ 256 (List.replicate 256 b) Try.underlying52 Try.underlying5 Try.underlying9 (fun j hj => by
        rw [add_off]
        refine hc.cell ?_
        rw [List.length_replicate] at hj
        rw [hcs, Nat.zero_add, List.getElem?_replicate, if_pos hj, List.getElem_replicate])
      rw [List.length_replicate] at hcv
      refine mN_v hcv ?_
      exact k wr ur

theorem fill27_c (b : UInt8) (k : ∀ w', Ext w w' → K (.string (fillS b)) w') : mCall Try.prog 21 #[.int .u8 b.toNat] w K := ⟨ok21 (fill_sh b k)⟩

theorem extract_fill (b : UInt8) (i j : Nat) : (fillS b).extract i j = ⟨(List.replicate (min j 256 - i) b).toArray⟩ := by
  apply ByteArray.ext
  rw [ByteArray.data_extract]
  show (List.toArray _).extract i j = _
  apply Array.ext'
  rw [List.extract_toArray]
  show List.extract (List.replicate 256 b) i j = _
  rw [List.extract_eq_take_drop, List.drop_replicate, List.take_replicate]
  congr 1
  omega
theorem torn_eq (a b : UInt8) : joined (mixB (cutS (fillS a)) (cutS (fillS b)) 2) = (fillS a).extract 0 128 ++ (fillS b).extract 0 128 := by
  simp only [cutS, extract_fill, mixB, List.take_succ_cons, List.take_zero, List.drop_succ_cons, List.drop_zero, List.cons_append, List.nil_append]
  apply ByteArray.ext
  rw [ByteArray.data_append]
  show (List.toArray _) = (List.toArray _ ++ List.toArray _)
  rw [List.append_toArray]
  congr 1

theorem Ints.of_blk {b T : Nat} {l : List Int} (c : Nat) (h : Blk w b T (encI l)) (hl : l.length ≤ 1000000) : Ints w (.slice (some ⟨b, 0, none⟩) l.length c) l (· = b) := by
  have hm : maxLen = 9223372036854775807 := by decide
  refine ⟨_, c, rfl, by omega, fun h0 => ⟨b, 0, rfl, rfl, fun i x hx => ⟨[.int .i64 x], rfl, fun j u hu => ?_, rfl⟩⟩⟩
  have hi := (List.getElem?_eq_some_iff.1 hx).1
  obtain ⟨rfl, rfl⟩ : j = 0 ∧ u = .int .i64 x := by
    cases j with
    | zero => simp at hu; exact ⟨rfl, hu.symm⟩
    | succ j => simp at hu
  refine h.cell ?_
  rw [Nat.zero_add, Nat.mul_one, Nat.add_zero]
  simp [encI, hx]

theorem young_of {w1 : World} {fp fp' : Nat → Prop} {N : Nat} (y : ∀ k, fp' k → fp k ∨ w1.heap.size ≤ k) (z : ∀ k, fp k → N ≤ k) (hN : N ≤ w1.heap.size) : ∀ k, fp' k → N ≤ k := fun k hk => (y k hk).elim (z k) fun h => by omega

theorem torn_c (k : ∀ w', Ext w w' → K (.bool true) w') : mCall Try.prog 19 #[] w K := by
  refine ⟨ok19 ?_⟩
  unfold sh19
  refine new_c 4 (fun h => by omega) fun _ _ w1 p fp h1 u1 y1 => ?_
  try simp only [push_cast]
  rw [show (Value.int .u8 7) = .int .u8 (7 : UInt8).toNat from rfl]
  refine fill27_c 7 fun w2 u2 => ?_
  have h2 := h1.ext u2
  refine isdisk_write h2 (by decide) 1 _ fun w3 ⟨fp3, h3, u3, y3⟩ => ?_
  have e1 : (DM.new (4 : Int).toNat).write 1 (fillS 7) = (0, { DM.new 4 with waits := [(1, cutS (fillS 7))] }) := by kernel_rfl
  rw [e1] at h3 ⊢
  have hsl : (Instr.buildSlice 35 1 #[(0, .int .i64 2)]).run Try.prog w3 = .ok (.slice (some ⟨w3.heap.size, 0, none⟩) 1 1) (w3.alloc (.cells #[.int .i64 2] 3 (0, 0))) := by kernel_rfl
  refine mN_new hsl fun w4 h4' u4 s4 => ?_
  have h4 := h3.ext u4
  refine isdisk_crash h4 (Ints.of_blk (l := [2]) 1 h4' (by decide)) (fun k hk hf => by have := h3.lt hf; omega) fun w5 ⟨fp5, h5, u5, y5⟩ => ?_
  have e2 : ({ DM.new 4 with waits := [(1, cutS (fillS 7))] } : DM).crash [2] = (0, ⟨[zeroB, mixB (cutS (fillS 7)) zeroB 2, zeroB, zeroB], [], true, false, 0, false, []⟩) := by kernel_rfl
  rw [e2] at h5 ⊢
  refine isdisk_start h5 fun w6 ⟨fp6, h6, u6, y6⟩ => ?_
  have e3 : (⟨[zeroB, mixB (cutS (fillS 7)) zeroB 2, zeroB, zeroB], [], true, false, 0, false, []⟩ : DM).start = (0, ⟨[zeroB, mixB (cutS (fillS 7)) zeroB 2, zeroB, zeroB], [], false, false, 0, false, []⟩) := by kernel_rfl
  rw [e3] at h6 ⊢
  refine isdisk_read h6 1 fun w7 u7 => ?_
  have e4 : (⟨[zeroB, mixB (cutS (fillS 7)) zeroB 2, zeroB, zeroB], [], false, false, 0, false, []⟩ : DM).read 1 = (joined (mixB (cutS (fillS 7)) zeroB 2), 0) := by kernel_rfl
  rw [e4]
  have h7 := h6.ext u7
  try simp only [push_cast]
  unfold mDrew
  have h8 := h7.ext (Upd.drew w7 _)
  have u8 : Ext w7 w7.drew := Upd.drew w7 _
  generalize w7.drew = w8 at h8 u8
  try simp only [push_cast]
  simp only [beq_self_eq_true, push_cast]
  refine fill27_c 7 fun w9 u9 => ?_
  refine mP_v (fun w => r_sliceSh w Try.underlying9 _ _ (by decide) (by rw [fillS_size]; decide)) ?_
  refine fill27_c 0 fun w10 u10 => ?_
  refine mP_v (fun w => r_sliceSh w Try.underlying9 _ _ (by decide) (by rw [fillS_size]; decide)) ?_
  refine mP_v (fun w => r_addS w _ _ _ (by rw [extract_fill, extract_fill]; show (List.toArray _).size + (List.toArray _).size ≤ _; simp)) ?_
  rw [show joined (mixB (cutS (fillS 7)) zeroB 2) = (fillS 7).extract 0 128 ++ (fillS 0).extract 0 128 from torn_eq 7 0]
  try simp only [push_cast]
  have h10 := (h8.ext u9).ext u10
  simp only [show (128 : Int).toNat = 128 from rfl, beq_self_eq_true, push_cast]
  refine isdisk_up h10 ?_
  try simp only [push_cast, Bool.not_false]
  refine isdisk_waits h10 ?_
  try simp only [push_cast]
  refine isdisk_blocks h10 ?_
  try simp only [push_cast]
  have a2 : Ext w w2 := u1.ext u2
  have z3 := young_of y3 y1 a2.size
  have a3 : Ext w w3 := a2.young u3 fun i hi => .inr (y1 i hi)
  have a4 : Ext w w4 := a3.ext u4
  have z5 := young_of y5 z3 a4.size
  have a5 : Ext w w5 := a4.young u5 fun i hi => .inr (z3 i hi)
  have a6 : Ext w w6 := a5.young u6 fun i hi => .inr (z5 i hi)
  exact k _ ((((a6.ext u7).ext u8).ext u9).ext u10)
end
end Go.Proofs.Ythgopkppmppdoaa
