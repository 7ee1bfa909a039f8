/-
  Disks: a text cut into sectors; what a disk does, as a model.
-/
import Derived.Test.YthgopkppmppdoaaDisk2
import Derived.Test.YthgopkppmppdoaaLib2
set_option linter.unusedVariables false
set_option linter.unusedSimpArgs false
set_option maxRecDepth 20000
namespace Go.Proofs.Ythgopkppmppdoaa
open Go Go.Proofs Go.Vc
open Go.RowKit (Below intOf)

/-- A block's text as sectors. -/
def cutS (s : ByteArray) : List ByteArray := [s.extract 0 64, s.extract 64 128, s.extract 128 192, s.extract 192 256]
theorem cutS_sec {s : ByteArray} (h : s.size = 256) : Sec (cutS s) := by
  refine ⟨rfl, fun x hx => ?_⟩
  simp only [cutS, List.mem_cons, List.not_mem_nil, or_false] at hx
  rcases hx with rfl | rfl | rfl | rfl <;> simp [ByteArray.size_extract, h]
theorem joined_cutS {s : ByteArray} (h : s.size = 256) : joined (cutS s) = s := by
  obtain ⟨⟨l⟩⟩ := s
  have h : l.length = 256 := h
  show (⟨_⟩ : ByteArray) = _
  congr 1
  simp only [cutS, List.map_cons, List.map_nil, List.flatten_cons, List.flatten_nil, ByteArray.data_extract, List.extract_toArray, List.append_nil, List.extract_eq_take_drop]
  have e : ∀ a b : Nat, a ≤ b → b ≤ 256 → (l.drop a).take (b - a) ++ l.drop b = l.drop a := fun a b h1 h2 => by
    conv => rhs; rw [← List.take_append_drop (b - a) (l.drop a), List.drop_drop, show a + (b - a) = b from by omega]
  have h0 : l.take 64 ++ ((l.drop 64).take (128 - 64) ++ ((l.drop 128).take (192 - 128) ++ (l.drop 192).take (256 - 192))) = l := by
    have h4 : (l.drop 192).take (256 - 192) = l.drop 192 := List.take_of_length_le (by simp; omega)
    rw [h4, e 128 192 (by omega) (by omega), e 64 128 (by omega) (by omega), List.take_append_drop]
  simpa using congrArg List.toArray h0

section
variable {w : World} {K : Value → World → Prop}

theorem cut_c {s : ByteArray} (h : s.size = 256) (k : ∀ w', Ext w w' → K (.agg (encB (cutS s)).toArray) w') : mCall Try.prog 73 #[.string s] w K := by
  refine ⟨ok73 ?_⟩
  unfold sh73
  refine mN_new (zero124 w) fun w1 hb1 hu1 hs1 => ?_
  refine mN_new (zero124 w1) fun w2 hb2 hu2 hs2 => ?_
  refine mLoop1.mk (fun x wr => ∃ j : Nat, x = .int .i64 j ∧ j ≤ 4 ∧ Ext w wr ∧ Blk wr w1.heap.size 124 (encB ((cutS s).take j ++ [⟨#[]⟩, ⟨#[]⟩, ⟨#[]⟩, ⟨#[]⟩].drop j)) ∧ ∃ c, Blk wr w.heap.size 124 c ∧ c.length = 4) (fun x _ => 4 - (intOf x).toNat) ?_ ?_
  · exact ⟨0, rfl, Nat.zero_le _, hu1.ext hu2, hb2, _, hb1.keep hu2 id, rfl⟩
  · rintro x wr ⟨j, rfl, hj, ur, hbr, c, hc, hc4⟩
    try simp only [push_cast]
    refine mIf_dec (fun hlt => ?_) fun hlt => ?_
    · rw [i64w ((j : Int) + 1) (by omega) (by omega), i64w ((j : Int) * 64) (by omega) (by omega), i64w (((j : Int) + 1) * 64) (by omega) (by omega)]
      refine mN_v (r_sliceS wr Try.underlying9 s _ _ (by omega) (by omega) (by omega)) ?_
      refine mN_v (r_indexAtA wr (sz := 1) Try.underlying124 (by kernel_rfl) _ _ j (by omega) (by omega)) ?_
      have hlen : (encB ((cutS s).take j ++ [⟨#[]⟩, ⟨#[]⟩, ⟨#[]⟩, ⟨#[]⟩].drop j)).length = 4 := by
        simp [encB, cutS]; omega
      refine mN_store1 (by kernel_rfl) hbr (by omega) rfl fun w3 hb3 hu3 hs3 => ?_
      refine ⟨⟨j + 1, congrArg (Value.int .i64) (by omega), by omega, ur.trans hu3 (fun _ _ x => x) fun i hi e => by omega, ?_, _, hc.keep hu3 (by omega), hc4⟩, by simp only [intOf]; omega⟩
      have hj4 : j = 0 ∨ j = 1 ∨ j = 2 ∨ j = 3 := by omega
      rcases hj4 with rfl | rfl | rfl | rfl <;> exact hb3
    · obtain rfl : j = 4 := by omega
      have hbr' : Blk wr w1.heap.size 124 (encB (cutS s)) := hbr
      refine mN_v (r_loadN wr (n := 4) (by kernel_rfl) (by kernel_rfl) hbr' (by simp [encB, cutS])) ?_
      refine mN_storeN (by kernel_rfl) hc (by simp [encB, cutS, hc4]) (fun v hv => encB_one (b := cutS s) v hv) fun w3 hb3 hu3 hs3 => ?_
      rw [splice_all _ _ (by simp [encB, cutS, hc4])] at hb3
      have hb3' : Blk w3 w.heap.size 124 (encB (cutS s)) := hb3
      refine mRes.mk (.agg (encB (cutS s)).toArray) ?_ ?_
      · have := rdV_N (P := Try.prog) (w := w3) (T := 124) (n := 4) (by kernel_rfl) (by kernel_rfl) hb3' (o := 0) (by simp [encB, cutS])
        exact this
      · exact k w3 (ur.trans hu3 (fun _ _ x => x) fun i hi e => by omega)
end
end Go.Proofs.Ythgopkppmppdoaa
