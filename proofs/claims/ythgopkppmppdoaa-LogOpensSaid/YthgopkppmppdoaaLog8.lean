/-
  LogOpens: the walk.
-/
import Derived.Test.YthgopkppmppdoaaLog7
import Derived.Test.YthgopkppmppdoaaDoes28
set_option linter.unusedVariables false
set_option linter.unusedSimpArgs false
set_option maxRecDepth 20000
namespace Go.Proofs.Ythgopkppmppdoaa
open Go Go.Proofs Go.Vc
open Go.RowKit (Below intOf)

section
variable {w : World} {K : Value → World → Prop} {p q g N : Nat} {fp fq fr : Nat → Prop} {D : DM} {L : LM} {R : RM}

theorem IsRL.strs {v : Value} (h : Row w 9 1 v R.recs.length (encT R.recs)) (hf : ∀ k, Fp v k → fp k) : Strs w v (R.recs.map ofL) fp := Strs.of_row h hf

theorem build65 (a b c : Int) (w : World) : (Instr.build 65 #[(0, .int .i64 a), (1, .int .i64 b), (2, .int .i64 c)]).run Try.prog w = .ok (.agg #[.int .i64 a, .int .i64 b, .int .i64 c]) w := by kernel_rfl

theorem cut_blk {b : List UInt8} {i : Nat} (h : ¬ 256 < (b.drop (256 * i)).length) : b.drop (256 * i) = (b.drop (256 * i)).take 256 := by
  rw [List.take_of_length_le (by omega)]

theorem logOpens_c {b : ByteArray} (start sealed : Int) (k : ∀ w', Ext w w' → K (.bool true) w') : mCall Try.prog 7 #[.string b, .int .i64 start, .int .i64 sealed] w K := by
  obtain ⟨b, rfl⟩ := ofL_of b
  refine ⟨ok7 ?_⟩
  unfold sh7
  refine new_c 6 (fun h => by omega) fun _ _ w1 p fp h1 u1 y1 => ?_
  unfold dptr
  try simp only [push_cast, Option.isNone_some, Bool.not_false, bne_self_eq_false, beq_self_eq_true, ofL_size]
  refine mIf_dec (fun _ => ab_c fun w2 u2 => k w2 (u1.ext u2)) fun hlen => ?_
  refine rnew_c 6 (by decide) u1.size fun w2 q fq h2 u2 y2 => ?_
  have hT2 : Two w2 w.heap.size p q fp fq (DM.new 6) (DM.new 6) := ⟨h1.ext u2, h2, y1, fun k hk hq => by have := h1.lt hk; have := y2 k hq; omega⟩
  have a2 : Ext w w2 := u1.ext u2
  unfold dptr
  refine mLoop1.mk (fun x wr => ∃ (j : Nat) (D : DM) (fp fq : Nat → Prop), x = .int .i64 j ∧ 256 * j ≤ b.length + 255 ∧ Two wr w.heap.size p q fp fq D D ∧ D.waits.length = j ∧ D.armed = false ∧ D.down = false ∧ D.blocks.length = 6 ∧ Ext w wr) (fun x _ => 10 - (intOf x).toNat) ?_ ?_
  · exact ⟨0, DM.new 6, fp, fq, rfl, Nat.zero_le _, hT2, rfl, rfl, rfl, rfl, a2⟩
  rintro x wr ⟨j, D, fpr, fqr, rfl, hj, hT, hw, har, hdo, hbl, ur⟩
  have hj4 : j ≤ 4 := by omega
  try simp only [push_cast, ofL_size]
  rw [i64w (256 * (j : Int)) (by omega) (by omega)]
  refine mIf_dec (fun hlt => ?_) fun hlt => ?_
  · refine mN_v (r_sliceSl wr Try.underlying9 _ _ (by omega) (by rw [ofL_size]; omega)) ?_
    rw [ofL_extract, show (256 * (j : Int)).toNat = 256 * j from by omega, ofL_size, List.take_of_length_le (by simp)]
    try simp only [push_cast, ofL_size]
    refine mJ1_intro (fun x w' => x = .string (ofL ((b.drop (256 * j)).take 256)) ∧ w' = wr) (fun J hJ => ?_) ?_
    · refine mIf_dec (fun hgt => ?_) fun hgt => ?_
      · refine mN_v (r_sliceSh wr Try.underlying9 _ _ (by omega) (by rw [ofL_size]; omega)) ?_
        rw [ofL_extract, List.drop_zero]
        exact hJ _ _ ⟨rfl, rfl⟩
      · refine hJ _ _ ⟨?_, rfl⟩
        rw [← cut_blk (by omega)]
    rintro x w' ⟨rfl, rfl⟩
    refine padloop_c (l := (b.drop (256 * j)).take 256) (by simp; omega) ?_ rfl
    rw [show padL ((b.drop (256 * j)).take 256) = blkAt b j from rfl]
    try simp only [push_cast]
    rw [i64w (2 + (j : Int)) (by omega) (by omega)]
    have hwf : D.write (2 + (j : Int)) (ofL (blkAt b j)) = (0, { D with waits := D.waits ++ [((2 + (j : Int)), cutS (ofL (blkAt b j)))] }) := write_free har hdo (by omega) (by omega) (blkAt_size _ _)
    refine isdisk_write hT.d (by omega) _ _ fun w3 d3 => ?_
    rw [hwf] at d3 ⊢
    obtain ⟨fp3, hT3, u3⟩ := hT.left ur.size d3
    try simp only [push_cast]
    refine mIf_neI (fun h => absurd rfl h) fun _ => ?_
    have r3 : Ext w w3 := ur.young u3 fun i hi => .inr hi
    refine isref_write hT3.r (by omega) r3.size _ _ fun w4 d4 => ?_
    rw [hwf] at d4 ⊢
    obtain ⟨fq4, hT4, u4⟩ := hT3.right r3.size d4
    have r4 : Ext w w4 := r3.young u4 fun i hi => .inr hi
    try simp only [push_cast]
    refine mIf_neI (fun h => absurd rfl h) fun _ => ?_
    rw [i64w ((j : Int) + 1) (by omega) (by omega)]
    exact ⟨⟨j + 1, _, fp3, fq4, congrArg (Value.int .i64) (by omega), by omega, hT4, by simp [hw], har, hdo, hbl, r4⟩, by simp only [intOf]; omega⟩
  · have a0 : Ext w wr := ur
    refine open_c hT.d start 4 sealed (fun e he hne w3 u3 => ?_) fun L he ok w3 qq h3 u3 hq3 => ?_
    · try simp only [push_cast]
      refine mN_v (build65 _ _ _ _) ?_
      refine ropen_c (hT.r.ext u3) start 4 sealed (fun e' he' _ w4 u4 => ?_) fun L he' => by rw [he] at he'; cases he'
      obtain rfl : e = e' := by rw [he] at he'; injection he'
      refine mN_new (zero62 w4) fun w5 h5 u5 s5 => ?_
      refine mN_storeN (vs := [.pointer none, .int .i64 e]) (by kernel_rfl) h5 (by simp) (by intro v hv; simp at hv; rcases hv with rfl | rfl <;> rfl) fun w6 h6 u6 s6 => ?_
      rw [splice_all _ _ (by simp)] at h6
      have a6 : Ext w w6 := (((a0.ext u3).ext u4).ext u5).trans u6 (fun _ _ x => x) fun i hi e => by have := ((a0.ext u3).ext u4).size; omega
      try simp only [push_cast]
      refine mN_v (r_loadB _ (by kernel_rfl) h6 rfl) ?_
      try simp only [push_cast]
      refine mIf_neI (fun h => absurd rfl h) fun _ => ?_
      try simp only [push_cast, Option.isNone_none]
      refine mN_v (r_loadB _ (by kernel_rfl) h6 rfl) ?_
      try simp only [push_cast, Option.isNone_none, bne_self_eq_false]
      exact ab_c fun w7 u7 => k w7 ((a6.ext (Upd.drew w6 _)).ext u7)
    · try simp only [push_cast]
      refine mN_v (build65 _ _ _ _) ?_
      refine ropen_c (hT.r.ext u3) start 4 sealed (fun e' he' => by rw [he] at he'; cases he') fun L' he' _ hbl' w4 gr hrl u4 => ?_
      obtain rfl : L = L' := by
        rw [he] at he'
        injection he' with _ he'
        injection he'
      refine mN_new (zero62 w4) fun w5 h5 u5 s5 => ?_
      refine mN_storeN (vs := [.pointer (some ⟨gr, 0, none⟩), .int .i64 0]) (by kernel_rfl) h5 (by simp) (by intro v hv; simp at hv; rcases hv with rfl | rfl <;> rfl) fun w6 h6 u6 s6 => ?_
      rw [splice_all _ _ (by simp)] at h6
      have u46 : Ext w4 w6 := u5.trans u6 (fun _ _ x => x) fun i hi e => by omega
      have a6 : Ext w w6 := ((a0.ext u3).ext u4).ext u46
      have hrl6 := hrl.keep u46 fun _ _ => id
      have h36 := (h3.keep u4 id).keep u46 id
      unfold dptr
      try simp only [push_cast]
      refine mN_v (r_loadB _ (by kernel_rfl) h6 rfl) ?_
      try simp only [push_cast]
      refine mIf_neI (fun h => absurd rfl h) fun _ => ?_
      try simp only [push_cast, Option.isNone_some]
      refine mN_v (r_loadB _ (by kernel_rfl) h6 rfl) ?_
      try simp only [push_cast, Option.isNone_some, bne_self_eq_false]
      unfold mDrew
      have u7 := Upd.drew w6 fun _ => False
      have h7 := h6.drew
      have h37 := h36.drew
      have hrl7 := hrl6.keep u7 fun _ _ => id
      have a7 := a6.drewn
      generalize w6.drew = w7 at h7 h37 hrl7 a7 u7
      try simp only [push_cast, Option.isNone_some]
      obtain ⟨v, r1, r2, _, r4, r5⟩ := hrl7
      refine mR_v (r_loadB _ (by kernel_rfl) h7 rfl) ?_
      try simp only [push_cast]
      refine mR_v (r_loadB _ (by kernel_rfl) r1 rfl) ?_
      obtain ⟨hg1, _, hg3, hg4, hg5, hg6, hg7, _⟩ := openL_some he
      have hbn := isdisk_bn hT.d
      have hlen4 := ok.len
      have hok5 := ok.n
      refine records_c (b := L.b) (by omega) h37 fun v' w8 hv' u8 => ?_
      have h8 := h7.keep u8 id
      have r8 := r1.keep u8 id
      refine ⟨rdN_v (r_loadB _ (by kernel_rfl) r8 rfl), rdN_v (r_loadB _ (by kernel_rfl) h8 rfl), ?_⟩
      have hs8 := (Strs.of_row r2 (fp := fun k => k < w7.heap.size) fun k hk => r5 k (r4 k hk)).keep u8 fun _ _ => id
      refine texts_c hv' hs8 fun w9 u9 => ?_
      have h9 := h8.keep u9 id
      refine ⟨rdN_v (r_loadB _ (by kernel_rfl) h9 rfl), ?_⟩
      rw [show decide ((parseL L.b).1.map ofL = L.ref.recs.map ofL) = true from decide_eq_true rfl]
      refine sealed_c ((h37.keep u8 id).keep u9 id) ?_
      refine ⟨rdN_v (r_loadB _ (by kernel_rfl) h9 rfl), ?_⟩
      try simp only [push_cast]
      refine mIf_eqI (fun _ => ?_) fun hne => absurd (by omega) hne
      refine ab_c fun w10 u10 => ?_
      refine ⟨rdN_v (r_loadB _ (by kernel_rfl) (h9.keep u10 id) rfl), ?_⟩
      exact k w10 (((a7.ext u8).ext u9).ext u10)
end
end Go.Proofs.Ythgopkppmppdoaa
