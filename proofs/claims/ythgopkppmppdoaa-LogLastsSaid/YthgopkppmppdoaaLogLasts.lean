/-
  LogLasts: the walk.
-/
import Derived.Test.YthgopkppmppdoaaLogL0
import Derived.Test.YthgopkppmppdoaaLog5
set_option linter.unusedVariables false
set_option linter.unusedSimpArgs false
set_option maxRecDepth 20000
namespace Go.Proofs.Ythgopkppmppdoaa
open Go Go.Proofs Go.Vc
open Go.RowKit (Below intOf)

section
variable {w : World} {K : Value → World → Prop}

theorem logLasts_c {v0 v1 v2 : Value} {l0 l1 : List ByteArray} {keep : List Int} (h0 : Strs w v0 l0 (· < w.heap.size)) (h1 : Strs w v1 l1 (· < w.heap.size)) (hk : Ints w v2 keep (· < w.heap.size))
    (k : ∀ w', Ext w w' → K (.bool true) w') : mCall Try.prog 12 #[v0, v1, v2] w K := by
  obtain ⟨A0, c0, rfl⟩ := Arr.slice h0
  obtain ⟨A1, c1, rfl⟩ := Arr.slice h1
  obtain ⟨A2, c2, rfl⟩ := Arr.slice hk
  refine ⟨ok12 ?_⟩
  unfold sh12
  refine new_c 8 (fun h => by omega) fun _ _ w1 p fp d1 u1 y1 => ?_
  rw [show (DM.new (8 : Int).toNat) = DM.new 8 from rfl] at d1
  try simp only [push_cast, dptr, Option.isNone_some, bne_self_eq_false, beq_self_eq_true, Bool.not_false]
  have hab : mCall Try.prog 36 #[] w1 K := ab_c fun w2 u2 => k w2 (u1.ext u2)
  refine mIf_dec (fun _ => hab) fun hb1 => ?_
  refine mIf_dec (fun _ => hab) fun hb2 => ?_
  refine mIf_dec (fun _ => hab) fun hb3 => ?_
  clear hab
  have ho := new_openL (n := 8) (by decide) (s := 2) (b := 6) (by decide) (by decide) (by decide)
  refine open_c d1 2 6 0 (fun e he => by rw [ho] at he; cases he) fun L he ok w2 q h2 u2 hq => ?_
  rw [ho] at he
  obtain rfl : (⟨2, 6, [], 0⟩ : LM) = L := by injection he with _ he; injection he
  try simp only [push_cast, dptr, Option.isNone_some, bne_self_eq_false, beq_self_eq_true, Bool.not_false]
  have a2 : Ext w w2 := u1.ext u2
  have hqw : w.heap.size ≤ q := Nat.le_trans u1.size hq
  have hq2 := h2.lt
  have d2 := d1.ext u2
  have nq : ¬ fp q := fun hf => by have := d1.lt hf; omega
  refine mLoop2.mk (fun x y wr => ∃ (j : Nat) (put : List (List UInt8)), y = .int .i64 j ∧ j ≤ l0.length ∧ put.length ≤ j ∧ Ext w wr ∧ w2.heap.size ≤ wr.heap.size ∧ Blk wr q 159 (logC p ⟨2, 6, recsL put, 0⟩) ∧ (⟨2, 6, recsL put, 0⟩ : LM).Ok ∧ (∀ s ∈ put, s.length ≤ 65536) ∧
      Row wr 9 1 x put.length (encT put) ∧ (∀ k, Fp x k → w2.heap.size ≤ k) ∧ IsDisk wr p fp (DM.new 8)) (fun _ y _ => l0.length - (intOf y).toNat)
    ⟨0, [], rfl, Nat.zero_le _, Nat.le_refl _, a2, Nat.le_refl _, h2, ok, fun s hs => (by cases hs), Row.nil _ _ _, fun k hk => (by cases hk), d2⟩ ?_
  rintro x y wr ⟨j, put, rfl, hj, hpj, ur, hsz, hb, okb, hps, hrow, hx, hd⟩
  have hqr := hb.lt
  try simp only [push_cast]
  refine mIf_dec (fun hlt => ?_) fun hlt => ?_
  · obtain ⟨s, hs⟩ : ∃ x, l0[j]? = some x := ⟨_, List.getElem?_eq_getElem (by omega)⟩
    obtain ⟨pa, i1, r1, _⟩ := strs_ix (h0.keep ur fun _ _ => id) hs
    refine mN_v (i1 wr) ?_
    refine mN_v r1 ?_
    obtain ⟨s, rfl⟩ := ofL_of s
    try simp only [push_cast, ofL_size]
    refine mIf_dec (fun hlong => ?_) fun hlong => ?_
    · exact ab_c fun w3 u3 => k w3 (ur.ext u3)
    refine add_c (by omega) hb okb fun w3 h3 u3 => ?_
    have ok3 := LM.add_ok (s := s) okb
    have a3 : Ext w w3 := ur.trans u3 (fun _ _ x => x) fun i hi e => by omega
    have hs3 := u3.size
    have hrow3 := hrow.keep u3 fun k hk e => by have := hx k hk; omega
    have hd3 := hd.stay u3 fun k hk e => nq (e ▸ hk)
    rw [i64w ((j : Int) + 1) (by omega) (by omega)]
    unfold LM.add at h3 ok3 ⊢
    simp only at h3 ok3 ⊢
    by_cases hlg : 65536 < s.length
    · rw [if_pos hlg] at h3 ok3 ⊢
      try simp only [push_cast]
      refine mIf_eqI (fun h => absurd h (by decide)) fun _ => ?_
      exact ⟨⟨j + 1, put, congrArg (Value.int .i64) (by omega), by omega, by omega, a3, by omega, h3, okb, hps, hrow3, hx, hd3⟩, by simp only [intOf]; omega⟩
    rw [if_neg hlg] at h3 ok3 ⊢
    by_cases hf : 256 * 6 < (recsL put).length + (textL s).length
    · rw [if_pos hf] at h3 ok3 ⊢
      try simp only [push_cast]
      refine mIf_eqI (fun h => absurd h (by decide)) fun _ => ?_
      exact ⟨⟨j + 1, put, congrArg (Value.int .i64) (by omega), by omega, by omega, a3, by omega, h3, okb, hps, hrow3, hx, hd3⟩, by simp only [intOf]; omega⟩
    rw [if_neg hf] at h3 ok3 ⊢
    try simp only [push_cast]
    refine mIf_eqI (fun _ => ?_) fun h => absurd rfl h
    refine mN_new (str_new _ _) fun w4 h4 u4 s4 => ?_
    refine mN_append (z := .string ⟨#[]⟩) (sz := 1) (bytes := 16) Try.underlying67 (by kernel_rfl) (by kernel_rfl) (by omega) (hrow3.keep u4 fun _ _ => id) (m := 1) (ys := [.string (ofL s)]) (by simp) (fun j u hu => h4.cell (by simpa using hu)) (fun u hu => by rw [List.mem_singleton] at hu; subst hu; rfl)
      (by omega) (by omega) fun v5 w5 hr5 u5 y5 => ?_
    have e1 : put.length + 1 = (put ++ [s]).length := by simp
    have e2 : encT put ++ [.string (ofL s)] = encT (put ++ [s]) := by simp [encT]
    rw [e1, e2] at hr5
    have e3 : recsL put ++ textL s = recsL (put ++ [s]) := by rw [recsL_append, recsL_one]
    rw [e3] at h3 ok3
    have hs4 := u4.size
    have hs5 := u5.size
    have hv5 : ∀ k, Fp v5 k → w2.heap.size ≤ k := fun k hk => (y5 k hk).elim (hx k) fun h => by omega
    refine ⟨⟨j + 1, put ++ [s], congrArg (Value.int .i64) (by omega), by omega, by simp; omega, (a3.ext u4).trans u5 (fun _ _ x => x) fun i hi hf => by have := hx _ hf; have := a2.size; omega, by omega,
      (h3.keep u4 id).keep u5 fun hf => by have := hx _ hf; omega, ok3, fun t ht => ?_, hr5, hv5, (hd3.ext u4).stay u5 fun k hk hf => by have := hx _ hf; have := d2.lt hk; omega⟩, by simp only [intOf]; omega⟩
    rcases List.mem_append.1 ht with ht | ht
    · exact hps t ht
    · rw [List.mem_singleton] at ht
      subst ht
      omega
  -- written, flushed, sealed
  have hlen : (recsL put).length ≤ 256 * 6 := okb.len
  refine lwrite_c hb okb hd nq (by decide) fun w3 a3 => ?_
  obtain ⟨D', e1, e2, hK, hw', har, hdo, hbl⟩ := LM.lasts okb rfl (D := DM.new 8) rfl rfl rfl (by show 2 + 6 ≤ 8; decide)
  rw [e1]
  obtain ⟨fp3, d3, u3, y3⟩ := a3
  try simp only [push_cast]
  refine mIf_neI (fun h => absurd rfl h) fun _ => ?_
  refine isdisk_flush d3 fun w4 a4 => ?_
  rw [e2] at a4 ⊢
  obtain ⟨fp4, d4, u4, y4⟩ := a4
  try simp only [push_cast]
  refine mIf_neI (fun h => absurd rfl h) fun _ => ?_
  have hs1 := u1.size
  have hs2 := u2.size
  have hs3 := u3.size
  have hs4 := u4.size
  have hsr := ur.size
  have hfp : ∀ k, fp k → w.heap.size ≤ k ∧ k < w2.heap.size := fun k hk => ⟨y1 k hk, by have := d2.lt hk; omega⟩
  have n3 : ∀ k, w2.heap.size ≤ k → k < wr.heap.size → ¬ fp3 k := fun k h1 h2 hf => (y3 k hf).elim (fun h => by have := hfp k h; omega) fun h => by omega
  have n3q : ¬ fp3 q := fun hf => (y3 q hf).elim nq fun h => by omega
  have n4 : ∀ k, w2.heap.size ≤ k → k < wr.heap.size → ¬ fp4 k := fun k h1 h2 hf => (y4 k hf).elim (n3 k h1 h2) fun h => by omega
  have n4q : ¬ fp4 q := fun hf => (y4 q hf).elim n3q fun h => by omega
  have b4 := (hb.keep u3 nq).keep u4 n3q
  have hrx : ∀ k, Fp x k → k < wr.heap.size := fun k hk => hrow.lt hk
  have row4 := (hrow.keep u3 fun k hk hf => by have := hfp k hf; have := hx k hk; omega).keep u4 fun k hk => n3 k (hx k hk) (hrx k hk)
  have y4w : ∀ k, fp4 k → w.heap.size ≤ k := fun k hk => (y4 k hk).elim (fun h => (y3 k h).elim (fun h => (hfp k h).1) fun h => by omega) fun h => by omega
  have a4 : Ext w w4 := (ur.trans u3 (fun _ _ x => x) fun i hi hf => by have := hfp i hf; omega).trans u4 (fun _ _ x => x) fun i hi hf => (y3 i hf).elim (fun h => by have := hfp i h; omega) fun h => by omega
  refine seal_c b4 fun w5 h5 u5 => ?_
  simp only at h5
  refine sealed_c h5 ?_
  have hs5 := u5.size
  have d5 := d4.stay u5 fun k hk e => n4q (e ▸ hk)
  have row5 := row4.keep u5 fun k hk e => by have := hx k hk; omega
  have a5 : Ext w w5 := a4.trans u5 (fun _ _ x => x) fun i hi e => by omega
  try simp only [push_cast]
  -- more records
  refine mLoop1.mk (fun z wr2 => ∃ (j : Nat) (b : List UInt8) (E : DM) (fpE : Nat → Prop), z = .int .i64 j ∧ j ≤ l1.length ∧ Ext w wr2 ∧ w5.heap.size ≤ wr2.heap.size ∧ Blk wr2 q 159 (logC p ⟨2, 6, b, (recsL put).length⟩) ∧ (⟨2, 6, b, (recsL put).length⟩ : LM).Ok ∧ b.take (recsL put).length = recsL put ∧
      Row wr2 9 1 x put.length (encT put) ∧ IsDisk wr2 p fpE E ∧ (∀ k, fpE k → fp4 k ∨ w5.heap.size ≤ k) ∧ Keeps E 2 (recsL put) (recsL put).length ∧ E.armed = false ∧ E.down = false ∧ E.blocks.length = 8 ∧ E.waits.length ≤ 6 * j) (fun z _ => l1.length - (intOf z).toNat)
    ⟨0, recsL put, D', fp4, rfl, Nat.zero_le _, a5, Nat.le_refl _, h5, ⟨okb.s, okb.n, hlen, Nat.le_refl _⟩, List.take_of_length_le (Nat.le_refl _), row5, d5, fun k h => .inl h, hK, har, hdo, hbl, by rw [hw']; exact Nat.le_refl _⟩ ?_
  rintro z wr2 ⟨j2, b, E, fpE, rfl, hj2, ur2, hsz2, hb2, ok2, hpre, row2, dE, yE, kE, eA, eD, eB, eW⟩
  have nE : ∀ k, w2.heap.size ≤ k → k < wr.heap.size → ¬ fpE k := fun k h1 h2 hf => (yE k hf).elim (n4 k h1 h2) fun h => by omega
  have nEq : ¬ fpE q := fun hf => (yE q hf).elim n4q fun h => by omega
  have yEw : ∀ k, fpE k → w.heap.size ≤ k := fun k hk => (yE k hk).elim (y4w k) fun h => by omega
  have hl2 : b.length ≤ 256 * 6 := ok2.len
  have hse2 : (recsL put).length ≤ b.length := ok2.sl
  try simp only [push_cast]
  refine mIf_dec (fun hlt2 => ?_) fun hlt2 => ?_
  · obtain ⟨s, hs⟩ : ∃ x, l1[j2]? = some x := ⟨_, List.getElem?_eq_getElem (by omega)⟩
    obtain ⟨pa, i1, r1, _⟩ := strs_ix (h1.keep ur2 fun _ _ => id) hs
    refine mN_v (i1 wr2) ?_
    refine mN_v r1 ?_
    obtain ⟨s, rfl⟩ := ofL_of s
    try simp only [push_cast, ofL_size]
    refine mIf_dec (fun hlong => ?_) fun hlong => ?_
    · exact ab_c fun w3 u3 => k w3 (ur2.ext u3)
    refine add_c (by omega) hb2 ok2 fun w6 h6 u6 => ?_
    have ok6 := LM.add_ok (s := s) ok2
    obtain ⟨b6, hb6, hpre6⟩ : ∃ b6, ((⟨2, 6, b, (recsL put).length⟩ : LM).add s).2 = ⟨2, 6, b6, (recsL put).length⟩ ∧ b6.take (recsL put).length = recsL put := by
      unfold LM.add
      split
      · exact ⟨b, rfl, hpre⟩
      · split
        · exact ⟨b, rfl, hpre⟩
        · refine ⟨_, rfl, ?_⟩
          rw [List.take_append_of_le_length hse2]
          exact hpre
    rw [hb6] at h6 ok6
    have d6 := dE.stay u6 fun k hk e => nEq (e ▸ hk)
    have hs6 := u6.size
    have a6 : Ext w w6 := ur2.trans u6 (fun _ _ x => x) fun i hi e => by omega
    have row6 := row2.keep u6 fun k hk e => by have := hx k hk; omega
    refine lwrite_c h6 ok6 d6 nEq (by omega) fun w7 a7 => ?_
    obtain ⟨f1, f2, f3, f4, f5, f6⟩ := Keeps.write ok6 (b := recsL put) (n := (recsL put).length) kE eA eD (by show 2 + 6 ≤ _; omega) ok6.sl (by rw [hpre6, List.take_of_length_le (Nat.le_refl _)])
    rw [f1]
    obtain ⟨fp7, d7, u7, y7⟩ := a7
    have hs7 := u7.size
    try simp only [push_cast]
    refine mIf_neI (fun h => absurd rfl h) fun _ => ?_
    rw [i64w ((j2 : Int) + 1) (by omega) (by omega)]
    refine ⟨⟨j2 + 1, b6, _, fp7, congrArg (Value.int .i64) (by omega), by omega, a6.trans u7 (fun _ _ x => x) fun i hi hf => by have := yEw i hf; omega, by omega, h6.keep u7 nEq, ok6, hpre6,
      row6.keep u7 fun k hk => nE k (hx k hk) (hrx k hk), d7, fun k hk => (y7 k hk).elim (yE k) fun h => .inr (by omega), f2, f4, f5, by rw [f6, eB], ?_⟩, by simp only [intOf]; omega⟩
    have : E.waits.length ≤ 6 * j2 := eW
    have f3' : _ ≤ E.waits.length + 6 := f3
    omega
  -- down, up, opened
  have hkr : Ints wr2 (.slice A2 keep.length c2) keep (· < w.heap.size) := hk.keep ur2 fun _ _ => id
  refine isdisk_crash dE hkr (fun k hk hf => by have := yEw k hf; omega) fun w6 a6 => ?_
  have ec : E.crash keep = (0, E.fall keep) := by simp [DM.crash, eD]
  rw [ec] at a6 ⊢
  obtain ⟨fp6, d6, u6, y6⟩ := a6
  try simp only [push_cast]
  refine mIf_neI (fun h => absurd rfl h) fun _ => ?_
  refine isdisk_start d6 fun w7 a7 => ?_
  have es : (E.fall keep).start = (0, { E.fall keep with down := false }) := by
    unfold DM.start
    rw [if_neg (by simp [DM.fall])]
  rw [es] at a7 ⊢
  obtain ⟨fp7, d7, u7, y7⟩ := a7
  try simp only [push_cast]
  refine mIf_neI (fun h => absurd rfl h) fun _ => ?_
  have hs6 := u6.size
  have hs7 := u7.size
  have n6 : ∀ k, w2.heap.size ≤ k → k < wr.heap.size → ¬ fp6 k := fun k h1 h2 hf => (y6 k hf).elim (nE k h1 h2) fun h => by omega
  have y6w : ∀ k, fp6 k → w.heap.size ≤ k := fun k hk => (y6 k hk).elim (yEw k) fun h => by omega
  have a7 : Ext w w7 := (ur2.trans u6 (fun _ _ x => x) fun i hi hf => by have := yEw i hf; omega).trans u7 (fun _ _ x => x) fun i hi hf => by have := y6w i hf; omega
  have row7 := (row2.keep u6 fun k hk => nE k (hx k hk) (hrx k hk)).keep u7 fun k hk => n6 k (hx k hk) (hrx k hk)
  have kF : Keeps { E.fall keep with down := false } 2 (recsL put) (recsL put).length := (kE.fall keep).same rfl fun x hx => hx
  have hop := kF.opens (blocks := 6) rfl (List.take_of_length_le (Nat.le_refl _)) hps (by decide) (by show 8 ≤ (fallTo _ _ _ _).length; rw [fallTo_length, eB]; exact Nat.le_refl _) hlen
  refine open_c d7 2 6 (recsL put).length (fun e he => by rw [show ((2 : Nat) : Int) = 2 from rfl, show ((6 : Nat) : Int) = 6 from rfl] at hop; rw [hop] at he; cases he) fun L8 he8 ok8 w8 q8 h8 u8 hq8 => ?_
  rw [show ((2 : Nat) : Int) = 2 from rfl, show ((6 : Nat) : Int) = 6 from rfl] at hop
  rw [hop] at he8
  obtain rfl : (⟨2, 6, recsL put, (recsL put).length⟩ : LM) = L8 := by injection he8 with _ he8; injection he8
  unfold dptr
  try simp only [push_cast, Option.isNone_some, beq_self_eq_true, Bool.not_false]
  refine records_c (b := recsL put) (by omega) h8 fun v9 w9 hv9 u9 => ?_
  rw [parseL_recs hps] at hv9
  have row9 := (row7.keep u8 fun _ _ => id).keep u9 fun _ _ => id
  have hst := Strs.of_row row9 (fp := fun _ => True) fun _ _ => trivial
  refine texts_c hv9 hst fun w10 u10 => ?_
  rw [show decide (put.map ofL = put.map ofL) = true from decide_eq_true rfl]
  have h10 := (h8.keep u9 id).keep u10 id
  refine sealed_c h10 ?_
  try simp only [push_cast, beq_self_eq_true]
  refine bytes_c h10 ?_
  try simp only [push_cast, beq_self_eq_true]
  exact ab_c fun w11 u11 => k w11 ((((a7.ext u8).ext u9).ext u10).ext u11)
end
end Go.Proofs.Ythgopkppmppdoaa
