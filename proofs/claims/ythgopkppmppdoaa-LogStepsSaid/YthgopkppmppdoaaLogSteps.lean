/-
  LogSteps: the walk.
-/
import Derived.Test.YthgopkppmppdoaaLog11
set_option linter.unusedVariables false
set_option linter.unusedSimpArgs false
set_option maxRecDepth 20000
namespace Go.Proofs.Ythgopkppmppdoaa
open Go Go.Proofs Go.Vc
open Go.RowKit (Below intOf)

section
variable {w : World} {K : Value → World → Prop}

theorem build65b (a b : Int) (w : World) : (Instr.build 65 #[(0, .int .i64 a), (1, .int .i64 b)]).run Try.prog w = .ok (.agg #[.int .i64 a, .int .i64 b, .int .i64 0]) w := by kernel_rfl
theorem build98 (a b c d : Nat) (w : World) : (Instr.build 98 #[(0, .pointer (some ⟨a, 0, none⟩)), (1, .pointer (some ⟨b, 0, none⟩)), (2, .pointer (some ⟨c, 0, none⟩)), (3, .pointer (some ⟨d, 0, none⟩))]).run Try.prog w = .ok (.agg #[.pointer (some ⟨a, 0, none⟩), .pointer (some ⟨b, 0, none⟩), .pointer (some ⟨c, 0, none⟩), .pointer (some ⟨d, 0, none⟩)]) w := by kernel_rfl
theorem box98 (a b c d : Nat) (w : World) : (Instr.box 98 (.agg #[.pointer (some ⟨a, 0, none⟩), .pointer (some ⟨b, 0, none⟩), .pointer (some ⟨c, 0, none⟩), .pointer (some ⟨d, 0, none⟩)])).run Try.prog w =
    .ok (.pointer (some ⟨w.heap.size, 0, none⟩)) (w.alloc (.cells #[.pointer (some ⟨a, 0, none⟩), .pointer (some ⟨b, 0, none⟩), .pointer (some ⟨c, 0, none⟩), .pointer (some ⟨d, 0, none⟩)] 98 (0, 0))) := by kernel_rfl

/-- A block of the reference's disk, read. -/
theorem isref_ix {q N : Nat} {fq : Nat → Prop} {D : DM} (h : IsRef w q fq N D) : ∃ A c, (∃ vw vk, Blk w q 106 [.slice A D.blocks.length c, vw, .bool D.down, .bool D.armed, .int .i64 D.after, .bool D.cut, vk]) ∧
    ∀ i, i < D.blocks.length → ∃ a, (∀ w, (Instr.indexAt 67 (.slice A D.blocks.length c) (.int .i64 i)).run Try.prog w = .ok (.pointer (some a)) w) ∧ ∀ w', Ext w w' → (Instr.loadAt 9 (.pointer (some a))).run Try.prog w' = .ok (.string (D.lasts i)) w' := by
  obtain ⟨⟨vb, vw, vk, h⟩, _⟩ := h
  rcases Nat.eq_zero_or_pos D.blocks.length with h0 | h0
  · obtain ⟨A, c, rfl⟩ := h.blocks.slice
    exact ⟨A, c, ⟨vw, vk, h.cells⟩, fun i hi => by omega⟩
  obtain ⟨g, cap, cs, rfl, hb, h1, h2, h3, h4⟩ := h.blocks.at_ h0
  refine ⟨_, cap, ⟨vw, vk, h.cells⟩, fun i hi => ⟨⟨g, i, none⟩, fun w => ?_, fun w' u => ?_⟩⟩
  · have := r_indexAt (P := Try.prog) w (sz := 1) Try.underlying67 (by kernel_rfl) g 0 D.blocks.length cap i (by omega) (by omega)
    rw [this]
    simp
  · refine r_loadB _ ag9 (hb.keep u id) ?_
    rw [h4 i (by omega)]
    obtain ⟨b, hbl⟩ : ∃ b, D.blocks[i]? = some b := ⟨_, List.getElem?_eq_getElem hi⟩
    unfold DM.lasts
    rw [if_neg (by omega), Int.toNat_natCast, List.getD_eq_getElem?_getD, hbl]
    have : (D.blocks.flatMap encS) = D.blocks.map fun b => Value.string (joined b) := by
      induction D.blocks with
      | nil => rfl
      | cons x xs ih => simp [encS, List.flatMap_cons, ih]
    rw [this, List.getElem?_map, hbl]
    rfl

theorem logSteps_c (start blocks : Int) {v : Value} {l : List Step29} (hl : Arr w v 4 (· < w.heap.size) l (isStep29 (· < w.heap.size))) (k : ∀ w', Ext w w' → K (.bool true) w') : mCall Try.prog 13 #[.int .i64 start, .int .i64 blocks, v] w K := by
  refine ⟨ok13 ?_⟩
  unfold sh13
  refine new_c 8 (fun h => by omega) fun _ _ w1 p fp h1 u1 y1 => ?_
  rw [show (DM.new (8 : Int).toNat) = DM.new 8 from rfl] at h1
  unfold dptr
  try simp only [push_cast, Option.isNone_some, Bool.not_false, bne_self_eq_false, beq_self_eq_true]
  have hl1 := hl.keep (isStep29_stable _) u1 fun _ _ => id
  refine long29_c hl1 (fun w2 u2 => ?_) fun hn hks w2 u2 => ?_
  · try simp only [push_cast]
    exact ab_c fun w3 u3 => k w3 ((u1.ext u2).ext u3)
  try simp only [push_cast]
  have a2 := u1.ext u2
  refine rnew_c 8 (by decide) a2.size fun w3 q fq h3 u3 y3 => ?_
  have d3 := (h1.ext u2).ext u3
  have a3 := a2.ext u3
  unfold dptr
  obtain ⟨A, c, rfl⟩ := Arr.slice hl
  refine open_c d3 start blocks 0 (fun e he hne w4 u4 => ?_) fun L he ok w4 gl hg4 u4 hgl => ?_
  · try simp only [push_cast]
    refine mN_v (build65b _ _ _) ?_
    refine ropen_c (h3.ext u4) start blocks 0 (fun e' he' _ w5 u5 => ?_) fun L' he' => by rw [he] at he'; cases he'
    obtain rfl : e = e' := by rw [he] at he'; injection he'
    refine mN_new (zero62 w5) fun w6 h6 u6 s6 => ?_
    refine mN_storeN (vs := [.pointer none, .int .i64 e]) (by kernel_rfl) h6 (by simp) (by intro v hv; simp at hv; rcases hv with rfl | rfl <;> rfl) fun w7 h7 u7 s7 => ?_
    rw [splice_all _ _ (by simp)] at h7
    have a7 : Ext w w7 := (((a3.ext u4).ext u5).ext u6).trans u7 (fun _ _ x => x) fun i hi e => by have := ((a3.ext u4).ext u5).size; omega
    try simp only [push_cast]
    refine mN_v (r_loadB _ (by kernel_rfl) h7 rfl) ?_
    try simp only [push_cast]
    refine mIf_neI (fun h => absurd rfl h) fun _ => ?_
    try simp only [push_cast, Option.isNone_none]
    refine mN_v (r_loadB _ (by kernel_rfl) h7 rfl) ?_
    try simp only [push_cast, Option.isNone_none, bne_self_eq_false]
    exact ab_c fun w8 u8 => k w8 (a7.ext u8)
  try simp only [push_cast]
  refine mN_v (build65b _ _ _) ?_
  refine ropen_c (h3.ext u4) start blocks 0 (fun e' he' => by rw [he] at he'; cases he') fun L' he' _ hbl w5 gr hm5 u5 => ?_
  obtain rfl : L = L' := by
    rw [he] at he'
    injection he' with _ he'
    injection he'
  have hsm := Same.open_ he ok hbl
  obtain ⟨hrange, _, _, _, eB, _, _⟩ := openL_some he
  refine mN_new (zero62 w5) fun w6 h6 u6 s6 => ?_
  refine mN_storeN (vs := [.pointer (some ⟨gr, 0, none⟩), .int .i64 0]) (by kernel_rfl) h6 (by simp) (by intro v hv; simp at hv; rcases hv with rfl | rfl <;> rfl) fun w7 h7 u7 s7 => ?_
  rw [splice_all _ _ (by simp)] at h7
  have u57 : Ext w5 w7 := u6.trans u7 (fun _ _ x => x) fun i hi e => by omega
  unfold dptr
  try simp only [push_cast]
  refine mN_v (r_loadB _ (by kernel_rfl) h7 rfl) ?_
  try simp only [push_cast]
  refine mIf_neI (fun h => absurd rfl h) fun _ => ?_
  try simp only [push_cast, Option.isNone_some]
  refine mN_v (r_loadB _ (by kernel_rfl) h7 rfl) ?_
  try simp only [push_cast, Option.isNone_some, bne_self_eq_false]
  refine mN_v (r_loadB _ (by kernel_rfl) h7 rfl) ?_
  refine mN_v (build98 p q gl gr w7) ?_
  refine mN_new (box98 p q gl gr w7) fun w8 h8 u8 s8 => ?_
  have u48 : Ext w4 w8 := (u5.ext u57).ext u8
  have a8 : Ext w w8 := (a3.ext u4).ext u48
  have s1 := u1.size
  have s2 := u2.size
  have s3 := u3.size
  have s4 := u4.size
  have s5 := u5.size
  have s57 := u57.size
  have s8' := u8.size
  have hlp : ∀ k, fp k → k < w1.heap.size := fun k hk => h1.lt hk
  have hlq : ∀ k, fq k → k < w3.heap.size := fun k hk => h3.lt hk
  have hlg4 := hg4.lt
  have hm8 := (hm5.keep u57 fun _ _ => id).keep u8 fun _ _ => id
  have hP : PairAt w8 w.heap.size w7.heap.size p q gl gr fp fq (fun k => w4.heap.size ≤ k ∧ k < w5.heap.size) (DM.new 8) (DM.new 8) L L.ref :=
    { cell := h8
      d := (d3.ext u4).ext u48
      r := (h3.ext u4).ext u48
      l := hg4.keep u48 id
      m := hm8
      yp := y1
      yr := fun k hk => by omega
      ygp := by omega
      ygl := by omega
      pq := fun k hk hf => by have := hlp k hk; have := y3 k hf; omega
      pr := fun k hk hf => by have := hlp k hk; omega
      qr := fun k hk hf => by have := hlq k hk; omega
      pg := fun hk => by have := hlp _ hk; omega
      pl := fun hk => by have := hlp _ hk; omega
      qg := fun hk => by have := hlq _ hk; omega
      ql := fun hk => by have := hlq _ hk; omega
      rg := fun hk => by omega
      rl := fun hk => by omega
      gne := by omega }
  try simp only [push_cast]
  refine mLoop1.mk (fun x wr => ∃ (j : Nat) (gl gr : Nat) (fp fq fr : Nat → Prop) (D : DM) (L' : LM) (R : RM), x = .int .i64 j ∧ j ≤ l.length ∧ PairAt wr w.heap.size w7.heap.size p q gl gr fp fq fr D D L' R ∧ Same L' R ∧ L'.blocks = L.blocks ∧ D.waits.length ≤ 128 * j ∧ Ext w wr) (fun x _ => l.length - (intOf x).toNat) ?_ ?_
  · exact ⟨0, gl, gr, fp, fq, _, DM.new 8, L, L.ref, rfl, Nat.zero_le _, hP, hsm, rfl, Nat.le_refl _, a8⟩
  rintro x wr ⟨j, gl, gr, fp, fq, fr, D, L', R, rfl, hj, hP, hsm, hbk, hwn, ur⟩
  try simp only [push_cast]
  refine mIf_dec (fun hlt => ?_) fun hlt => ?_
  rotate_left
  · exact ab_c fun w9 u9 => k w9 (ur.ext u9)
  obtain ⟨s, hs⟩ : ∃ s, l[j]? = some s := ⟨_, List.getElem?_eq_getElem (by omega)⟩
  have hlr := hl.keep (isStep29_stable _) ur fun _ _ => id
  obtain ⟨_, bb, o, rfl, _, cs, hcl, hc, hss⟩ := Arr.at_ hlr hs
  refine mN_v (r_indexAt wr (sz := 4) Try.underlying94 (by kernel_rfl) bb o l.length c j (by omega) (by omega)) ?_
  rw [Int.toNat_natCast]
  refine mN_v (r_loadNs wr (n := 4) (by kernel_rfl) (by kernel_rfl) hcl hc) ?_
  refine step29_new hss fun w9 vk hst9 e9 hk9 h9 u9 => ?_
  have r9 : Ext w w9 := ur.ext u9
  have hnext : IntKind.wrap .i64 ((j : Int) + 1) = (j : Int) + 1 := i64w _ (by omega) (by omega)
  have hsk := hks s (List.mem_of_getElem? hs)
  refine mN_v (r_loadN w9 (n := 4) (by kernel_rfl) (by kernel_rfl) h9 (by omega)) ?_
  rw [List.drop_zero, List.take_of_length_le (by omega)]
  refine does29_c (hP.ext u9) hsm r9.size (by omega) (cs := cs.toArray) hst9 (by omega) hsk.2 fun w10 gl gr fp fq fr D' L2 R hP10 hsm eS2 eB2 hwn10 u10 => ?_
  have r10 : Ext w w10 := r9.young u10 fun i hi => .inr hi
  have hlen := hsm.ok.len
  have hse := hsm.ok.sl
  have hbn := hsm.ok.n
  have hrl : (recsL R.recs).length ≤ 256 * 128 := by rw [← hsm.b]; omega
  have hsle := hsm.sle
  have hrn := recsL_len R.recs
  try simp only [push_cast, Bool.not_true, dptr, Option.isNone_some]
  refine mN_v (r_loadB _ (by kernel_rfl) hP10.cell rfl) ?_
  obtain ⟨vv, m1, m2, m3, m4, m5⟩ := hP10.m
  try simp only [push_cast, Bool.not_true, dptr, Option.isNone_some]
  refine mN_v (r_loadB _ (by kernel_rfl) m1 rfl) ?_
  refine rplainA_c (Strs.of_row m2 (fp := fr) m4) (by omega) fun w11 u11 => ?_
  rw [← hsm.b]
  try unfold mDrew
  have u12 : Ext w10 w11.drew := u11.drewn
  generalize w11.drew = w12 at u12
  have hP12 := hP10.ext u12
  have m1' := m1.keep u12 id
  have m2' := m2.keep u12 fun _ _ => id
  refine mR_v (r_loadB _ (by kernel_rfl) hP12.cell rfl) ?_
  try simp only [push_cast, Bool.not_true, dptr, Option.isNone_some]
  refine mR_v (r_loadB _ (by kernel_rfl) m1' rfl) ?_
  try simp only [push_cast]
  refine mR_v (r_loadB _ (by kernel_rfl) hP12.cell rfl) ?_
  try simp only [push_cast, Bool.not_true, dptr, Option.isNone_some]
  refine mR_v (r_loadB _ (by kernel_rfl) m1' rfl) ?_
  obtain ⟨Av, cv, rfl, hcv⟩ : ∃ A c, vv = .slice A R.recs.length c ∧ R.recs.length ≤ c := by
    rcases m2.form with ⟨rfl, h0, _⟩ | ⟨gv, cap, cs, rfl, _, h1, _⟩
    · exact ⟨none, 0, by rw [h0], by omega⟩
    · exact ⟨_, cap, rfl, h1⟩
  refine mP_v (fun w => r_sliceLh w Try.underlying67 (by kernel_rfl) (sz := 1) _ _ _ _ (by omega) (by omega)) ?_
  rw [Int.toNat_natCast]
  have hpre := Arr.upto (Strs.of_row m2' (fp := fr) m4) hsle
  rw [← List.map_take] at hpre
  refine rplainA_c hpre (by rw [← hsm.sd]; omega) fun w13 u13 => ?_
  have hP13 := hP12.ext u13
  refine ⟨rdN_v (r_loadB _ (by kernel_rfl) (m1'.keep u13 id) rfl), rdN_v (r_loadB _ (by kernel_rfl) hP13.cell rfl), rdN_v (r_loadB _ (by kernel_rfl) (m1'.keep u13 id) rfl), rdN_v (r_loadB _ (by kernel_rfl) hP13.cell rfl), ?_⟩
  try simp only [push_cast, ofL_size]
  rw [← hsm.sd]
  try unfold mDrew
  have u14 : Ext w10 w13.drew := (u12.ext u13).drewn
  generalize w13.drew = w14 at u14
  have hP14 := hP10.ext u14
  have m14 := m1.keep u14 id
  refine mR_v (r_loadB _ (by kernel_rfl) hP14.cell rfl) ?_
  try simp only [push_cast]
  refine mR_v (r_loadB _ (by kernel_rfl) hP14.cell rfl) ?_
  try simp only [push_cast, Bool.not_true, dptr, Option.isNone_some]
  refine mR_v (r_loadB _ (by kernel_rfl) m14 rfl) ?_
  refine records_c (b := L2.b) (by omega) hP14.l fun v15 w15 hv15 u15 => ?_
  have a15 := u14.ext u15
  have hP15 := hP10.ext a15
  refine ⟨rdN_v (r_loadB _ (by kernel_rfl) (m1.keep a15 id) rfl), rdN_v (r_loadB _ (by kernel_rfl) hP15.cell rfl), ?_⟩
  have hst := Strs.of_row (m2.keep a15 fun _ _ => id) (fp := fr) m4
  refine texts_c hv15 hst fun w16 u16 => ?_
  have a16 := a15.ext u16
  have hP16 := hP10.ext a16
  refine ⟨rdN_v (r_loadB _ (by kernel_rfl) hP16.cell rfl), ?_⟩
  rw [show decide ((parseL L2.b).1.map ofL = R.recs.map ofL) = true from decide_eq_true (by rw [hsm.b, parseL_recs hsm.short])]
  try simp only [push_cast, Bool.not_true]
  refine mR_v (r_loadB _ (by kernel_rfl) hP16.cell rfl) ?_
  try simp only [push_cast, ofL_size]
  refine bytes_c hP16.l ?_
  refine ⟨rdN_v (r_loadB _ (by kernel_rfl) hP16.cell rfl), ?_⟩
  try simp only [push_cast, bne_self_eq_false]
  refine mR_v (r_loadB _ (by kernel_rfl) hP16.cell rfl) ?_
  refine sealed_c hP16.l ?_
  refine ⟨rdN_v (r_loadB _ (by kernel_rfl) hP16.cell rfl), ?_⟩
  try simp only [push_cast, bne_self_eq_false]
  refine mR_v (r_loadB _ (by kernel_rfl) hP16.cell rfl) ?_
  try simp only [push_cast, ofL_size]
  have eBI : (L2.blocks : Int) = blocks := by rw [eB2, hbk, eB]; omega
  refine room_c hP16.l hsm.ok fun w17 u17 => ?_
  have a17 := a16.ext u17
  have hP17 := hP10.ext a17
  refine ⟨rdN_v (r_loadB _ (by kernel_rfl) hP17.cell rfl), ?_⟩
  rw [i64w (256 * blocks) (by omega) (by omega), i64w _ (by omega) (by omega)]
  rw [show ((256 * L2.blocks - L2.b.length : Nat) : Int) = 256 * blocks - L2.b.length by omega]
  try simp only [push_cast, bne_self_eq_false]
  obtain ⟨Ab, cb, ⟨vw, vk', hq17⟩, hix⟩ := isref_ix hP17.r
  refine mN_v (r_loadB _ (by kernel_rfl) hq17 rfl) ?_
  try simp only [push_cast]
  have hbl128 := isref_bn hP17.r
  refine mLoop1.mk (fun x wz => ∃ i : Nat, x = .int .i64 i ∧ i ≤ D'.blocks.length ∧ Ext w17 wz) (fun x _ => D'.blocks.length - (intOf x).toNat) ⟨0, rfl, Nat.zero_le _, Upd.refl _ _⟩ ?_
  rintro x wz ⟨i, rfl, hi, uz⟩
  try simp only [push_cast]
  refine mIf_dec (fun hilt => ?_) fun hilt => ?_
  · have uz2 : Ext w17 wz.drew := uz.drewn
    generalize wz.drew = wz2 at uz2
    refine mR_v (r_loadB _ (by kernel_rfl) (hq17.keep uz2 id) rfl) ?_
    obtain ⟨a, ha1, ha2⟩ := hix i (by omega)
    refine mP_v ha1 ?_
    refine mR_v (ha2 wz2 uz2) ?_
    refine isdisk_lasts (hP17.d.ext uz2) i fun wz3 uz3 => ?_
    have uz13 := uz2.ext uz3
    refine ⟨rdN_v (ha2 wz3 uz13), rdN_v (r_loadB _ (by kernel_rfl) (hq17.keep uz13 id) rfl), ?_⟩
    try simp only [push_cast]
    refine mIf_neS (fun h => absurd rfl h) fun _ => ?_
    rw [i64w ((i : Int) + 1) (by omega) (by omega)]
    exact ⟨⟨i + 1, congrArg (Value.int .i64) (by omega), by omega, uz13⟩, by simp only [intOf]; omega⟩
  · rw [hnext]
    exact ⟨⟨j + 1, gl, gr, fp, fq, fr, D', L2, R, congrArg (Value.int .i64) (by omega), by omega, hP17.ext uz, hsm, by rw [eB2, hbk], by omega, (r10.ext a17).ext uz⟩, by simp only [intOf]; omega⟩
end
end Go.Proofs.Ythgopkppmppdoaa
