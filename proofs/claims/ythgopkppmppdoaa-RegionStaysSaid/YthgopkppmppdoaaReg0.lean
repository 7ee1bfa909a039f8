/-
  Package region: the walks of its small functions.
-/
import Derived.Test.YthgopkppmppdoaaLogM
set_option linter.unusedVariables false
set_option linter.unusedSimpArgs false
set_option maxRecDepth 20000
namespace Go.Proofs.Ythgopkppmppdoaa
open Go Go.Proofs Go.Vc
open Go.RowKit (Below intOf)

theorem logWrite_waits' {start : Nat} {b : List UInt8} : ∀ (n i : Nat) (D : DM), (D.logWrite start b i n).2.waits.length ≤ D.waits.length + n
  | 0, i, D => Nat.le_refl _
  | n + 1, i, D => by
    have hw := write_waits D ((start : Int) + i) (ofL (blkAt b i))
    unfold DM.logWrite
    split
    · omega
    · have := logWrite_waits' (start := start) (b := b) n (i + 1) (D.write ((start : Int) + i) (ofL (blkAt b i))).2
      omega
theorem lwrite_waits' {L : LM} (ok : L.Ok) (D : DM) : (L.write D).2.waits.length ≤ D.waits.length + 128 := by
  have h1 := ok.len
  have h2 := ok.n
  unfold LM.write
  split
  · have := logWrite_waits' (start := L.start) (b := L.b) (nblk L.b.length - L.sealed / 256) (L.sealed / 256) D
    have h3 : nblk L.b.length ≤ 128 := by unfold nblk; omega
    omega
  · show D.waits.length ≤ _
    omega
theorem flush_waits' (D : DM) : D.flush.2.waits.length ≤ D.waits.length := by
  unfold DM.flush
  split
  · exact Nat.le_refl _
  · split <;> exact Nat.zero_le _

/-- A region's blocks. -/
def DM.half (D : DM) : Nat := (D.blocks.length - 2) / 2
def LM.fill (L : LM) : List (List UInt8) → Int × LM
  | [] => (0, L)
  | s :: ss => if (L.add s).1 ≠ 0 then L.add s else (L.add s).2.fill ss
theorem LM.fill_nil (L : LM) : L.fill [] = (0, L) := rfl
theorem LM.fill_cons (L : LM) (s : List UInt8) (ss : List (List UInt8)) : L.fill (s :: ss) = if (L.add s).1 ≠ 0 then L.add s else (L.add s).2.fill ss := rfl
theorem LM.fill_ok {L : LM} (o : L.Ok) : ∀ ss, (L.fill ss).2.Ok
  | [] => o
  | s :: ss => by
    unfold LM.fill
    split
    · exact LM.add_ok o
    · exact LM.fill_ok (LM.add_ok o) ss
/-- The slot of a log. -/
def LM.slot (L : LM) (r : Int) : SM := ⟨0, r, L.b.length, (parseL L.b).1.length⟩
def DM.last (D : DM) (L : LM) (r : Int) : Int × DM :=
  if (L.write D).1 ≠ 0 then L.write D
  else if (L.write D).2.flush.1 ≠ 0 then (L.write D).2.flush
  else (L.write D).2.flush.2.put (L.slot r)
def LM.dropped (L : LM) : LM := { L with b := L.b.take L.sealed }
def LM.whole (L : LM) : LM := { L with sealed := L.b.length }
/-- What a commit answers, and the disk and the log behind it. -/
def DM.commit (D : DM) (L : LM) (r : Int) (ss : List (List UInt8)) : Int × DM × LM :=
  if (L.fill ss).1 ≠ 0 then ((L.fill ss).1, D, (L.fill ss).2.dropped)
  else if (D.last (L.fill ss).2 r).1 ≠ 0 then ((D.last (L.fill ss).2 r).1, (D.last (L.fill ss).2 r).2, (L.fill ss).2.dropped)
  else (0, (D.last (L.fill ss).2 r).2, (L.fill ss).2.whole)
def DM.openR (D : DM) (r n : Int) : Int × Option LM := D.openL (2 + r * D.half) D.half n

section
variable {w : World} {K : Value → World → Prop} {p gl j : Nat} {fp : Nat → Prop} {D : DM} {L : LM}

theorem box180 (w : World) : (Instr.box 180 (.agg #[dptr p])).run Try.prog w = .ok (.pointer (some ⟨w.heap.size, 0, none⟩)) (w.alloc (.cells #[dptr p] 180 (0, 0))) := by kernel_rfl

theorem half_c (h : IsDisk w p fp D) (k : ∀ w', Ext w w' → K (.int .i64 D.half) w') : mCall Try.prog 130 #[.agg #[dptr p]] w K := by
  have hbn := isdisk_bn h
  refine ⟨ok130 ?_⟩
  unfold sh130
  refine mN_new (box180 w) fun w1 h1 u1 s1 => ?_
  try simp only [push_cast]
  refine mN_v (r_loadB _ (by kernel_rfl) h1 rfl) ?_
  refine isdisk_blocks (h.ext u1) ?_
  try simp only [push_cast]
  rw [i64w _ (by omega) (by omega)]
  refine mN_v (r_quo _ _ _ _ _ (by decide)) ?_
  try simp only [push_cast]
  have e : (if (0 : Int) < IntKind.wrap .i64 (((D.blocks.length : Int) - 2).tdiv 2) then IntKind.wrap .i64 (((D.blocks.length : Int) - 2).tdiv 2) else 0) = (D.half : Int) := by
    unfold DM.half
    rcases Nat.lt_or_ge D.blocks.length 2 with hlt | hge
    · have hc : D.blocks.length = 0 ∨ D.blocks.length = 1 := by omega
      rcases hc with hc | hc <;> rw [hc] <;> decide
    · rw [Int.tdiv_eq_ediv_of_nonneg (by omega), i64w _ (by omega) (by omega)]
      split <;> omega
  first
    | (rw [e]; exact k w1 u1)
    | (simp only [e]; exact k w1 u1)

/-- (region.rows).open -/
theorem openR_c (h : IsDisk w p fp D) (r n : Int) (hr : 0 ≤ r ∧ r ≤ 1) (k0 : ∀ e, D.openR r n = (e, none) → e ≠ 0 → ∀ w', Ext w w' → K (.tuple #[.pointer none, .int .i64 e]) w')
    (k1 : ∀ L, D.openR r n = (0, some L) → L.Ok → ∀ w' q, Blk w' q 159 (logC p L) → Ext w w' → w.heap.size ≤ q → K (.tuple #[dptr q, .int .i64 0]) w') :
    mCall Try.prog 112 #[.agg #[dptr p], .int .i64 r, .int .i64 n] w K := by
  have hbn := isdisk_bn h
  have hh : D.half ≤ 128 := by unfold DM.half; omega
  refine ⟨ok112 ?_⟩
  unfold sh112
  refine mN_new (box180 w) fun w1 h1 u1 s1 => ?_
  unfold mDrew
  have u2 : Ext w w1.drew := u1.drewn
  have h2 := h1.drew
  generalize w1.drew = w2 at u2 h2
  try simp only [push_cast]
  refine mR_v (r_loadB _ (by kernel_rfl) h2 rfl) ?_
  refine mR_v (r_loadN w2 (T := 180) (n := 1) (by kernel_rfl) (by kernel_rfl) h2 (o := 0) (by simp)) ?_
  refine mR_v (r_loadN w2 (T := 180) (n := 1) (by kernel_rfl) (by kernel_rfl) h2 (o := 0) (by simp)) ?_
  refine half_c (h.ext u2) fun w3 u3 => ?_
  have a3 := u2.ext u3
  have h3 := h2.keep u3 id
  refine ⟨rdN_v (r_loadN w3 (T := 180) (n := 1) (by kernel_rfl) (by kernel_rfl) h3 (o := 0) (by simp)), rdN_v (r_loadB _ (by kernel_rfl) h3 rfl), ?_⟩
  try simp only [push_cast]
  have hm : 0 ≤ r * (D.half : Int) ∧ r * (D.half : Int) ≤ 128 := by
    rcases (show r = 0 ∨ r = 1 by omega) with rfl | rfl <;> omega
  rw [i64w (r * (D.half : Int)) (by omega) (by omega), i64w _ (by omega) (by omega)]
  refine half_c (h.ext a3) fun w4 u4 => ?_
  have a4 := a3.ext u4
  have h4 := h3.keep u4 id
  refine ⟨rdN_v (r_loadB _ (by kernel_rfl) h4 rfl), ?_⟩
  refine open_c (h.ext a4) _ _ _ (fun e he hne w5 u5 => ?_) fun L he ok w5 q h5 u5 hq => ?_
  · try simp only [push_cast]
    exact k0 e he hne w5 (a4.ext u5)
  · try simp only [push_cast]
    exact k1 L he ok w5 q h5 (a4.ext u5) (by have := a4.size; omega)

/-- region.fill -/
theorem fillR_c {v : Value} {ss : List (List UInt8)} {fv : Nat → Prop} (hv : Strs w v (ss.map ofL) fv) (hs : ∀ s ∈ ss, s.length ≤ 9223372036854775807) (h : Blk w gl 159 (logC p L)) (o : L.Ok) (hne : ¬ fv gl)
    (k : ∀ w', Blk w' gl 159 (logC p (L.fill ss).2) → Upd w w' (· = gl) → K (.int .i64 (L.fill ss).1) w') : mCall Try.prog 110 #[dptr gl, v] w K := by
  obtain ⟨A, c, rfl⟩ := Arr.slice hv
  have hsm := Arr.small hv
  rw [List.length_map] at hsm
  refine ⟨ok110 ?_⟩
  unfold sh110
  try simp only [push_cast, List.length_map]
  refine mLoop1.mk (fun x wr => ∃ (i : Nat) (L' : LM), x = .int .i64 i ∧ i ≤ ss.length ∧ Blk wr gl 159 (logC p L') ∧ L'.Ok ∧ Upd w wr (· = gl) ∧ L'.fill (ss.drop i) = L.fill ss) (fun x _ => ss.length - (intOf x).toNat) ⟨0, L, rfl, Nat.zero_le _, h, o, Upd.refl _ _, rfl⟩ ?_
  rintro x wr ⟨i, L', rfl, hi, hb, ok, ur, hf⟩
  try simp only [push_cast]
  refine mIf_dec (fun hlt => ?_) fun hlt => ?_
  · obtain ⟨s, hs'⟩ : ∃ x, ss[i]? = some x := ⟨_, List.getElem?_eq_getElem (by omega)⟩
    obtain ⟨pa, i1, r1, _⟩ := strs_ix (hv.keep ur fun k hk e => hne (e ▸ hk)) (show (ss.map ofL)[i]? = some (ofL s) by rw [List.getElem?_map, hs']; rfl)
    rw [List.length_map] at i1
    refine mN_v (i1 wr) ?_
    refine mN_v r1 ?_
    have hd : ss.drop i = s :: ss.drop (i + 1) := by
      obtain ⟨h1, h2⟩ := List.getElem?_eq_some_iff.1 hs'
      rw [← h2, List.getElem_cons_drop]
    rw [hd, LM.fill_cons] at hf
    refine add_c (hs s (List.mem_of_getElem? hs')) hb ok fun w2 h2 u2 => ?_
    try simp only [push_cast]
    refine mIf_neI (fun he => ?_) fun he => ?_
    · rw [if_pos he] at hf
      rw [hf] at h2 ⊢
      exact k w2 h2 (ur.then u2)
    · rw [if_neg (by simp [he])] at hf
      rw [i64w ((i : Int) + 1) (by omega) (by omega)]
      exact ⟨⟨i + 1, _, congrArg (Value.int .i64) (by omega), by omega, h2, LM.add_ok ok, ur.then u2, hf⟩, by simp only [intOf]; omega⟩
  · obtain rfl : i = ss.length := by omega
    rw [List.drop_length, LM.fill_nil] at hf
    rw [← hf] at k
    exact k wr hb ur

theorem build50s (r b n : Int) (w : World) : (Instr.build 50 #[(1, .int .i64 r), (2, .int .i64 b), (3, .int .i64 n)]).run Try.prog w = .ok (slotV ⟨0, r, b, n⟩) w := by kernel_rfl

def jC (p gl : Nat) (r : Int) : List Value := [dptr p, dptr gl, .int .i64 r]

/-- (*region.Journal).last -/
theorem last_c {x1 x2 : Value} (hj : Blk w j 184 [dptr p, x1, x2]) (h : Blk w gl 159 (logC p L)) (o : L.Ok) (hd : IsDisk w p fp D) (hne : ¬ fp gl) (hnj : ¬ fp j) (hwn : D.waits.length ≤ 1000000) (r : Int)
    (k : ∀ w', DAfter w p fp (D.last L r).2 w' → K (.int .i64 (D.last L r).1) w') : mCall Try.prog 111 #[dptr j, dptr gl, .int .i64 r] w K := by
  have hl := o.len
  have hn := o.n
  unfold DM.last at k
  refine ⟨ok111 ?_⟩
  unfold sh111
  refine lwrite_c h o hd hne (by omega) fun w1 a1 => ?_
  have hw1 := lwrite_waits' o D
  try simp only [push_cast]
  refine mIf_neI (fun he => ?_) fun he => ?_
  · rw [if_pos he] at k
    exact k w1 a1
  rw [if_neg (by simp [he])] at k
  obtain ⟨fp1, d1, u1, y1⟩ := a1
  have j1 := hj.keep u1 hnj
  have g1 := h.keep u1 hne
  have hlt := hj.lt
  have hltg := h.lt
  have nj1 : ¬ fp1 j := fun hf => (y1 j hf).elim hnj fun e => by omega
  have ng1 : ¬ fp1 gl := fun hf => (y1 gl hf).elim hne fun e => by omega
  try simp only [push_cast, dptr, Option.isNone_some]
  refine mN_v (r_loadB _ (by kernel_rfl) j1 rfl) ?_
  refine isdisk_flush d1 fun w2 a2 => ?_
  have a2' := DAfter.then u1 y1 a2
  try simp only [push_cast]
  refine mIf_neI (fun he2 => ?_) fun he2 => ?_
  · rw [if_pos he2] at k
    exact k w2 a2'
  rw [if_neg (by simp [he2])] at k
  obtain ⟨fp2, d2, u2, y2⟩ := a2
  have j2 := j1.keep u2 nj1
  have g2 := g1.keep u2 ng1
  unfold mDrew
  have u3 := Upd.drew w2 fun _ => False
  have j3 := j2.drew
  have g3 := g2.drew
  have d3 := d2.ext u3
  generalize w2.drew = w3 at u3 j3 g3 d3
  try simp only [push_cast, dptr, Option.isNone_some]
  refine mR_v (r_loadB _ (by kernel_rfl) j3 rfl) ?_
  refine bytes_c g3 ?_
  refine ⟨rdN_v (r_loadB _ (by kernel_rfl) j3 rfl), ?_⟩
  refine records_c (b := L.b) (by omega) g3 fun v w4 hv u4 => ?_
  refine ⟨rdN_v (r_loadB _ (by kernel_rfl) (j3.keep u4 id) rfl), ?_⟩
  obtain ⟨A, c, rfl⟩ := Arr.slice hv
  try simp only [push_cast, List.length_map]
  refine mP_v (build50s _ _ _) ?_
  have hfw : (L.write D).2.flush.2.waits.length ≤ 1000000000 := by
    have := flush_waits' (L.write D).2
    omega
  obtain ⟨fp2', d2', u2', y2'⟩ := a2'
  have hlt2 : ∀ k, fp2 k → k < w2.heap.size := fun k hk => d2.lt hk
  refine put_c (d3.ext u4) hfw _ fun w5 a5 => ?_
  try simp only [push_cast]
  have a5' := a5.pre hlt2 (u3.ext u4)
  exact k w5 (DAfter.then u1 y1 (DAfter.then u2 y2 a5'))
end
end Go.Proofs.Ythgopkppmppdoaa
