/-
  Regions: a new one; a rewrite; Need; a small case.
-/
import Derived.Test.YthgopkppmppdoaaReg4
set_option linter.unusedVariables false
set_option linter.unusedSimpArgs false
set_option maxRecDepth 20000
namespace Go.Proofs.Ythgopkppmppdoaa
open Go Go.Proofs Go.Vc
open Go.RowKit (Below intOf)

def newB (n : Nat) : Bl := ((List.replicate n zeroB).set 0 twoB1).set 1 (cutS zeroS)
/-- A new disk that was formatted. -/
def newD (n : Nat) : DM := { DM.new n with blocks := newB n }
theorem new_format {n : Nat} (h : 4 ≤ n) : (DM.new n).format = (0, newD n) := by
  have hl : (DM.new n).blocks.length = n := by simp [DM.new]
  have hw1 : (DM.new n).write 0 (ofL (blockL SM.one)) = (0, { DM.new n with waits := [(0, twoB1)] }) := write_free rfl rfl (by decide) (by omega) (block_size one_right)
  have hw2 : ({ DM.new n with waits := [(0, twoB1)] } : DM).write 1 zeroS = (0, { DM.new n with waits := [(0, twoB1), (1, cutS zeroS)] }) := write_free rfl rfl (by decide) (by show (1 : Int) < ((DM.new n).blocks.length : Int); omega) zeroS_size
  have hf : ({ DM.new n with waits := [(0, twoB1), (1, cutS zeroS)] } : DM).flush = (0, newD n) := flush_free rfl rfl
  unfold DM.format
  rw [hw1]
  simp only
  rw [hw2]
  simp only
  rw [hf]
  rfl
theorem new_home {hb : Nat} (h1 : 1 ≤ hb) (h2 : hb ≤ 63) : Home (newD (2 + 2 * hb)) SM.one 0 hb 0 [] := by
  have hl : (newB (2 + 2 * hb)).length = 2 + 2 * hb := by simp [newB]
  have g0 : (newB (2 + 2 * hb)).getD 0 [] = twoB1 := by
    rw [List.getD_eq_getElem?_getD]
    unfold newB
    rw [List.getElem?_set_ne (by decide), List.getElem?_set_self (by rw [List.length_replicate]; omega)]
    rfl
  have g1 : (newB (2 + 2 * hb)).getD 1 [] = cutS zeroS := by
    rw [List.getD_eq_getElem?_getD]
    unfold newB
    rw [List.getElem?_set_self (by simp; omega)]
    rfl
  have hs : ∀ b ∈ newB (2 + 2 * hb), Sec b := sec_set (sec_set (fun b hb => by rw [List.eq_of_mem_replicate hb]; exact zeroB_sec) (cutS_sec (block_size one_right))) (cutS_sec zeroS_size)
  have hup : Up (newD (2 + 2 * hb)) := ⟨rfl, .inl rfl⟩
  have e0 : (newD (2 + 2 * hb)).read 0 = (ofL (blockL SM.one), 0) := by
    rw [read_up rfl rfl (by decide) (by show (0 : Int) < ((newB _).length : Int); rw [hl]; omega)]
    show (joined ((newB _).getD 0 []), (0 : Int)) = _
    rw [g0]
    unfold twoB1
    rw [joined_cutS (block_size one_right)]
  have e1 : (newD (2 + 2 * hb)).read 1 = (zeroS, 0) := by
    rw [read_up rfl rfl (by decide) (by show (1 : Int) < ((newB _).length : Int); rw [hl]; omega)]
    show (joined ((newB _).getD 1 []), (0 : Int)) = _
    rw [g1, joined_cutS zeroS_size]
  have hch : (newD (2 + 2 * hb)).choose = (SM.one, 0, 0) := by
    have r0 : rd (newD (2 + 2 * hb)) 0 = some SM.one := by
      unfold rd
      rw [e0]
      exact readL_block one_right
    have r1 : rd (newD (2 + 2 * hb)) 1 = none := by
      unfold rd
      rw [e1]
      exact read_zero
    unfold DM.choose
    rw [e0, e1, r0, r1]
    rfl
  refine ⟨⟨hup, ⟨rfl, rfl, by show 4 ≤ (newB _).length; rw [hl]; omega, hs, hch⟩, fun x hx => (by cases hx), fun x hx => (by cases hx), hl, h1, h2, by omega, ⟨?_, fun i hi => ?_, fun x hx => by cases hx⟩, fun s hs => (by cases hs), by show 0 ≤ _; omega⟩, rfl, rfl, rfl⟩
  · show _ ≤ (newB _).length
    rw [hl]
    show 2 + 0 * hb + nblk 0 ≤ _
    have : nblk 0 = 0 := rfl
    omega
  · exact absurd hi (by show ¬ i < nblk 0; have : nblk 0 = 0 := rfl; omega)

section
variable {D : DM} {a : SM} {at_ : Int} {hb r : Nat} {ss l : List (List UInt8)}
/-- The other region, that holds nothing. -/
theorem Home.other (h : Home D a at_ hb r ss) : Base D a at_ hb (1 - r) [] := by
  have hr := h.base.r01
  refine { h.base with r01 := by omega, keeps := ⟨?_, fun i hi => ?_, fun x hx i e hi => ?_⟩, short := fun s hs => (by cases hs), fits := by show 0 ≤ _; omega }
  · have := h.base.len
    show 2 + (1 - r) * hb + nblk 0 ≤ _
    have h0 : nblk 0 = 0 := rfl
    have : (1 - r) * hb ≤ hb := by rcases (show r = 0 ∨ r = 1 by omega) with rfl | rfl <;> omega
    omega
  · exact absurd hi (by show ¬ i < nblk 0; have : nblk 0 = 0 := rfl; omega)
  · exact absurd hi (by show ¬ i < nblk 0; have : nblk 0 = 0 := rfl; omega)
theorem Base.open0 (h : Base D a at_ hb r []) : D.openR r 0 = (0, some (HL hb r [])) := by
  have := h.keeps.opens (blocks := hb) h.up.d (List.take_of_length_le (Nat.le_refl _)) h.short h.h1 (by have := h.rhb; rw [h.len]; omega) h.fits
  unfold DM.openR
  rw [h.half, show (2 : Int) + (r : Int) * (hb : Int) = ((2 + r * hb : Nat) : Int) from by rw [Int.natCast_add, Int.natCast_mul]; rfl]
  exact this
end

section
variable {w : World} {K : Value → World → Prop} {N p gl j : Nat} {fp fv : Nat → Prop} {v : Value} {ss : List (List UInt8)}

theorem Strs.narrow {l : List ByteArray} (h : Strs w v l fv) : Strs w v l (fun k => fv k ∧ k < w.heap.size) := by
  obtain ⟨A, c, rfl, hs, h⟩ := h
  refine ⟨A, c, rfl, hs, fun h0 => ?_⟩
  obtain ⟨b, o, rfl, hb, h⟩ := h h0
  refine ⟨b, o, rfl, ⟨hb, ?_⟩, h⟩
  obtain ⟨x, hx⟩ : ∃ x, l[0]? = some x := ⟨_, List.getElem?_eq_getElem h0⟩
  obtain ⟨cs, h1, h2, _⟩ := h 0 x hx
  obtain ⟨u, hu⟩ : ∃ u, cs[0]? = some u := ⟨_, List.getElem?_eq_getElem (by omega)⟩
  exact cell_lt (h2 0 u hu)

def needL (ss : List (List UInt8)) : Int × Int := if ∀ s ∈ ss, s.length ≤ 65536 then ((recsL ss).length, 0) else (0, 2)

theorem need_step {ss : List (List UInt8)} {i : Nat} {s : List UInt8} (hs : ss[i]? = some s) : recsL (ss.take (i + 1)) = recsL (ss.take i) ++ textL s := by
  rw [take_snoc hs, recsL_append, recsL_one]

theorem need_c (hv : Strs w v (ss.map ofL) fv) (hs : ∀ s ∈ ss, s.length ≤ 70000) (hn : ss.length ≤ 1000) (k : ∀ w', Ext w w' → K (.tuple #[.int .i64 (needL ss).1, .int .i64 (needL ss).2]) w') : mCall Try.prog 62 #[v] w K := by
  obtain ⟨A, c, rfl⟩ := Arr.slice hv
  refine ⟨ok62 ?_⟩
  unfold sh62
  try simp only [push_cast, List.length_map]
  refine mLoop2.mk (fun x y wr => ∃ i : Nat, x = .int .i64 (recsL (ss.take i)).length ∧ y = .int .i64 i ∧ i ≤ ss.length ∧ Ext w wr ∧ (∀ s ∈ ss.take i, s.length ≤ 65536) ∧ (recsL (ss.take i)).length ≤ 100000 * i) (fun _ y _ => ss.length - (intOf y).toNat)
    ⟨0, rfl, rfl, Nat.zero_le _, Upd.refl _ _, fun s hs => (by simp at hs), by simp [recsL]⟩ ?_
  rintro x y wr ⟨i, rfl, rfl, hi, ur, hsh, hln⟩
  try simp only [push_cast]
  refine mIf_dec (fun hlt => ?_) fun hlt => ?_
  · obtain ⟨s, hx⟩ : ∃ x, ss[i]? = some x := ⟨_, List.getElem?_eq_getElem (by omega)⟩
    obtain ⟨pa, i1, r1, _⟩ := strs_ix (hv.keep ur fun _ _ => id) (show (ss.map ofL)[i]? = some (ofL s) by rw [List.getElem?_map, hx]; rfl)
    rw [List.length_map] at i1
    refine mN_v (i1 wr) ?_
    refine mN_v r1 ?_
    have hs7 := hs s (List.mem_of_getElem? hx)
    refine qtext_c (by omega) (fun hlong w2 u2 => ?_) fun hlong w2 u2 => ?_
    · try simp only [push_cast]
      refine mIf_neI (fun _ => ?_) fun h => absurd h (by decide)
      unfold needL at k
      rw [if_neg (fun hall => by have := hall s (List.mem_of_getElem? hx); omega)] at k
      exact k w2 (ur.ext u2)
    · try simp only [push_cast, bne_self_eq_false, ofL_size]
      have ht : (textL s).length ≤ 70010 := by
        rw [textL_len]
        have := digL_len6 (n := s.length) (by omega)
        omega
      rw [i64w _ (by omega) (by omega), i64w ((i : Int) + 1) (by omega) (by omega)]
      have hst := need_step hx
      refine ⟨⟨i + 1, congrArg (Value.int .i64) (by rw [hst, List.length_append]; omega), congrArg (Value.int .i64) (by omega), by omega, ur.ext u2, fun t ht => ?_, by rw [hst, List.length_append]; omega⟩, by simp only [intOf]; omega⟩
      rw [take_snoc hx] at ht
      rcases List.mem_append.1 ht with ht | ht
      · exact hsh t ht
      · rw [List.mem_singleton] at ht
        subst ht
        exact hlong
  · obtain rfl : i = ss.length := by omega
    rw [List.take_of_length_le (Nat.le_refl _)] at hsh ⊢
    unfold needL at k
    rw [if_pos hsh] at k
    exact k wr ur
theorem rneed_c (hv : Strs w v (ss.map ofL) fv) (hs : ∀ s ∈ ss, s.length ≤ 70000) (hn : ss.length ≤ 1000) (k : ∀ w', Ext w w' → K (.tuple #[.int .i64 (needL ss).1, .int .i64 (needL ss).2]) w') : mCall Try.prog 63 #[v] w K := by
  obtain ⟨A, c, rfl⟩ := Arr.slice hv
  refine ⟨ok63 ?_⟩
  unfold sh63
  try simp only [push_cast, List.length_map]
  refine mLoop2.mk (fun x y wr => ∃ i : Nat, x = .int .i64 (recsL (ss.take i)).length ∧ y = .int .i64 i ∧ i ≤ ss.length ∧ Ext w wr ∧ (∀ s ∈ ss.take i, s.length ≤ 65536) ∧ (recsL (ss.take i)).length ≤ 100000 * i) (fun _ y _ => ss.length - (intOf y).toNat)
    ⟨0, rfl, rfl, Nat.zero_le _, Upd.refl _ _, fun s hs => (by simp at hs), by simp [recsL]⟩ ?_
  rintro x y wr ⟨i, rfl, rfl, hi, ur, hsh, hln⟩
  try simp only [push_cast]
  refine mIf_dec (fun hlt => ?_) fun hlt => ?_
  · obtain ⟨s, hx⟩ : ∃ x, ss[i]? = some x := ⟨_, List.getElem?_eq_getElem (by omega)⟩
    obtain ⟨pa, i1, r1, _⟩ := strs_ix (hv.keep ur fun _ _ => id) (show (ss.map ofL)[i]? = some (ofL s) by rw [List.getElem?_map, hx]; rfl)
    rw [List.length_map] at i1
    refine mN_v (i1 wr) ?_
    refine mN_v r1 ?_
    have hs7 := hs s (List.mem_of_getElem? hx)
    refine rtext_c (by omega) (fun hlong => ?_) fun hlong w2 u2 => ?_
    · try simp only [push_cast]
      refine mIf_neI (fun _ => ?_) fun h => absurd h (by decide)
      unfold needL at k
      rw [if_neg (fun hall => by have := hall s (List.mem_of_getElem? hx); omega)] at k
      exact k wr ur
    · try simp only [push_cast, bne_self_eq_false, ofL_size]
      have ht : (textL s).length ≤ 70010 := by
        rw [textL_len]
        have := digL_len6 (n := s.length) (by omega)
        omega
      rw [i64w _ (by omega) (by omega), i64w ((i : Int) + 1) (by omega) (by omega)]
      have hst := need_step hx
      refine ⟨⟨i + 1, congrArg (Value.int .i64) (by rw [hst, List.length_append]; omega), congrArg (Value.int .i64) (by omega), by omega, ur.ext u2, fun t ht => ?_, by rw [hst, List.length_append]; omega⟩, by simp only [intOf]; omega⟩
      rw [take_snoc hx] at ht
      rcases List.mem_append.1 ht with ht | ht
      · exact hsh t ht
      · rw [List.mem_singleton] at ht
        subst ht
        exact hlong
  · obtain rfl : i = ss.length := by omega
    rw [List.take_of_length_le (Nat.le_refl _)] at hsh ⊢
    unfold needL at k
    rw [if_pos hsh] at k
    exact k wr ur
end
end Go.Proofs.Ythgopkppmppdoaa
