/-
  Layer 30's steps as arguments; long; RegionNeeds: the walk.
-/
import Derived.Test.YthgopkppmppdoaaReg7
import Derived.Test.YthgopkppmppdoaaRowLib
set_option linter.unusedVariables false
set_option linter.unusedSimpArgs false
set_option maxRecDepth 20000
namespace Go.Proofs.Ythgopkppmppdoaa
open Go Go.Proofs Go.Vc
open Go.RowKit (Below intOf)

structure Step30 where
  what : Int
  after : Int
  l : List ByteArray
  cut : Bool
  keep : List Int
def step30C (s : Step30) (vl vk : Value) : List Value := [.int .i64 s.what, .int .i64 s.after, vl, .bool s.cut, vk]
def isStep30 (fp : Nat → Prop) (w : World) (cs : List Value) (s : Step30) : Prop :=
  ∃ vl vk, cs = step30C s vl vk ∧ s.after ≤ 9223372036854775807 ∧ Strs w vl s.l fp ∧ Ints w vk s.keep fp
theorem isStep30_stable (fp : Nat → Prop) : Stable fp (isStep30 fp) := fun w w' F cs x u hn h => by
  obtain ⟨vl, vk, e, ha, hl, hk⟩ := h
  exact ⟨vl, vk, e, ha, Strs.keep hl u hn, Ints.keep hk u hn⟩

theorem zero110 (w : World) : (Instr.alloc 110 true (.tuple #[])).run Try.prog w = .ok (.pointer (some ⟨w.heap.size, 0, none⟩)) (w.alloc (.cells #[.int .i64 0, .int .i64 0, .slice none 0 0, .bool false, .slice none 0 0] 110 (0, 0))) := by kernel_rfl

/-- A step in a block of its own. -/
theorem step30_new {w : World} {cs : List Value} {s : Step30} {fp : Nat → Prop} (h : isStep30 fp w cs s) {K : Value → World → Prop}
    (k : ∀ w' vl vk, cs = step30C s vl vk → Strs w' vl s.l fp → Ints w' vk s.keep fp → Blk w' w.heap.size 110 cs → Ext w w' → K (.pointer (some ⟨w.heap.size, 0, none⟩)) w') :
    mN Try.prog (vS (Instr.alloc 110 true (.tuple #[]))) w fun t w => mN Try.prog (uS (Instr.storeAt 110 t (.agg cs.toArray))) w fun _ w => K t w := by
  refine mN_new (zero110 w) fun w1 h1 u1 s1 => ?_
  obtain ⟨vl, vk, rfl, ha, hl, hk⟩ := h
  have ho : vl.oneCell' = true := by
    obtain ⟨A, c, rfl⟩ := Arr.slice hl
    rfl
  have ho2 : vk.oneCell' = true := by
    obtain ⟨A, c, rfl⟩ := Arr.slice hk
    rfl
  refine mN_storeN (by kernel_rfl) h1 (by simp [step30C]) (fun u hu => ?_) fun w2 h2 u2 s2 => ?_
  · simp only [step30C, List.mem_cons, List.not_mem_nil, or_false] at hu
    rcases hu with rfl | rfl | rfl | rfl | rfl <;> first | rfl | exact ho | exact ho2
  · rw [splice_all _ _ (by simp [step30C])] at h2
    have u12 : Ext w w2 := u1.trans u2 (fun _ _ x => x) fun i hi e => by omega
    exact k w2 vl vk rfl (Strs.keep hl u12 fun _ _ => id) (Ints.keep hk u12 fun _ _ => id) h2 u12

section
variable {w : World} {K : Value → World → Prop} {v : Value} {l : List Step30} {N : Nat} {fp : Nat → Prop}

theorem long30_c (hl : Arr w v 5 fp l (isStep30 fp)) (k0 : ∀ w', Ext w w' → K (.bool true) w') (k1 : (∀ s ∈ l, s.keep.length ≤ 60 ∧ s.l.length ≤ 20 ∧ ∀ x ∈ s.l, x.size ≤ 70000) → ∀ w', Ext w w' → K (.bool false) w') : mCall Try.prog 60 #[v] w K := by
  have hsm := Arr.small hl
  refine ⟨ok60 ?_⟩
  unfold sh60
  obtain ⟨A, c, rfl⟩ := Arr.slice hl
  try simp only [push_cast]
  refine mLoop2.mk (fun x y wr => ∃ (j m : Nat), x = .int .i64 m ∧ y = .int .i64 j ∧ m ≤ 140000 ∧ j ≤ l.length ∧ Ext w wr ∧ ∀ s ∈ l.take j, s.keep.length ≤ 60 ∧ s.l.length ≤ 20 ∧ ∀ x ∈ s.l, x.size ≤ 70000) (fun _ y _ => l.length - (intOf y).toNat) ?_ ?_
  · exact ⟨0, 0, rfl, rfl, by omega, Nat.zero_le _, Upd.refl _ _, fun s hs => by simp at hs⟩
  rintro x y wr ⟨j, m, rfl, rfl, hm, hj, ur, hk⟩
  try simp only [push_cast]
  refine mIf_dec (fun hlt => ?_) fun hlt => ?_
  · obtain ⟨s, hs⟩ : ∃ s, l[j]? = some s := ⟨_, List.getElem?_eq_getElem (by omega)⟩
    have hlr := Arr.keep hl (isStep30_stable _) ur fun _ _ => id
    obtain ⟨_, b, o, rfl, _, cs, hcl, hc, hst⟩ := Arr.at_ hlr hs
    refine mN_v (r_indexAt wr (sz := 5) Try.underlying111 (by kernel_rfl) b o l.length c j (by omega) (by omega)) ?_
    rw [Int.toNat_natCast]
    refine mN_v (r_loadNs wr (n := 5) (by kernel_rfl) (by kernel_rfl) hcl hc) ?_
    refine step30_new hst fun w2 vl vk e2 hl2 hk2 h2 u2 => ?_
    subst e2
    simp only [step30C] at h2
    try simp only [push_cast]
    refine mIf_dec (fun h60 => k0 w2 (ur.ext u2)) fun h60 => ?_
    refine mN_v (r_loadB _ (by kernel_rfl) h2 rfl) ?_
    obtain ⟨A2, c2, rfl⟩ := Arr.slice hk2
    try simp only [push_cast]
    refine mIf_dec (fun h60 => k0 w2 (ur.ext u2)) fun h60 => ?_
    refine mN_v (r_loadB _ (by kernel_rfl) h2 rfl) ?_
    obtain ⟨A3, c3, rfl⟩ := Arr.slice hl2
    try simp only [push_cast]
    refine mIf_dec (fun h60 => k0 w2 (ur.ext u2)) fun h60 => ?_
    refine mN_v (r_loadB _ (by kernel_rfl) h2 rfl) ?_
    try simp only [push_cast]
    refine mLoop2.mk (fun x y wz => ∃ (i n : Nat), x = .int .i64 n ∧ y = .int .i64 i ∧ n ≤ 140000 ∧ i ≤ s.l.length ∧ Ext w2 wz ∧ ∀ x ∈ s.l.take i, x.size ≤ 70000) (fun _ y _ => s.l.length - (intOf y).toNat) ?_ ?_
    · exact ⟨0, m, rfl, rfl, hm, Nat.zero_le _, Upd.refl _ _, fun s hs => by simp at hs⟩
    rintro x y wz ⟨i, n, rfl, rfl, hn, hi, uz, hx⟩
    have az := (ur.ext u2).ext uz
    try simp only [push_cast]
    refine mIf_dec (fun hlt2 => ?_) fun hlt2 => ?_
    · obtain ⟨t, ht⟩ : ∃ x, s.l[i]? = some x := ⟨_, List.getElem?_eq_getElem (by omega)⟩
      obtain ⟨pa, i1, r1, _⟩ := strs_ix (Strs.keep hl2 uz fun _ _ => id) ht
      refine mN_v (i1 wz) ?_
      refine mN_v r1 ?_
      try simp only [push_cast]
      refine mIf_dec (fun h70 => k0 wz az) fun h70 => ?_
      rw [i64w ((n : Int) + t.size) (by omega) (by omega)]
      refine mIf_dec (fun h70 => k0 wz az) fun h70 => ?_
      rw [i64w ((i : Int) + 1) (by omega) (by omega)]
      exact ⟨⟨i + 1, n + t.size, congrArg (Value.int .i64) (by omega), congrArg (Value.int .i64) (by omega), by omega, by omega, uz, by
        intro y hy
        rw [take_snoc ht] at hy
        rcases List.mem_append.1 hy with hy | hy
        · exact hx y hy
        · rw [List.mem_singleton] at hy
          subst hy
          omega⟩, by simp only [intOf]; omega⟩
    · obtain rfl : i = s.l.length := by omega
      rw [List.take_of_length_le (Nat.le_refl _)] at hx
      rw [i64w ((j : Int) + 1) (by omega) (by omega)]
      exact ⟨⟨j + 1, n, rfl, congrArg (Value.int .i64) (by omega), hn, by omega, az, by
        intro y hy
        rw [take_snoc hs] at hy
        rcases List.mem_append.1 hy with hy | hy
        · exact hk y hy
        · rw [List.mem_singleton] at hy
          subst hy
          exact ⟨by omega, by omega, hx⟩⟩, by simp only [intOf]; omega⟩
  · obtain rfl : j = l.length := by omega
    rw [List.take_of_length_le (Nat.le_refl _)] at hk
    exact k1 hk wr ur

theorem build110 (A : Option Addr) (n c : Nat) (w : World) : (Instr.build 110 #[(2, .slice A n c)]).run Try.prog w = .ok (.agg #[.int .i64 0, .int .i64 0, .slice A n c, .bool false, .slice none 0 0]) w := by kernel_rfl
def st30 (l : List ByteArray) : Step30 := ⟨0, 0, l, false, []⟩

theorem slice111_2 (A A' : Option Addr) (n n' c c' : Nat) (w : World) : (Instr.buildSlice 111 2 #[(0, .agg #[.int .i64 0, .int .i64 0, .slice A n c, .bool false, .slice none 0 0]), (1, .agg #[.int .i64 0, .int .i64 0, .slice A' n' c', .bool false, .slice none 0 0])]).run Try.prog w =
    .ok (.slice (some ⟨w.heap.size, 0, none⟩) 2 2) (w.alloc (.cells #[.int .i64 0, .int .i64 0, .slice A n c, .bool false, .slice none 0 0, .int .i64 0, .int .i64 0, .slice A' n' c', .bool false, .slice none 0 0] 110 (0, 0))) := by kernel_rfl

theorem ints_nil {w : World} {fp : Nat → Prop} : Ints w (.slice none 0 0) [] fp := ⟨none, 0, rfl, Nat.zero_le _, fun h => absurd h (by decide)⟩

theorem strsL {ls : List ByteArray} (h : Strs w v ls fp) : ∃ ss : List (List UInt8), ls = ss.map ofL := ⟨ls.map fun s => s.data.toList, by
  rw [List.map_map]
  conv => lhs; rw [← List.map_id ls]
  rfl⟩

/-- RegionNeeds -/
theorem regionNeeds_c {v0 v1 : Value} {l0 l1 : List ByteArray} (h0 : Strs w v0 l0 (· < w.heap.size)) (h1 : Strs w v1 l1 (· < w.heap.size)) (k : ∀ w', Ext w w' → K (.bool true) w') : mCall Try.prog 14 #[v0, v1] w K := by
  obtain ⟨A0, c0, rfl⟩ := Arr.slice h0
  obtain ⟨A1, c1, rfl⟩ := Arr.slice h1
  refine ⟨ok14 ?_⟩
  unfold sh14
  refine new_c 8 (fun h => by omega) fun _ _ w1 p fp d1 u1 y1 => ?_
  rw [show (DM.new (8 : Int).toNat) = DM.new (2 + 2 * 3) from rfl] at d1
  unfold dptr
  try simp only [push_cast, Option.isNone_some, bne_self_eq_false, beq_self_eq_true, Bool.not_false]
  refine mN_v (build110 A0 l0.length c0 w1) ?_
  refine mN_v (build110 A1 l1.length c1 w1) ?_
  refine mN_new (slice111_2 A0 A1 _ _ c0 c1 w1) fun w2 h2 u2 s2 => ?_
  have a2 := u1.ext u2
  have h02 := Strs.keep h0 a2 fun _ _ => id
  have h12 := Strs.keep h1 a2 fun _ _ => id
  have s1 := u1.size
  have hA : Arr w2 (.slice (some ⟨w1.heap.size, 0, none⟩) 2 2) 5 (fun _ => True) [st30 l0, st30 l1] (isStep30 fun _ => True) := by
    refine ⟨_, 2, rfl, by show 2 ≤ maxLen; decide, fun _ => ⟨_, 0, rfl, trivial, fun i x hx => ?_⟩⟩
    have hi := (List.getElem?_eq_some_iff.1 hx).1
    have hi2 : i = 0 ∨ i = 1 := by simp at hi; omega
    rcases hi2 with rfl | rfl
    · obtain rfl : st30 l0 = x := by simpa using hx
      refine ⟨step30C (st30 l0) (.slice A0 l0.length c0) (.slice none 0 0), rfl, fun j u hu => ?_, _, _, rfl, by show (0 : Int) ≤ _; decide, h02.mono fun _ _ => trivial, ints_nil⟩
      refine h2.cell ?_
      have hj : j < 5 := (List.getElem?_eq_some_iff.1 hu).1
      rcases (show j = 0 ∨ j = 1 ∨ j = 2 ∨ j = 3 ∨ j = 4 by omega) with rfl | rfl | rfl | rfl | rfl <;> exact hu
    · obtain rfl : st30 l1 = x := by simpa using hx
      refine ⟨step30C (st30 l1) (.slice A1 l1.length c1) (.slice none 0 0), rfl, fun j u hu => ?_, _, _, rfl, by show (0 : Int) ≤ _; decide, h12.mono fun _ _ => trivial, ints_nil⟩
      refine h2.cell ?_
      have hj : j < 5 := (List.getElem?_eq_some_iff.1 hu).1
      rcases (show j = 0 ∨ j = 1 ∨ j = 2 ∨ j = 3 ∨ j = 4 by omega) with rfl | rfl | rfl | rfl | rfl <;> exact hu
  refine long30_c hA (fun w3 u3 => ?_) fun hlim w3 u3 => ?_
  · try simp only [push_cast]
    exact abc_c fun w4 u4 => k w4 ((a2.ext u3).ext u4)
  try simp only [push_cast]
  obtain ⟨_, hn0, hz0⟩ := hlim (st30 l0) (by simp)
  obtain ⟨_, hn1, hz1⟩ := hlim (st30 l1) (by simp)
  simp only [st30] at hn0 hz0 hn1 hz1
  obtain ⟨ss0, rfl⟩ := strsL h0
  obtain ⟨ss1, rfl⟩ := strsL h1
  have hz0 : ∀ s ∈ ss0, s.length ≤ 70000 := fun s hs => hz0 (ofL s) (List.mem_map_of_mem hs)
  have hz1 : ∀ s ∈ ss1, s.length ≤ 70000 := fun s hs => hz1 (ofL s) (List.mem_map_of_mem hs)
  rw [List.length_map] at hn0 hn1
  have a3 := a2.ext u3
  refine need_c (Strs.keep h0 a3 fun _ _ => id) hz0 (by omega) fun w4 u4 => ?_
  have a4 := a3.ext u4
  try simp only [push_cast]
  refine rneed_c (Strs.keep h0 a4 fun _ _ => id) hz0 (by omega) fun w5 u5 => ?_
  have a5 := a4.ext u5
  try simp only [push_cast]
  have hH1 := new_home (hb := 3) (by decide) (by decide)
  obtain ⟨o1, o2, o3, o4⟩ := hH1.opens rfl
  have d5 := (((d1.ext u2).ext u3).ext u4).ext u5
  refine formatJ_c (N := w.heap.size) d5 a5.size y1 (by decide) (new_format (by decide)) o1 o2 o3 o4 fun w6 j gl fp6 hJ6 u6 _ _ => ?_
  have r6 : Ext w w6 := a5.young u6 fun i hi => .inr hi
  try simp only [push_cast, Option.isNone_some, bne_self_eq_false, dptr]
  have hJ6 : JAt w6 w.heap.size j gl p fp6 (newD 8) (HL 3 0 []) ((0 : Nat) : Int) := hJ6
  obtain ⟨c1', c2', c3'⟩ := hH1.commit ss1
  have hyl := hJ6.yl
  refine commit_c (ss := ss1) (fv := (· < w.heap.size)) hJ6 r6.size (by decide) (Strs.keep h1 r6 fun _ _ => id) (fun s hs => by have := hz1 s hs; omega) (by omega) fun w7 fp7 hJ7 u7 y7 x7 => ?_
  have r7 : Ext w w7 := r6.young u7 fun i hi => .inr hi
  -- what the first commit leaves
  obtain ⟨D7, ss, aa, at7, hH7, har7, hnum, hw7, hJ7⟩ : ∃ (D7 : DM) (ss : List (List UInt8)) (aa : SM) (at7 : Int), Home D7 aa at7 3 0 ss ∧ D7.armed = false ∧ aa.number ≤ 10 ∧ D7.waits.length ≤ 1000 ∧ JAt w7 w.heap.size j gl p fp7 D7 (HL 3 0 ss) ((0 : Nat) : Int) := by
    by_cases hf : ((HL 3 0 []).fill ss1).1 = 0
    · obtain ⟨e1, e2⟩ := c3' hf rfl (by decide)
      rcases c1' with ⟨q, _⟩ | ⟨_, q1, ⟨at', q2⟩, q3⟩
      · exact absurd e1 q
      · rw [q3] at hJ7
        exact ⟨_, _, _, at', q2, e2, by show SM.one.number + 1 ≤ 10; decide, by rw [q1]; decide, hJ7⟩
    · obtain ⟨e1, e2⟩ := c2' hf
      rcases c1' with ⟨q, q1, q2⟩ | ⟨q, _⟩
      · rw [e2] at q1 hJ7
        rw [q2] at hJ7
        exact ⟨_, _, _, _, q1, rfl, by decide, by decide, hJ7⟩
      · rw [e1] at q
        exact absurd q hf
  refine roomR_c hJ7 fun w8 u8 => ?_
  have r8 := r7.ext u8
  have hJ8 := hJ7.ext u8
  obtain ⟨g1, g2, g3⟩ := hH7.commit ss0
  refine commit_c (ss := ss0) (fv := (· < w.heap.size)) hJ8 r8.size (by omega) (Strs.keep h0 r8 fun _ _ => id) (fun s hs => by have := hz0 s hs; omega) (by omega) fun w9 fp9 hJ9 u9 y9 x9 => ?_
  have r9 : Ext w w9 := r8.young u9 fun i hi => .inr hi
  have hroomL : ∀ ss', (256 * (HL 3 0 ss').blocks - (HL 3 0 ss').b.length : Nat) = 768 - (recsL ss').length := fun _ => rfl
  have hfit := hH7.base.fits
  rw [hroomL]
  by_cases hshort : ∀ s ∈ ss0, s.length ≤ 65536
  rotate_left
  · -- a record that is too long
    have hnd : needL ss0 = (0, 2) := if_neg hshort
    rw [hnd]
    have hf : ((HL 3 0 ss).fill ss0).1 ≠ 0 := fun e => by
      obtain ⟨l', _, e2⟩ := fill_spec ss0 (HL 3 0 ss)
      exact hshort (e2 e).2
    obtain ⟨e1, e2⟩ := g2 hf
    rcases g1 with ⟨q, q1, q2⟩ | ⟨q, _⟩
    rotate_left
    · rw [e1] at q
      exact absurd q hf
    rw [q2] at hJ9
    try simp only [push_cast]
    refine mIf_neI (fun _ => ?_) fun h => absurd h (by decide)
    refine mIf_neI (fun _ => ?_) fun h => absurd h q
    refine roomR_c hJ9 fun w10 u10 => ?_
    rw [hroomL]
    try simp only [push_cast, beq_self_eq_true]
    exact abc_c fun w11 u11 => k w11 ((r9.ext u10).ext u11)
  have hnd : needL ss0 = (((recsL ss0).length : Int), (0 : Int)) := if_pos hshort
  rw [hnd]
  obtain ⟨z1, z2⟩ := fill_zero ss0 (HL 3 0 ss) hshort
  have z1 : ((HL 3 0 ss).fill ss0).1 = 0 ↔ (recsL ss0).length ≤ 768 - (recsL ss).length := by
    refine z1.trans ⟨fun e => ?_, fun e => .inr ?_⟩
    · rcases e with rfl | e
      · simp [recsL]
      · have e : (recsL ss).length + (recsL ss0).length ≤ 256 * 3 := e
        omega
    · show (recsL ss).length + (recsL ss0).length ≤ 256 * 3
      omega
  by_cases hf : ((HL 3 0 ss).fill ss0).1 = 0
  · obtain ⟨e1, e2⟩ := g3 hf har7 (by omega)
    rcases g1 with ⟨q, _⟩ | ⟨_, _, _, q3⟩
    · exact absurd e1 q
    rw [q3] at hJ9
    rw [e1]
    have hle := z1.1 hf
    have ed : decide (((recsL ss0).length : Int) ≤ ((768 - (recsL ss).length : Nat) : Int)) = true := by simp; omega
    try simp only [push_cast, bne_self_eq_false, beq_self_eq_true, ed]
    refine roomR_c hJ9 fun w10 u10 => ?_
    rw [hroomL]
    try simp only [push_cast]
    rw [i64w _ (by omega) (by omega)]
    have hlen : (recsL (ss ++ ss0)).length = (recsL ss).length + (recsL ss0).length := by rw [recsL_append, List.length_append]
    refine mIf_eqI (fun _ => ?_) fun h => absurd (by omega) h
    exact abc_c fun w11 u11 => k w11 ((r9.ext u10).ext u11)
  · obtain ⟨e1, e2⟩ := g2 hf
    rcases g1 with ⟨q, q1, q2⟩ | ⟨q, _⟩
    rotate_left
    · rw [e1] at q
      exact absurd q hf
    rw [q2] at hJ9
    rw [e1, z2.resolve_left hf]
    have ed : decide (((recsL ss0).length : Int) ≤ ((768 - (recsL ss).length : Nat) : Int)) = false := by
      have := mt z1.2 hf
      simp
      omega
    have e50 : ((5 : Int) == 0) = false := rfl
    try simp only [push_cast, bne_self_eq_false, beq_self_eq_true, ed, e50]
    refine roomR_c hJ9 fun w10 u10 => ?_
    rw [hroomL]
    try simp only [push_cast, beq_self_eq_true]
    exact abc_c fun w11 u11 => k w11 ((r9.ext u10).ext u11)
end
end Go.Proofs.Ythgopkppmppdoaa
