/-
  SlotSteps: every disk of slots, step by step.
-/
import Derived.Test.YthgopkppmppdoaaDoes28
import Derived.Test.YthgopkppmppdoaaRowLib
set_option linter.unusedVariables false
set_option linter.unusedSimpArgs false
set_option maxRecDepth 20000
namespace Go.Proofs.Ythgopkppmppdoaa
open Go Go.Proofs Go.Vc
open Go.RowKit (Below intOf)

section
variable {w : World} {K : Value → World → Prop} {v : Value} {l : List Step28} {N : Nat}

theorem take_snoc_mem {α : Type} {l : List α} {j : Nat} {x : α} (h : l[j]? = some x) {P : α → Prop} (hp : ∀ y ∈ l.take j, P y) (hx : P x) : ∀ y ∈ l.take (j + 1), P y := by
  intro y hy
  rw [take_snoc h] at hy
  rcases List.mem_append.1 hy with hy | hy
  · exact hp y hy
  · rw [List.mem_singleton] at hy
    subst hy
    exact hx

theorem zero78 (w : World) : (Instr.alloc 78 true (.tuple #[])).run Try.prog w = .ok (.pointer (some ⟨w.heap.size, 0, none⟩)) (w.alloc (.cells #[.int .i64 0, .int .i64 0, .int .i64 0, .int .i64 0, .int .i64 0, .int .i64 0, .int .u8 0, .bool false, .slice none 0 0] 78 (0, 0))) := by kernel_rfl

/-- A step in a block of its own. -/
theorem step28_new {cs : List Value} {s : Step28} {fp : Nat → Prop} (h : isStep28 fp w cs s) {K : Value → World → Prop}
    (k : ∀ w' v, isStep28 fp w' cs s → cs = step28C s v → Ints w' v s.keep fp → Blk w' w.heap.size 78 cs → Ext w w' → K (.pointer (some ⟨w.heap.size, 0, none⟩)) w') :
    mN Try.prog (vS (Instr.alloc 78 true (.tuple #[]))) w fun t w => mN Try.prog (uS (Instr.storeAt 78 t (.agg cs.toArray))) w fun _ w => K t w := by
  refine mN_new (zero78 w) fun w1 h1 u1 s1 => ?_
  obtain ⟨v, rfl, ha, hk⟩ := h
  have ho : v.oneCell' = true := by
    obtain ⟨A, c, rfl⟩ := Arr.slice hk
    rfl
  refine mN_storeN (by kernel_rfl) h1 (by simp [step28C]) (fun u hu => ?_) fun w2 h2 u2 s2 => ?_
  · simp only [step28C, List.mem_cons, List.not_mem_nil, or_false] at hu
    rcases hu with rfl | rfl | rfl | rfl | rfl | rfl | rfl | rfl | rfl <;> first | rfl | exact ho
  · rw [splice_all _ _ (by simp [step28C])] at h2
    have u12 : Ext w w2 := u1.trans u2 (fun _ _ x => x) fun i hi e => by omega
    exact k w2 v ⟨v, rfl, ha, hk.keep u12 fun _ _ => id⟩ rfl (hk.keep u12 fun _ _ => id) h2 u12

theorem long28_c (hl : Arr w v 9 (· < N) l (isStep28 (· < N))) (k0 : ∀ w', Ext w w' → K (.bool true) w') (k1 : l.length ≤ 41 → (∀ s ∈ l, s.keep.length ≤ 60) → ∀ w', Ext w w' → K (.bool false) w') : mCall Try.prog 47 #[v] w K := by
  have hsm := Arr.small hl
  refine ⟨ok47 ?_⟩
  unfold sh47
  obtain ⟨A, c, rfl⟩ := Arr.slice hl
  try simp only [push_cast]
  refine mLoop1.mk (fun x wr => ∃ j : Nat, x = .int .i64 j ∧ j ≤ l.length ∧ j ≤ 41 ∧ Ext w wr ∧ ∀ s ∈ l.take j, s.keep.length ≤ 60) (fun x _ => l.length - (intOf x).toNat) ?_ ?_
  · exact ⟨0, rfl, Nat.zero_le _, Nat.zero_le _, Upd.refl _ _, fun s hs => by simp at hs⟩
  rintro x wr ⟨j, rfl, hj, hj61, ur, hk⟩
  try simp only [push_cast]
  refine mIf_dec (fun hlt => ?_) fun hlt => ?_
  · obtain ⟨s, hs⟩ : ∃ s, l[j]? = some s := ⟨_, List.getElem?_eq_getElem (by omega)⟩
    have hlr := hl.keep (isStep28_stable _) ur fun _ _ => id
    obtain ⟨_, b, o, rfl, _, cs, hcl, hc, hst⟩ := Arr.at_ hlr hs
    refine mN_v (r_indexAt wr (sz := 9) Try.underlying75 (by kernel_rfl) b o l.length c j (by omega) (by omega)) ?_
    rw [Int.toNat_natCast]
    refine mN_v (r_loadNs wr (n := 9) (by kernel_rfl) (by kernel_rfl) hcl hc) ?_
    refine step28_new hst fun w2 vk hst2 e2 hk2 h2 u2 => ?_
    subst e2
    try simp only [push_cast]
    refine mIf_dec (fun h60 => k0 w2 (ur.ext u2)) fun h60 => ?_
    refine mN_v (r_loadB _ (by kernel_rfl) h2 rfl) ?_
    obtain ⟨A2, c2, rfl⟩ := Arr.slice hk2
    try simp only [push_cast]
    refine mIf_dec (fun h60 => k0 w2 (ur.ext u2)) fun h60 => ?_
    rw [i64w ((j : Int) + 1) (by omega) (by omega)]
    exact ⟨⟨j + 1, congrArg (Value.int .i64) (by omega), by omega, by omega, ur.ext u2, take_snoc_mem hs hk (by omega)⟩, by simp only [intOf]; omega⟩
  · obtain rfl : j = l.length := by omega
    rw [List.take_of_length_le (Nat.le_refl _)] at hk
    exact k1 hj61 hk wr ur

theorem slotSteps_c (hl : Arr w v 9 (· < w.heap.size) l (isStep28 (· < w.heap.size))) (k : ∀ w', Ext w w' → K (.bool true) w') : mCall Try.prog 9 #[v] w K := by
  refine ⟨ok9 ?_⟩
  unfold sh9
  refine new_c 4 (fun h => by omega) fun _ _ w1 p fp h1 u1 y1 => ?_
  unfold dptr
  try simp only [push_cast, Option.isNone_some, Bool.not_false, bne_self_eq_false, beq_self_eq_true]
  have hl1 := hl.keep (isStep28_stable _) u1 fun _ _ => id
  refine long28_c hl1 (fun w2 u2 => ?_) fun hn hks w2 u2 => ?_
  · try simp only [push_cast]
    exact two_c fun w3 u3 => k w3 ((u1.ext u2).ext u3)
  try simp only [push_cast]
  have a2 := u1.ext u2
  refine rnew_c 4 (by decide) a2.size fun w8 q fq h8 u8 y8 => ?_
  have h2 := h1.ext u2
  have hT8 : Two w8 w.heap.size p q fp fq (DM.new 4) (DM.new 4) := ⟨h2.ext u8, h8, y1, fun k hk hq => by have := h2.lt hk; have := y8 k hq; omega⟩
  have a8 : Ext w w8 := a2.ext u8
  obtain ⟨A, c, rfl⟩ := Arr.slice hl
  try simp only [push_cast]
  refine mLoop1.mk (fun x wr => ∃ (j : Nat) (D : DM) (fp fq : Nat → Prop), x = .int .i64 j ∧ j ≤ l.length ∧ Two wr w.heap.size p q fp fq D D ∧ D.waits.length ≤ 2 * j ∧ Ext w wr) (fun x _ => l.length - (intOf x).toNat) ?_ ?_
  · exact ⟨0, DM.new 4, fp, fq, rfl, Nat.zero_le _, hT8, Nat.le_refl _, a8⟩
  rintro x wr ⟨j, D, fpr, fqr, rfl, hj, hT, hE, ur⟩
  try simp only [push_cast]
  refine mIf_dec (fun hlt => ?_) fun hlt => ?_
  · obtain ⟨s, hs⟩ : ∃ s, l[j]? = some s := ⟨_, List.getElem?_eq_getElem (by omega)⟩
    have hlr := hl.keep (isStep28_stable _) ur fun _ _ => id
    obtain ⟨_, bb, o, rfl, _, cs, hcl, hc, hss⟩ := Arr.at_ hlr hs
    refine mN_v (r_indexAt wr (sz := 9) Try.underlying75 (by kernel_rfl) bb o l.length c j (by omega) (by omega)) ?_
    rw [Int.toNat_natCast]
    refine mN_v (r_loadNs wr (n := 9) (by kernel_rfl) (by kernel_rfl) hcl hc) ?_
    refine step28_new hss fun w2 vk hst2 e2 hk2 h2 u2 => ?_
    have hT2 := hT.ext u2
    have r2 : Ext w w2 := ur.ext u2
    have hnext : IntKind.wrap .i64 ((j : Int) + 1) = (j : Int) + 1 := i64w _ (by omega) (by omega)
    have hsk := hks s (List.mem_of_getElem? hs)
    refine mN_v (r_loadN w2 (n := 9) (by kernel_rfl) (by kernel_rfl) h2 (by omega)) ?_
    rw [List.drop_zero, List.take_of_length_le (by omega)]
    refine does28_c hT2 r2.size (by omega) (by omega) (by omega) (cs := cs.toArray) hst2 fun w3 ⟨fp3, fq3, hT3, u3⟩ => ?_
    have hw3 := step28_waits D s
    generalize (D.step28 s).2 = D3 at hT3 hw3
    have r3 : Ext w w3 := r2.young u3 fun i hi => .inr hi
    try simp only [push_cast, beq_self_eq_true, Bool.not_true]
    refine choose_c hT3.d fun w4 u4 => ?_
    try simp only [push_cast]
    refine mN_new (zero50 w4) fun w5 h5 u5 s5 => ?_
    refine mN_storeN (vs := slotC D3.choose.1) (by kernel_rfl) h5 (by simp [slotC]) (slotC_one _) fun w6 h6 u6 s6 => ?_
    rw [splice_all _ _ (by simp [slotC])] at h6
    have u46 : Ext w4 w6 := u5.trans u6 (fun _ _ x => x) fun i hi e => by omega
    have hT6 := (hT3.ext u4).ext u46
    have r6 := (r3.ext u4).ext u46
    refine rchoose_c hT6.r fun w7 u7 => ?_
    refine mN_new (zero84 w7) fun w8' h8' u8' s8' => ?_
    refine mN_storeN (vs := chosenC D3.choose) (by kernel_rfl) h8' (by simp [chosenC]) (chosenC_one _) fun w9 h9 u9 s9 => ?_
    rw [splice_all _ _ (by simp [chosenC])] at h9
    have u79 : Ext w7 w9 := u8'.trans u9 (fun _ _ x => x) fun i hi e => by omega
    unfold mDrew
    have h6 := ((h6.keep u7 id).keep u79 id).drew
    have h9 := h9.drew
    have hT9 := ((hT6.ext u7).ext u79).ext (Upd.drew w9 _)
    have r9 := ((r6.ext u7).ext u79).drewn
    generalize w9.drew = w10 at h6 h9 hT9 r9
    try simp only [push_cast]
    refine mR_v (r_loadB _ (by kernel_rfl) h9 rfl) ?_
    try simp only [push_cast, bne_self_eq_false]
    refine mR_v (r_loadN w10 (T := 50) (n := 4) (by kernel_rfl) (by kernel_rfl) h6 (o := 0) (by simp [slotC])) ?_
    refine mR_v (r_loadN w10 (T := 82) (n := 4) (by kernel_rfl) (by kernel_rfl) h9 (o := 0) (by simp [chosenC])) ?_
    refine ref_c D3.choose.1 fun w11 u11 => ?_
    have h11 := h9.keep u11 id
    refine ⟨rdN_v (r_loadN w11 (T := 82) (n := 4) (by kernel_rfl) (by kernel_rfl) h11 (o := 0) (by simp [chosenC])), rdN_v (r_loadB _ (by kernel_rfl) h11 rfl), ?_⟩
    refine mP_v (fun w => slot_ne82 _ _ D3.choose.1 D3.choose.1 w) ?_
    try simp only [decide_true, Bool.not_true, push_cast]
    refine mR_v (r_loadB _ (by kernel_rfl) h11 rfl) ?_
    try simp only [push_cast, bne_self_eq_false]
    rw [hnext]
    exact ⟨⟨j + 1, D3, fp3, fq3, congrArg (Value.int .i64) (by omega), by omega, hT9.ext u11, by omega, r9.ext u11⟩, by simp only [intOf]; omega⟩
  · exact two_c fun w3 u3 => k w3 (ur.ext u3)
end
end Go.Proofs.Ythgopkppmppdoaa
