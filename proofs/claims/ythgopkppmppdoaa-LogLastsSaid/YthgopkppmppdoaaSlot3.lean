/-
  Slots: choosing, putting, formatting.
-/
import Derived.Test.YthgopkppmppdoaaSlot2
set_option linter.unusedVariables false
set_option linter.unusedSimpArgs false
set_option maxRecDepth 20000
namespace Go.Proofs.Ythgopkppmppdoaa
open Go Go.Proofs Go.Vc
open Go.RowKit (Below intOf)

def best0 (o : Option SM) : SM × Int := match o with
  | some a => (a, 0)
  | none => (SM.zero, -1)
def best1 (o q : Option SM) : SM × Int := match q with
  | some b => if (best0 o).1.number < b.number then (b, 1) else best0 o
  | none => best0 o
def rd (D : DM) (i : Int) : Option SM := readL (D.read i).1.data.toList
/-- The slot that counts, its block, an error. -/
def DM.choose (D : DM) : SM × Int × Int :=
  if (D.read 0).2 ≠ 0 then (SM.zero, 0, (D.read 0).2)
  else if (D.read 1).2 ≠ 0 then (SM.zero, 0, (D.read 1).2)
  else if (best1 (rd D 0) (rd D 1)).2 < 0 then (SM.zero, 0, 290)
  else ((best1 (rd D 0) (rd D 1)).1, (best1 (rd D 0) (rd D 1)).2, 0)
def DM.put (D : DM) (s : SM) : Int × DM :=
  if D.choose.2.2 ≠ 0 then (D.choose.2.2, D)
  else if (D.choose.1.next s).right = false then (1, D)
  else if (D.write (1 - D.choose.2.1) (ofL (blockL (D.choose.1.next s)))).1 ≠ 0 then D.write (1 - D.choose.2.1) (ofL (blockL (D.choose.1.next s)))
  else (D.write (1 - D.choose.2.1) (ofL (blockL (D.choose.1.next s)))).2.flush
def DM.format (D : DM) : Int × DM :=
  if (D.write 0 (ofL (blockL SM.one))).1 ≠ 0 then D.write 0 (ofL (blockL SM.one))
  else if ((D.write 0 (ofL (blockL SM.one))).2.write 1 zeroS).1 ≠ 0 then (D.write 0 (ofL (blockL SM.one))).2.write 1 zeroS
  else ((D.write 0 (ofL (blockL SM.one))).2.write 1 zeroS).2.flush

theorem best1_right (D : DM) : ((best1 (rd D 0) (rd D 1)).2 < 0 ∧ best1 (rd D 0) (rd D 1) = (SM.zero, -1)) ∨ ((best1 (rd D 0) (rd D 1)).1.right = true ∧ ((best1 (rd D 0) (rd D 1)).2 = 0 ∨ (best1 (rd D 0) (rd D 1)).2 = 1)) := by
  have hr : ∀ i s, rd D i = some s → s.right = true := fun i s h => (readL_right h).1
  cases h0 : rd D 0 with
  | none =>
    cases h1 : rd D 1 with
    | none => exact .inl ⟨by decide, rfl⟩
    | some b =>
      have hb := hr 1 b h1
      have := (SM.right_iff.1 hb).1
      have e : best1 none (some b) = if (0 : Int) < b.number then (b, 1) else (SM.zero, -1) := rfl
      rw [e, if_pos (by omega)]
      exact .inr ⟨hb, .inr rfl⟩
  | some a =>
    have ha := hr 0 a h0
    cases h1 : rd D 1 with
    | none => exact .inr ⟨ha, .inl rfl⟩
    | some b =>
      have e : best1 (some a) (some b) = if a.number < b.number then (b, 1) else (a, 0) := rfl
      rw [e]
      split
      · exact .inr ⟨hr 1 b h1, .inr rfl⟩
      · exact .inr ⟨ha, .inl rfl⟩
theorem choose_right {D : DM} (h : D.choose.2.2 = 0) : D.choose.1.right = true ∧ (D.choose.2.1 = 0 ∨ D.choose.2.1 = 1) := by
  unfold DM.choose at h ⊢
  split at h
  · rename_i h0; exact absurd h h0
  · rename_i h0
    rw [if_neg h0]
    split at h
    · rename_i h1; exact absurd h h1
    · rename_i h1
      rw [if_neg h1]
      split at h
      · cases h
      · rename_i h2
        rw [if_neg h2]
        rcases best1_right D with ⟨h3, _⟩ | h3
        · exact absurd h3 h2
        · exact h3

section
variable {w : World} {K : Value → World → Prop} {p : Nat} {fp : Nat → Prop} {D : DM}

theorem isdisk_read_size (h : IsDisk w p fp D) (i : Int) : (D.read i).1.size ≤ 256 := by
  obtain ⟨⟨vb, vw, vk, h⟩, _⟩ := h
  unfold DM.read
  split
  · exact Nat.zero_le _
  · rename_i hi
    split
    · exact Nat.zero_le _
    · have hi : 0 ≤ i ∧ i < D.blocks.length := by
        rcases Decidable.em (0 ≤ i ∧ i < D.blocks.length) with h | h
        · exact h
        · exact absurd h hi
      obtain ⟨b, hb⟩ : ∃ b, D.blocks[i.toNat]? = some b := ⟨_, List.getElem?_eq_getElem (by omega)⟩
      have : Sec (lastW i (D.blocks.getD i.toNat []) D.waits) := lastW_sec (by
        rw [List.getD_eq_getElem?_getD, hb]
        exact h.b4 b (List.mem_of_getElem? hb)) fun x hx => (h.w4 x hx).1
      exact Nat.le_of_eq (joined_size this)

theorem DAfter.pre {w w1 w2 : World} {D' : DM} (hlt : ∀ k, fp k → k < w.heap.size) (u : Ext w w1) (a : DAfter w1 p fp D' w2) : DAfter w p fp D' w2 := by
  obtain ⟨fp', h, u2, y⟩ := a
  exact ⟨fp', h, u.trans u2 (fun _ _ x => x.elim) fun _ _ x => x, fun k hk => (y k hk).imp id fun e => Nat.le_trans u.size e⟩
theorem DAfter.post {w w1 w2 : World} {D' : DM} (a : DAfter w p fp D' w1) (u : Ext w1 w2) : DAfter w p fp D' w2 := by
  obtain ⟨fp', h, u2, y⟩ := a
  exact ⟨fp', h.ext u, u2.ext u, y⟩
theorem DAfter.then {w w1 w2 : World} {D2 : DM} {fp1 : Nat → Prop} (u : Upd w w1 fp) (y : ∀ k, fp1 k → fp k ∨ w.heap.size ≤ k) (a : DAfter w1 p fp1 D2 w2) : DAfter w p fp D2 w2 := by
  obtain ⟨fp2, h, u2, y2⟩ := a
  refine ⟨fp2, h, u.trans u2 (fun _ _ x => x) fun i hi hf => (y i hf).resolve_right (by omega), fun k hk => ?_⟩
  rcases y2 k hk with h1 | h1
  · exact y k h1
  · exact .inr (Nat.le_trans u.size h1)

/-- slot.Choose -/
theorem choose_c (h : IsDisk w p fp D) (k : ∀ w', Ext w w' → K (.tuple #[slotV D.choose.1, .int .i64 D.choose.2.1, .int .i64 D.choose.2.2]) w') : mCall Try.prog 49 #[dptr p] w K := by
  refine ⟨ok49 ?_⟩
  unfold sh49
  refine mN_new (zero50 w) fun w1 h1 u1 s1 => ?_
  refine mN_v (build50 w1) ?_
  refine mN_new (zero50 w1) fun w2 h2 u2 s2 => ?_
  refine mN_storeN (vs := slotC SM.zero) (by kernel_rfl) h2 (by simp [slotC]) (slotC_one _) fun w3 h3 u3 s3 => ?_
  rw [splice_all _ _ (by simp [slotC])] at h3
  have u13 : Ext w1 w3 := u2.trans u3 (fun _ _ x => x) fun i hi e => by omega
  have h1 := h1.keep u13 id
  have a3 : Ext w w3 := u1.ext u13
  refine mLoop2.mk (fun x y wr => ∃ (j : Nat) (b : SM) (at_ : Int), x = .int .i64 at_ ∧ y = .int .i64 j ∧ j ≤ 2 ∧ Ext w wr ∧ Blk wr w.heap.size 50 (slotC SM.zero) ∧ Blk wr w1.heap.size 50 (slotC b) ∧
      ((j = 0 ∧ b = SM.zero ∧ at_ = -1) ∨ (j = 1 ∧ (D.read 0).2 = 0 ∧ (b, at_) = best0 (rd D 0)) ∨ (j = 2 ∧ (D.read 0).2 = 0 ∧ (D.read 1).2 = 0 ∧ (b, at_) = best1 (rd D 0) (rd D 1)))) (fun _ y _ => 2 - (intOf y).toNat) ?_ ?_
  · exact ⟨0, SM.zero, -1, rfl, rfl, by omega, a3, h1, h3, .inl ⟨rfl, rfl, rfl⟩⟩
  rintro x y wr ⟨j, b, at_, rfl, rfl, hj, ur, hr, hb, hcase⟩
  try simp only [push_cast]
  refine mIf_dec (fun hlt => ?_) fun hlt => ?_
  · refine isdisk_read (h.ext ur) j fun w4 u4 => ?_
    try simp only [push_cast]
    have hr4 := hr.keep u4 id
    have hb4 := hb.keep u4 id
    have a4 := ur.ext u4
    refine mIf_neI (fun he => ?_) fun he => ?_
    · have hch : D.choose = (SM.zero, 0, (D.read j).2) := by
        unfold DM.choose
        rcases hcase with ⟨rfl, _⟩ | ⟨rfl, h0, _⟩ | ⟨rfl, _⟩
        · have he' : (D.read 0).2 ≠ 0 := he
          rw [if_pos he']; rfl
        · have he' : (D.read 1).2 ≠ 0 := he
          rw [if_neg (by simp [h0]), if_pos he']; rfl
        · omega
      rw [hch] at k
      exact read_fail (K := fun r w => K (.tuple #[r, .int .i64 0, .int .i64 (D.read j).2]) w) hr4 rfl a4 (Nat.le_refl _) k
    have hsz := isdisk_read_size h j
    refine sread_c (l := (D.read j).1.data.toList) (by
      have : (D.read j).1.data.toList.length = (D.read j).1.size := rfl
      omega) fun w5 u5 => ?_
    have hr5 := hr4.keep u5 id
    have hb5 := hb4.keep u5 id
    have a5 := a4.ext u5
    have hbN : ¬ (w1.heap.size = w5.heap.size) := by have := hb5.lt; omega
    have hrd : readL (D.read j).1.data.toList = rd D j := rfl
    have hnext : ∀ (b' : SM) (at' : Int) (w' : World), Ext w w' → Blk w' w.heap.size 50 (slotC SM.zero) → Blk w' w1.heap.size 50 (slotC b') → (j = 0 → (b', at') = best0 (rd D 0)) → (j = 1 → (b', at') = best1 (rd D 0) (rd D 1)) →
        (∃ (j_1 : Nat) (b : SM) (at_ : Int), Value.int .i64 at' = .int .i64 at_ ∧ Value.int .i64 (IntKind.wrap .i64 ((j : Int) + 1)) = .int .i64 j_1 ∧ j_1 ≤ 2 ∧ Ext w w' ∧ Blk w' w.heap.size 50 (slotC SM.zero) ∧ Blk w' w1.heap.size 50 (slotC b) ∧
          ((j_1 = 0 ∧ b = SM.zero ∧ at_ = -1) ∨ (j_1 = 1 ∧ (D.read 0).2 = 0 ∧ (b, at_) = best0 (rd D 0)) ∨ (j_1 = 2 ∧ (D.read 0).2 = 0 ∧ (D.read 1).2 = 0 ∧ (b, at_) = best1 (rd D 0) (rd D 1)))) ∧
        2 - (intOf (.int .i64 (IntKind.wrap .i64 ((j : Int) + 1)))).toNat < 2 - (intOf (.int .i64 (j : Int))).toNat := by
      intro b' at' w' a' hr' hb' e0 e1
      rw [i64w ((j : Int) + 1) (by omega) (by omega)]
      refine ⟨⟨j + 1, b', at', rfl, congrArg (Value.int .i64) (by omega), by omega, a', hr', hb', ?_⟩, by simp only [intOf]; omega⟩
      rcases hcase with ⟨rfl, _⟩ | ⟨rfl, h0, _⟩ | ⟨rfl, _⟩
      · exact .inr (.inl ⟨rfl, he, e0 rfl⟩)
      · exact .inr (.inr ⟨rfl, h0, he, e1 rfl⟩)
      · omega
    unfold readV
    rw [hrd]
    cases hs : rd D j with
    | none =>
      try simp only [push_cast]
      refine mN_new (zero50 w5) fun w6 h6 u6 s6 => ?_
      refine mN_storeN (vs := slotC SM.zero) (by kernel_rfl) h6 (by simp [slotC]) (slotC_one _) fun w7 h7 u7 s7 => ?_
      have u57 : Ext w5 w7 := u6.trans u7 (fun _ _ x => x) fun i hi e => by omega
      try simp only [push_cast]
      refine hnext b at_ w7 (a5.ext u57) (hr5.keep u57 id) (hb5.keep u57 id) (fun h0 => ?_) fun h1 => ?_
      · subst h0
        have hs' : rd D 0 = none := hs
        rcases hcase with ⟨_, rfl, rfl⟩ | ⟨h, _⟩ | ⟨h, _⟩
        · rw [hs']; rfl
        · omega
        · omega
      · subst h1
        have hs' : rd D 1 = none := hs
        rcases hcase with ⟨h, _⟩ | ⟨_, _, h⟩ | ⟨h, _⟩
        · omega
        · rw [hs', h]; rfl
        · omega
    | some s =>
      try simp only [push_cast]
      refine mN_new (zero50 w5) fun w6 h6 u6 s6 => ?_
      refine mN_storeN (vs := slotC s) (by kernel_rfl) h6 (by simp [slotC]) (slotC_one _) fun w7 h7 u7 s7 => ?_
      rw [splice_all _ _ (by simp [slotC])] at h7
      have u57 : Ext w5 w7 := u6.trans u7 (fun _ _ x => x) fun i hi e => by omega
      have hr7 := hr5.keep u57 id
      have hb7 := hb5.keep u57 id
      have a7 := a5.ext u57
      try simp only [push_cast]
      refine mN_v (r_loadB _ (by kernel_rfl) h7 rfl) ?_
      try simp only [push_cast]
      refine mN_v (r_loadB _ (by kernel_rfl) hb7 rfl) ?_
      try simp only [push_cast]
      refine mIf_dec (fun hgt => ?_) fun hgt => ?_
      · have hl7 := r_loadN (P := Try.prog) w7 (T := 50) (n := 4) (by kernel_rfl) (by kernel_rfl) h7 (o := 0) (by simp [slotC])
        refine mN_v hl7 ?_
        refine mN_storeN (vs := slotC s) (by kernel_rfl) hb7 (by simp [slotC]) (slotC_one _) fun w8 h8 u8 s8 => ?_
        rw [splice_all _ _ (by simp [slotC])] at h8
        try simp only [push_cast]
        refine hnext s j w8 (a7.trans u8 (fun _ _ x => x) fun i hi e => by omega) (hr7.keep u8 (by omega)) h8 (fun h0 => ?_) fun h1 => ?_
        · subst h0
          have hs' : rd D 0 = some s := hs
          rw [hs']; rfl
        · subst h1
          have hs' : rd D 1 = some s := hs
          rcases hcase with ⟨h, _⟩ | ⟨_, _, h⟩ | ⟨h, _⟩
          · omega
          · have hn : (best0 (rd D 0)).1.number < s.number := by rw [← h]; exact hgt
            unfold best1
            rw [hs']
            simp only
            rw [if_pos hn]
            rfl
          · omega
      · try simp only [push_cast]
        refine hnext b at_ w7 a7 hr7 hb7 (fun h0 => ?_) fun h1 => ?_
        · subst h0
          have hs' : rd D 0 = some s := hs
          have := (SM.right_iff.1 (readL_right hs').1).1
          rcases hcase with ⟨_, rfl, rfl⟩ | ⟨h, _⟩ | ⟨h, _⟩
          · simp only [SM.zero] at hgt
            omega
          · omega
          · omega
        · subst h1
          have hs' : rd D 1 = some s := hs
          rcases hcase with ⟨h, _⟩ | ⟨_, _, h⟩ | ⟨h, _⟩
          · omega
          · have hn : ¬ (best0 (rd D 0)).1.number < s.number := by rw [← h]; exact hgt
            unfold best1
            rw [hs']
            simp only
            rw [if_neg hn, h]
          · omega
  · obtain rfl : j = 2 := by omega
    obtain ⟨h0, h1, hbest⟩ : (D.read 0).2 = 0 ∧ (D.read 1).2 = 0 ∧ (b, at_) = best1 (rd D 0) (rd D 1) := by
      rcases hcase with ⟨h, _⟩ | ⟨h, _⟩ | ⟨_, h⟩
      · omega
      · omega
      · exact h
    have hch : D.choose = if at_ < 0 then (SM.zero, 0, 290) else (b, at_, 0) := by
      unfold DM.choose
      rw [if_neg (by simp [h0]), if_neg (by simp [h1]), ← hbest]
    rw [hch] at k
    refine mIf_dec (fun hn => ?_) fun hn => ?_
    · rw [if_pos hn] at k
      exact read_fail (K := fun r w => K (.tuple #[r, .int .i64 0, .int .i64 290]) w) hr rfl ur (Nat.le_refl _) k
    · rw [if_neg hn] at k
      have hl := r_loadN (P := Try.prog) wr (T := 50) (n := 4) (by kernel_rfl) (by kernel_rfl) hb (o := 0) (by simp [slotC])
      refine mN_v hl ?_
      exact ret_agg (K := fun r w => K (.tuple #[r, .int .i64 at_, .int .i64 0]) w) (by kernel_rfl) (n := 4) rfl (by kernel_rfl) hr rfl (slotC_one b) ur (Nat.le_refl _) k
end
end Go.Proofs.Ythgopkppmppdoaa
