/-
  Slots: the slot of a block.
-/
import Derived.Test.YthgopkppmppdoaaSlot1
set_option linter.unusedVariables false
set_option linter.unusedSimpArgs false
set_option maxRecDepth 20000
namespace Go.Proofs.Ythgopkppmppdoaa
open Go Go.Proofs Go.Vc
open Go.RowKit (Below intOf)

def takeK (l : List UInt8) : Nat → Option (List Nat × List UInt8)
  | 0 => some ([], l)
  | j + 1 => match takeK l j with
    | none => none
    | some (ns, r) => match takeN r with
      | none => none
      | some (n, r') => some (ns ++ [n], r')
theorem takeK_mono {l : List UInt8} {j k : Nat} (h : takeK l j = none) (hk : j ≤ k) : takeK l k = none := by
  induction k with
  | zero =>
    obtain rfl : j = 0 := by omega
    exact h
  | succ k ih =>
    by_cases hj : j = k + 1
    · subst hj; exact h
    · rw [takeK, ih (by omega)]
theorem takeK_step {l r r' : List UInt8} {ns : List Nat} {n j : Nat} (h : takeK l j = some (ns, r)) (hn : takeN r = some (n, r')) : takeK l (j + 1) = some (ns ++ [n], r') := by
  rw [takeK, h]
  simp only [hn]
theorem takeK_fail {l r : List UInt8} {ns : List Nat} {j : Nat} (h : takeK l j = some (ns, r)) (hn : takeN r = none) : takeK l (j + 1) = none := by
  rw [takeK, h]
  simp only [hn]
theorem readL_K (l : List UInt8) : readL l = if l.length = 256 ∧ l.take 4 = magicL then match takeK (l.drop 4) 4 with
    | some ([n, g, b, c], _) => if (SM.mk n g b c).right = true ∧ (blockL ⟨n, g, b, c⟩).take 64 = l.take 64 then some ⟨n, g, b, c⟩ else none
    | _ => none else none := by
  unfold readL
  split
  · simp only [takeK]
    cases takeN (l.drop 4) with
    | none => rfl
    | some p1 =>
      obtain ⟨n, r1⟩ := p1
      simp only
      cases takeN r1 with
      | none => rfl
      | some p2 =>
        obtain ⟨g, r2⟩ := p2
        simp only
        cases takeN r2 with
        | none => rfl
        | some p3 =>
          obtain ⟨b, r3⟩ := p3
          simp only
          cases takeN r3 with
          | none => rfl
          | some p4 => rfl
  · rfl

def readV (l : List UInt8) : Value := match readL l with
  | some s => .tuple #[slotV s, .bool true]
  | none => .tuple #[slotV SM.zero, .bool false]

def encN (ns : List Nat) : List Value := ns.map fun (n : Nat) => Value.int .i64 (n : Int)
theorem encN_len (ns : List Nat) : (encN ns).length = ns.length := by simp [encN]

section
variable {w : World} {K : Value → World → Prop}

theorem build50 (w : World) : (Instr.build 50 #[]).run Try.prog w = .ok (slotV SM.zero) w := by kernel_rfl
theorem build50n (s : SM) (w : World) : (Instr.build 50 #[(0, .int .i64 s.number), (1, .int .i64 s.region), (2, .int .i64 s.bytes), (3, .int .i64 s.records)]).run Try.prog w = .ok (slotV s) w := by kernel_rfl

/-- No slot. -/
theorem read_fail {g : Nat} {cs : List Value} (h : Blk w g 50 cs) (hl : cs.length = 4) {w0 : World} (u : Ext w0 w) (hg : w0.heap.size ≤ g) {K : Value → World → Prop} (k : ∀ w', Ext w0 w' → K (slotV SM.zero) w') :
    mN Try.prog (vS (Instr.build 50 #[])) w fun t w => mN Try.prog (uS (Instr.storeAt 50 (.pointer (some ⟨g, 0, none⟩)) t)) w fun _ w => mRes Try.prog (cellS 50 (.pointer (some ⟨g, 0, none⟩))) w fun r0 => K r0 w := by
  refine mN_v (build50 w) ?_
  exact ret_agg (by kernel_rfl) (n := 4) rfl (by kernel_rfl) h hl (slotC_one _) u hg k

/-- slot.Read -/
theorem sread_c {l : List UInt8} (hl : l.length ≤ 9223372036854775807) (k : ∀ w', Ext w w' → K (readV l) w') : mCall Try.prog 35 #[.string (ofL l)] w K := by
  unfold readV at k
  rw [readL_K] at k
  refine ⟨ok35 ?_⟩
  unfold sh35
  refine mN_new (zero50 w) fun w1 h1 u1 s1 => ?_
  try simp only [push_cast, ofL_size]
  refine mIf_neI (fun h => ?_) fun hlen => ?_
  · rw [if_neg (by omega)] at k
    exact read_fail (K := fun r w => K (.tuple #[r, .bool false]) w) h1 rfl u1 (Nat.le_refl _) k
  refine cutMagic_c hl ?_
  try simp only [push_cast]
  by_cases hm : l.take 4 = magicL
  case neg =>
    rw [if_neg (by simp [hm])] at k
    simp only [hm, decide_false, push_cast, Bool.not_false]
    exact read_fail (K := fun r w => K (.tuple #[r, .bool false]) w) h1 rfl u1 (Nat.le_refl _) k
  have hl256 : l.length = 256 := by omega
  rw [if_pos ⟨hl256, hm⟩] at k
  simp only [hm, decide_true, push_cast, Bool.not_true, if_true]
  have hz : (Instr.alloc 142 true (.tuple #[])).run Try.prog w1 = .ok (.pointer (some ⟨w1.heap.size, 0, none⟩)) (w1.alloc (.cells #[.int .i64 0, .int .i64 0, .int .i64 0, .int .i64 0] 142 (0, 0))) := by kernel_rfl
  refine mN_new hz fun w2 h2 u2 s2 => ?_
  have hd4 : (l.drop 4).length ≤ 252 := by simp; omega
  refine mLoop2.mk (fun x y wr => ∃ (j : Nat) (ns : List Nat) (r : List UInt8), x = .string (ofL r) ∧ y = .int .i64 j ∧ j ≤ 4 ∧ ns.length = j ∧ takeK (l.drop 4) j = some (ns, r) ∧ r.length ≤ 252 ∧ Ext w wr ∧
      Blk wr w.heap.size 50 (slotC SM.zero) ∧ Blk wr w1.heap.size 142 (encN ns ++ List.replicate (4 - j) (.int .i64 0))) (fun _ y _ => 4 - (intOf y).toNat) ?_ ?_
  · exact ⟨0, [], l.drop 4, rfl, rfl, by omega, rfl, rfl, hd4, u1.ext u2, h1.keep u2 id, h2⟩
  rintro x y wr ⟨j, ns, r, rfl, rfl, hj, hns, htk, hrl, ur, hb, hc⟩
  try simp only [push_cast]
  refine mIf_dec (fun hlt => ?_) fun hlt => ?_
  · refine taken_c (by omega) fun w3 u3 => ?_
    unfold takenV
    have hcl : (encN ns ++ List.replicate (4 - j) (Value.int .i64 0)).length = 4 := by simp [encN_len]; omega
    have hi : (Instr.indexAt 142 (.pointer (some ⟨w1.heap.size, 0, none⟩)) (.int .i64 (j : Int))).run Try.prog w3 = .ok (.pointer (some ⟨w1.heap.size, 0 + (j : Int).toNat * 1, none⟩)) w3 :=
      r_indexAtA w3 (sz := 1) Try.underlying142 (by kernel_rfl) _ _ j (by omega) (by omega)
    have hne : w1.heap.size ≠ w.heap.size := by omega
    cases htn : takeN r with
    | none =>
      have hf := takeK_mono (takeK_fail htk htn) (show j + 1 ≤ 4 from by omega)
      rw [hf] at k
      try simp only [push_cast]
      refine mN_v hi ?_
      refine mN_store1 (by kernel_rfl) (hc.keep u3 id) (by rw [hcl]; omega) rfl fun w4 h4 u4 s4 => ?_
      try simp only [push_cast]
      have hb4 := (hb.keep u3 id).keep u4 (fun e => hne e.symm)
      exact read_fail (K := fun r w => K (.tuple #[r, .bool false]) w) hb4 rfl ((ur.ext u3).trans u4 (fun _ _ x => x) fun i hi e => by omega) (Nat.le_refl _) k
    | some p =>
      obtain ⟨n, r'⟩ := p
      try simp only [push_cast]
      refine mN_v hi ?_
      refine mN_store1 (by kernel_rfl) (hc.keep u3 id) (by rw [hcl]; omega) rfl fun w4 h4 u4 s4 => ?_
      try simp only [push_cast, bne_self_eq_false]
      rw [i64w ((j : Int) + 1) (by omega) (by omega)]
      have hb4 := (hb.keep u3 id).keep u4 (fun e => hne e.symm)
      have hrl' := takeN_len htn
      refine ⟨⟨j + 1, ns ++ [n], r', rfl, congrArg (Value.int .i64) (by omega), by omega, by simp; omega, takeK_step htk htn, by omega, (ur.ext u3).trans u4 (fun _ _ x => x) fun i hi e => by omega, hb4, ?_⟩, by simp only [intOf]; omega⟩
      have e : (encN ns ++ List.replicate (4 - j) (Value.int .i64 0)).set (0 + (j : Int).toNat * 1) (.int .i64 n) = encN (ns ++ [n]) ++ List.replicate (4 - (j + 1)) (Value.int .i64 0) := by
        rw [Nat.zero_add, Nat.mul_one, Int.toNat_natCast, List.set_append_right _ _ (by rw [encN_len]; omega), encN_len, hns, Nat.sub_self, show 4 - j = (4 - (j + 1)) + 1 from by omega, List.replicate_succ, List.set_cons_zero]
        simp [encN]
      rw [e] at h4
      exact h4
  · obtain rfl : j = 4 := by omega
    obtain ⟨n, g, b, c, rfl⟩ : ∃ n g b c, ns = [n, g, b, c] := by
      match ns, hns with
      | [n, g, b, c], _ => exact ⟨n, g, b, c, rfl⟩
    rw [htk] at k
    simp only at k
    have hc' : Blk wr w1.heap.size 142 (slotC ⟨n, g, b, c⟩) := hc
    have hix : ∀ i : Nat, i < 4 → (Instr.indexAt 142 (.pointer (some ⟨w1.heap.size, 0, none⟩)) (.int .i64 (i : Int))).run Try.prog wr = .ok (.pointer (some ⟨w1.heap.size, i, none⟩)) wr := fun i hi => by
      have := r_indexAtA (P := Try.prog) wr (sz := 1) Try.underlying142 (by kernel_rfl) w1.heap.size 0 i (by omega) (by omega)
      rwa [Nat.zero_add, Nat.mul_one, Int.toNat_natCast] at this
    refine mN_v (hix 0 (by omega)) ?_
    refine mN_v (r_loadB _ (by kernel_rfl) hc' rfl) ?_
    refine mN_v (hix 1 (by omega)) ?_
    refine mN_v (r_loadB _ (by kernel_rfl) hc' rfl) ?_
    refine mN_v (hix 2 (by omega)) ?_
    refine mN_v (r_loadB _ (by kernel_rfl) hc' rfl) ?_
    refine mN_v (hix 3 (by omega)) ?_
    refine mN_v (r_loadB _ (by kernel_rfl) hc' rfl) ?_
    refine mN_v (build50n ⟨n, g, b, c⟩ _) ?_
    refine mN_new (zero50 wr) fun w3 h3 u3 s3 => ?_
    refine mN_storeN (vs := slotC ⟨n, g, b, c⟩) (by kernel_rfl) h3 (by simp [slotC]) (slotC_one _) fun w4 h4 u4 s4 => ?_
    rw [splice_all _ _ (by simp [slotC])] at h4
    have u34 : Ext wr w4 := u3.trans u4 (fun _ _ x => x) fun i hi e => by omega
    have hb4 := hb.keep u34 id
    have a4 := ur.ext u34
    have hld : ∀ {w' : World}, Ext w4 w' → (Instr.loadAt 50 (.pointer (some ⟨wr.heap.size, 0, none⟩))).run Try.prog w' = .ok (slotV ⟨n, g, b, c⟩) w' := fun u => by
      have := r_loadN (P := Try.prog) _ (T := 50) (n := 4) (by kernel_rfl) (by kernel_rfl) (h4.keep u id) (o := 0) (by simp [slotC])
      exact this
    refine mN_v (hld (Upd.refl _ _)) ?_
    refine block_c ⟨n, g, b, c⟩ (fun hr w5 u5 => ?_) fun hr w5 u5 => ?_
    · rw [if_neg (by simp [hr])] at k
      try simp only [push_cast]
      unfold mDrew
      try simp only [push_cast]
      refine mIf_neI (fun _ => ?_) fun h => absurd h (by decide)
      exact read_fail (K := fun r w => K (.tuple #[r, .bool false]) w) (hb4.keep u5 id).drew rfl (a4.ext u5).drewn (Nat.le_refl _) k
    · try simp only [push_cast]
      unfold mDrew
      have hb5 := (hb4.keep u5 id).drew
      have a5 := (a4.ext u5).drewn
      have u6 : Ext w4 w5.drew := u5.drewn
      generalize w5.drew = w6 at hb5 a5 u6
      try simp only [push_cast, bne_self_eq_false]
      have hbl := blockL_len hr
      refine mP_v (fun w => r_sliceSh w Try.underlying9 _ _ (by decide) (by rw [ofL_size, hbl]; decide)) ?_
      refine mP_v (fun w => r_sliceSh w Try.underlying9 _ _ (by decide) (by rw [ofL_size, hl256]; decide)) ?_
      rw [ofL_extract, ofL_extract, List.drop_zero, List.drop_zero, show (64 : Int).toNat - 0 = 64 from rfl]
      try simp only [push_cast]
      refine mIf_neS (fun h => ?_) fun h => ?_
      · rw [if_neg (by rintro ⟨_, h2⟩; exact h (by rw [h2]))] at k
        exact read_fail (K := fun r w => K (.tuple #[r, .bool false]) w) hb5 rfl a5 (Nat.le_refl _) k
      · rw [if_pos ⟨hr, ofL_inj.1 h⟩] at k
        refine mN_v (hld u6) ?_
        exact ret_agg (K := fun r w => K (.tuple #[r, .bool true]) w) (by kernel_rfl) (n := 4) rfl (by kernel_rfl) hb5 rfl (slotC_one _) a5 (Nat.le_refl _) k
end
end Go.Proofs.Ythgopkppmppdoaa
