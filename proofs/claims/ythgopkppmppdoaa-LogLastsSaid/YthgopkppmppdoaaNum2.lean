/-
  Numbers off the beginning of bytes: the walks.
-/
import Derived.Test.YthgopkppmppdoaaNum1
set_option linter.unusedVariables false
set_option linter.unusedSimpArgs false
set_option maxRecDepth 20000
namespace Go.Proofs.Ythgopkppmppdoaa
open Go Go.Proofs Go.Vc
open Go.RowKit (Below intOf)

theorem wraps62 (n : Int) (h0 : 0 ≤ n) (h1 : n < 2 ^ 62) : IntKind.i64.wrap n = n := i64w n (by omega) (by
  have : (2 : Int) ^ 62 = 4611686018427387904 := by decide
  omega)
theorem or_join (x y : Nat) (hx : x < 1099511627776) (hy : y < 256) : bits .or .i64 ((x : Int) * 256) (y : Int) = (x : Int) * 256 + y := by
  have e62 : (2 : Int) ^ 62 = 4611686018427387904 := by decide
  have e8 : (2 : Int) ^ 8 = 256 := by decide
  exact bits_join .i64 62 (by decide) wraps62 8 _ _ (by omega) (by rw [e8]; omega) (by rw [e62]; omega) (by omega) (by rw [e8]; omega) (by rw [e62]; omega)

def takenV (l : List UInt8) : Value := match takeN l with
  | some (n, r) => .tuple #[.int .i64 n, .string (ofL r), .int .i64 0]
  | none => .tuple #[.int .i64 0, .string ⟨#[]⟩, .int .i64 4]

theorem pow256 (k : Nat) (h : k ≤ 6) : 256 ^ k ≤ 281474976710656 := by
  have : 256 ^ k ≤ 256 ^ 6 := Nat.pow_le_pow_right (by omega) h
  omega
theorem pow256' (k : Nat) (h : k ≤ 5) : 256 ^ k ≤ 1099511627776 := by
  have : 256 ^ k ≤ 256 ^ 5 := Nat.pow_le_pow_right (by omega) h
  omega
theorem valL_take_lt (d : List UInt8) (j : Nat) (h : j ≤ 5) : valL (d.take j) < 1099511627776 := by
  have h1 := valL_lt (d.take j)
  have h2 := pow256' (d.take j).length (by simp; omega)
  omega
theorem valL_take_succ {d : List UInt8} {j : Nat} {b : UInt8} (h : d[j]? = some b) : valL (d.take (j + 1)) = valL (d.take j) * 256 + b.toNat := by
  rw [List.take_add_one, h]
  exact valL_snoc _ _

section
variable {w : World} {K : Value → World → Prop}

theorem r_byte {T : Nat} (hT : Try.prog.underlying T = some .string) (l : List UInt8) (i : Int) (b : UInt8) (h0 : 0 ≤ i) (h : l[i.toNat]? = some b) (w : World) : (Instr.index T (.string (ofL l)) (.int .i64 i)).run Try.prog w = .ok (.int .u8 b.toNat) w := by
  obtain ⟨h1, h2⟩ := List.getElem?_eq_some_iff.1 h
  have e : ((ofL l)[i.toNat]'h1) = b := h2
  rw [r_indexS w hT (ofL l) i h0 h1, e]

/-- quill.TakeNum -/
theorem taken_c {l : List UInt8} (hl : l.length ≤ 9223372036854775807) (k : ∀ w', Ext w w' → K (takenV l) w') : mCall Try.prog 90 #[.string (ofL l)] w K := by
  unfold takenV at k
  refine ⟨ok90 ?_⟩
  unfold sh90
  cases l with
  | nil =>
    have e : takeN [] = none := rfl
    rw [e] at k
    try simp only [push_cast]
    exact mIf_eqS (fun _ => k w (Upd.refl _ _)) fun h => absurd rfl h
  | cons b r =>
    try simp only [push_cast]
    refine mIf_eqS (fun h => by have : r.length + 1 = 0 := congrArg ByteArray.size h; omega) fun _ => ?_
    have hb := b.toNat_lt
    have hi0 : ∀ w, (Instr.index 9 (.string (ofL (b :: r))) (.int .i64 0)).run Try.prog w = .ok (.int .u8 b.toNat) w := r_byte Try.underlying9 (b :: r) 0 b (by omega) rfl
    have hbw : IntKind.wrap .i64 (b.toNat : Int) = b.toNat := i64w _ (by omega) (by omega)
    have hlen : ((ofL (b :: r)).size : Int) = (r.length : Int) + 1 := by rw [ofL_size, List.length_cons]; omega
    simp only [List.length_cons] at hl
    refine mN_v (hi0 w) ?_
    try simp only [push_cast, hbw]
    refine mIf_dec (fun h6 => ?_) fun h6 => ?_
    · have e : takeN (b :: r) = none := if_pos (.inl (by omega))
      rw [e] at k
      exact k w (Upd.refl _ _)
    rw [hlen, i64w _ (by omega) (by omega)]
    refine mN_v (hi0 w) ?_
    try simp only [push_cast, hbw]
    refine mIf_dec (fun h7 => ?_) fun h7 => ?_
    · have e : takeN (b :: r) = none := if_pos (.inr (.inl (by omega)))
      rw [e] at k
      exact k w (Upd.refl _ _)
    unfold mDrew
    have u1 : Ext w w.drew := Upd.drew w _
    generalize w.drew = w1 at u1
    have k := fun w' u => k w' (u1.ext u)
    refine mP_v hi0 ?_
    try simp only [push_cast, hbw]
    rw [i64w _ (by omega) (by omega)]
    refine mP_v (fun w => r_sliceS w Try.underlying9 _ _ _ (by omega) (by omega) (by rw [hlen]; omega)) ?_
    refine mP_v hi0 ?_
    try simp only [push_cast, hbw]
    rw [i64w _ (by omega) (by omega)]
    refine mP_v (fun w => r_sliceSl w Try.underlying9 _ _ (by omega) (by rw [hlen]; omega)) ?_
    rw [ofL_extract, ofL_extract]
    have ed : ((b :: r).drop (1 : Int).toNat).take ((1 + (b.toNat : Int)).toNat - (1 : Int).toNat) = r.take b.toNat := by
      rw [show (1 : Int).toNat = 1 from rfl, List.drop_one, List.tail_cons]
      congr 1
      omega
    have er : ((b :: r).drop (1 + (b.toNat : Int)).toNat).take ((ofL (b :: r)).size - (1 + (b.toNat : Int)).toNat) = r.drop b.toNat := by
      rw [show (1 + (b.toNat : Int)).toNat = b.toNat + 1 from by omega, List.drop_succ_cons, ofL_size, List.take_of_length_le (by simp <;> omega)]
    rw [ed, er]
    obtain ⟨d, hd⟩ : ∃ d, r.take b.toNat = d := ⟨_, rfl⟩
    have hdl : d.length = b.toNat := by rw [← hd]; simp; omega
    rw [hd]
    try simp only [push_cast, ofL_size, hdl]
    refine mLoop2.mk (fun x y wr => ∃ j : Nat, x = .int .i64 (valL (d.take j) : Nat) ∧ y = .int .i64 j ∧ j ≤ b.toNat ∧ (0 < j → d.head? ≠ some 0) ∧ wr = w1) (fun _ y _ => b.toNat - (intOf y).toNat) ?_ ?_
    · exact ⟨0, by simp [valL], rfl, by omega, fun h => by omega, rfl⟩
    rintro x y wr ⟨j, rfl, rfl, hj, hz, rfl⟩
    try simp only [push_cast]
    refine mIf_dec (fun hlt => ?_) fun hlt => ?_
    · obtain ⟨c, hc⟩ : ∃ c, d[j]? = some c := ⟨_, List.getElem?_eq_getElem (by omega)⟩
      have hcl := c.toNat_lt
      have hix : ∀ w, (Instr.index 9 (.string (ofL d)) (.int .i64 (j : Int))).run Try.prog w = .ok (.int .u8 c.toNat) w := r_byte Try.underlying9 d j c (by omega) (by rw [Int.toNat_natCast]; exact hc)
      have hcw : IntKind.wrap .i64 (c.toNat : Int) = c.toNat := i64w _ (by omega) (by omega)
      have hv := valL_take_lt d j (by omega)
      have hnext : (¬ (j = 0 ∧ c = 0)) → mN Try.prog (vS (binOp .shl 3 (.int .i64 (valL (d.take j) : Nat)) (.int .u64 8))) wr fun t52 w =>
          mN Try.prog (vS (Instr.index 9 (.string (ofL d)) (.int .i64 (j : Int)))) w fun t55 w =>
          mN Try.prog (vS (convert 5 3 t55)) w fun t56 w =>
          mN Try.prog (vS (binOp .or 3 t52 t56)) w fun t57 w =>
          (∃ j_1 : Nat, t57 = .int .i64 (valL (d.take j_1) : Nat) ∧ Value.int .i64 (IntKind.wrap .i64 ((j : Int) + 1)) = .int .i64 j_1 ∧ j_1 ≤ b.toNat ∧ (0 < j_1 → d.head? ≠ some 0) ∧ w = wr) ∧
          b.toNat - (intOf (.int .i64 (IntKind.wrap .i64 ((j : Int) + 1)))).toNat < b.toNat - (intOf (.int .i64 (j : Int))).toNat := by
        intro hno
        refine mN_v (r_shl8 _ _ _) ?_
        refine mN_v (hix _) ?_
        try simp only [push_cast, hcw]
        rw [i64w ((valL (d.take j) : Int) * 256) (by omega) (by omega)]
        refine mN_v (r_or _ _ _ _) ?_
        rw [or_join _ _ hv hcl, i64w ((j : Int) + 1) (by omega) (by omega)]
        refine ⟨⟨j + 1, ?_, congrArg (Value.int .i64) (by omega), by omega, fun _ hh => ?_, rfl⟩, by simp only [intOf]; omega⟩
        · rw [valL_take_succ hc]
          exact congrArg (Value.int .i64) (by omega)
        · by_cases h0 : j = 0
          · subst h0
            apply hno
            refine ⟨rfl, ?_⟩
            rw [List.head?_eq_getElem?, hc] at hh
            injection hh
          · exact hz (by omega) hh
      refine mIf_eqI (fun h0 => ?_) fun h0 => ?_
      · obtain rfl : j = 0 := by omega
        refine mN_v (hix _) ?_
        try simp only [push_cast]
        refine mIf_eqI (fun hc0 => ?_) fun hc0 => ?_
        · have hc0' : c = 0 := UInt8.toNat_inj.1 (by rw [show (0 : UInt8).toNat = 0 from rfl]; omega)
          subst hc0'
          have e : takeN (b :: r) = none := if_pos (.inr (.inr (.inl ⟨by omega, by
            have h1 : d.head? = some 0 := by rw [List.head?_eq_getElem?]; exact hc
            rw [← hd] at h1
            cases r with
            | nil => simp at h1
            | cons x t =>
              cases hbn : b.toNat with
              | zero => omega
              | succ m => rw [hbn] at h1; simpa using h1⟩)))
          rw [e] at k
          exact k wr (Upd.refl _ _)
        · exact hnext fun hh => hc0 (by rw [hh.2]; rfl)
      · exact hnext fun hh => h0 (by omega)
    · obtain rfl : j = b.toNat := by omega
      have htk : d.take b.toNat = d := List.take_of_length_le (by omega)
      rw [htk]
      refine mIf_dec (fun hm => ?_) fun hm => ?_
      · have e : takeN (b :: r) = none := if_pos (.inr (.inr (.inr (by rw [hd]; omega))))
        rw [e] at k
        exact k wr (Upd.refl _ _)
      · have e : takeN (b :: r) = some (valL d, r.drop b.toNat) := by
          unfold takeN
          simp only
          rw [if_neg, hd]
          rintro (h1 | h1 | ⟨h1, h2⟩ | h1)
          · omega
          · omega
          · apply hz h1
            rw [← hd]
            cases r with
            | nil => simp at h2
            | cons x t =>
              cases hbn : b.toNat with
              | zero => omega
              | succ m => simpa using h2
          · rw [hd] at h1; omega
        rw [e] at k
        exact k wr (Upd.refl _ _)
end
end Go.Proofs.Ythgopkppmppdoaa
