/-
  Numbers as bytes: the walks of package quill and of the reference.
-/
import Derived.Test.YthgopkppmppdoaaLaw27a
import Derived.Test.YthgopkppmppdoaaNum0
set_option linter.unusedVariables false
set_option linter.unusedSimpArgs false
set_option maxRecDepth 20000
namespace Go.Proofs.Ythgopkppmppdoaa
open Go Go.Proofs Go.Vc
open Go.RowKit (Below intOf)

theorem r_shr8 {P : Program} (w : World) (T : TypeId) (a : Int) : (binOp .shr T (.int .i64 a) (.int .u64 8)).run P w = .ok (.int .i64 (a.fdiv 256)) w := by
  have h : ((2 : Int) ^ (8 : Int).toNat) = 256 := by decide
  simp [binOp, Op.shift]
  try rfl
theorem r_shl8 {P : Program} (w : World) (T : TypeId) (a : Int) : (binOp .shl T (.int .i64 a) (.int .u64 8)).run P w = .ok (.int .i64 (IntKind.wrap .i64 (a * 256))) w := by
  simp [binOp, Op.shift]
  try rfl
theorem r_or {P : Program} (w : World) (T : TypeId) (a b : Int) : (binOp .or T (.int .i64 a) (.int .i64 b)).run P w = .ok (.int .i64 (bits .or .i64 a b)) w := by
  simp only [binOp, Op.intBits]
  rfl
theorem u8w (n : Nat) : IntKind.wrap .u8 (n : Int) = (UInt8.ofNat (n % 256)).toNat := by
  rw [IntKind.wrap_u8, UInt8.toNat_ofNat']
  omega

section
variable {w : World} {K : Value → World → Prop}

theorem byte_new (b : UInt8) (w : World) : (Instr.buildSlice 52 1 #[(0, .int .u8 b.toNat)]).run Try.prog w = .ok (.slice (some ⟨w.heap.size, 0, none⟩) 1 1) (w.alloc (.cells #[.int .u8 b.toNat] 5 (0, 0))) := by kernel_rfl
theorem byte_conv {g : Nat} {b : UInt8} (h : Blk w g 5 [.int .u8 b.toNat]) : (convert 52 9 (.slice (some ⟨g, 0, none⟩) 1 1)).run Try.prog w = .ok (.string (ofL [b])) w :=
  run_convert_bytes_back (P := Try.prog) w 52 9 5 ⟨g, 0, none⟩ 1 [b] Try.underlying52 Try.underlying5 Try.underlying9 (fun j hj => by
    rw [add_off]
    obtain rfl : j = 0 := by simpa using hj
    exact h.cell rfl)

theorem digits_c (n : Nat) : n ≤ 1099511627776 → ∀ {w : World} {K : Value → World → Prop}, (∀ w', Ext w w' → K (.string (ofL (digL n))) w') → mCall Try.prog 120 #[.int .i64 n] w K := by
  induction n using Nat.strongRecOn with
  | _ n ih =>
    intro hn w K k
    refine ⟨ok120 ?_⟩
    unfold sh120
    try simp only [push_cast]
    refine mIf_eqI (fun h0 => ?_) fun h0 => ?_
    · obtain rfl : n = 0 := by omega
      rw [digL_zero] at k
      exact k w (Upd.refl _ _)
    have hd := digL_pos (n := n) (by omega)
    have h6 := digL_len6 (n := n / 256) (by omega)
    unfold mDrew
    have u1 : Ext w w.drew := Upd.drew w _
    generalize w.drew = w1 at u1
    refine mP_v (fun w => r_shr8 w 3 n) ?_
    rw [show (n : Int).fdiv 256 = ((n / 256 : Nat) : Int) from by rw [Int.fdiv_eq_ediv_of_nonneg _ (by omega)]; omega, u8w n]
    have hadd : ∀ w : World, (binOp .add 9 (.string (ofL (digL (n / 256)))) (.string (ofL [UInt8.ofNat (n % 256)]))).run Try.prog w = .ok (.string (ofL (digL n))) w := fun w => by
      rw [hd, ← ofL_append]
      exact r_addS w 9 _ _ (by rw [ofL_size, ofL_size]; simp; omega)
    refine ⟨?_, ?_⟩
    · refine ih (n / 256) (by omega) (by omega) fun w2 u2 => ?_
      refine mN_new (byte_new _ w2) fun w3 h3 u3 s3 => ?_
      refine mN_v (byte_conv h3) ?_
      exact mP_v hadd (k w3 ((u1.ext u2).ext u3))
    · refine mN_new (byte_new _ w1) fun w3 h3 u3 s3 => ?_
      refine ⟨?_, ?_⟩
      · refine ih (n / 256) (by omega) (by omega) fun w2 u2 => ?_
        refine mN_v (byte_conv (h3.keep u2 id)) ?_
        exact mP_v hadd (k w2 ((u1.ext u3).ext u2))
      · refine mN_v (byte_conv h3) ?_
        refine ih (n / 256) (by omega) (by omega) fun w2 u2 => ?_
        exact mP_v hadd (k w2 ((u1.ext u3).ext u2))

/-- quill.Num -/
theorem num_c (n : Int) (k0 : (n < 0 ∨ 1099511627776 < n) → K (.tuple #[.string ⟨#[]⟩, .int .i64 1]) w) (k1 : 0 ≤ n → n ≤ 1099511627776 → ∀ w', Ext w w' → K (.tuple #[.string (ofL (plainL n.toNat)), .int .i64 0]) w') :
    mCall Try.prog 87 #[.int .i64 n] w K := by
  refine ⟨ok87 ?_⟩
  unfold sh87
  try simp only [push_cast]
  refine mIf_dec (fun h0 => k0 (.inl h0)) fun h0 => ?_
  refine mIf_dec (fun h1 => k0 (.inr h1)) fun h1 => ?_
  obtain ⟨m, rfl⟩ : ∃ m : Nat, n = m := ⟨n.toNat, by omega⟩
  have k := k1 (by omega) (by omega)
  rw [Int.toNat_natCast] at k
  have h6 := digL_len6 (n := m) (by omega)
  refine digits_c m (by omega) fun w2 u2 => ?_
  try simp only [push_cast, ofL_size]
  rw [u8w, show (digL m).length % 256 = (digL m).length from by omega]
  refine mN_new (byte_new _ w2) fun w3 h3 u3 s3 => ?_
  refine mN_v (byte_conv h3) ?_
  refine mN_v (r_addS _ _ _ _ (by rw [ofL_size, ofL_size]; simp; omega)) ?_
  rw [ofL_append]
  exact k w3 (u2.ext u3)

/-- rectoref01.Size -/
theorem size_c (n : Int) (h0 : n ≤ 1099511627776) (k : K (.int .i64 (digL n.toNat).length) w) : mCall Try.prog 45 #[.int .i64 n] w K := by
  refine ⟨ok45 ?_⟩
  unfold sh45
  refine mLoop2.mk (fun x y wr => ∃ (j : Nat) (m : Int), x = .int .i64 j ∧ y = .int .i64 m ∧ m ≤ 1099511627776 ∧ j ≤ 6 ∧ j + (digL m.toNat).length = (digL n.toNat).length ∧ wr = w) (fun _ y _ => (intOf y).toNat) ?_ ?_
  · exact ⟨0, n, rfl, rfl, h0, by omega, by omega, rfl⟩
  rintro x y wr ⟨j, m, rfl, rfl, hm, hj, he, rfl⟩
  try simp only [push_cast]
  refine mIf_dec (fun hlt => ?_) fun hlt => ?_
  · obtain ⟨q, rfl⟩ : ∃ q : Nat, m = q := ⟨m.toNat, by omega⟩
    refine mN_v (r_quo _ _ _ _ _ (by decide)) ?_
    have h6 := digL_len6 (n := n.toNat) (by omega)
    rw [show (q : Int).tdiv 256 = ((q / 256 : Nat) : Int) from by rw [Int.tdiv_eq_ediv_of_nonneg (by omega)]; omega]
    rw [Int.toNat_natCast, digL_pos (by omega), List.length_append] at he
    simp only [List.length_singleton] at he
    rw [i64w ((j : Int) + 1) (by omega) (by omega), i64w _ (by omega) (by omega)]
    refine ⟨⟨j + 1, ((q / 256 : Nat) : Int), congrArg (Value.int .i64) (by omega), rfl, by omega, by omega, by rw [Int.toNat_natCast]; omega, by first | rfl | trivial⟩, ?_⟩
    simp only [intOf]
    omega
  · obtain hq : m.toNat = 0 := by omega
    rw [hq, digL_zero] at he
    simp only [List.length_nil, Nat.add_zero] at he
    rw [he]
    exact k

/-- rectoref01.Plain -/
theorem rplain_c (n : Nat) (h0 : n ≤ 1099511627776) (k : ∀ w', Ext w w' → K (.string (ofL (plainL n))) w') : mCall Try.prog 108 #[.int .i64 n] w K := by
  have h6 := digL_len6 h0
  refine ⟨ok108 ?_⟩
  unfold sh108
  refine mLoop2.mk (fun x y wr => ∃ (l : List UInt8) (m : Nat), x = .string (ofL l) ∧ y = .int .i64 m ∧ m ≤ 1099511627776 ∧ digL m ++ l = digL n ∧ Ext w wr) (fun _ y _ => (intOf y).toNat) ?_ ?_
  · exact ⟨[], n, rfl, rfl, h0, by simp, Upd.refl _ _⟩
  rintro x y wr ⟨l, m, rfl, rfl, hm, he, ur⟩
  try simp only [push_cast]
  refine mIf_dec (fun hlt => ?_) fun hlt => ?_
  · refine mN_v (r_rem _ _ _ _ _ (by decide)) ?_
    obtain ⟨d, hdm⟩ : ∃ d : Nat, m % 256 = d := ⟨_, rfl⟩
    rw [show (m : Int).tmod 256 = (d : Int) from by rw [Int.tmod_eq_emod_of_nonneg (by omega)]; omega]
    try simp only [push_cast]
    have hl6 : l.length ≤ 6 := by have := congrArg List.length he; rw [List.length_append] at this; omega
    rw [show IntKind.wrap .u8 (d : Int) = ((UInt8.ofNat (m % 256)).toNat : Nat) from by rw [IntKind.wrap_u8, UInt8.toNat_ofNat']; omega]
    refine mN_new (byte_new _ wr) fun w3 h3 u3 s3 => ?_
    refine mN_v (byte_conv h3) ?_
    refine mN_v (r_addS _ _ _ _ (by rw [ofL_size, ofL_size]; simp; omega)) ?_
    refine mN_v (r_quo _ _ _ _ _ (by decide)) ?_
    rw [show (m : Int).tdiv 256 = ((m / 256 : Nat) : Int) from by rw [Int.tdiv_eq_ediv_of_nonneg (by omega)]; omega]
    rw [i64w _ (by omega) (by omega), ofL_append]
    refine ⟨⟨_, m / 256, rfl, rfl, by omega, ?_, ur.ext u3⟩, by simp only [intOf]; omega⟩
    rw [← he, digL_pos (n := m) (by omega), List.append_assoc]
  · obtain rfl : m = 0 := by omega
    rw [digL_zero, List.nil_append] at he
    subst he
    refine size_c (n : Int) (by omega) ?_
    rw [Int.toNat_natCast]
    try simp only [push_cast]
    rw [u8w, show (digL n).length % 256 = (digL n).length from by omega]
    refine mN_new (byte_new _ wr) fun w3 h3 u3 s3 => ?_
    refine mN_v (byte_conv h3) ?_
    refine mN_v (r_addS _ _ _ _ (by rw [ofL_size, ofL_size]; simp; omega)) ?_
    rw [ofL_append]
    exact k w3 (ur.ext u3)
end
end Go.Proofs.Ythgopkppmppdoaa
