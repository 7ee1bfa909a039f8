/-
  Numbers and texts off the beginning of bytes: the reference's walks; texts as bytes.
-/
import Derived.Test.YthgopkppmppdoaaNum2
set_option linter.unusedVariables false
set_option linter.unusedSimpArgs false
set_option maxRecDepth 20000
namespace Go.Proofs.Ythgopkppmppdoaa
open Go Go.Proofs Go.Vc
open Go.RowKit (Below intOf)
open Go.Lib (BuilderAt IsBuilder byteCells)

def gotV (l : List UInt8) : Value := match takeN l with
  | some (n, r) => .agg #[.int .i64 n, .int .i64 ((l.length : Int) - r.length)]
  | none => .agg #[.int .i64 0, .int .i64 (-1)]

section
variable {w : World} {K : Value → World → Prop}

theorem zero211 (w : World) : (Instr.alloc 211 true (.tuple #[])).run Try.prog w = .ok (.pointer (some ⟨w.heap.size, 0, none⟩)) (w.alloc (.cells #[.int .i64 0, .int .i64 0] 211 (0, 0))) := by kernel_rfl
theorem build211 (a b : Int) (w : World) : (Instr.build 211 #[(0, .int .i64 a), (1, .int .i64 b)]).run Try.prog w = .ok (.agg #[.int .i64 a, .int .i64 b]) w := by kernel_rfl

/-- What the result of 'num' comes to. -/
theorem got_ret {g : Nat} {cs : List Value} (h : Blk w g 211 cs) (hl : cs.length = 2) (a b : Int) {w0 : World} (u : Ext w0 w) (hg : w0.heap.size ≤ g) (k : ∀ w', Ext w0 w' → K (.agg #[.int .i64 a, .int .i64 b]) w') :
    mN Try.prog (vS (Instr.build 211 #[(0, .int .i64 a), (1, .int .i64 b)])) w fun t18 w => mN Try.prog (uS (Instr.storeAt 211 (.pointer (some ⟨g, 0, none⟩)) t18)) w fun _ w =>
      mRes Try.prog (cellS 211 (.pointer (some ⟨g, 0, none⟩))) w fun r0 => K r0 w := by
  refine mN_v (build211 a b w) ?_
  refine mN_storeN (vs := [.int .i64 a, .int .i64 b]) (by kernel_rfl) h (by simp [hl]) (fun v hv => by simp at hv; rcases hv with rfl | rfl <;> rfl) fun w2 h2 u2 s2 => ?_
  rw [splice_all _ _ (by simp [hl])] at h2
  refine mRes.mk (.agg #[.int .i64 a, .int .i64 b]) ?_ (k w2 (u.trans u2 (fun _ _ x => x) fun i hi e => by omega))
  exact rdV_N (P := Try.prog) (w := w2) (T := 211) (n := 2) (by kernel_rfl) (by kernel_rfl) h2 (o := 0) (by simp)

/-- rectoref01.num, at the beginning -/
theorem rnum_c {l : List UInt8} (hl : l.length ≤ 9223372036854775807) (k : ∀ w', Ext w w' → K (gotV l) w') : mCall Try.prog 136 #[.string (ofL l), .int .i64 0] w K := by
  unfold gotV at k
  refine ⟨ok136 ?_⟩
  unfold sh136
  refine mN_new (zero211 w) fun w1 h1 u1 s1 => ?_
  have hret := fun (a b : Int) (k' : ∀ w', Ext w w' → K (.agg #[.int .i64 a, .int .i64 b]) w') => got_ret h1 rfl a b u1 (Nat.le_refl _) k'
  try simp only [push_cast, ofL_size]
  cases l with
  | nil =>
    have e : takeN [] = none := rfl
    rw [e] at k
    refine mIf_dec (fun _ => hret _ _ k) fun h => absurd (Int.le_refl 0) h
  | cons b r =>
    simp only [List.length_cons] at hl
    refine mIf_dec (fun h => by simp only [List.length_cons] at h; omega) fun _ => ?_
    have hb := b.toNat_lt
    have hi0 : ∀ w, (Instr.index 9 (.string (ofL (b :: r))) (.int .i64 0)).run Try.prog w = .ok (.int .u8 b.toNat) w := r_byte Try.underlying9 (b :: r) 0 b (by omega) rfl
    have hbw : IntKind.wrap .i64 (b.toNat : Int) = b.toNat := i64w _ (by omega) (by omega)
    refine mN_v (hi0 _) ?_
    try simp only [push_cast]
    refine mIf_dec (fun h6 => ?_) fun h6 => ?_
    · have e : takeN (b :: r) = none := if_pos (.inl (by omega))
      rw [e] at k
      exact hret _ _ k
    refine mN_v (hi0 _) ?_
    try simp only [push_cast, hbw]
    have e2 : IntKind.wrap .i64 (0 + 1) = 1 := rfl
    have e1' : IntKind.wrap .i64 (IntKind.wrap .i64 ((r.length : Int) + 1 - 0) - 1) = r.length := by
      rw [i64w ((r.length : Int) + 1 - 0) (by omega) (by omega), i64w _ (by omega) (by omega)]
      omega
    have hnone : (r.length < b.toNat ∨ (0 < b.toNat ∧ r.head? = some 0)) → takeN (b :: r) = none := fun h => if_pos (.inr (h.imp id .inl))
    refine mJ1_intro (fun x w' => w' = w1 ∧ x = .bool (decide (r.length < b.toNat ∨ (0 < b.toNat ∧ r.head? = some 0)))) (fun J hJ => ?_) ?_
    · try simp only [List.length_cons, push_cast, e1', e2]
      refine mIf_dec (fun h7 => hJ _ _ ⟨rfl, by rw [decide_eq_true (.inl (by omega))]⟩) fun h7 => ?_
      refine mIf_dec (fun h0 => ?_) fun h0 => hJ _ _ ⟨rfl, by rw [decide_eq_false (by rintro (h | ⟨h, _⟩) <;> omega)]⟩
      obtain ⟨c, t, rfl⟩ : ∃ c t, r = c :: t := by
        cases r with
        | nil => simp at h7; omega
        | cons c t => exact ⟨c, t, rfl⟩
      refine mN_v (r_byte Try.underlying9 (b :: c :: t) 1 c (by omega) rfl _) ?_
      try simp only [push_cast]
      refine hJ _ _ ⟨rfl, ?_⟩
      congr 1
      have hnl : ¬ (c :: t).length < b.toNat := by omega
      have hc : ((c.toNat : Int) == 0) = decide (c = 0) := by
        by_cases hc : c = 0
        · subst hc; rfl
        · simp only [hc, decide_false, beq_eq_false_iff_ne, ne_eq]
          intro hh
          exact hc (UInt8.toNat_inj.1 (by rw [show (0 : UInt8).toNat = 0 from rfl]; omega))
      rw [hc]
      have : (0 : Int) < b.toNat := h0
      have h0' : 0 < b.toNat := by omega
      rw [decide_eq_decide]
      constructor
      · intro h
        exact .inr ⟨h0', by rw [h]; rfl⟩
      · rintro (h | ⟨_, h⟩)
        · exact absurd h hnl
        · simpa using h
    rintro x w' ⟨rfl, rfl⟩
    refine mIf_dec (fun hbad => ?_) fun hok => ?_
    · rw [hnone hbad] at k
      exact hret _ _ k
    have hrb : b.toNat ≤ r.length := by
      rcases Nat.lt_or_ge r.length b.toNat with h | h
      · exact absurd (.inl h) hok
      · exact h
    have hlv : ∀ j : Nat, j ≤ 5 → valL (r.take j) < 1099511627776 := fun j h => valL_take_lt r j h
    refine mLoop2.mk (fun x y wr => ∃ j : Nat, x = .int .i64 (valL (r.take j) : Nat) ∧ y = .int .i64 j ∧ j ≤ b.toNat ∧ wr = w') (fun _ y _ => b.toNat - (intOf y).toNat) ?_ ?_
    · exact ⟨0, by simp [valL], rfl, by omega, rfl⟩
    rintro x y wr ⟨j, rfl, rfl, hj, rfl⟩
    try simp only [push_cast, e2]
    refine mIf_dec (fun hlt => ?_) fun hlt => ?_
    · obtain ⟨c, hc⟩ : ∃ c, r[j]? = some c := ⟨_, List.getElem?_eq_getElem (by omega)⟩
      have hcl := c.toNat_lt
      have hv := hlv j (by omega)
      rw [i64w (1 + (j : Int)) (by omega) (by omega), i64w ((j : Int) + 1) (by omega) (by omega), i64w ((valL (r.take j) : Int) * 256) (by omega) (by omega)]
      refine mN_v (r_byte Try.underlying9 (b :: r) (1 + (j : Int)) c (by omega) (by rw [show (1 + (j : Int)).toNat = j + 1 from by omega]; exact hc) _) ?_
      try simp only [push_cast]
      rw [i64w (c.toNat : Int) (by omega) (by omega), i64w _ (by omega) (by omega)]
      refine ⟨⟨j + 1, ?_, congrArg (Value.int .i64) (by omega), by omega, by first | rfl | trivial⟩, by simp only [intOf]; omega⟩
      rw [valL_take_succ hc]
      exact congrArg (Value.int .i64) (by omega)
    · obtain rfl : j = b.toNat := by omega
      refine mIf_dec (fun hm => ?_) fun hm => ?_
      · have e : takeN (b :: r) = none := if_pos (.inr (.inr (.inr (by omega))))
        rw [e] at k
        exact hret _ _ k
      · have e : takeN (b :: r) = some (valL (r.take b.toNat), r.drop b.toNat) := by
          unfold takeN
          simp only
          rw [if_neg]
          rintro (h1 | h1 | h1 | h1)
          · omega
          · omega
          · exact hok (.inr h1)
          · omega
        rw [e] at k
        rw [i64w (1 + (b.toNat : Int)) (by omega) (by omega)]
        refine hret _ _ ?_
        simp only [List.length_cons, List.length_drop] at k
        have e3 : 1 + (b.toNat : Int) = ((r.length + 1 : Nat) : Int) - ((r.length - b.toNat : Nat) : Int) := by omega
        rw [e3]
        exact k

/-- What is taken, as the reference has it. -/
def takenR (n : Int) (s r : ByteArray) (e : Int) : Value := .agg #[.int .i64 n, .string s, .slice none 0 0, .string r, .int .i64 e]
theorem zero195 (w : World) : (Instr.alloc 195 true (.tuple #[])).run Try.prog w = .ok (.pointer (some ⟨w.heap.size, 0, none⟩)) (w.alloc (.cells #[.int .i64 0, .string ⟨#[]⟩, .slice none 0 0, .string ⟨#[]⟩, .int .i64 0] 195 (0, 0))) := by kernel_rfl
theorem build195e (e : Int) (w : World) : (Instr.build 195 #[(4, .int .i64 e)]).run Try.prog w = .ok (takenR 0 ⟨#[]⟩ ⟨#[]⟩ e) w := by kernel_rfl
theorem build195n (n : Int) (r : ByteArray) (w : World) : (Instr.build 195 #[(0, .int .i64 n), (3, .string r)]).run Try.prog w = .ok (takenR n ⟨#[]⟩ r 0) w := by kernel_rfl
theorem build195s (s r : ByteArray) (w : World) : (Instr.build 195 #[(1, .string s), (3, .string r)]).run Try.prog w = .ok (takenR 0 s r 0) w := by kernel_rfl

theorem taken_ret {g : Nat} {cs : List Value} (h : Blk w g 195 cs) (hl : cs.length = 5) {n e : Int} {s r : ByteArray} {w0 : World} (u : Ext w0 w) (hg : w0.heap.size ≤ g) (k : ∀ w', Ext w0 w' → K (takenR n s r e) w') :
    mN Try.prog (uS (Instr.storeAt 195 (.pointer (some ⟨g, 0, none⟩)) (takenR n s r e))) w fun _ w => mRes Try.prog (cellS 195 (.pointer (some ⟨g, 0, none⟩))) w fun r0 => K r0 w := by
  refine mN_storeN (vs := [.int .i64 n, .string s, .slice none 0 0, .string r, .int .i64 e]) (by kernel_rfl) h (by simp [hl]) (fun v hv => by simp at hv; rcases hv with rfl | rfl | rfl | rfl | rfl <;> rfl) fun w2 h2 u2 s2 => ?_
  rw [splice_all _ _ (by simp [hl])] at h2
  refine mRes.mk (takenR n s r e) ?_ (k w2 (u.trans u2 (fun _ _ x => x) fun i hi e => by omega))
  exact rdV_N (P := Try.prog) (w := w2) (T := 195) (n := 5) (by kernel_rfl) (by kernel_rfl) h2 (o := 0) (by simp)

def rtakeNV (l : List UInt8) : Value := match takeN l with
  | some (n, r) => takenR n ⟨#[]⟩ (ofL r) 0
  | none => takenR 0 ⟨#[]⟩ ⟨#[]⟩ 4
def rtakeTV (l : List UInt8) : Value := match takeT l with
  | some (s, r) => takenR 0 (ofL s) (ofL r) 0
  | none => takenR 0 ⟨#[]⟩ ⟨#[]⟩ 4

theorem takeN_drop {l r : List UInt8} {n : Nat} (h : takeN l = some (n, r)) : l.drop (l.length - r.length) = r := by
  rw [(takeN_some h).2, List.length_append, Nat.add_sub_cancel, List.drop_append_of_le_length (Nat.le_refl _), List.drop_of_length_le (Nat.le_refl _)]; rfl

/-- rectoref01.TakeNum -/
theorem rtaken_c {l : List UInt8} (hl : l.length ≤ 9223372036854775807) (k : ∀ w', Ext w w' → K (rtakeNV l) w') : mCall Try.prog 129 #[.string (ofL l)] w K := by
  unfold rtakeNV at k
  refine ⟨ok129 ?_⟩
  unfold sh129
  refine mN_new (zero195 w) fun w1 h1 u1 s1 => ?_
  refine rnum_c hl fun w2 u2 => ?_
  have h2 := h1.keep u2 id
  refine mN_new (zero211 w2) fun w3 h3 u3 s3 => ?_
  have hs2 : w1.heap.size ≤ w2.heap.size := u2.size
  unfold gotV
  cases ht : takeN l with
  | none =>
    rw [ht] at k
    refine mN_storeN (vs := [.int .i64 0, .int .i64 (-1)]) (by kernel_rfl) h3 (by simp) (fun v hv => by simp at hv; rcases hv with rfl | rfl <;> rfl) fun w4 h4 u4 s4 => ?_
    rw [splice_all _ _ (by simp)] at h4
    have h5 := (h2.keep u3 id).keep u4 (by omega)
    have u5 : Ext w w4 := ((u1.ext u2).ext u3).trans u4 (fun _ _ x => x) fun i hi e => by omega
    try simp only [push_cast]
    refine mN_v (r_loadB _ (by kernel_rfl) h4 rfl) ?_
    try simp only [push_cast]
    refine mIf_dec (fun _ => ?_) fun h => absurd (by decide) h
    refine mN_v (build195e 4 _) ?_
    exact taken_ret h5 rfl u5 (Nat.le_refl _) k
  | some p =>
    obtain ⟨n, r⟩ := p
    rw [ht] at k
    have hrl := takeN_len ht
    refine mN_storeN (vs := [.int .i64 n, .int .i64 ((l.length : Int) - r.length)]) (by kernel_rfl) h3 (by simp) (fun v hv => by simp at hv; rcases hv with rfl | rfl <;> rfl) fun w4 h4 u4 s4 => ?_
    rw [splice_all _ _ (by simp)] at h4
    have h5 := (h2.keep u3 id).keep u4 (by omega)
    have u5 : Ext w w4 := ((u1.ext u2).ext u3).trans u4 (fun _ _ x => x) fun i hi e => by omega
    try simp only [push_cast]
    refine mN_v (r_loadB _ (by kernel_rfl) h4 rfl) ?_
    try simp only [push_cast]
    refine mIf_dec (fun h => by omega) fun _ => ?_
    unfold mDrew
    have h5 := h5.drew
    have h4 := h4.drew
    have u5 := u5.drewn
    generalize w4.drew = w5 at h4 h5 u5
    refine mR_v (r_loadB _ (by kernel_rfl) h4 rfl) ?_
    try simp only [push_cast]
    refine mR_v (r_loadB _ (by kernel_rfl) h4 rfl) ?_
    refine mP_v (fun w => r_sliceSl w Try.underlying9 _ _ (by omega) (by rw [ofL_size]; omega)) ?_
    rw [ofL_extract, ofL_size, show ((l.length : Int) - r.length).toNat = l.length - r.length from by omega, takeN_drop ht, List.take_of_length_le (by omega)]
    refine mP_v (build195n n (ofL r)) ?_
    exact taken_ret h5 rfl u5 (Nat.le_refl _) k

/-- rectoref01.TakeText -/
theorem rtaket_c {l : List UInt8} (hl : l.length ≤ 9223372036854775807) (k : ∀ w', Ext w w' → K (rtakeTV l) w') : mCall Try.prog 123 #[.string (ofL l)] w K := by
  unfold rtakeTV takeT at k
  refine ⟨ok123 ?_⟩
  unfold sh123
  refine mN_new (zero195 w) fun w1 h1 u1 s1 => ?_
  refine rnum_c hl fun w2 u2 => ?_
  have h2 := h1.keep u2 id
  refine mN_new (zero211 w2) fun w3 h3 u3 s3 => ?_
  have hs2 : w1.heap.size ≤ w2.heap.size := u2.size
  unfold gotV
  cases ht : takeN l with
  | none =>
    rw [ht] at k
    refine mN_storeN (vs := [.int .i64 0, .int .i64 (-1)]) (by kernel_rfl) h3 (by simp) (fun v hv => by simp at hv; rcases hv with rfl | rfl <;> rfl) fun w4 h4 u4 s4 => ?_
    rw [splice_all _ _ (by simp)] at h4
    have h5 := (h2.keep u3 id).keep u4 (by omega)
    have u5 : Ext w w4 := ((u1.ext u2).ext u3).trans u4 (fun _ _ x => x) fun i hi e => by omega
    try simp only [push_cast]
    refine mN_v (r_loadB _ (by kernel_rfl) h4 rfl) ?_
    try simp only [push_cast]
    refine mIf_dec (fun _ => ?_) fun h => absurd (by decide) h
    refine mN_v (build195e 4 _) ?_
    exact taken_ret h5 rfl u5 (Nat.le_refl _) k
  | some p =>
    obtain ⟨n, r⟩ := p
    rw [ht] at k
    simp only at k
    have hrl := takeN_len ht
    have hn40 := (takeN_some ht).1
    refine mN_storeN (vs := [.int .i64 n, .int .i64 ((l.length : Int) - r.length)]) (by kernel_rfl) h3 (by simp) (fun v hv => by simp at hv; rcases hv with rfl | rfl <;> rfl) fun w4 h4 u4 s4 => ?_
    rw [splice_all _ _ (by simp)] at h4
    have h5 := (h2.keep u3 id).keep u4 (by omega)
    have u5 : Ext w w4 := ((u1.ext u2).ext u3).trans u4 (fun _ _ x => x) fun i hi e => by omega
    try simp only [push_cast]
    refine mN_v (r_loadB _ (by kernel_rfl) h4 rfl) ?_
    try simp only [push_cast]
    refine mIf_dec (fun h => by omega) fun _ => ?_
    refine mN_v (r_loadB _ (by kernel_rfl) h4 rfl) ?_
    try simp only [push_cast]
    refine mIf_dec (fun h => ?_) fun hn1 => ?_
    · rw [if_pos (.inl (by omega))] at k
      refine mN_v (build195e 4 _) ?_
      exact taken_ret h5 rfl u5 (Nat.le_refl _) k
    refine mN_v (r_loadB _ (by kernel_rfl) h4 rfl) ?_
    try simp only [push_cast, ofL_size]
    refine mN_v (r_loadB _ (by kernel_rfl) h4 rfl) ?_
    try simp only [push_cast, ofL_size]
    rw [i64w _ (by omega) (by omega)]
    refine mIf_dec (fun h => ?_) fun hn2 => ?_
    · rw [if_pos (.inr (by omega))] at k
      refine mN_v (build195e 4 _) ?_
      exact taken_ret h5 rfl u5 (Nat.le_refl _) k
    rw [if_neg (by omega)] at k
    unfold mDrew
    have h5 := h5.drew
    have h4 := h4.drew
    have u5 := u5.drewn
    generalize w4.drew = w5 at h4 h5 u5
    refine mR_v (r_loadB _ (by kernel_rfl) h4 rfl) ?_
    try simp only [push_cast]
    refine mR_v (r_loadB _ (by kernel_rfl) h4 rfl) ?_
    try simp only [push_cast]
    refine mR_v (r_loadB _ (by kernel_rfl) h4 rfl) ?_
    try simp only [push_cast]
    rw [i64w _ (by omega) (by omega)]
    refine mP_v (fun w => r_sliceS w Try.underlying9 _ _ _ (by omega) (by omega) (by rw [ofL_size]; omega)) ?_
    refine mR_v (r_loadB _ (by kernel_rfl) h4 rfl) ?_
    try simp only [push_cast]
    refine mR_v (r_loadB _ (by kernel_rfl) h4 rfl) ?_
    try simp only [push_cast]
    rw [i64w _ (by omega) (by omega)]
    refine mP_v (fun w => r_sliceSl w Try.underlying9 _ _ (by omega) (by rw [ofL_size]; omega)) ?_
    rw [ofL_extract, ofL_extract, ofL_size, show ((l.length : Int) - r.length).toNat = l.length - r.length from by omega, takeN_drop ht,
      show ((l.length : Int) - r.length + n).toNat - (l.length - r.length) = n from by omega, show ((l.length : Int) - r.length + n).toNat = (l.length - r.length) + n from by omega, ← List.drop_drop, takeN_drop ht,
      List.take_of_length_le (l := r.drop n) (by simp; omega)]
    refine mP_v (build195s (ofL (r.take n)) (ofL (r.drop n))) ?_
    exact taken_ret h5 rfl u5 (Nat.le_refl _) k
end
end Go.Proofs.Ythgopkppmppdoaa
