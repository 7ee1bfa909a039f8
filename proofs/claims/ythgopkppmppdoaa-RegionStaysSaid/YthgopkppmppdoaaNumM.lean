/-
  Numbers as bytes: the plain laws.
-/
import Derived.Test.YthgopkppmppdoaaLib2
import Derived.Test.YthgopkppmppdoaaLaw27a
set_option linter.unusedVariables false
set_option linter.unusedSimpArgs false
namespace Go.Vc
open Go

/-- The bytes of a list. -/
def ofL (l : List UInt8) : ByteArray := ⟨l.toArray⟩
theorem ofL_size (l : List UInt8) : (ofL l).size = l.length := rfl
theorem ofL_data (l : List UInt8) : (ofL l).data.toList = l := rfl
theorem ofL_append (a b : List UInt8) : ofL a ++ ofL b = ofL (a ++ b) := by
  apply ByteArray.ext
  rw [ByteArray.data_append]
  show a.toArray ++ b.toArray = _
  rw [List.append_toArray]
  rfl
theorem ofL_extract (l : List UInt8) (i j : Nat) : (ofL l).extract i j = ofL ((l.drop i).take (j - i)) := by
  apply ByteArray.ext
  rw [ByteArray.data_extract]
  show l.toArray.extract i j = _
  rw [List.extract_toArray, List.extract_eq_take_drop]
  rfl
theorem ofL_get (l : List UInt8) (i : Nat) (h : i < (ofL l).size) : (ofL l)[i] = l[i]'h := rfl
theorem ofL_inj {a b : List UInt8} : ofL a = ofL b ↔ a = b := ⟨fun h => by simpa [ofL] using h, fun h => by rw [h]⟩
theorem ofL_beq (a b : List UInt8) : ((ofL a).toList == (ofL b).toList) = (a == b) := by
  rw [ByteArray.toList_eq, ByteArray.toList_eq]
  rfl
theorem ofL_of (s : ByteArray) : ∃ l, s = ofL l := ⟨s.data.toList, rfl⟩
theorem bytes_beq (a b : ByteArray) : (a.toList == b.toList) = decide (a = b) := by
  obtain ⟨a, rfl⟩ := ofL_of a
  obtain ⟨b, rfl⟩ := ofL_of b
  rw [ofL_beq]
  by_cases h : a = b
  · simp [h]
  · simp [h, ofL_inj]
theorem mIf_eqS {a b : ByteArray} {A B : Prop} (ha : a = b → A) (hb : ¬ a = b → B) : mIf (.bool (a.toList == b.toList)) A B := by
  rw [bytes_beq]
  exact mIf_dec ha hb
theorem mIf_neS {a b : ByteArray} {A B : Prop} (ha : ¬ a = b → A) (hb : a = b → B) : mIf (.bool (!(a.toList == b.toList))) A B := by
  rw [bytes_beq]
  by_cases h : a = b
  · simp only [h, decide_true, Bool.not_true]
    exact hb h
  · simp only [h, decide_false, Bool.not_false]
    exact ha h

/-- The digits of a number to the base 256. -/
def digL (n : Nat) : List UInt8 := if h : n = 0 then [] else digL (n / 256) ++ [UInt8.ofNat (n % 256)]
termination_by n
decreasing_by omega
theorem digL_zero : digL 0 = [] := by rw [digL]; simp
theorem digL_pos {n : Nat} (h : n ≠ 0) : digL n = digL (n / 256) ++ [UInt8.ofNat (n % 256)] := by
  conv => lhs; rw [digL]
  simp [h]
theorem digL_len : ∀ (k n : Nat), n < 256 ^ k → (digL n).length ≤ k
  | 0, n, h => by
    have : n = 0 := by simpa using h
    subst this
    simp [digL_zero]
  | k + 1, n, h => by
    by_cases h0 : n = 0
    · subst h0
      simp [digL_zero]
    · rw [digL_pos h0, List.length_append]
      have := digL_len k (n / 256) (by rw [Nat.pow_succ] at h; omega)
      simp
      omega
def plainL (n : Nat) : List UInt8 := UInt8.ofNat (digL n).length :: digL n

theorem snocRec {α : Type} {motive : List α → Prop} (nil : motive []) (append_singleton : ∀ l a, motive l → motive (l ++ [a])) (l : List α) : motive l := by
  rw [← List.reverse_reverse l]
  induction l.reverse with
  | nil => exact nil
  | cons x l ih =>
    rw [List.reverse_cons]
    exact append_singleton _ _ ih
def valL (l : List UInt8) : Nat := l.foldl (fun n b => n * 256 + b.toNat) 0
theorem valL_snoc (l : List UInt8) (b : UInt8) : valL (l ++ [b]) = valL l * 256 + b.toNat := by simp [valL]
theorem valL_nil : valL [] = 0 := rfl
theorem valL_digL (n : Nat) : valL (digL n) = n := by
  induction n using Nat.strongRecOn with
  | _ n ih =>
    by_cases h : n = 0
    · subst h; rw [digL_zero]; rfl
    · rw [digL_pos h, valL_snoc, ih (n / 256) (by omega)]
      have : (UInt8.ofNat (n % 256)).toNat = n % 256 := by rw [UInt8.toNat_ofNat']; omega
      omega
theorem valL_lt (l : List UInt8) : valL l < 256 ^ l.length := by
  induction l using snocRec with
  | nil => simp [valL]
  | append_singleton l b ih =>
    rw [valL_snoc, List.length_append]
    have := b.toNat_lt
    simp [Nat.pow_succ]
    omega
theorem valL_head_pos {l : List UInt8} (h : l ≠ []) (h0 : l.head? ≠ some 0) : 0 < valL l := by
  induction l using snocRec with
  | nil => exact absurd rfl h
  | append_singleton l b ih =>
    rw [valL_snoc]
    by_cases hl : l = []
    · subst hl
      have hb : b ≠ 0 := by simpa using h0
      have : b.toNat ≠ 0 := fun e => hb (UInt8.toNat_inj.1 e)
      omega
    · have := ih hl (by
        cases l with
        | nil => exact absurd rfl hl
        | cons x l => simpa using h0)
      omega
/-- Without a zero ahead the digits are those of the value. -/
theorem digL_valL {l : List UInt8} (h0 : l.head? ≠ some 0) : digL (valL l) = l := by
  induction l using snocRec with
  | nil => rw [valL_nil, digL_zero]
  | append_singleton l b ih =>
    rw [valL_snoc]
    have hb := b.toNat_lt
    have hd : (valL l * 256 + b.toNat) / 256 = valL l := by omega
    have hm : (valL l * 256 + b.toNat) % 256 = b.toNat := by omega
    have hpos : valL l * 256 + b.toNat ≠ 0 := by
      have := valL_head_pos (l := l ++ [b]) (by simp) h0
      rw [valL_snoc] at this
      omega
    rw [digL_pos hpos, hd, hm, UInt8.ofNat_toNat]
    congr 1
    by_cases hl : l = []
    · subst hl; rw [valL_nil, digL_zero]
    · refine ih ?_
      cases l with
      | nil => exact absurd rfl hl
      | cons x l => simpa using h0
theorem digL_head (n : Nat) : (digL n).head? ≠ some 0 := by
  induction n using Nat.strongRecOn with
  | _ n ih =>
    by_cases h : n = 0
    · subst h; rw [digL_zero]; simp
    · rw [digL_pos h]
      by_cases h1 : n / 256 = 0
      · rw [h1, digL_zero]
        intro hh
        have hh : UInt8.ofNat (n % 256) = 0 := by simpa using hh
        have : (UInt8.ofNat (n % 256)).toNat = 0 := by rw [hh]; rfl
        rw [UInt8.toNat_ofNat'] at this
        omega
      · have := ih (n / 256) (by omega)
        rw [digL_pos h1] at this ⊢
        intro hh
        apply this
        simpa using hh

/-- A number off the beginning. -/
def takeN (l : List UInt8) : Option (Nat × List UInt8) :=
  match l with
  | [] => none
  | k :: r => if 6 < k.toNat ∨ r.length < k.toNat ∨ (0 < k.toNat ∧ r.head? = some 0) ∨ 1099511627776 < valL (r.take k.toNat) then none else some (valL (r.take k.toNat), r.drop k.toNat)

theorem digL_len6 {n : Nat} (h : n ≤ 1099511627776) : (digL n).length ≤ 6 := digL_len 6 n (by omega)
theorem takeN_plain {n : Nat} (h : n ≤ 1099511627776) (r : List UInt8) : takeN (plainL n ++ r) = some (n, r) := by
  have h6 := digL_len6 h
  have hk : (UInt8.ofNat (digL n).length).toNat = (digL n).length := by rw [UInt8.toNat_ofNat']; omega
  unfold plainL takeN
  simp only [List.cons_append, hk]
  rw [List.take_append_of_le_length (Nat.le_refl _), List.take_of_length_le (Nat.le_refl _), valL_digL, if_neg]
  · rw [List.drop_append_of_le_length (Nat.le_refl _), List.drop_of_length_le (Nat.le_refl _)]; rfl
  · rintro (h1 | h1 | ⟨h1, h2⟩ | h1)
    · omega
    · simp at h1; omega
    · have := digL_head n
      cases hd : digL n with
      | nil => rw [hd] at h1; simp at h1
      | cons x l => rw [hd] at h2 this; exact this (by simpa using h2)
    · omega
theorem takeN_some {l r : List UInt8} {n : Nat} (h : takeN l = some (n, r)) : n ≤ 1099511627776 ∧ l = plainL n ++ r := by
  unfold takeN at h
  split at h
  · cases h
  · rename_i k t
    split at h
    · cases h
    · rename_i hno
      simp only [Option.some.injEq, Prod.mk.injEq] at h
      obtain ⟨rfl, rfl⟩ := h
      simp only [not_or, not_and, Nat.not_lt] at hno
      obtain ⟨h6, hl, h0, hm⟩ := hno
      have hlen : (t.take k.toNat).length = k.toNat := by simp; omega
      have hh : (t.take k.toNat).head? ≠ some 0 := by
        intro hh
        cases hk : k.toNat with
        | zero => rw [hk] at hh; simp at hh
        | succ m =>
          cases t with
          | nil => simp at hh
          | cons x t => rw [hk] at hh; exact h0 (by omega) (by simpa using hh)
      refine ⟨hm, ?_⟩
      unfold plainL
      rw [digL_valL hh, hlen, UInt8.ofNat_toNat, List.cons_append, List.take_append_drop]
theorem takeN_len {l r : List UInt8} {n : Nat} (h : takeN l = some (n, r)) : r.length < l.length := by
  rw [(takeN_some h).2]
  simp [plainL]
  omega

/-- A text off the beginning. -/
def takeT (l : List UInt8) : Option (List UInt8 × List UInt8) :=
  match takeN l with
  | none => none
  | some (n, r) => if 65536 < n ∨ r.length < n then none else some (r.take n, r.drop n)
def textL (s : List UInt8) : List UInt8 := plainL s.length ++ s
theorem takeT_text {s : List UInt8} (h : s.length ≤ 65536) (r : List UInt8) : takeT (textL s ++ r) = some (s, r) := by
  unfold takeT textL
  rw [List.append_assoc, takeN_plain (by omega)]
  simp only
  rw [if_neg (by simp; omega), List.take_append_of_le_length (Nat.le_refl _), List.take_of_length_le (Nat.le_refl _), List.drop_append_of_le_length (Nat.le_refl _), List.drop_of_length_le (Nat.le_refl _)]
  rfl
theorem takeT_some {l s r : List UInt8} (h : takeT l = some (s, r)) : s.length ≤ 65536 ∧ l = textL s ++ r := by
  unfold takeT at h
  cases hn : takeN l with
  | none => rw [hn] at h; cases h
  | some p =>
    obtain ⟨n, t⟩ := p
    rw [hn] at h
    simp only at h
    split at h
    · cases h
    · rename_i hno
      simp only [Option.some.injEq, Prod.mk.injEq] at h
      obtain ⟨rfl, rfl⟩ := h
      have hl : (t.take n).length = n := by simp; omega
      refine ⟨by omega, ?_⟩
      unfold textL
      rw [hl, (takeN_some hn).2, List.append_assoc, List.take_append_drop]
theorem textL_len (s : List UInt8) : (textL s).length = s.length + 1 + (digL s.length).length := by
  simp [textL, plainL]; omega
end Go.Vc

/-
  Numbers as bytes: the walks of package quill and of the reference.
-/
set_option linter.unusedVariables false
set_option linter.unusedSimpArgs false
set_option maxRecDepth 20000
namespace Go.Proofs.Ythgopkppmppdoaa
open Go Go.Proofs Go.Vc
open Go.RowKit (Below intOf)

theorem r_shr8 {P : Program} (w : World) (T : TypeId) (a : Int) : (binOp .shr T (.int .i64 a) (.int .u64 8)).run P w = .ok (.int .i64 (a.fdiv 256)) w := by
  have h : ((2 : Int) ^ (8 : Int).toNat) = 256 := by decide
  simp [binOp, Op.shift]
  try rfl
theorem r_shl8 {P : Program} (w : World) (T : TypeId) (a : Int) : (binOp .shl T (.int .i64 a) (.int .u64 8)).run P w = .ok (.int .i64 (IntKind.wrap .i64 (a * 256))) w := by
  simp [binOp, Op.shift]
  try rfl
theorem r_or {P : Program} (w : World) (T : TypeId) (a b : Int) : (binOp .or T (.int .i64 a) (.int .i64 b)).run P w = .ok (.int .i64 (bits .or .i64 a b)) w := by
  simp only [binOp, Op.intBits]
  rfl
theorem u8w (n : Nat) : IntKind.wrap .u8 (n : Int) = (UInt8.ofNat (n % 256)).toNat := by
  rw [IntKind.wrap_u8, UInt8.toNat_ofNat']
  omega

section
variable {w : World} {K : Value → World → Prop}

theorem byte_new (b : UInt8) (w : World) : (Instr.buildSlice 52 1 #[(0, .int .u8 b.toNat)]).run Try.prog w = .ok (.slice (some ⟨w.heap.size, 0, none⟩) 1 1) (w.alloc (.cells #[.int .u8 b.toNat] 5 (0, 0))) := by kernel_rfl
theorem byte_conv {g : Nat} {b : UInt8} (h : Blk w g 5 [.int .u8 b.toNat]) : (convert 52 9 (.slice (some ⟨g, 0, none⟩) 1 1)).run Try.prog w = .ok (.string (ofL [b])) w :=
  run_convert_bytes_back (P := Try.prog) w 52 9 5 ⟨g, 0, none⟩ 1 [b] Try.underlying52 Try.underlying5 Try.underlying9 (fun j hj => by
    rw [add_off]
    obtain rfl : j = 0 := by simpa using hj
    exact h.cell rfl)

theorem digits_c (n : Nat) : n ≤ 1099511627776 → ∀ {w : World} {K : Value → World → Prop}, (∀ w', Ext w w' → K (.string (ofL (digL n))) w') → mCall Try.prog 120 #[.int .i64 n] w K := by
  induction n using Nat.strongRecOn with
  | _ n ih =>
    intro hn w K k
    refine ⟨ok120 ?_⟩
    unfold sh120
    try simp only [push_cast]
    refine mIf_eqI (fun h0 => ?_) fun h0 => ?_
    · obtain rfl : n = 0 := by omega
      rw [digL_zero] at k
      exact k w (Upd.refl _ _)
    have hd := digL_pos (n := n) (by omega)
    have h6 := digL_len6 (n := n / 256) (by omega)
    unfold mDrew
    have u1 : Ext w w.drew := Upd.drew w _
    generalize w.drew = w1 at u1
    refine mP_v (fun w => r_shr8 w 3 n) ?_
    rw [show (n : Int).fdiv 256 = ((n / 256 : Nat) : Int) from by rw [Int.fdiv_eq_ediv_of_nonneg _ (by omega)]; omega, u8w n]
    have hadd : ∀ w : World, (binOp .add 9 (.string (ofL (digL (n / 256)))) (.string (ofL [UInt8.ofNat (n % 256)]))).run Try.prog w = .ok (.string (ofL (digL n))) w := fun w => by
      rw [hd, ← ofL_append]
      exact r_addS w 9 _ _ (by rw [ofL_size, ofL_size]; simp; omega)
    refine ⟨?_, ?_⟩
    · refine ih (n / 256) (by omega) (by omega) fun w2 u2 => ?_
      refine mN_new (byte_new _ w2) fun w3 h3 u3 s3 => ?_
      refine mN_v (byte_conv h3) ?_
      exact mP_v hadd (k w3 ((u1.ext u2).ext u3))
    · refine mN_new (byte_new _ w1) fun w3 h3 u3 s3 => ?_
      refine ⟨?_, ?_⟩
      · refine ih (n / 256) (by omega) (by omega) fun w2 u2 => ?_
        refine mN_v (byte_conv (h3.keep u2 id)) ?_
        exact mP_v hadd (k w2 ((u1.ext u3).ext u2))
      · refine mN_v (byte_conv h3) ?_
        refine ih (n / 256) (by omega) (by omega) fun w2 u2 => ?_
        exact mP_v hadd (k w2 ((u1.ext u3).ext u2))

/-- quill.Num -/
theorem num_c (n : Int) (k0 : (n < 0 ∨ 1099511627776 < n) → K (.tuple #[.string ⟨#[]⟩, .int .i64 1]) w) (k1 : 0 ≤ n → n ≤ 1099511627776 → ∀ w', Ext w w' → K (.tuple #[.string (ofL (plainL n.toNat)), .int .i64 0]) w') :
    mCall Try.prog 87 #[.int .i64 n] w K := by
  refine ⟨ok87 ?_⟩
  unfold sh87
  try simp only [push_cast]
  refine mIf_dec (fun h0 => k0 (.inl h0)) fun h0 => ?_
  refine mIf_dec (fun h1 => k0 (.inr h1)) fun h1 => ?_
  obtain ⟨m, rfl⟩ : ∃ m : Nat, n = m := ⟨n.toNat, by omega⟩
  have k := k1 (by omega) (by omega)
  rw [Int.toNat_natCast] at k
  have h6 := digL_len6 (n := m) (by omega)
  refine digits_c m (by omega) fun w2 u2 => ?_
  try simp only [push_cast, ofL_size]
  rw [u8w, show (digL m).length % 256 = (digL m).length from by omega]
  refine mN_new (byte_new _ w2) fun w3 h3 u3 s3 => ?_
  refine mN_v (byte_conv h3) ?_
  refine mN_v (r_addS _ _ _ _ (by rw [ofL_size, ofL_size]; simp; omega)) ?_
  rw [ofL_append]
  exact k w3 (u2.ext u3)

/-- rectoref01.Size -/
theorem size_c (n : Int) (h0 : n ≤ 1099511627776) (k : K (.int .i64 (digL n.toNat).length) w) : mCall Try.prog 45 #[.int .i64 n] w K := by
  refine ⟨ok45 ?_⟩
  unfold sh45
  refine mLoop2.mk (fun x y wr => ∃ (j : Nat) (m : Int), x = .int .i64 j ∧ y = .int .i64 m ∧ m ≤ 1099511627776 ∧ j ≤ 6 ∧ j + (digL m.toNat).length = (digL n.toNat).length ∧ wr = w) (fun _ y _ => (intOf y).toNat) ?_ ?_
  · exact ⟨0, n, rfl, rfl, h0, by omega, by omega, rfl⟩
  rintro x y wr ⟨j, m, rfl, rfl, hm, hj, he, rfl⟩
  try simp only [push_cast]
  refine mIf_dec (fun hlt => ?_) fun hlt => ?_
  · obtain ⟨q, rfl⟩ : ∃ q : Nat, m = q := ⟨m.toNat, by omega⟩
    refine mN_v (r_quo _ _ _ _ _ (by decide)) ?_
    have h6 := digL_len6 (n := n.toNat) (by omega)
    rw [show (q : Int).tdiv 256 = ((q / 256 : Nat) : Int) from by rw [Int.tdiv_eq_ediv_of_nonneg (by omega)]; omega]
    rw [Int.toNat_natCast, digL_pos (by omega), List.length_append] at he
    simp only [List.length_singleton] at he
    rw [i64w ((j : Int) + 1) (by omega) (by omega), i64w _ (by omega) (by omega)]
    refine ⟨⟨j + 1, ((q / 256 : Nat) : Int), congrArg (Value.int .i64) (by omega), rfl, by omega, by omega, by rw [Int.toNat_natCast]; omega, by first | rfl | trivial⟩, ?_⟩
    simp only [intOf]
    omega
  · obtain hq : m.toNat = 0 := by omega
    rw [hq, digL_zero] at he
    simp only [List.length_nil, Nat.add_zero] at he
    rw [he]
    exact k

/-- rectoref01.Plain -/
theorem rplain_c (n : Nat) (h0 : n ≤ 1099511627776) (k : ∀ w', Ext w w' → K (.string (ofL (plainL n))) w') : mCall Try.prog 108 #[.int .i64 n] w K := by
  have h6 := digL_len6 h0
  refine ⟨ok108 ?_⟩
  unfold sh108
  refine mLoop2.mk (fun x y wr => ∃ (l : List UInt8) (m : Nat), x = .string (ofL l) ∧ y = .int .i64 m ∧ m ≤ 1099511627776 ∧ digL m ++ l = digL n ∧ Ext w wr) (fun _ y _ => (intOf y).toNat) ?_ ?_
  · exact ⟨[], n, rfl, rfl, h0, by simp, Upd.refl _ _⟩
  rintro x y wr ⟨l, m, rfl, rfl, hm, he, ur⟩
  try simp only [push_cast]
  refine mIf_dec (fun hlt => ?_) fun hlt => ?_
  · refine mN_v (r_rem _ _ _ _ _ (by decide)) ?_
    obtain ⟨d, hdm⟩ : ∃ d : Nat, m % 256 = d := ⟨_, rfl⟩
    rw [show (m : Int).tmod 256 = (d : Int) from by rw [Int.tmod_eq_emod_of_nonneg (by omega)]; omega]
    try simp only [push_cast]
    have hl6 : l.length ≤ 6 := by have := congrArg List.length he; rw [List.length_append] at this; omega
    rw [show IntKind.wrap .u8 (d : Int) = ((UInt8.ofNat (m % 256)).toNat : Nat) from by rw [IntKind.wrap_u8, UInt8.toNat_ofNat']; omega]
    refine mN_new (byte_new _ wr) fun w3 h3 u3 s3 => ?_
    refine mN_v (byte_conv h3) ?_
    refine mN_v (r_addS _ _ _ _ (by rw [ofL_size, ofL_size]; simp; omega)) ?_
    refine mN_v (r_quo _ _ _ _ _ (by decide)) ?_
    rw [show (m : Int).tdiv 256 = ((m / 256 : Nat) : Int) from by rw [Int.tdiv_eq_ediv_of_nonneg (by omega)]; omega]
    rw [i64w _ (by omega) (by omega), ofL_append]
    refine ⟨⟨_, m / 256, rfl, rfl, by omega, ?_, ur.ext u3⟩, by simp only [intOf]; omega⟩
    rw [← he, digL_pos (n := m) (by omega), List.append_assoc]
  · obtain rfl : m = 0 := by omega
    rw [digL_zero, List.nil_append] at he
    subst he
    refine size_c (n : Int) (by omega) ?_
    rw [Int.toNat_natCast]
    try simp only [push_cast]
    rw [u8w, show (digL n).length % 256 = (digL n).length from by omega]
    refine mN_new (byte_new _ wr) fun w3 h3 u3 s3 => ?_
    refine mN_v (byte_conv h3) ?_
    refine mN_v (r_addS _ _ _ _ (by rw [ofL_size, ofL_size]; simp; omega)) ?_
    rw [ofL_append]
    exact k w3 (ur.ext u3)
end
end Go.Proofs.Ythgopkppmppdoaa

/-
  Numbers off the beginning of bytes: the walks.
-/
set_option linter.unusedVariables false
set_option linter.unusedSimpArgs false
set_option maxRecDepth 20000
namespace Go.Proofs.Ythgopkppmppdoaa
open Go Go.Proofs Go.Vc
open Go.RowKit (Below intOf)

theorem wraps62 (n : Int) (h0 : 0 ≤ n) (h1 : n < 2 ^ 62) : IntKind.i64.wrap n = n := i64w n (by omega) (by
  have : (2 : Int) ^ 62 = 4611686018427387904 := by decide
  omega)
theorem or_join (x y : Nat) (hx : x < 1099511627776) (hy : y < 256) : bits .or .i64 ((x : Int) * 256) (y : Int) = (x : Int) * 256 + y := by
  have e62 : (2 : Int) ^ 62 = 4611686018427387904 := by decide
  have e8 : (2 : Int) ^ 8 = 256 := by decide
  exact bits_join .i64 62 (by decide) wraps62 8 _ _ (by omega) (by rw [e8]; omega) (by rw [e62]; omega) (by omega) (by rw [e8]; omega) (by rw [e62]; omega)

def takenV (l : List UInt8) : Value := match takeN l with
  | some (n, r) => .tuple #[.int .i64 n, .string (ofL r), .int .i64 0]
  | none => .tuple #[.int .i64 0, .string ⟨#[]⟩, .int .i64 4]

theorem pow256 (k : Nat) (h : k ≤ 6) : 256 ^ k ≤ 281474976710656 := by
  have : 256 ^ k ≤ 256 ^ 6 := Nat.pow_le_pow_right (by omega) h
  omega
theorem pow256' (k : Nat) (h : k ≤ 5) : 256 ^ k ≤ 1099511627776 := by
  have : 256 ^ k ≤ 256 ^ 5 := Nat.pow_le_pow_right (by omega) h
  omega
theorem valL_take_lt (d : List UInt8) (j : Nat) (h : j ≤ 5) : valL (d.take j) < 1099511627776 := by
  have h1 := valL_lt (d.take j)
  have h2 := pow256' (d.take j).length (by simp; omega)
  omega
theorem valL_take_succ {d : List UInt8} {j : Nat} {b : UInt8} (h : d[j]? = some b) : valL (d.take (j + 1)) = valL (d.take j) * 256 + b.toNat := by
  rw [List.take_add_one, h]
  exact valL_snoc _ _

section
variable {w : World} {K : Value → World → Prop}

theorem r_byte {T : Nat} (hT : Try.prog.underlying T = some .string) (l : List UInt8) (i : Int) (b : UInt8) (h0 : 0 ≤ i) (h : l[i.toNat]? = some b) (w : World) : (Instr.index T (.string (ofL l)) (.int .i64 i)).run Try.prog w = .ok (.int .u8 b.toNat) w := by
  obtain ⟨h1, h2⟩ := List.getElem?_eq_some_iff.1 h
  have e : ((ofL l)[i.toNat]'h1) = b := h2
  rw [r_indexS w hT (ofL l) i h0 h1, e]

/-- quill.TakeNum -/
theorem taken_c {l : List UInt8} (hl : l.length ≤ 9223372036854775807) (k : ∀ w', Ext w w' → K (takenV l) w') : mCall Try.prog 90 #[.string (ofL l)] w K := by
  unfold takenV at k
  refine ⟨ok90 ?_⟩
  unfold sh90
  cases l with
  | nil =>
    have e : takeN [] = none := rfl
    rw [e] at k
    try simp only [push_cast]
    exact mIf_eqS (fun _ => k w (Upd.refl _ _)) fun h => absurd rfl h
  | cons b r =>
    try simp only [push_cast]
    refine mIf_eqS (fun h => by have : r.length + 1 = 0 := congrArg ByteArray.size h; omega) fun _ => ?_
    have hb := b.toNat_lt
    have hi0 : ∀ w, (Instr.index 9 (.string (ofL (b :: r))) (.int .i64 0)).run Try.prog w = .ok (.int .u8 b.toNat) w := r_byte Try.underlying9 (b :: r) 0 b (by omega) rfl
    have hbw : IntKind.wrap .i64 (b.toNat : Int) = b.toNat := i64w _ (by omega) (by omega)
    have hlen : ((ofL (b :: r)).size : Int) = (r.length : Int) + 1 := by rw [ofL_size, List.length_cons]; omega
    simp only [List.length_cons] at hl
    refine mN_v (hi0 w) ?_
    try simp only [push_cast, hbw]
    refine mIf_dec (fun h6 => ?_) fun h6 => ?_
    · have e : takeN (b :: r) = none := if_pos (.inl (by omega))
      rw [e] at k
      exact k w (Upd.refl _ _)
    rw [hlen, i64w _ (by omega) (by omega)]
    refine mN_v (hi0 w) ?_
    try simp only [push_cast, hbw]
    refine mIf_dec (fun h7 => ?_) fun h7 => ?_
    · have e : takeN (b :: r) = none := if_pos (.inr (.inl (by omega)))
      rw [e] at k
      exact k w (Upd.refl _ _)
    unfold mDrew
    have u1 : Ext w w.drew := Upd.drew w _
    generalize w.drew = w1 at u1
    have k := fun w' u => k w' (u1.ext u)
    refine mP_v hi0 ?_
    try simp only [push_cast, hbw]
    rw [i64w _ (by omega) (by omega)]
    refine mP_v (fun w => r_sliceS w Try.underlying9 _ _ _ (by omega) (by omega) (by rw [hlen]; omega)) ?_
    refine mP_v hi0 ?_
    try simp only [push_cast, hbw]
    rw [i64w _ (by omega) (by omega)]
    refine mP_v (fun w => r_sliceSl w Try.underlying9 _ _ (by omega) (by rw [hlen]; omega)) ?_
    rw [ofL_extract, ofL_extract]
    have ed : ((b :: r).drop (1 : Int).toNat).take ((1 + (b.toNat : Int)).toNat - (1 : Int).toNat) = r.take b.toNat := by
      rw [show (1 : Int).toNat = 1 from rfl, List.drop_one, List.tail_cons]
      congr 1
      omega
    have er : ((b :: r).drop (1 + (b.toNat : Int)).toNat).take ((ofL (b :: r)).size - (1 + (b.toNat : Int)).toNat) = r.drop b.toNat := by
      rw [show (1 + (b.toNat : Int)).toNat = b.toNat + 1 from by omega, List.drop_succ_cons, ofL_size, List.take_of_length_le (by simp <;> omega)]
    rw [ed, er]
    obtain ⟨d, hd⟩ : ∃ d, r.take b.toNat = d := ⟨_, rfl⟩
    have hdl : d.length = b.toNat := by rw [← hd]; simp; omega
    rw [hd]
    try simp only [push_cast, ofL_size, hdl]
    refine mLoop2.mk (fun x y wr => ∃ j : Nat, x = .int .i64 (valL (d.take j) : Nat) ∧ y = .int .i64 j ∧ j ≤ b.toNat ∧ (0 < j → d.head? ≠ some 0) ∧ wr = w1) (fun _ y _ => b.toNat - (intOf y).toNat) ?_ ?_
    · exact ⟨0, by simp [valL], rfl, by omega, fun h => by omega, rfl⟩
    rintro x y wr ⟨j, rfl, rfl, hj, hz, rfl⟩
    try simp only [push_cast]
    refine mIf_dec (fun hlt => ?_) fun hlt => ?_
    · obtain ⟨c, hc⟩ : ∃ c, d[j]? = some c := ⟨_, List.getElem?_eq_getElem (by omega)⟩
      have hcl := c.toNat_lt
      have hix : ∀ w, (Instr.index 9 (.string (ofL d)) (.int .i64 (j : Int))).run Try.prog w = .ok (.int .u8 c.toNat) w := r_byte Try.underlying9 d j c (by omega) (by rw [Int.toNat_natCast]; exact hc)
      have hcw : IntKind.wrap .i64 (c.toNat : Int) = c.toNat := i64w _ (by omega) (by omega)
      have hv := valL_take_lt d j (by omega)
      have hnext : (¬ (j = 0 ∧ c = 0)) → mN Try.prog (vS (binOp .shl 3 (.int .i64 (valL (d.take j) : Nat)) (.int .u64 8))) wr fun t52 w =>
          mN Try.prog (vS (Instr.index 9 (.string (ofL d)) (.int .i64 (j : Int)))) w fun t55 w =>
          mN Try.prog (vS (convert 5 3 t55)) w fun t56 w =>
          mN Try.prog (vS (binOp .or 3 t52 t56)) w fun t57 w =>
          (∃ j_1 : Nat, t57 = .int .i64 (valL (d.take j_1) : Nat) ∧ Value.int .i64 (IntKind.wrap .i64 ((j : Int) + 1)) = .int .i64 j_1 ∧ j_1 ≤ b.toNat ∧ (0 < j_1 → d.head? ≠ some 0) ∧ w = wr) ∧
          b.toNat - (intOf (.int .i64 (IntKind.wrap .i64 ((j : Int) + 1)))).toNat < b.toNat - (intOf (.int .i64 (j : Int))).toNat := by
        intro hno
        refine mN_v (r_shl8 _ _ _) ?_
        refine mN_v (hix _) ?_
        try simp only [push_cast, hcw]
        rw [i64w ((valL (d.take j) : Int) * 256) (by omega) (by omega)]
        refine mN_v (r_or _ _ _ _) ?_
        rw [or_join _ _ hv hcl, i64w ((j : Int) + 1) (by omega) (by omega)]
        refine ⟨⟨j + 1, ?_, congrArg (Value.int .i64) (by omega), by omega, fun _ hh => ?_, rfl⟩, by simp only [intOf]; omega⟩
        · rw [valL_take_succ hc]
          exact congrArg (Value.int .i64) (by omega)
        · by_cases h0 : j = 0
          · subst h0
            apply hno
            refine ⟨rfl, ?_⟩
            rw [List.head?_eq_getElem?, hc] at hh
            injection hh
          · exact hz (by omega) hh
      refine mIf_eqI (fun h0 => ?_) fun h0 => ?_
      · obtain rfl : j = 0 := by omega
        refine mN_v (hix _) ?_
        try simp only [push_cast]
        refine mIf_eqI (fun hc0 => ?_) fun hc0 => ?_
        · have hc0' : c = 0 := UInt8.toNat_inj.1 (by rw [show (0 : UInt8).toNat = 0 from rfl]; omega)
          subst hc0'
          have e : takeN (b :: r) = none := if_pos (.inr (.inr (.inl ⟨by omega, by
            have h1 : d.head? = some 0 := by rw [List.head?_eq_getElem?]; exact hc
            rw [← hd] at h1
            cases r with
            | nil => simp at h1
            | cons x t =>
              cases hbn : b.toNat with
              | zero => omega
              | succ m => rw [hbn] at h1; simpa using h1⟩)))
          rw [e] at k
          exact k wr (Upd.refl _ _)
        · exact hnext fun hh => hc0 (by rw [hh.2]; rfl)
      · exact hnext fun hh => h0 (by omega)
    · obtain rfl : j = b.toNat := by omega
      have htk : d.take b.toNat = d := List.take_of_length_le (by omega)
      rw [htk]
      refine mIf_dec (fun hm => ?_) fun hm => ?_
      · have e : takeN (b :: r) = none := if_pos (.inr (.inr (.inr (by rw [hd]; omega))))
        rw [e] at k
        exact k wr (Upd.refl _ _)
      · have e : takeN (b :: r) = some (valL d, r.drop b.toNat) := by
          unfold takeN
          simp only
          rw [if_neg, hd]
          rintro (h1 | h1 | ⟨h1, h2⟩ | h1)
          · omega
          · omega
          · apply hz h1
            rw [← hd]
            cases r with
            | nil => simp at h2
            | cons x t =>
              cases hbn : b.toNat with
              | zero => omega
              | succ m => simpa using h2
          · rw [hd] at h1; omega
        rw [e] at k
        exact k wr (Upd.refl _ _)
end
end Go.Proofs.Ythgopkppmppdoaa

/-
  Numbers and texts off the beginning of bytes: the reference's walks; texts as bytes.
-/
set_option linter.unusedVariables false
set_option linter.unusedSimpArgs false
set_option maxRecDepth 20000
namespace Go.Proofs.Ythgopkppmppdoaa
open Go Go.Proofs Go.Vc
open Go.RowKit (Below intOf)
open Go.Lib (BuilderAt IsBuilder byteCells)

def gotV (l : List UInt8) : Value := match takeN l with
  | some (n, r) => .agg #[.int .i64 n, .int .i64 ((l.length : Int) - r.length)]
  | none => .agg #[.int .i64 0, .int .i64 (-1)]

section
variable {w : World} {K : Value → World → Prop}

theorem zero211 (w : World) : (Instr.alloc 211 true (.tuple #[])).run Try.prog w = .ok (.pointer (some ⟨w.heap.size, 0, none⟩)) (w.alloc (.cells #[.int .i64 0, .int .i64 0] 211 (0, 0))) := by kernel_rfl
theorem build211 (a b : Int) (w : World) : (Instr.build 211 #[(0, .int .i64 a), (1, .int .i64 b)]).run Try.prog w = .ok (.agg #[.int .i64 a, .int .i64 b]) w := by kernel_rfl

/-- What the result of 'num' comes to. -/
theorem got_ret {g : Nat} {cs : List Value} (h : Blk w g 211 cs) (hl : cs.length = 2) (a b : Int) {w0 : World} (u : Ext w0 w) (hg : w0.heap.size ≤ g) (k : ∀ w', Ext w0 w' → K (.agg #[.int .i64 a, .int .i64 b]) w') :
    mN Try.prog (vS (Instr.build 211 #[(0, .int .i64 a), (1, .int .i64 b)])) w fun t18 w => mN Try.prog (uS (Instr.storeAt 211 (.pointer (some ⟨g, 0, none⟩)) t18)) w fun _ w =>
      mRes Try.prog (cellS 211 (.pointer (some ⟨g, 0, none⟩))) w fun r0 => K r0 w := by
  refine mN_v (build211 a b w) ?_
  refine mN_storeN (vs := [.int .i64 a, .int .i64 b]) (by kernel_rfl) h (by simp [hl]) (fun v hv => by simp at hv; rcases hv with rfl | rfl <;> rfl) fun w2 h2 u2 s2 => ?_
  rw [splice_all _ _ (by simp [hl])] at h2
  refine mRes.mk (.agg #[.int .i64 a, .int .i64 b]) ?_ (k w2 (u.trans u2 (fun _ _ x => x) fun i hi e => by omega))
  exact rdV_N (P := Try.prog) (w := w2) (T := 211) (n := 2) (by kernel_rfl) (by kernel_rfl) h2 (o := 0) (by simp)

/-- rectoref01.num, at the beginning -/
theorem rnum_c {l : List UInt8} (hl : l.length ≤ 9223372036854775807) (k : ∀ w', Ext w w' → K (gotV l) w') : mCall Try.prog 136 #[.string (ofL l), .int .i64 0] w K := by
  unfold gotV at k
  refine ⟨ok136 ?_⟩
  unfold sh136
  refine mN_new (zero211 w) fun w1 h1 u1 s1 => ?_
  have hret := fun (a b : Int) (k' : ∀ w', Ext w w' → K (.agg #[.int .i64 a, .int .i64 b]) w') => got_ret h1 rfl a b u1 (Nat.le_refl _) k'
  try simp only [push_cast, ofL_size]
  cases l with
  | nil =>
    have e : takeN [] = none := rfl
    rw [e] at k
    refine mIf_dec (fun _ => hret _ _ k) fun h => absurd (Int.le_refl 0) h
  | cons b r =>
    simp only [List.length_cons] at hl
    refine mIf_dec (fun h => by simp only [List.length_cons] at h; omega) fun _ => ?_
    have hb := b.toNat_lt
    have hi0 : ∀ w, (Instr.index 9 (.string (ofL (b :: r))) (.int .i64 0)).run Try.prog w = .ok (.int .u8 b.toNat) w := r_byte Try.underlying9 (b :: r) 0 b (by omega) rfl
    have hbw : IntKind.wrap .i64 (b.toNat : Int) = b.toNat := i64w _ (by omega) (by omega)
    refine mN_v (hi0 _) ?_
    try simp only [push_cast]
    refine mIf_dec (fun h6 => ?_) fun h6 => ?_
    · have e : takeN (b :: r) = none := if_pos (.inl (by omega))
      rw [e] at k
      exact hret _ _ k
    refine mN_v (hi0 _) ?_
    try simp only [push_cast, hbw]
    have e2 : IntKind.wrap .i64 (0 + 1) = 1 := rfl
    have e1' : IntKind.wrap .i64 (IntKind.wrap .i64 ((r.length : Int) + 1 - 0) - 1) = r.length := by
      rw [i64w ((r.length : Int) + 1 - 0) (by omega) (by omega), i64w _ (by omega) (by omega)]
      omega
    have hnone : (r.length < b.toNat ∨ (0 < b.toNat ∧ r.head? = some 0)) → takeN (b :: r) = none := fun h => if_pos (.inr (h.imp id .inl))
    refine mJ1_intro (fun x w' => w' = w1 ∧ x = .bool (decide (r.length < b.toNat ∨ (0 < b.toNat ∧ r.head? = some 0)))) (fun J hJ => ?_) ?_
    · try simp only [List.length_cons, push_cast, e1', e2]
      refine mIf_dec (fun h7 => hJ _ _ ⟨rfl, by rw [decide_eq_true (.inl (by omega))]⟩) fun h7 => ?_
      refine mIf_dec (fun h0 => ?_) fun h0 => hJ _ _ ⟨rfl, by rw [decide_eq_false (by rintro (h | ⟨h, _⟩) <;> omega)]⟩
      obtain ⟨c, t, rfl⟩ : ∃ c t, r = c :: t := by
        cases r with
        | nil => simp at h7; omega
        | cons c t => exact ⟨c, t, rfl⟩
      refine mN_v (r_byte Try.underlying9 (b :: c :: t) 1 c (by omega) rfl _) ?_
      try simp only [push_cast]
      refine hJ _ _ ⟨rfl, ?_⟩
      congr 1
      have hnl : ¬ (c :: t).length < b.toNat := by omega
      have hc : ((c.toNat : Int) == 0) = decide (c = 0) := by
        by_cases hc : c = 0
        · subst hc; rfl
        · simp only [hc, decide_false, beq_eq_false_iff_ne, ne_eq]
          intro hh
          exact hc (UInt8.toNat_inj.1 (by rw [show (0 : UInt8).toNat = 0 from rfl]; omega))
      rw [hc]
      have : (0 : Int) < b.toNat := h0
      have h0' : 0 < b.toNat := by omega
      rw [decide_eq_decide]
      constructor
      · intro h
        exact .inr ⟨h0', by rw [h]; rfl⟩
      · rintro (h | ⟨_, h⟩)
        · exact absurd h hnl
        · simpa using h
    rintro x w' ⟨rfl, rfl⟩
    refine mIf_dec (fun hbad => ?_) fun hok => ?_
    · rw [hnone hbad] at k
      exact hret _ _ k
    have hrb : b.toNat ≤ r.length := by
      rcases Nat.lt_or_ge r.length b.toNat with h | h
      · exact absurd (.inl h) hok
      · exact h
    have hlv : ∀ j : Nat, j ≤ 5 → valL (r.take j) < 1099511627776 := fun j h => valL_take_lt r j h
    refine mLoop2.mk (fun x y wr => ∃ j : Nat, x = .int .i64 (valL (r.take j) : Nat) ∧ y = .int .i64 j ∧ j ≤ b.toNat ∧ wr = w') (fun _ y _ => b.toNat - (intOf y).toNat) ?_ ?_
    · exact ⟨0, by simp [valL], rfl, by omega, rfl⟩
    rintro x y wr ⟨j, rfl, rfl, hj, rfl⟩
    try simp only [push_cast, e2]
    refine mIf_dec (fun hlt => ?_) fun hlt => ?_
    · obtain ⟨c, hc⟩ : ∃ c, r[j]? = some c := ⟨_, List.getElem?_eq_getElem (by omega)⟩
      have hcl := c.toNat_lt
      have hv := hlv j (by omega)
      rw [i64w (1 + (j : Int)) (by omega) (by omega), i64w ((j : Int) + 1) (by omega) (by omega), i64w ((valL (r.take j) : Int) * 256) (by omega) (by omega)]
      refine mN_v (r_byte Try.underlying9 (b :: r) (1 + (j : Int)) c (by omega) (by rw [show (1 + (j : Int)).toNat = j + 1 from by omega]; exact hc) _) ?_
      try simp only [push_cast]
      rw [i64w (c.toNat : Int) (by omega) (by omega), i64w _ (by omega) (by omega)]
      refine ⟨⟨j + 1, ?_, congrArg (Value.int .i64) (by omega), by omega, by first | rfl | trivial⟩, by simp only [intOf]; omega⟩
      rw [valL_take_succ hc]
      exact congrArg (Value.int .i64) (by omega)
    · obtain rfl : j = b.toNat := by omega
      refine mIf_dec (fun hm => ?_) fun hm => ?_
      · have e : takeN (b :: r) = none := if_pos (.inr (.inr (.inr (by omega))))
        rw [e] at k
        exact hret _ _ k
      · have e : takeN (b :: r) = some (valL (r.take b.toNat), r.drop b.toNat) := by
          unfold takeN
          simp only
          rw [if_neg]
          rintro (h1 | h1 | h1 | h1)
          · omega
          · omega
          · exact hok (.inr h1)
          · omega
        rw [e] at k
        rw [i64w (1 + (b.toNat : Int)) (by omega) (by omega)]
        refine hret _ _ ?_
        simp only [List.length_cons, List.length_drop] at k
        have e3 : 1 + (b.toNat : Int) = ((r.length + 1 : Nat) : Int) - ((r.length - b.toNat : Nat) : Int) := by omega
        rw [e3]
        exact k

/-- What is taken, as the reference has it. -/
def takenR (n : Int) (s r : ByteArray) (e : Int) : Value := .agg #[.int .i64 n, .string s, .slice none 0 0, .string r, .int .i64 e]
theorem zero195 (w : World) : (Instr.alloc 195 true (.tuple #[])).run Try.prog w = .ok (.pointer (some ⟨w.heap.size, 0, none⟩)) (w.alloc (.cells #[.int .i64 0, .string ⟨#[]⟩, .slice none 0 0, .string ⟨#[]⟩, .int .i64 0] 195 (0, 0))) := by kernel_rfl
theorem build195e (e : Int) (w : World) : (Instr.build 195 #[(4, .int .i64 e)]).run Try.prog w = .ok (takenR 0 ⟨#[]⟩ ⟨#[]⟩ e) w := by kernel_rfl
theorem build195n (n : Int) (r : ByteArray) (w : World) : (Instr.build 195 #[(0, .int .i64 n), (3, .string r)]).run Try.prog w = .ok (takenR n ⟨#[]⟩ r 0) w := by kernel_rfl
theorem build195s (s r : ByteArray) (w : World) : (Instr.build 195 #[(1, .string s), (3, .string r)]).run Try.prog w = .ok (takenR 0 s r 0) w := by kernel_rfl

theorem taken_ret {g : Nat} {cs : List Value} (h : Blk w g 195 cs) (hl : cs.length = 5) {n e : Int} {s r : ByteArray} {w0 : World} (u : Ext w0 w) (hg : w0.heap.size ≤ g) (k : ∀ w', Ext w0 w' → K (takenR n s r e) w') :
    mN Try.prog (uS (Instr.storeAt 195 (.pointer (some ⟨g, 0, none⟩)) (takenR n s r e))) w fun _ w => mRes Try.prog (cellS 195 (.pointer (some ⟨g, 0, none⟩))) w fun r0 => K r0 w := by
  refine mN_storeN (vs := [.int .i64 n, .string s, .slice none 0 0, .string r, .int .i64 e]) (by kernel_rfl) h (by simp [hl]) (fun v hv => by simp at hv; rcases hv with rfl | rfl | rfl | rfl | rfl <;> rfl) fun w2 h2 u2 s2 => ?_
  rw [splice_all _ _ (by simp [hl])] at h2
  refine mRes.mk (takenR n s r e) ?_ (k w2 (u.trans u2 (fun _ _ x => x) fun i hi e => by omega))
  exact rdV_N (P := Try.prog) (w := w2) (T := 195) (n := 5) (by kernel_rfl) (by kernel_rfl) h2 (o := 0) (by simp)

def rtakeNV (l : List UInt8) : Value := match takeN l with
  | some (n, r) => takenR n ⟨#[]⟩ (ofL r) 0
  | none => takenR 0 ⟨#[]⟩ ⟨#[]⟩ 4
def rtakeTV (l : List UInt8) : Value := match takeT l with
  | some (s, r) => takenR 0 (ofL s) (ofL r) 0
  | none => takenR 0 ⟨#[]⟩ ⟨#[]⟩ 4

theorem takeN_drop {l r : List UInt8} {n : Nat} (h : takeN l = some (n, r)) : l.drop (l.length - r.length) = r := by
  rw [(takeN_some h).2, List.length_append, Nat.add_sub_cancel, List.drop_append_of_le_length (Nat.le_refl _), List.drop_of_length_le (Nat.le_refl _)]; rfl

/-- rectoref01.TakeNum -/
theorem rtaken_c {l : List UInt8} (hl : l.length ≤ 9223372036854775807) (k : ∀ w', Ext w w' → K (rtakeNV l) w') : mCall Try.prog 129 #[.string (ofL l)] w K := by
  unfold rtakeNV at k
  refine ⟨ok129 ?_⟩
  unfold sh129
  refine mN_new (zero195 w) fun w1 h1 u1 s1 => ?_
  refine rnum_c hl fun w2 u2 => ?_
  have h2 := h1.keep u2 id
  refine mN_new (zero211 w2) fun w3 h3 u3 s3 => ?_
  have hs2 : w1.heap.size ≤ w2.heap.size := u2.size
  unfold gotV
  cases ht : takeN l with
  | none =>
    rw [ht] at k
    refine mN_storeN (vs := [.int .i64 0, .int .i64 (-1)]) (by kernel_rfl) h3 (by simp) (fun v hv => by simp at hv; rcases hv with rfl | rfl <;> rfl) fun w4 h4 u4 s4 => ?_
    rw [splice_all _ _ (by simp)] at h4
    have h5 := (h2.keep u3 id).keep u4 (by omega)
    have u5 : Ext w w4 := ((u1.ext u2).ext u3).trans u4 (fun _ _ x => x) fun i hi e => by omega
    try simp only [push_cast]
    refine mN_v (r_loadB _ (by kernel_rfl) h4 rfl) ?_
    try simp only [push_cast]
    refine mIf_dec (fun _ => ?_) fun h => absurd (by decide) h
    refine mN_v (build195e 4 _) ?_
    exact taken_ret h5 rfl u5 (Nat.le_refl _) k
  | some p =>
    obtain ⟨n, r⟩ := p
    rw [ht] at k
    have hrl := takeN_len ht
    refine mN_storeN (vs := [.int .i64 n, .int .i64 ((l.length : Int) - r.length)]) (by kernel_rfl) h3 (by simp) (fun v hv => by simp at hv; rcases hv with rfl | rfl <;> rfl) fun w4 h4 u4 s4 => ?_
    rw [splice_all _ _ (by simp)] at h4
    have h5 := (h2.keep u3 id).keep u4 (by omega)
    have u5 : Ext w w4 := ((u1.ext u2).ext u3).trans u4 (fun _ _ x => x) fun i hi e => by omega
    try simp only [push_cast]
    refine mN_v (r_loadB _ (by kernel_rfl) h4 rfl) ?_
    try simp only [push_cast]
    refine mIf_dec (fun h => by omega) fun _ => ?_
    unfold mDrew
    have h5 := h5.drew
    have h4 := h4.drew
    have u5 := u5.drewn
    generalize w4.drew = w5 at h4 h5 u5
    refine mR_v (r_loadB _ (by kernel_rfl) h4 rfl) ?_
    try simp only [push_cast]
    refine mR_v (r_loadB _ (by kernel_rfl) h4 rfl) ?_
    refine mP_v (fun w => r_sliceSl w Try.underlying9 _ _ (by omega) (by rw [ofL_size]; omega)) ?_
    rw [ofL_extract, ofL_size, show ((l.length : Int) - r.length).toNat = l.length - r.length from by omega, takeN_drop ht, List.take_of_length_le (by omega)]
    refine mP_v (build195n n (ofL r)) ?_
    exact taken_ret h5 rfl u5 (Nat.le_refl _) k

/-- rectoref01.TakeText -/
theorem rtaket_c {l : List UInt8} (hl : l.length ≤ 9223372036854775807) (k : ∀ w', Ext w w' → K (rtakeTV l) w') : mCall Try.prog 123 #[.string (ofL l)] w K := by
  unfold rtakeTV takeT at k
  refine ⟨ok123 ?_⟩
  unfold sh123
  refine mN_new (zero195 w) fun w1 h1 u1 s1 => ?_
  refine rnum_c hl fun w2 u2 => ?_
  have h2 := h1.keep u2 id
  refine mN_new (zero211 w2) fun w3 h3 u3 s3 => ?_
  have hs2 : w1.heap.size ≤ w2.heap.size := u2.size
  unfold gotV
  cases ht : takeN l with
  | none =>
    rw [ht] at k
    refine mN_storeN (vs := [.int .i64 0, .int .i64 (-1)]) (by kernel_rfl) h3 (by simp) (fun v hv => by simp at hv; rcases hv with rfl | rfl <;> rfl) fun w4 h4 u4 s4 => ?_
    rw [splice_all _ _ (by simp)] at h4
    have h5 := (h2.keep u3 id).keep u4 (by omega)
    have u5 : Ext w w4 := ((u1.ext u2).ext u3).trans u4 (fun _ _ x => x) fun i hi e => by omega
    try simp only [push_cast]
    refine mN_v (r_loadB _ (by kernel_rfl) h4 rfl) ?_
    try simp only [push_cast]
    refine mIf_dec (fun _ => ?_) fun h => absurd (by decide) h
    refine mN_v (build195e 4 _) ?_
    exact taken_ret h5 rfl u5 (Nat.le_refl _) k
  | some p =>
    obtain ⟨n, r⟩ := p
    rw [ht] at k
    simp only at k
    have hrl := takeN_len ht
    have hn40 := (takeN_some ht).1
    refine mN_storeN (vs := [.int .i64 n, .int .i64 ((l.length : Int) - r.length)]) (by kernel_rfl) h3 (by simp) (fun v hv => by simp at hv; rcases hv with rfl | rfl <;> rfl) fun w4 h4 u4 s4 => ?_
    rw [splice_all _ _ (by simp)] at h4
    have h5 := (h2.keep u3 id).keep u4 (by omega)
    have u5 : Ext w w4 := ((u1.ext u2).ext u3).trans u4 (fun _ _ x => x) fun i hi e => by omega
    try simp only [push_cast]
    refine mN_v (r_loadB _ (by kernel_rfl) h4 rfl) ?_
    try simp only [push_cast]
    refine mIf_dec (fun h => by omega) fun _ => ?_
    refine mN_v (r_loadB _ (by kernel_rfl) h4 rfl) ?_
    try simp only [push_cast]
    refine mIf_dec (fun h => ?_) fun hn1 => ?_
    · rw [if_pos (.inl (by omega))] at k
      refine mN_v (build195e 4 _) ?_
      exact taken_ret h5 rfl u5 (Nat.le_refl _) k
    refine mN_v (r_loadB _ (by kernel_rfl) h4 rfl) ?_
    try simp only [push_cast, ofL_size]
    refine mN_v (r_loadB _ (by kernel_rfl) h4 rfl) ?_
    try simp only [push_cast, ofL_size]
    rw [i64w _ (by omega) (by omega)]
    refine mIf_dec (fun h => ?_) fun hn2 => ?_
    · rw [if_pos (.inr (by omega))] at k
      refine mN_v (build195e 4 _) ?_
      exact taken_ret h5 rfl u5 (Nat.le_refl _) k
    rw [if_neg (by omega)] at k
    unfold mDrew
    have h5 := h5.drew
    have h4 := h4.drew
    have u5 := u5.drewn
    generalize w4.drew = w5 at h4 h5 u5
    refine mR_v (r_loadB _ (by kernel_rfl) h4 rfl) ?_
    try simp only [push_cast]
    refine mR_v (r_loadB _ (by kernel_rfl) h4 rfl) ?_
    try simp only [push_cast]
    refine mR_v (r_loadB _ (by kernel_rfl) h4 rfl) ?_
    try simp only [push_cast]
    rw [i64w _ (by omega) (by omega)]
    refine mP_v (fun w => r_sliceS w Try.underlying9 _ _ _ (by omega) (by omega) (by rw [ofL_size]; omega)) ?_
    refine mR_v (r_loadB _ (by kernel_rfl) h4 rfl) ?_
    try simp only [push_cast]
    refine mR_v (r_loadB _ (by kernel_rfl) h4 rfl) ?_
    try simp only [push_cast]
    rw [i64w _ (by omega) (by omega)]
    refine mP_v (fun w => r_sliceSl w Try.underlying9 _ _ (by omega) (by rw [ofL_size]; omega)) ?_
    rw [ofL_extract, ofL_extract, ofL_size, show ((l.length : Int) - r.length).toNat = l.length - r.length from by omega, takeN_drop ht,
      show ((l.length : Int) - r.length + n).toNat - (l.length - r.length) = n from by omega, show ((l.length : Int) - r.length + n).toNat = (l.length - r.length) + n from by omega, ← List.drop_drop, takeN_drop ht,
      List.take_of_length_le (l := r.drop n) (by simp; omega)]
    refine mP_v (build195s (ofL (r.take n)) (ofL (r.drop n))) ?_
    exact taken_ret h5 rfl u5 (Nat.le_refl _) k
end
end Go.Proofs.Ythgopkppmppdoaa

/-
  Texts as bytes: package quill, and the reference.
-/
set_option linter.unusedVariables false
set_option linter.unusedSimpArgs false
set_option maxRecDepth 20000
namespace Go.Proofs.Ythgopkppmppdoaa
open Go Go.Proofs Go.Vc
open Go.RowKit (Below intOf)
open Go.Lib (BuilderAt IsBuilder byteCells)

section
variable {w : World} {K : Value → World → Prop}

def takenTV (l : List UInt8) : Value := match takeT l with
  | some (s, r) => .tuple #[.string (ofL s), .string (ofL r), .int .i64 0]
  | none => .tuple #[.string ⟨#[]⟩, .string ⟨#[]⟩, .int .i64 4]

/-- quill.TakeText -/
theorem taket_c {l : List UInt8} (hl : l.length ≤ 9223372036854775807) (k : ∀ w', Ext w w' → K (takenTV l) w') : mCall Try.prog 125 #[.string (ofL l)] w K := by
  unfold takenTV takeT at k
  refine ⟨ok125 ?_⟩
  unfold sh125
  refine taken_c hl fun w1 u1 => ?_
  unfold takenV
  cases ht : takeN l with
  | none =>
    rw [ht] at k
    try simp only [push_cast]
    exact k w1 u1
  | some p =>
    obtain ⟨n, r⟩ := p
    rw [ht] at k
    simp only at k
    try simp only [push_cast, bne_self_eq_false, ofL_size]
    refine mIf_dec (fun h => ?_) fun h => ?_
    · rw [if_pos (.inl (by omega))] at k
      exact k w1 u1
    refine mIf_dec (fun h2 => ?_) fun h2 => ?_
    · rw [if_pos (.inr (by omega))] at k
      exact k w1 u1
    rw [if_neg (by omega)] at k
    unfold mDrew
    refine mP_v (fun w => r_sliceSh w Try.underlying9 _ _ (by omega) (by rw [ofL_size]; omega)) ?_
    refine mP_v (fun w => r_sliceSl w Try.underlying9 _ _ (by omega) (by rw [ofL_size]; omega)) ?_
    rw [ofL_extract, ofL_extract, ofL_size, Int.toNat_natCast, List.drop_zero, Nat.sub_zero, List.take_of_length_le (l := r.drop n) (by simp)]
    exact k _ u1.drewn

/-- rectoref01.Text -/
theorem rtext_c {s : List UInt8} (hl : s.length ≤ 9223372036854775807) (k0 : 65536 < s.length → K (.tuple #[.string ⟨#[]⟩, .int .i64 2]) w) (k1 : s.length ≤ 65536 → ∀ w', Ext w w' → K (.tuple #[.string (ofL (textL s)), .int .i64 0]) w') :
    mCall Try.prog 109 #[.string (ofL s)] w K := by
  refine ⟨ok109 ?_⟩
  unfold sh109
  try simp only [push_cast, ofL_size]
  refine mIf_dec (fun h => k0 (by omega)) fun h => ?_
  refine rplain_c s.length (by omega) fun w1 u1 => ?_
  have h6 := digL_len6 (n := s.length) (by omega)
  refine mN_v (r_addS _ _ _ _ (by rw [ofL_size, ofL_size]; simp [plainL]; omega)) ?_
  rw [ofL_append]
  exact k1 (by omega) w1 u1

theorem zero153 (w : World) : (Instr.alloc 153 true (.tuple #[])).run Try.prog w = .ok (.pointer (some ⟨w.heap.size, 0, none⟩)) (w.alloc (.cells #[.pointer none, .slice none 0 0] 153 (0, 0))) := by kernel_rfl

theorem builder_new {b : Nat} (h : Blk w b 153 [.pointer none, .slice none 0 0]) : IsBuilder 153 5 b b [] w :=
  .inl ⟨Nat.le_refl _, _, h, ⟨rfl, .inl ⟨rfl, rfl⟩⟩, fun hf => by cases hf⟩

/-- quill.Text -/
theorem qtext_c {s : List UInt8} (hl : s.length ≤ 9223372036854775807) (k0 : 65536 < s.length → ∀ w', Ext w w' → K (.tuple #[.string ⟨#[]⟩, .int .i64 2]) w') (k1 : s.length ≤ 65536 → ∀ w', Ext w w' → K (.tuple #[.string (ofL (textL s)), .int .i64 0]) w') :
    mCall Try.prog 100 #[.string (ofL s)] w K := by
  refine ⟨ok100 ?_⟩
  unfold sh100
  have hsl : (Instr.buildSlice 67 1 #[(0, .string (ofL s))]).run Try.prog w = .ok (.slice (some ⟨w.heap.size, 0, none⟩) 1 1) (w.alloc (.cells #[.string (ofL s)] 9 (0, 0))) := by kernel_rfl
  refine mN_new hsl fun w1 h1 u1 s1 => ?_
  refine ⟨ok126 ?_⟩
  unfold sh126
  refine mN_new (zero153 w1) fun w2 h2 u2 s2 => ?_
  have h1' := h1.keep u2 id
  have a2 : Ext w w2 := u1.ext u2
  try simp only [push_cast]
  refine mLoop1.mk (fun x wr => (x = .int .i64 0 ∧ wr = w2) ∨ (x = .int .i64 1 ∧ s.length ≤ 65536 ∧ IsBuilder 153 5 w1.heap.size w1.heap.size (byteCells (textL s)) wr ∧ Below w1.heap.size w2 wr)) (fun x _ => 1 - (intOf x).toNat) (.inl ⟨rfl, rfl⟩) ?_
  rintro x wr (⟨rfl, rfl⟩ | ⟨rfl, h65, hb, bel⟩)
  · try simp only [push_cast]
    refine mIf_dec (fun _ => ?_) fun h => absurd (by decide) h
    refine mN_v (r_indexAt wr (sz := 1) Try.underlying67 (by kernel_rfl) w.heap.size 0 1 1 0 (by omega) (by omega)) ?_
    refine mN_v (r_loadB _ (by kernel_rfl) h1' rfl) ?_
    try simp only [push_cast, ofL_size]
    refine mIf_dec (fun h => k0 (by omega) wr a2) fun h => ?_
    have h6 := digL_len6 (n := s.length) (by omega)
    refine num_c (s.length : Nat) (fun h => by omega) fun _ _ w3 u3 => ?_
    rw [Int.toNat_natCast]
    try simp only [push_cast]
    refine mN_v (r_addS _ _ _ _ (by rw [ofL_size, ofL_size]; simp [plainL]; omega)) ?_
    rw [ofL_append]
    have hb3 := builder_new (h2.keep u3 id)
    have hs3 := u3.size
    have htl : (plainL s.length ++ s).length ≤ 70000 := by simp [plainL]; omega
    refine write_c (l := []) (s := ofL (plainL s.length ++ s)) hb3 (by omega) (by rw [ofL_size]; simp only [List.length_nil]; omega) fun w4 hb4 bel4 => ?_
    have bel3 : Below w1.heap.size wr w3 := ⟨u3.os, u3.tape, u3.output, u3.size, fun i hi => u3.old i (by omega) id⟩
    exact ⟨.inr ⟨rfl, by omega, hb4, bel3.trans bel4⟩, by decide⟩
  · try simp only [push_cast]
    refine mIf_dec (fun h => absurd h (by decide)) fun _ => ?_
    have hsz := bel.size
    have ext0 : ∀ {w' : World}, Below w1.heap.size wr w' → Ext w w' := fun {w'} b' => by
      have b2 := bel.trans b'
      have b3 : Upd w2 w' (w1.heap.size ≤ ·) := ⟨b2.os, b2.tape, b2.output, b2.size, fun i hi hn => b2.block i (by
        have : ¬ w1.heap.size ≤ i := hn
        omega)⟩
      exact a2.trans b3 (fun _ _ x => x) fun i hi hF => by
        have : w1.heap.size ≤ i := hF
        omega
    refine mCall_kit (Try.Builder_String_any w1.heap.size w1.heap.size (textL s) wr hb (by omega)) fun w5 b5 => ?_
    try simp only [push_cast]
    exact k1 h65 w5 (ext0 b5)
end
end Go.Proofs.Ythgopkppmppdoaa
