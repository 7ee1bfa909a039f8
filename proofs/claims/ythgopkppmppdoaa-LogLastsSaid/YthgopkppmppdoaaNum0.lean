/-
  Numbers as bytes: the plain laws.
-/
import Derived.Test.YthgopkppmppdoaaLib2
set_option linter.unusedVariables false
set_option linter.unusedSimpArgs false
namespace Go.Vc
open Go

/-- The bytes of a list. -/
def ofL (l : List UInt8) : ByteArray := ⟨l.toArray⟩
theorem ofL_size (l : List UInt8) : (ofL l).size = l.length := rfl
theorem ofL_data (l : List UInt8) : (ofL l).data.toList = l := rfl
theorem ofL_append (a b : List UInt8) : ofL a ++ ofL b = ofL (a ++ b) := by
  apply ByteArray.ext
  rw [ByteArray.data_append]
  show a.toArray ++ b.toArray = _
  rw [List.append_toArray]
  rfl
theorem ofL_extract (l : List UInt8) (i j : Nat) : (ofL l).extract i j = ofL ((l.drop i).take (j - i)) := by
  apply ByteArray.ext
  rw [ByteArray.data_extract]
  show l.toArray.extract i j = _
  rw [List.extract_toArray, List.extract_eq_take_drop]
  rfl
theorem ofL_get (l : List UInt8) (i : Nat) (h : i < (ofL l).size) : (ofL l)[i] = l[i]'h := rfl
theorem ofL_inj {a b : List UInt8} : ofL a = ofL b ↔ a = b := ⟨fun h => by simpa [ofL] using h, fun h => by rw [h]⟩
theorem ofL_beq (a b : List UInt8) : ((ofL a).toList == (ofL b).toList) = (a == b) := by
  rw [ByteArray.toList_eq, ByteArray.toList_eq]
  rfl
theorem ofL_of (s : ByteArray) : ∃ l, s = ofL l := ⟨s.data.toList, rfl⟩
theorem bytes_beq (a b : ByteArray) : (a.toList == b.toList) = decide (a = b) := by
  obtain ⟨a, rfl⟩ := ofL_of a
  obtain ⟨b, rfl⟩ := ofL_of b
  rw [ofL_beq]
  by_cases h : a = b
  · simp [h]
  · simp [h, ofL_inj]
theorem mIf_eqS {a b : ByteArray} {A B : Prop} (ha : a = b → A) (hb : ¬ a = b → B) : mIf (.bool (a.toList == b.toList)) A B := by
  rw [bytes_beq]
  exact mIf_dec ha hb
theorem mIf_neS {a b : ByteArray} {A B : Prop} (ha : ¬ a = b → A) (hb : a = b → B) : mIf (.bool (!(a.toList == b.toList))) A B := by
  rw [bytes_beq]
  by_cases h : a = b
  · simp only [h, decide_true, Bool.not_true]
    exact hb h
  · simp only [h, decide_false, Bool.not_false]
    exact ha h

/-- The digits of a number to the base 256. -/
def digL (n : Nat) : List UInt8 := if h : n = 0 then [] else digL (n / 256) ++ [UInt8.ofNat (n % 256)]
termination_by n
decreasing_by omega
theorem digL_zero : digL 0 = [] := by rw [digL]; simp
theorem digL_pos {n : Nat} (h : n ≠ 0) : digL n = digL (n / 256) ++ [UInt8.ofNat (n % 256)] := by
  conv => lhs; rw [digL]
  simp [h]
theorem digL_len : ∀ (k n : Nat), n < 256 ^ k → (digL n).length ≤ k
  | 0, n, h => by
    have : n = 0 := by simpa using h
    subst this
    simp [digL_zero]
  | k + 1, n, h => by
    by_cases h0 : n = 0
    · subst h0
      simp [digL_zero]
    · rw [digL_pos h0, List.length_append]
      have := digL_len k (n / 256) (by rw [Nat.pow_succ] at h; omega)
      simp
      omega
def plainL (n : Nat) : List UInt8 := UInt8.ofNat (digL n).length :: digL n

theorem snocRec {α : Type} {motive : List α → Prop} (nil : motive []) (append_singleton : ∀ l a, motive l → motive (l ++ [a])) (l : List α) : motive l := by
  rw [← List.reverse_reverse l]
  induction l.reverse with
  | nil => exact nil
  | cons x l ih =>
    rw [List.reverse_cons]
    exact append_singleton _ _ ih
def valL (l : List UInt8) : Nat := l.foldl (fun n b => n * 256 + b.toNat) 0
theorem valL_snoc (l : List UInt8) (b : UInt8) : valL (l ++ [b]) = valL l * 256 + b.toNat := by simp [valL]
theorem valL_nil : valL [] = 0 := rfl
theorem valL_digL (n : Nat) : valL (digL n) = n := by
  induction n using Nat.strongRecOn with
  | _ n ih =>
    by_cases h : n = 0
    · subst h; rw [digL_zero]; rfl
    · rw [digL_pos h, valL_snoc, ih (n / 256) (by omega)]
      have : (UInt8.ofNat (n % 256)).toNat = n % 256 := by rw [UInt8.toNat_ofNat']; omega
      omega
theorem valL_lt (l : List UInt8) : valL l < 256 ^ l.length := by
  induction l using snocRec with
  | nil => simp [valL]
  | append_singleton l b ih =>
    rw [valL_snoc, List.length_append]
    have := b.toNat_lt
    simp [Nat.pow_succ]
    omega
theorem valL_head_pos {l : List UInt8} (h : l ≠ []) (h0 : l.head? ≠ some 0) : 0 < valL l := by
  induction l using snocRec with
  | nil => exact absurd rfl h
  | append_singleton l b ih =>
    rw [valL_snoc]
    by_cases hl : l = []
    · subst hl
      have hb : b ≠ 0 := by simpa using h0
      have : b.toNat ≠ 0 := fun e => hb (UInt8.toNat_inj.1 e)
      omega
    · have := ih hl (by
        cases l with
        | nil => exact absurd rfl hl
        | cons x l => simpa using h0)
      omega
/-- Without a zero ahead the digits are those of the value. -/
theorem digL_valL {l : List UInt8} (h0 : l.head? ≠ some 0) : digL (valL l) = l := by
  induction l using snocRec with
  | nil => rw [valL_nil, digL_zero]
  | append_singleton l b ih =>
    rw [valL_snoc]
    have hb := b.toNat_lt
    have hd : (valL l * 256 + b.toNat) / 256 = valL l := by omega
    have hm : (valL l * 256 + b.toNat) % 256 = b.toNat := by omega
    have hpos : valL l * 256 + b.toNat ≠ 0 := by
      have := valL_head_pos (l := l ++ [b]) (by simp) h0
      rw [valL_snoc] at this
      omega
    rw [digL_pos hpos, hd, hm, UInt8.ofNat_toNat]
    congr 1
    by_cases hl : l = []
    · subst hl; rw [valL_nil, digL_zero]
    · refine ih ?_
      cases l with
      | nil => exact absurd rfl hl
      | cons x l => simpa using h0
theorem digL_head (n : Nat) : (digL n).head? ≠ some 0 := by
  induction n using Nat.strongRecOn with
  | _ n ih =>
    by_cases h : n = 0
    · subst h; rw [digL_zero]; simp
    · rw [digL_pos h]
      by_cases h1 : n / 256 = 0
      · rw [h1, digL_zero]
        intro hh
        have hh : UInt8.ofNat (n % 256) = 0 := by simpa using hh
        have : (UInt8.ofNat (n % 256)).toNat = 0 := by rw [hh]; rfl
        rw [UInt8.toNat_ofNat'] at this
        omega
      · have := ih (n / 256) (by omega)
        rw [digL_pos h1] at this ⊢
        intro hh
        apply this
        simpa using hh

/-- A number off the beginning. -/
def takeN (l : List UInt8) : Option (Nat × List UInt8) :=
  match l with
  | [] => none
  | k :: r => if 6 < k.toNat ∨ r.length < k.toNat ∨ (0 < k.toNat ∧ r.head? = some 0) ∨ 1099511627776 < valL (r.take k.toNat) then none else some (valL (r.take k.toNat), r.drop k.toNat)

theorem digL_len6 {n : Nat} (h : n ≤ 1099511627776) : (digL n).length ≤ 6 := digL_len 6 n (by omega)
theorem takeN_plain {n : Nat} (h : n ≤ 1099511627776) (r : List UInt8) : takeN (plainL n ++ r) = some (n, r) := by
  have h6 := digL_len6 h
  have hk : (UInt8.ofNat (digL n).length).toNat = (digL n).length := by rw [UInt8.toNat_ofNat']; omega
  unfold plainL takeN
  simp only [List.cons_append, hk]
  rw [List.take_append_of_le_length (Nat.le_refl _), List.take_of_length_le (Nat.le_refl _), valL_digL, if_neg]
  · rw [List.drop_append_of_le_length (Nat.le_refl _), List.drop_of_length_le (Nat.le_refl _)]; rfl
  · rintro (h1 | h1 | ⟨h1, h2⟩ | h1)
    · omega
    · simp at h1; omega
    · have := digL_head n
      cases hd : digL n with
      | nil => rw [hd] at h1; simp at h1
      | cons x l => rw [hd] at h2 this; exact this (by simpa using h2)
    · omega
theorem takeN_some {l r : List UInt8} {n : Nat} (h : takeN l = some (n, r)) : n ≤ 1099511627776 ∧ l = plainL n ++ r := by
  unfold takeN at h
  split at h
  · cases h
  · rename_i k t
    split at h
    · cases h
    · rename_i hno
      simp only [Option.some.injEq, Prod.mk.injEq] at h
      obtain ⟨rfl, rfl⟩ := h
      simp only [not_or, not_and, Nat.not_lt] at hno
      obtain ⟨h6, hl, h0, hm⟩ := hno
      have hlen : (t.take k.toNat).length = k.toNat := by simp; omega
      have hh : (t.take k.toNat).head? ≠ some 0 := by
        intro hh
        cases hk : k.toNat with
        | zero => rw [hk] at hh; simp at hh
        | succ m =>
          cases t with
          | nil => simp at hh
          | cons x t => rw [hk] at hh; exact h0 (by omega) (by simpa using hh)
      refine ⟨hm, ?_⟩
      unfold plainL
      rw [digL_valL hh, hlen, UInt8.ofNat_toNat, List.cons_append, List.take_append_drop]
theorem takeN_len {l r : List UInt8} {n : Nat} (h : takeN l = some (n, r)) : r.length < l.length := by
  rw [(takeN_some h).2]
  simp [plainL]
  omega

/-- A text off the beginning. -/
def takeT (l : List UInt8) : Option (List UInt8 × List UInt8) :=
  match takeN l with
  | none => none
  | some (n, r) => if 65536 < n ∨ r.length < n then none else some (r.take n, r.drop n)
def textL (s : List UInt8) : List UInt8 := plainL s.length ++ s
theorem takeT_text {s : List UInt8} (h : s.length ≤ 65536) (r : List UInt8) : takeT (textL s ++ r) = some (s, r) := by
  unfold takeT textL
  rw [List.append_assoc, takeN_plain (by omega)]
  simp only
  rw [if_neg (by simp; omega), List.take_append_of_le_length (Nat.le_refl _), List.take_of_length_le (Nat.le_refl _), List.drop_append_of_le_length (Nat.le_refl _), List.drop_of_length_le (Nat.le_refl _)]
  rfl
theorem takeT_some {l s r : List UInt8} (h : takeT l = some (s, r)) : s.length ≤ 65536 ∧ l = textL s ++ r := by
  unfold takeT at h
  cases hn : takeN l with
  | none => rw [hn] at h; cases h
  | some p =>
    obtain ⟨n, t⟩ := p
    rw [hn] at h
    simp only at h
    split at h
    · cases h
    · rename_i hno
      simp only [Option.some.injEq, Prod.mk.injEq] at h
      obtain ⟨rfl, rfl⟩ := h
      have hl : (t.take n).length = n := by simp; omega
      refine ⟨by omega, ?_⟩
      unfold textL
      rw [hl, (takeN_some hn).2, List.append_assoc, List.take_append_drop]
theorem textL_len (s : List UInt8) : (textL s).length = s.length + 1 + (digL s.length).length := by
  simp [textL, plainL]; omega
end Go.Vc
