/-
  Slots: the plain laws.
-/
import Derived.Test.YthgopkppmppdoaaNum0
set_option linter.unusedVariables false
set_option linter.unusedSimpArgs false
namespace Go.Vc
open Go

structure SM where
  number : Int
  region : Int
  bytes : Int
  records : Int

def SM.zero : SM := ⟨0, 0, 0, 0⟩
def SM.right (s : SM) : Bool := decide (1 ≤ s.number ∧ s.number ≤ 1099511627776 ∧ (s.region = 0 ∨ s.region = 1) ∧ 0 ≤ s.bytes ∧ s.bytes ≤ 65536 ∧ 0 ≤ s.records ∧ s.records ≤ 65536)
theorem SM.right_iff {s : SM} : s.right = true ↔ (1 ≤ s.number ∧ s.number ≤ 1099511627776 ∧ (s.region = 0 ∨ s.region = 1) ∧ 0 ≤ s.bytes ∧ s.bytes ≤ 65536 ∧ 0 ≤ s.records ∧ s.records ≤ 65536) := by simp [SM.right]

def SM.next (c s : SM) : SM := ⟨c.number + 1, s.region, s.bytes, s.records⟩
def SM.one : SM := ⟨1, 0, 0, 0⟩
def magicL : List UInt8 := [114, 99, 116, 111]
def headL (s : SM) : List UInt8 := magicL ++ plainL s.number.toNat ++ plainL s.region.toNat ++ plainL s.bytes.toNat ++ plainL s.records.toNat
def padL (l : List UInt8) : List UInt8 := l ++ List.replicate (256 - l.length) 0
def blockL (s : SM) : List UInt8 := padL (headL s)

theorem plainL_len (n : Nat) : (plainL n).length = (digL n).length + 1 := rfl
theorem plainL_le {n : Nat} (h : n ≤ 1099511627776) : (plainL n).length ≤ 7 := by
  have := digL_len6 h
  rw [plainL_len]
  omega
theorem headL_len {s : SM} (h : s.right = true) : (headL s).length ≤ 32 := by
  obtain ⟨h1, h2, h3, h4, h5, h6, h7⟩ := SM.right_iff.1 h
  have a1 := plainL_le (n := s.number.toNat) (by omega)
  have a2 := plainL_le (n := s.region.toNat) (by omega)
  have a3 := plainL_le (n := s.bytes.toNat) (by omega)
  have a4 := plainL_le (n := s.records.toNat) (by omega)
  simp only [headL, List.length_append, magicL, List.length_cons, List.length_nil]
  omega
theorem padL_len {l : List UInt8} (h : l.length ≤ 256) : (padL l).length = 256 := by
  simp only [padL, List.length_append, List.length_replicate]
  omega
theorem blockL_len {s : SM} (h : s.right = true) : (blockL s).length = 256 := padL_len (by have := headL_len h; omega)

/-- The slot of a block. -/
def readL (l : List UInt8) : Option SM :=
  if l.length = 256 ∧ l.take 4 = magicL then
    match takeN (l.drop 4) with
    | none => none
    | some (n, r1) => match takeN r1 with
      | none => none
      | some (g, r2) => match takeN r2 with
        | none => none
        | some (b, r3) => match takeN r3 with
          | none => none
          | some (c, _) => if (SM.mk n g b c).right = true ∧ (blockL ⟨n, g, b, c⟩).take 64 = l.take 64 then some ⟨n, g, b, c⟩ else none
  else none

theorem readL_right {l : List UInt8} {s : SM} (h : readL l = some s) : s.right = true ∧ (blockL s).take 64 = l.take 64 := by
  unfold readL at h
  repeat' split at h
  all_goals first
    | (cases h; done)
    | (rename_i hh; injection h with h; subst h; exact hh)

theorem readL_back {s : SM} (hs : s.right = true) {l : List UInt8} (hl : l.length = 256) (h : l.take 64 = (blockL s).take 64) : readL l = some s := by
  have hh := headL_len hs
  obtain ⟨h1, h2, h3, h4, h5, h6, h7⟩ := SM.right_iff.1 hs
  have hlt : l.take (headL s).length = headL s := by
    have e1 : (l.take 64).take (headL s).length = l.take (headL s).length := by rw [List.take_take]; congr 1; omega
    have e2 : ((blockL s).take 64).take (headL s).length = headL s := by
      rw [List.take_take, Nat.min_eq_left (by omega)]
      unfold blockL padL
      rw [List.take_append_of_le_length (Nat.le_refl _), List.take_of_length_le (Nat.le_refl _)]
    rw [← e1, h, e2]
  obtain ⟨t, ht⟩ : ∃ t, l = headL s ++ t := ⟨l.drop (headL s).length, by conv => lhs; rw [← List.take_append_drop (headL s).length l, hlt]⟩
  have e4 : l.take 4 = magicL := by rw [ht]; rfl
  have e5 : l.drop 4 = plainL s.number.toNat ++ (plainL s.region.toNat ++ (plainL s.bytes.toNat ++ (plainL s.records.toNat ++ t))) := by
    rw [ht]
    simp [headL, magicL, List.append_assoc]
  unfold readL
  rw [if_pos ⟨hl, e4⟩, e5, takeN_plain (by omega)]
  simp only
  rw [takeN_plain (by omega)]
  simp only
  rw [takeN_plain (by omega)]
  simp only
  rw [takeN_plain (by omega)]
  have es : (SM.mk (s.number.toNat : Int) s.region.toNat s.bytes.toNat s.records.toNat) = s := by
    obtain ⟨a, b, c, d⟩ := s
    simp only [SM.mk.injEq]
    simp only at h1 h2 h3 h4 h5 h6 h7
    refine ⟨?_, ?_, ?_, ?_⟩ <;> omega
  simp only [es]
  rw [if_pos ⟨hs, h.symm⟩]
theorem readL_block {s : SM} (hs : s.right = true) : readL (blockL s) = some s := readL_back hs (blockL_len hs) rfl
theorem readL_none {l : List UInt8} (h : ¬ (l.length = 256 ∧ l.take 4 = magicL)) : readL l = none := if_neg h
theorem readL_inj {l : List UInt8} {s t : SM} (hs : s.right = true) (hl : l.length = 256) (h : l.take 64 = (blockL s).take 64) (ht : readL l = some t) : t = s := by
  rw [readL_back hs hl h] at ht
  injection ht with ht
  exact ht.symm

/-- Behind the first sector a slot's block is empty. -/
theorem blockL_zero {s : SM} (hs : s.right = true) {i : Nat} (h1 : 64 ≤ i) (h2 : i < 256) : (blockL s)[i]? = some 0 := by
  have hh := headL_len hs
  unfold blockL padL
  rw [List.getElem?_append_right (by omega), List.getElem?_replicate, if_pos (by omega)]
end Go.Vc
