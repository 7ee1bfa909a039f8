/-
  Texts as bytes: package quill, and the reference.
-/
import Derived.Test.YthgopkppmppdoaaNum3
set_option linter.unusedVariables false
set_option linter.unusedSimpArgs false
set_option maxRecDepth 20000
namespace Go.Proofs.Ythgopkppmppdoaa
open Go Go.Proofs Go.Vc
open Go.RowKit (Below intOf)
open Go.Lib (BuilderAt IsBuilder byteCells)

section
variable {w : World} {K : Value → World → Prop}

def takenTV (l : List UInt8) : Value := match takeT l with
  | some (s, r) => .tuple #[.string (ofL s), .string (ofL r), .int .i64 0]
  | none => .tuple #[.string ⟨#[]⟩, .string ⟨#[]⟩, .int .i64 4]

/-- quill.TakeText -/
theorem taket_c {l : List UInt8} (hl : l.length ≤ 9223372036854775807) (k : ∀ w', Ext w w' → K (takenTV l) w') : mCall Try.prog 125 #[.string (ofL l)] w K := by
  unfold takenTV takeT at k
  refine ⟨ok125 ?_⟩
  unfold sh125
  refine taken_c hl fun w1 u1 => ?_
  unfold takenV
  cases ht : takeN l with
  | none =>
    rw [ht] at k
    try simp only [push_cast]
    exact k w1 u1
  | some p =>
    obtain ⟨n, r⟩ := p
    rw [ht] at k
    simp only at k
    try simp only [push_cast, bne_self_eq_false, ofL_size]
    refine mIf_dec (fun h => ?_) fun h => ?_
    · rw [if_pos (.inl (by omega))] at k
      exact k w1 u1
    refine mIf_dec (fun h2 => ?_) fun h2 => ?_
    · rw [if_pos (.inr (by omega))] at k
      exact k w1 u1
    rw [if_neg (by omega)] at k
    unfold mDrew
    refine mP_v (fun w => r_sliceSh w Try.underlying9 _ _ (by omega) (by rw [ofL_size]; omega)) ?_
    refine mP_v (fun w => r_sliceSl w Try.underlying9 _ _ (by omega) (by rw [ofL_size]; omega)) ?_
    rw [ofL_extract, ofL_extract, ofL_size, Int.toNat_natCast, List.drop_zero, Nat.sub_zero, List.take_of_length_le (l := r.drop n) (by simp)]
    exact k _ u1.drewn

/-- rectoref01.Text -/
theorem rtext_c {s : List UInt8} (hl : s.length ≤ 9223372036854775807) (k0 : 65536 < s.length → K (.tuple #[.string ⟨#[]⟩, .int .i64 2]) w) (k1 : s.length ≤ 65536 → ∀ w', Ext w w' → K (.tuple #[.string (ofL (textL s)), .int .i64 0]) w') :
    mCall Try.prog 109 #[.string (ofL s)] w K := by
  refine ⟨ok109 ?_⟩
  unfold sh109
  try simp only [push_cast, ofL_size]
  refine mIf_dec (fun h => k0 (by omega)) fun h => ?_
  refine rplain_c s.length (by omega) fun w1 u1 => ?_
  have h6 := digL_len6 (n := s.length) (by omega)
  refine mN_v (r_addS _ _ _ _ (by rw [ofL_size, ofL_size]; simp [plainL]; omega)) ?_
  rw [ofL_append]
  exact k1 (by omega) w1 u1

theorem zero153 (w : World) : (Instr.alloc 153 true (.tuple #[])).run Try.prog w = .ok (.pointer (some ⟨w.heap.size, 0, none⟩)) (w.alloc (.cells #[.pointer none, .slice none 0 0] 153 (0, 0))) := by kernel_rfl

theorem builder_new {b : Nat} (h : Blk w b 153 [.pointer none, .slice none 0 0]) : IsBuilder 153 5 b b [] w :=
  .inl ⟨Nat.le_refl _, _, h, ⟨rfl, .inl ⟨rfl, rfl⟩⟩, fun hf => by cases hf⟩

/-- quill.Text -/
theorem qtext_c {s : List UInt8} (hl : s.length ≤ 9223372036854775807) (k0 : 65536 < s.length → ∀ w', Ext w w' → K (.tuple #[.string ⟨#[]⟩, .int .i64 2]) w') (k1 : s.length ≤ 65536 → ∀ w', Ext w w' → K (.tuple #[.string (ofL (textL s)), .int .i64 0]) w') :
    mCall Try.prog 100 #[.string (ofL s)] w K := by
  refine ⟨ok100 ?_⟩
  unfold sh100
  have hsl : (Instr.buildSlice 67 1 #[(0, .string (ofL s))]).run Try.prog w = .ok (.slice (some ⟨w.heap.size, 0, none⟩) 1 1) (w.alloc (.cells #[.string (ofL s)] 9 (0, 0))) := by kernel_rfl
  refine mN_new hsl fun w1 h1 u1 s1 => ?_
  refine ⟨ok126 ?_⟩
  unfold sh126
  refine mN_new (zero153 w1) fun w2 h2 u2 s2 => ?_
  have h1' := h1.keep u2 id
  have a2 : Ext w w2 := u1.ext u2
  try simp only [push_cast]
  refine mLoop1.mk (fun x wr => (x = .int .i64 0 ∧ wr = w2) ∨ (x = .int .i64 1 ∧ s.length ≤ 65536 ∧ IsBuilder 153 5 w1.heap.size w1.heap.size (byteCells (textL s)) wr ∧ Below w1.heap.size w2 wr)) (fun x _ => 1 - (intOf x).toNat) (.inl ⟨rfl, rfl⟩) ?_
  rintro x wr (⟨rfl, rfl⟩ | ⟨rfl, h65, hb, bel⟩)
  · try simp only [push_cast]
    refine mIf_dec (fun _ => ?_) fun h => absurd (by decide) h
    refine mN_v (r_indexAt wr (sz := 1) Try.underlying67 (by kernel_rfl) w.heap.size 0 1 1 0 (by omega) (by omega)) ?_
    refine mN_v (r_loadB _ (by kernel_rfl) h1' rfl) ?_
    try simp only [push_cast, ofL_size]
    refine mIf_dec (fun h => k0 (by omega) wr a2) fun h => ?_
    have h6 := digL_len6 (n := s.length) (by omega)
    refine num_c (s.length : Nat) (fun h => by omega) fun _ _ w3 u3 => ?_
    rw [Int.toNat_natCast]
    try simp only [push_cast]
    refine mN_v (r_addS _ _ _ _ (by rw [ofL_size, ofL_size]; simp [plainL]; omega)) ?_
    rw [ofL_append]
    have hb3 := builder_new (h2.keep u3 id)
    have hs3 := u3.size
    have htl : (plainL s.length ++ s).length ≤ 70000 := by simp [plainL]; omega
    refine write_c (l := []) (s := ofL (plainL s.length ++ s)) hb3 (by omega) (by rw [ofL_size]; simp only [List.length_nil]; omega) fun w4 hb4 bel4 => ?_
    have bel3 : Below w1.heap.size wr w3 := ⟨u3.os, u3.tape, u3.output, u3.size, fun i hi => u3.old i (by omega) id⟩
    exact ⟨.inr ⟨rfl, by omega, hb4, bel3.trans bel4⟩, by decide⟩
  · try simp only [push_cast]
    refine mIf_dec (fun h => absurd h (by decide)) fun _ => ?_
    have hsz := bel.size
    have ext0 : ∀ {w' : World}, Below w1.heap.size wr w' → Ext w w' := fun {w'} b' => by
      have b2 := bel.trans b'
      have b3 : Upd w2 w' (w1.heap.size ≤ ·) := ⟨b2.os, b2.tape, b2.output, b2.size, fun i hi hn => b2.block i (by
        have : ¬ w1.heap.size ≤ i := hn
        omega)⟩
      exact a2.trans b3 (fun _ _ x => x) fun i hi hF => by
        have : w1.heap.size ≤ i := hF
        omega
    refine mCall_kit (Try.Builder_String_any w1.heap.size w1.heap.size (textL s) wr hb (by omega)) fun w5 b5 => ?_
    try simp only [push_cast]
    exact k1 h65 w5 (ext0 b5)
end
end Go.Proofs.Ythgopkppmppdoaa
