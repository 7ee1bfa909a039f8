/-
  strings.Builder: what its small functions do, where the shelf's contracts were not laid at this translation.
-/
import Derived.Test.YthgopkppmppdoaaShelf
import Derived.Test.YthgopkppmppdoaaSh2
import Derived.Test.YthgopkppmppdoaaSh3
import Derived.Test.YthgopkppmppdoaaRul
import Derived.Lib.AppendStr
set_option linter.unusedVariables false
set_option maxRecDepth 20000
namespace Go.Proofs.Ythgopkppmppdoaa
open Go Go.Proofs Go.Vc
open Go.Lib (BuilderAt IsBuilder byteCells)
open Go.RowKit (Below)

def bptr (b : Nat) : Value := .pointer (some ⟨b, 0, none⟩)

theorem noEscape (w : World) (v : Value) : (callFunc 135 #[v]).run Try.prog w = .ok (.value v) w := by
  kernel_rfl

/-- A contract of the kit's, as a step. -/
theorem mCall_kit {P : Program} {f : FuncId} {args : Array Value} {w : World} {K : Value → World → Prop} {v : Value} {Q : World → Prop}
    (h : Calls P f args w fun e w' => e = .returned v ∧ Q w') (k : ∀ w', Q w' → K v w') : mCall P f args w K :=
  ⟨h.mono fun e w' ⟨he, hq⟩ => by subst he; exact k w' hq⟩
theorem ext_of_below {w w' : World} (h : Below w.heap.size w w') : Ext w w' := ⟨h.os, h.tape, h.output, h.size, fun k hk _ => h.block k hk⟩
theorem below_of_ext {w w' : World} (h : Ext w w') : Below w.heap.size w w' := ⟨h.os, h.tape, h.output, h.size, fun k hk => h.old k hk id⟩

section
variable {w : World} {K : Value → World → Prop} {B b : Nat}

theorem bld_blk {p : Value} {bs : List Value} (h : BuilderAt 153 5 B b p bs w) : ∃ v, Blk w b 153 [p, v] ∧ w.ownsRow B 5 1 v bs.length bs ∧ ¬ Fp v b := by
  obtain ⟨hB, v, hb, hr, hne⟩ := h
  exact ⟨v, hb, hr, hne⟩
theorem size153 : ((Try.prog.info? 153).getD default).size = 2 := by kernel_rfl

theorem copyCheck_c {bs : List Value} (h : IsBuilder 153 5 B b bs w)
    (k : ∀ w', BuilderAt 153 5 B b (bptr b) bs w' → Below B w w' → w'.heap.size = w.heap.size → K (.tuple #[]) w') : mCall Try.prog 122 #[bptr b] w K := by
  refine ⟨ok122 ?_⟩
  unfold sh122
  rcases h with h | h
  · obtain ⟨v, hb, hr, hne⟩ := bld_blk h
    unfold bptr
    try simp only [push_cast]
    refine mN_v (r_loadB _ (by kernel_rfl) hb rfl) ?_
    try simp only [push_cast, Option.isNone_none]
    have hsh := h.shape
    refine mN_v (Lib.run_to_unsafe w (t := 153) (j := (Try.prog.info? 153).getD default) ⟨b, 0, none⟩ Try.underlying151 Try.underlying208 (by kernel_rfl) (by rw [size153]; decide) hsh Nat.zero_lt_two) ?_
    refine mN_ok (noEscape _ _) ?_
    refine mN_v (Lib.run_from_unsafe w (u := 153) (j := (Try.prog.info? 153).getD default) ⟨b, 0, none⟩ Try.underlying208 Try.underlying151 (by kernel_rfl) hsh (by kernel_rfl)) ?_

    try simp only [push_cast]
    refine mN_store1 (by kernel_rfl) hb (by simp) rfl fun w' hb1 hu hs => ?_
    refine k w' ⟨h.1, v, hb1, own_keep hr hu fun g hg e => hne (e ▸ hg), hne⟩ ⟨hu.os, hu.tape, hu.output, hu.size, fun i hi => hu.old i (by have := hb.lt; have := h.1; omega) (by have := h.1; omega)⟩ hs
  · obtain ⟨v, hb, hr, hne⟩ := bld_blk h
    unfold bptr
    try simp only [push_cast]
    refine mN_v (r_loadB _ (by kernel_rfl) hb rfl) ?_
    try simp only [push_cast, Option.isNone_some]
    refine mN_v (r_loadB _ (by kernel_rfl) hb rfl) ?_
    have heq : (eqS .neq 151 false false (.pointer (some ⟨b, 0, none⟩)) (.pointer (some ⟨b, 0, none⟩))).run Try.prog w = .ok (.bool false) w := by
      rw [eqG _ _ _ _ _ _ _ trivial]
      exact Lib.run_neq_ptr_same w (te := 153) (j := (Try.prog.info? 153).getD default) ⟨b, 0, none⟩ Try.underlying151 (by kernel_rfl)
    refine mN_v heq ?_
    try simp only [push_cast]
    exact k w h (Below.refl _ _) rfl

theorem write_c {l : List UInt8} {s : ByteArray} (h : IsBuilder 153 5 B b (byteCells l) w) (hB : B ≤ w.heap.size) (hl : l.length + s.size ≤ 140737488355328)
    (k : ∀ w', IsBuilder 153 5 B b (byteCells (l ++ s.data.toList)) w' → Below B w w' → K (.tuple #[.int .i64 s.size, .nilIface]) w') : mCall Try.prog 93 #[bptr b, .string s] w K := by
  refine ⟨ok93 ?_⟩
  unfold sh93
  refine copyCheck_c h fun w1 h1 hb1 hs1 => ?_
  obtain ⟨v, hv, hr, hne⟩ := bld_blk h1
  unfold bptr
  try simp only [push_cast]
  refine mN_v (r_loadB _ (by kernel_rfl) hv rfl) ?_
  have hbl : (byteCells l).length = l.length := by simp [byteCells]
  obtain ⟨v', w2, h2, h3, h4, _⟩ := Lib.run_append_own_string (P := Try.prog) w1 B 52 9 52 5 ((Try.prog.info? 5).getD default) Try.underlying52 Try.underlying9 (by kernel_rfl) (by kernel_rfl) (by kernel_rfl) (by kernel_rfl)
    v (byteCells l).length (byteCells l) hr s (by unfold maxLen; omega) (by omega) (by omega)
  refine mN_ok (v := v') (w' := w2) (by simp [builtin, h2]) ?_
  have u2 : Upd w1 w2 (Fp v) := ⟨h4.os, h4.tape, h4.output, h4.size, fun i hi hn => h4.block i hi fun e => hn e.symm⟩
  have hv2 : Blk w2 b 153 [bptr b, v] := hv.keep u2 hne
  try simp only [push_cast]
  have hne2 : ¬ Fp v' b := by
    intro hf
    rcases (Row.of_own h3).form with ⟨rfl, _⟩ | ⟨g, cap, cs, rfl, hg, _⟩
    · cases hf
    · have : g = b := by simpa [Fp, Value.ownBlock] using hf
      subst this
      exact absurd (hg.inj hv2).1 (by decide)
  have ho : v'.oneCell' = true := by
    obtain ⟨A, c, rfl⟩ := (Row.of_own h3).slice
    rfl
  refine mN_store1 (by kernel_rfl) hv2 (by simp) ho fun w3 hv3 u3 hs3 => ?_
  try simp only [push_cast]
  have hcell : byteCells l ++ Lib.strCells s = byteCells (l ++ s.data.toList) := by
    simp [byteCells, Lib.strCells]
  rw [hcell] at h3
  have hlen : (byteCells l).length + s.size = (byteCells (l ++ s.data.toList)).length := by
    simp [byteCells]
  rw [hlen] at h3
  have hB2 : B ≤ b := h1.1
  refine k w3 (.inr ⟨hB2, v', hv3, own_keep h3 u3 fun g hg e => hne2 (e ▸ hg), hne2⟩) (hb1.trans ((Below.mk h4.os h4.tape h4.output h4.size fun i hi => u2.old i (by omega) fun hf => ?_).trans
    ⟨u3.os, u3.tape, u3.output, u3.size, fun i hi => u3.old i (by have := h4.size; omega) (by omega)⟩))
  have := own_young hr hf
  omega
end

end Go.Proofs.Ythgopkppmppdoaa
