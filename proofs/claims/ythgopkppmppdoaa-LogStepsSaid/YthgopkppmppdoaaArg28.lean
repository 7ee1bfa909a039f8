/-
  Layer 28's steps, as an argument has them.
-/
import Derived.Test.YthgopkppmppdoaaArg27
import Derived.Test.YthgopkppmppdoaaSlotBack
set_option linter.unusedVariables false
set_option linter.unusedSimpArgs false
set_option maxRecDepth 20000
namespace Go.Proofs.Ythgopkppmppdoaa
open Go Go.Proofs Go.Vc

structure Step28 where
  what : Int
  at_ : Int
  s : SM
  byte : UInt8
  cut : Bool
  keep : List Int
def step28C (s : Step28) (v : Value) : List Value := [.int .i64 s.what, .int .i64 s.at_, .int .i64 s.s.number, .int .i64 s.s.region, .int .i64 s.s.bytes, .int .i64 s.s.records, .int .u8 s.byte.toNat, .bool s.cut, v]
def isStep28 (fp : Nat → Prop) (w : World) (cs : List Value) (s : Step28) : Prop :=
  ∃ v, cs = step28C s v ∧ s.at_ ≤ 9223372036854775807 ∧ Ints w v s.keep fp
theorem isStep28_stable (fp : Nat → Prop) : Stable fp (isStep28 fp) := fun w w' F cs x u hn h => by
  obtain ⟨v, e, ha, hk⟩ := h
  exact ⟨v, e, ha, hk.keep u hn⟩

section
variable {H : Type} {enc : TypeId × Value → H} {w : World} {spare : Nat → Bool} {held : Bool}
theorem open_step28 : ∀ n cs y, DataW.trod enc Try.prog w 0 spare held n 78 cs = some y → ∃ s, isStep28 (· < w.heap.size) w cs s := fun n cs y h => by
  obtain ⟨xs, m, _, _, hl, hxl, hf⟩ := DataW.trod_struct Try.underlying78 h
  have hl9 : cs.length = 9 := hl.trans (by kernel_rfl)
  match cs, hl9 with
  | [c0, c1, c2, c3, c4, c5, c6, c7, c8], _ =>
    have e (i : Nat) (hi : i < 6) : ∃ z, xs[i]? = some z := ⟨_, List.getElem?_eq_getElem (by rw [hxl]; exact hi)⟩
    obtain ⟨z0, e0⟩ := e 0 (by omega)
    obtain ⟨z1, e1⟩ := e 1 (by omega)
    obtain ⟨z2, e2⟩ := e 2 (by omega)
    obtain ⟨z3, e3⟩ := e 3 (by omega)
    obtain ⟨z4, e4⟩ := e 4 (by omega)
    obtain ⟨z5, e5⟩ := e 5 (by omega)
    have f0 : DataW.trod enc Try.prog w 0 spare held m 3 (([c0, c1, c2, c3, c4, c5, c6, c7, c8].drop 0).take (Try.prog.cellsOf 3)) = xs[0]? := hf 0 _ rfl
    have f1 : DataW.trod enc Try.prog w 0 spare held m 3 (([c0, c1, c2, c3, c4, c5, c6, c7, c8].drop 1).take (Try.prog.cellsOf 3)) = xs[1]? := hf 1 _ rfl
    have f2 : DataW.trod enc Try.prog w 0 spare held m 50 (([c0, c1, c2, c3, c4, c5, c6, c7, c8].drop 2).take (Try.prog.cellsOf 50)) = xs[2]? := hf 2 _ rfl
    have f3 : DataW.trod enc Try.prog w 0 spare held m 5 (([c0, c1, c2, c3, c4, c5, c6, c7, c8].drop 6).take (Try.prog.cellsOf 5)) = xs[3]? := hf 3 _ rfl
    have f4 : DataW.trod enc Try.prog w 0 spare held m 4 (([c0, c1, c2, c3, c4, c5, c6, c7, c8].drop 7).take (Try.prog.cellsOf 4)) = xs[4]? := hf 4 _ rfl
    have f5 : DataW.trod enc Try.prog w 0 spare held m 35 (([c0, c1, c2, c3, c4, c5, c6, c7, c8].drop 8).take (Try.prog.cellsOf 35)) = xs[5]? := hf 5 _ rfl
    rw [show Try.prog.cellsOf 3 = 1 from by kernel_rfl] at f0 f1
    rw [show Try.prog.cellsOf 50 = 4 from by kernel_rfl] at f2
    rw [show Try.prog.cellsOf 5 = 1 from by kernel_rfl] at f3
    rw [show Try.prog.cellsOf 4 = 1 from by kernel_rfl] at f4
    rw [show Try.prog.cellsOf 35 = 1 from by kernel_rfl] at f5
    rw [e0] at f0
    rw [e1] at f1
    rw [e2] at f2
    rw [e3] at f3
    rw [e4] at f4
    rw [e5] at f5
    obtain ⟨a0, g0, _, w0⟩ := DataW.trod_int Try.underlying3 f0
    obtain ⟨a1, g1, _, w1⟩ := DataW.trod_int Try.underlying3 f1
    obtain ⟨s2, g2⟩ := open_slot _ _ _ f2
    obtain ⟨a3, g3, _, w3⟩ := DataW.trod_int Try.underlying5 f3
    obtain ⟨a4, g4, _⟩ := DataW.trod_bool Try.underlying4 f4
    obtain ⟨v, l, g5, hv⟩ := open_arr (sz := 1) Try.underlying35 (by kernel_rfl) (by decide) (open_isInt Try.underlying3) f5
    obtain ⟨b, rfl⟩ := u8_of w3
    injection g0 with g0
    injection g1 with g1
    injection g3 with g3
    injection g4 with g4
    injection g5 with g5
    have g2 : [c2, c3, c4, c5] = slotC s2 := g2
    simp only [slotC, List.cons.injEq, and_true] at g2
    obtain ⟨h2, h3, h4, h5⟩ := g2
    subst g0 g1 g3 g4 g5 h2 h3 h4 h5
    exact ⟨⟨a0, a1, s2, b, a4, l⟩, _, rfl, i64_le w1, hv⟩
end
end Go.Proofs.Ythgopkppmppdoaa
