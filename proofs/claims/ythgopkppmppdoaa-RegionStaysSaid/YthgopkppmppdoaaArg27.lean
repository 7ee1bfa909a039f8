/-
  Layer 27's steps, as an argument has them.
-/
import Derived.Test.YthgopkppmppdoaaSh0
import Derived.Test.YthgopkppmppdoaaArr
import Derived.Test.YthgopkppmppdoaaRowLib
set_option linter.unusedVariables false
set_option linter.unusedSimpArgs false
set_option maxRecDepth 20000
namespace Go.Proofs.Ythgopkppmppdoaa
open Go Go.Proofs Go.Vc

structure Step27 where
  what : Int
  at_ : Int
  byte : UInt8
  cut : Bool
  keep : List Int
def isStep27 (fp : Nat → Prop) (w : World) (cs : List Value) (s : Step27) : Prop :=
  ∃ v, cs = [.int .i64 s.what, .int .i64 s.at_, .int .u8 s.byte.toNat, .bool s.cut, v] ∧ s.at_ ≤ 9223372036854775807 ∧ Ints w v s.keep fp
theorem isStep27_stable (fp : Nat → Prop) : Stable fp (isStep27 fp) := fun w w' F cs x u hn h => by
  obtain ⟨v, e, ha, hk⟩ := h
  exact ⟨v, e, ha, hk.keep u hn⟩

section
variable {H : Type} {enc : TypeId × Value → H} {w : World} {spare : Nat → Bool} {held : Bool}
theorem open_step27 : ∀ n cs y, DataW.trod enc Try.prog w 0 spare held n 37 cs = some y → ∃ s, isStep27 (· < w.heap.size) w cs s := fun n cs y h => by
  obtain ⟨xs, m, _, _, hl, hxl, hf⟩ := DataW.trod_struct Try.underlying37 h
  have hl5 : cs.length = 5 := hl.trans (by kernel_rfl)
  match cs, hl5 with
  | [c0, c1, c2, c3, c4], _ =>
    have e (i : Nat) (hi : i < 5) : ∃ z, xs[i]? = some z := ⟨_, List.getElem?_eq_getElem (by rw [hxl]; exact hi)⟩
    obtain ⟨z0, e0⟩ := e 0 (by omega)
    obtain ⟨z1, e1⟩ := e 1 (by omega)
    obtain ⟨z2, e2⟩ := e 2 (by omega)
    obtain ⟨z3, e3⟩ := e 3 (by omega)
    obtain ⟨z4, e4⟩ := e 4 (by omega)
    have f0 : DataW.trod enc Try.prog w 0 spare held m 3 (([c0, c1, c2, c3, c4].drop 0).take (Try.prog.cellsOf 3)) = xs[0]? := hf 0 _ rfl
    have f1 : DataW.trod enc Try.prog w 0 spare held m 3 (([c0, c1, c2, c3, c4].drop 1).take (Try.prog.cellsOf 3)) = xs[1]? := hf 1 _ rfl
    have f2 : DataW.trod enc Try.prog w 0 spare held m 5 (([c0, c1, c2, c3, c4].drop 2).take (Try.prog.cellsOf 5)) = xs[2]? := hf 2 _ rfl
    have f3 : DataW.trod enc Try.prog w 0 spare held m 4 (([c0, c1, c2, c3, c4].drop 3).take (Try.prog.cellsOf 4)) = xs[3]? := hf 3 _ rfl
    have f4 : DataW.trod enc Try.prog w 0 spare held m 35 (([c0, c1, c2, c3, c4].drop 4).take (Try.prog.cellsOf 35)) = xs[4]? := hf 4 _ rfl
    rw [show Try.prog.cellsOf 3 = 1 from by kernel_rfl] at f0 f1
    rw [show Try.prog.cellsOf 5 = 1 from by kernel_rfl] at f2
    rw [show Try.prog.cellsOf 4 = 1 from by kernel_rfl] at f3
    rw [show Try.prog.cellsOf 35 = 1 from by kernel_rfl] at f4
    rw [e0] at f0
    rw [e1] at f1
    rw [e2] at f2
    rw [e3] at f3
    rw [e4] at f4
    obtain ⟨a0, g0, _, w0⟩ := DataW.trod_int Try.underlying3 f0
    obtain ⟨a1, g1, _, w1⟩ := DataW.trod_int Try.underlying3 f1
    obtain ⟨a2, g2, _, w2⟩ := DataW.trod_int Try.underlying5 f2
    obtain ⟨a3, g3, _⟩ := DataW.trod_bool Try.underlying4 f3
    obtain ⟨v, l, g4, hv⟩ := open_arr (sz := 1) Try.underlying35 (by kernel_rfl) (by decide) (open_isInt Try.underlying3) f4
    obtain ⟨b, rfl⟩ := u8_of w2
    injection g0 with g0
    injection g1 with g1
    injection g2 with g2
    injection g3 with g3
    injection g4 with g4
    subst g0 g1 g2 g3 g4
    exact ⟨⟨a0, a1, b, a3, l⟩, _, rfl, i64_le w1, hv⟩
end
end Go.Proofs.Ythgopkppmppdoaa
