/-
  DiskArms: the walk.
-/
import Derived.Test.YthgopkppmppdoaaLaw27a
set_option linter.unusedVariables false
set_option linter.unusedSimpArgs false
set_option maxRecDepth 20000
namespace Go.Proofs.Ythgopkppmppdoaa
open Go Go.Proofs Go.Vc
open Go.RowKit (Below intOf)

theorem nOf_nil (k : Nat) : nOf [] k = 0 := by simp [nOf]
theorem fallTo_nil (bl : Bl) (ws : List (Int × List ByteArray)) (hw : ∀ x ∈ ws, x.1.toNat < bl.length) : ∀ j, fallTo bl ws [] j = bl
  | 0 => rfl
  | j + 1 => by
    unfold fallTo
    split
    · rename_i x hx
      rw [fallTo_nil bl ws hw j, nOf_nil]
      have := hw x (List.mem_of_getElem? hx)
      unfold fallOne mixB
      rw [List.take_zero, List.drop_zero, List.nil_append, List.getD_eq_getElem?_getD, List.getElem?_eq_getElem this]
      show bl.set x.1.toNat bl[x.1.toNat] = bl
      exact List.set_getElem_self this
    · exact fallTo_nil bl ws hw j

/-- Where a disk stands when so many writes of the law were done. -/
structure ArmsAt (after : Int) (cut : Bool) (i : Nat) (off : Bool) (D : DM) : Prop where
  len : D.blocks.length = 8
  wn : D.waits.length ≤ i
  ahead : off = false → (i : Int) ≤ after ∧ D.armed = true ∧ D.after = after - i ∧ D.cut = cut ∧ D.keep = [] ∧ D.down = false ∧ D.blocks = List.replicate 8 zeroB
  win : ∀ x ∈ D.waits, x.1.toNat < 8
  behind : off = true → after < i ∧ (cut = false → D.armed = false ∧ D.down = false) ∧ (cut = true → D.down = true ∧ D.waits = [])

def armsWant (after : Int) (cut : Bool) (i : Nat) : Int := if cut = true ∧ after ≤ i then 271 else if (i : Int) = after ∧ cut = false then 270 else 0

theorem arms_step {after : Int} {cut off : Bool} {i : Nat} {D : DM} (h : ArmsAt after cut i off D) (at_ : Int) (h0 : 0 ≤ at_) (h7 : at_ ≤ 7) (s : ByteArray) (hs : s.size = 256) :
    (D.write at_ s).1 = armsWant after cut i ∧ ArmsAt after cut (i + 1) (off || decide ((i : Int) = after)) (D.write at_ s).2 := by
  have hin : ¬ (¬ (0 ≤ at_ ∧ at_ < D.blocks.length) ∨ s.size ≠ 256) := by rw [h.len]; simp [hs]; omega
  cases off with
  | false =>
    obtain ⟨a1, a2, a3, a4, a5, a6, a7⟩ := h.ahead rfl
    by_cases hia : (i : Int) = after
    · have hz : ¬ 0 < D.after := by omega
      cases cut with
      | false =>
        have e : D.write at_ s = (270, { D with armed := false }) := by
          unfold DM.write
          rw [if_neg hin, if_neg (by simp [a6])]
          simp [DM.goes, a2, hz, a4]
        rw [e]
        refine ⟨by simp [armsWant, hia], ⟨h.len, by have := h.wn; show D.waits.length ≤ i + 1; omega, fun hh => by simp [hia] at hh, h.win, fun _ => ⟨by omega, fun _ => ⟨rfl, a6⟩, fun hh => by cases hh⟩⟩⟩
      | true =>
        have e : D.write at_ s = (271, { D with armed := false }.fall D.keep) := by
          unfold DM.write
          rw [if_neg hin, if_neg (by simp [a6])]
          simp [DM.goes, a2, hz, a4]
        rw [e]
        refine ⟨by simp [armsWant, hia], ⟨by show (fallTo _ _ _ _).length = 8; rw [fallTo_length]; exact h.len, Nat.zero_le _, fun hh => by simp [hia] at hh, fun x hx => (by cases hx), fun _ => ⟨by omega, (fun hh => by cases hh), fun _ => ⟨rfl, rfl⟩⟩⟩⟩
    · have hz : 0 < D.after := by omega
      have e : D.write at_ s = (0, { D with after := D.after - 1, waits := D.waits ++ [(at_, cutS s)] }) := by
        unfold DM.write
        rw [if_neg hin, if_neg (by simp [a6])]
        simp [DM.goes, a2, hz]
      rw [e]
      refine ⟨?_, ⟨h.len, ?_, fun _ => ⟨by omega, a2, ?_, a4, a5, a6, a7⟩, fun x hx => ?_, fun hh => by simp [hia] at hh⟩⟩
      · unfold armsWant
        rw [if_neg (by omega), if_neg (by omega)]
      · show (D.waits ++ [(at_, cutS s)]).length ≤ i + 1
        have := h.wn
        simp
        omega
      · show D.after - 1 = _
        omega
      · rcases List.mem_append.1 hx with hx | hx
        · exact h.win x hx
        · rw [List.mem_singleton] at hx
          subst hx
          show at_.toNat < 8
          omega
  | true =>
    obtain ⟨b1, b2, b3⟩ := h.behind rfl
    cases cut with
    | false =>
      obtain ⟨c1, c2⟩ := b2 rfl
      have e : D.write at_ s = (0, { D with waits := D.waits ++ [(at_, cutS s)] }) := by
        unfold DM.write
        rw [if_neg hin, if_neg (by simp [c2])]
        simp [DM.goes, c1]
      rw [e]
      refine ⟨?_, ⟨h.len, ?_, (fun hh => by simp at hh), fun x hx => ?_, fun _ => ⟨by omega, fun _ => ⟨c1, c2⟩, fun hh => by cases hh⟩⟩⟩
      · unfold armsWant
        rw [if_neg (by simp), if_neg (by omega)]
      · show (D.waits ++ [(at_, cutS s)]).length ≤ i + 1
        have := h.wn
        simp
        omega
      · rcases List.mem_append.1 hx with hx | hx
        · exact h.win x hx
        · rw [List.mem_singleton] at hx
          subst hx
          show at_.toNat < 8
          omega
    | true =>
      obtain ⟨c1, c2⟩ := b3 rfl
      have e : D.write at_ s = (271, D) := by
        unfold DM.write
        rw [if_neg hin, if_pos c1]
      rw [e]
      refine ⟨?_, ⟨h.len, by have := h.wn; show D.waits.length ≤ i + 1; omega, (fun hh => by simp at hh), h.win, fun _ => ⟨by omega, (fun hh => by cases hh), fun _ => ⟨c1, c2⟩⟩⟩⟩
      unfold armsWant
      rw [if_pos ⟨rfl, by omega⟩]

/-- What the last flush does. -/
theorem arms_flush {after : Int} {cut off : Bool} {n : Nat} {D : DM} (h : ArmsAt after cut n off D) (hno : (cut && off) = false) :
    (D.flush.1 = 0 ↔ ¬ (off = false ∧ after = n)) ∧ D.flush.2.waits = [] ∧ (off = false ∧ after = n → D.flush.2.blocks = List.replicate 8 zeroB) := by
  cases off with
  | false =>
    obtain ⟨a1, a2, a3, a4, a5, a6, a7⟩ := h.ahead rfl
    by_cases hia : after = n
    · have hz : ¬ 0 < D.after := by omega
      cases cut with
      | false =>
        have e : D.flush = (270, { D with armed := false, waits := [] }) := by
          unfold DM.flush
          rw [if_neg (by simp [a6])]
          simp [DM.goes, a2, hz, a4]
        rw [e]
        exact ⟨by simp [hia], rfl, fun _ => a7⟩
      | true =>
        have e : D.flush = (271, { { D with armed := false }.fall D.keep with waits := [] }) := by
          unfold DM.flush
          rw [if_neg (by simp [a6])]
          simp [DM.goes, a2, hz, a4]
        rw [e]
        refine ⟨by simp [hia], rfl, fun _ => ?_⟩
        show fallTo D.blocks D.waits D.keep _ = _
        rw [a5, fallTo_nil _ _ fun x hx => by rw [h.len]; exact h.win x hx, a7]
    · have hz : 0 < D.after := by omega
      have e : D.flush.1 = 0 ∧ D.flush.2.waits = [] := by
        unfold DM.flush
        rw [if_neg (by simp [a6])]
        simp [DM.goes, a2, hz]
      exact ⟨by simp [e.1, hia], e.2, fun hh => absurd hh.2 hia⟩
  | true =>
    obtain ⟨b1, b2, b3⟩ := h.behind rfl
    cases cut with
    | false =>
      obtain ⟨c1, c2⟩ := b2 rfl
      have e : D.flush.1 = 0 ∧ D.flush.2.waits = [] := by
        unfold DM.flush
        rw [if_neg (by simp [c2])]
        simp [DM.goes, c1]
      exact ⟨by simp [e.1], e.2, fun hh => by cases hh.1⟩
    | true => cases hno
end Go.Proofs.Ythgopkppmppdoaa
