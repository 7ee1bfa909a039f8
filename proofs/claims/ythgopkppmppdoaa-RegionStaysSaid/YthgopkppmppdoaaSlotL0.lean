/-
  SlotLasts: the plain law: behind a put, whatever fails and whatever lasts, the slot that was put counts, or the one that counted ahead.
-/
import Derived.Test.YthgopkppmppdoaaSlotM
set_option linter.unusedVariables false
set_option linter.unusedSimpArgs false
set_option maxRecDepth 20000
namespace Go.Proofs.Ythgopkppmppdoaa
open Go Go.Proofs Go.Vc

theorem read_blocks {D D' : DM} (hw : D.waits = []) (hw' : D'.waits = []) (hd : D.down = false) (hd' : D'.down = false) (hl : D'.blocks.length = D.blocks.length) {i : Int} (hb : D'.blocks.getD i.toNat [] = D.blocks.getD i.toNat []) : D'.read i = D.read i := by
  unfold DM.read
  rw [hw, hw', hd, hd', hl, hb]
theorem read_up {D : DM} (hw : D.waits = []) (hd : D.down = false) {i : Int} (h0 : 0 ≤ i) (h1 : i < D.blocks.length) : D.read i = (joined (D.blocks.getD i.toNat []), 0) := by
  unfold DM.read
  rw [if_neg (by omega), if_neg (by simp [hd]), hw]
  rfl

/-- A disk of slots that is up, and of which nothing waits. -/
structure Calm (D : DM) (a : SM) (at_ : Int) : Prop where
  w : D.waits = []
  d : D.down = false
  l : 4 ≤ D.blocks.length
  s : ∀ b ∈ D.blocks, Sec b
  c : D.choose = (a, at_, 0)

theorem Calm.right {D : DM} {a : SM} {at_ : Int} (h : Calm D a at_) : a.right = true ∧ (at_ = 0 ∨ at_ = 1) := by
  have := choose_right (D := D) (by rw [h.c])
  rw [h.c] at this
  exact this

/-- Which of the two it is. -/
theorem choose_at {D : DM} {a : SM} {at_ : Int} (h : D.choose = (a, at_, 0)) : (at_ = 0 ∧ rd D 0 = some a) ∨ (at_ = 1 ∧ rd D 1 = some a) := by
  unfold DM.choose at h
  split at h
  · rename_i h0
    simp only [Prod.mk.injEq] at h
    exact absurd h.2.2 h0
  · split at h
    · rename_i h0
      simp only [Prod.mk.injEq] at h
      exact absurd h.2.2 h0
    · split at h
      · simp only [Prod.mk.injEq] at h
        exact absurd h.2.2 (by decide)
      · rename_i hn
        simp only [Prod.mk.injEq, and_true] at h
        obtain ⟨h1, h2⟩ := h
        cases hr0 : rd D 0 with
        | none =>
          cases hr1 : rd D 1 with
          | none => rw [hr0, hr1] at hn; exact absurd (by decide) hn
          | some b =>
            rw [hr0, hr1] at h1 h2 hn
            have e : best1 none (some b) = if (0 : Int) < b.number then (b, 1) else (SM.zero, -1) := rfl
            have hb := (SM.right_iff.1 (readL_right hr1).1).1
            rw [e, if_pos (by omega)] at h1 h2
            exact .inr ⟨h2.symm, by rw [← h1]⟩
        | some c =>
          cases hr1 : rd D 1 with
          | none =>
            rw [hr0, hr1] at h1 h2
            exact .inl ⟨h2.symm, by rw [← h1]; rfl⟩
          | some b =>
            rw [hr0, hr1] at h1 h2
            have e : best1 (some c) (some b) = if c.number < b.number then (b, 1) else (c, 0) := rfl
            rw [e] at h1 h2
            split at h1
            · rename_i hlt
              rw [if_pos hlt] at h2
              exact .inr ⟨h2.symm, by rw [← h1]⟩
            · rename_i hlt
              rw [if_neg hlt] at h2
              exact .inl ⟨h2.symm, by rw [← h1]⟩

theorem Calm.same {D D' : DM} {a : SM} {at_ : Int} (h : Calm D a at_) (hb : D'.blocks = D.blocks) (hw : D'.waits = []) (hd : D'.down = false) : Calm D' a at_ := by
  have hr : ∀ i, D'.read i = D.read i := fun i => read_blocks h.w hw h.d hd (by rw [hb]) (by rw [hb])
  refine ⟨hw, hd, by rw [hb]; exact h.l, by rw [hb]; exact h.s, ?_⟩
  rw [← h.c]
  unfold DM.choose rd
  rw [hr 0, hr 1]

theorem joined_first {b c : List ByteArray} (hb : Sec b) (hc : Sec c) {n : Nat} (h1 : 1 ≤ n) (h4 : n ≤ 4) : (joined (mixB b c n)).data.toList.take 64 = (joined b).data.toList.take 64 := by
  obtain ⟨b4, bs⟩ := hb
  cases b with
  | nil => simp at b4
  | cons x t =>
    have hx := bs x (List.mem_cons_self ..)
    have e : ∀ (t' : List ByteArray), (joined (x :: t')).data.toList.take 64 = x.data.toList := fun t' => by
      show ((List.map (fun x => x.data.toList) (x :: t')).flatten).take 64 = _
      rw [List.map_cons, List.flatten_cons]
      have hl : x.data.toList.length = 64 := hx
      rw [List.take_append_of_le_length (by omega), List.take_of_length_le (by omega)]
    have em : mixB (x :: t) c n = x :: (t.take (n - 1) ++ c.drop n) := by
      unfold mixB
      obtain ⟨m, rfl⟩ : ∃ m, n = m + 1 := ⟨n - 1, by omega⟩
      simp
    rw [em, e, e]

/-- The other block was written, at least its first sector. -/
theorem Calm.put {D D' : DM} {a x : SM} {at_ : Int} (h : Calm D a at_) {n : Nat} (h1 : 1 ≤ n) (h4 : n ≤ 4) (hx : x.right = true) (hxn : a.number < x.number)
    (hb : D'.blocks = D.blocks.set (1 - at_).toNat (mixB (cutS (ofL (blockL x))) (D.blocks.getD (1 - at_).toNat []) n)) (hw : D'.waits = []) (hd : D'.down = false) : Calm D' x (1 - at_) := by
  obtain ⟨har, hat⟩ := h.right
  have hl := h.l
  have hl' : D'.blocks.length = D.blocks.length := by rw [hb, List.length_set]
  obtain ⟨o, ho⟩ : ∃ o, D.blocks[(1 - at_).toNat]? = some o := ⟨_, List.getElem?_eq_getElem (by omega)⟩
  have hog : D.blocks.getD (1 - at_).toNat [] = o := by rw [List.getD_eq_getElem?_getD, ho]; rfl
  have hoS := h.s o (List.mem_of_getElem? ho)
  have hxS : Sec (cutS (ofL (blockL x))) := cutS_sec (block_size hx)
  rw [hog] at hb
  have hmS := mixB_sec hxS hoS h4
  have hsec : ∀ b ∈ D'.blocks, Sec b := by rw [hb]; exact sec_set h.s hmS
  have hget : D'.blocks.getD (1 - at_).toNat [] = mixB (cutS (ofL (blockL x))) o n := by
    rw [hb, List.getD_eq_getElem?_getD, List.getElem?_set_self (by omega)]
    rfl
  have hoth : D'.blocks.getD at_.toNat [] = D.blocks.getD at_.toNat [] := by
    rw [hb, List.getD_eq_getElem?_getD, List.getElem?_set_ne (by omega), ← List.getD_eq_getElem?_getD]
  have hx1 : rd D' (1 - at_) = some x := by
    unfold rd
    rw [read_up hw hd (by omega) (by omega), hget]
    refine readL_back hx (joined_size hmS) ?_
    rw [joined_first hxS hoS h1 h4, joined_cutS (block_size hx)]
    rfl
  have hx2 : rd D' at_ = some a := by
    have : D'.read at_ = D.read at_ := read_blocks h.w hw h.d hd hl' hoth
    unfold rd
    rw [this]
    rcases choose_at h.c with ⟨rfl, hh⟩ | ⟨rfl, hh⟩ <;> exact hh
  refine ⟨hw, hd, by omega, hsec, ?_⟩
  have r0 : (D'.read 0).2 = 0 := by rw [read_up hw hd (by omega) (by omega)]
  have r1 : (D'.read 1).2 = 0 := by rw [read_up hw hd (by omega) (by omega)]
  unfold DM.choose
  rw [if_neg (by simp [r0]), if_neg (by simp [r1])]
  rcases hat with rfl | rfl
  · have e0 : rd D' 0 = some a := hx2
    have e1 : rd D' 1 = some x := hx1
    rw [e0, e1]
    have e : best1 (some a) (some x) = if a.number < x.number then (x, 1) else (a, 0) := rfl
    rw [e, if_pos hxn]
    rfl
  · have e0 : rd D' 0 = some x := hx1
    have e1 : rd D' 1 = some a := hx2
    rw [e0, e1]
    have e : best1 (some x) (some a) = if x.number < a.number then (a, 1) else (x, 0) := rfl
    have hn : ¬ x.number < a.number := by omega
    rw [e, if_neg hn]
    rfl

theorem mixB_all {x y : List ByteArray} (hx : Sec x) (hy : Sec y) : mixB x y 4 = x := by
  unfold mixB
  rw [List.take_of_length_le (by rw [hx.1]; omega), List.drop_of_length_le (by rw [hy.1]; omega), List.append_nil]
theorem mixB_none {x y : List ByteArray} : mixB x y 0 = y := by simp [mixB]

/-- What a put leaves: nothing waits; the blocks are as they were, or the other one was written. -/
theorem put_leaves {D : DM} {a : SM} {at_ : Int} (h : Calm { D with armed := false } a at_) (s : SM) (hnum : a.number < 1099511627776 ∨ True) :
    (D.put s).2.waits = [] ∧ (((D.put s).1 ≠ 0 ∧ (D.put s).2.blocks = D.blocks) ∨ ((a.next s).right = true ∧ ∃ n, 1 ≤ n ∧ n ≤ 4 ∧ (D.put s).2.blocks = D.blocks.set (1 - at_).toNat (mixB (cutS (ofL (blockL (a.next s)))) (D.blocks.getD (1 - at_).toNat []) n))) := by
  have hw : D.waits = [] := h.w
  have hd : D.down = false := h.d
  have hc : D.choose = (a, at_, 0) := h.c
  have hl : 4 ≤ D.blocks.length := h.l
  have hsec : ∀ b ∈ D.blocks, Sec b := h.s
  obtain ⟨har, hat⟩ := h.right
  have e : D.put s = if (a.next s).right = false then (1, D)
      else if (D.write (1 - at_) (ofL (blockL (a.next s)))).1 ≠ 0 then D.write (1 - at_) (ofL (blockL (a.next s)))
      else (D.write (1 - at_) (ofL (blockL (a.next s)))).2.flush := by
    unfold DM.put
    rw [hc]
    simp
  rw [e]
  cases hr : (a.next s).right with
  | false =>
    rw [if_pos rfl]
    exact ⟨hw, .inl ⟨show (1 : Int) ≠ 0 from by decide, rfl⟩⟩
  | true =>
    rw [if_neg (by simp)]
    have hsz := block_size hr
    obtain ⟨o, ho⟩ : ∃ o, D.blocks[(1 - at_).toNat]? = some o := ⟨_, List.getElem?_eq_getElem (by omega)⟩
    have hog : D.blocks.getD (1 - at_).toNat [] = o := by rw [List.getD_eq_getElem?_getD, ho]; rfl
    have hoS := hsec o (List.mem_of_getElem? ho)
    have hxS : Sec (cutS (ofL (blockL (a.next s)))) := cutS_sec hsz
    rw [hog]
    have hset : D.blocks.set (1 - at_).toNat o = D.blocks := by
      apply List.ext_getElem?
      intro i
      by_cases hi : (1 - at_).toNat = i
      · subst hi
        rw [List.getElem?_set_self (by omega), ho]
      · rw [List.getElem?_set_ne hi]
    have ew : D.write (1 - at_) (ofL (blockL (a.next s))) = match D.goes.1 with
        | some e => (e, D.goes.2)
        | none => (0, { D.goes.2 with waits := D.goes.2.waits ++ [(1 - at_, cutS (ofL (blockL (a.next s))))] }) := by
      unfold DM.write
      rw [if_neg (by simp [hsz]; omega), if_neg (by simp [hd])]
      cases D.goes.1 <;> rfl
    rw [ew]
    have hg : (D.goes.1 = none ∧ D.goes.2.waits = [] ∧ D.goes.2.blocks = D.blocks ∧ D.goes.2.down = false) ∨ (∃ e, D.goes.1 = some e ∧ e ≠ 0 ∧ D.goes.2.waits = [] ∧ D.goes.2.blocks = D.blocks) := by
      unfold DM.goes
      split
      · exact .inl ⟨rfl, hw, rfl, hd⟩
      · split
        · exact .inl ⟨rfl, hw, rfl, hd⟩
        · split
          · exact .inr ⟨270, rfl, by decide, hw, rfl⟩
          · refine .inr ⟨271, rfl, by decide, rfl, ?_⟩
            show fallTo D.blocks D.waits D.keep D.waits.length = D.blocks
            rw [hw]
            rfl
    rcases hg with ⟨g1, g2, g3, g4⟩ | ⟨e1, g1, g2, g3, g4⟩
    · rw [g1]
      simp only
      rw [if_neg (by simp)]
      generalize D.goes.2 = E at g2 g3 g4
      rw [g2, List.nil_append]
      have ef : ({ E with waits := [(1 - at_, cutS (ofL (blockL (a.next s))))] } : DM).flush = match ({ E with waits := [(1 - at_, cutS (ofL (blockL (a.next s))))] } : DM).goes.1 with
          | some e => (e, { ({ E with waits := [(1 - at_, cutS (ofL (blockL (a.next s))))] } : DM).goes.2 with waits := [] })
          | none => (0, { ({ E with waits := [(1 - at_, cutS (ofL (blockL (a.next s))))] } : DM).goes.2 with blocks := flushTo ({ E with waits := [(1 - at_, cutS (ofL (blockL (a.next s))))] } : DM).goes.2.blocks ({ E with waits := [(1 - at_, cutS (ofL (blockL (a.next s))))] } : DM).goes.2.waits ({ E with waits := [(1 - at_, cutS (ofL (blockL (a.next s))))] } : DM).goes.2.waits.length, waits := [] }) := by
        unfold DM.flush
        rw [if_neg (by simp [g4])]
        cases ({ E with waits := [(1 - at_, cutS (ofL (blockL (a.next s))))] } : DM).goes.1 <;> rfl
      rw [ef]
      have hgf : (({ E with waits := [(1 - at_, cutS (ofL (blockL (a.next s))))] } : DM).goes.1 = none ∧ ({ E with waits := [(1 - at_, cutS (ofL (blockL (a.next s))))] } : DM).goes.2.blocks = D.blocks ∧ ({ E with waits := [(1 - at_, cutS (ofL (blockL (a.next s))))] } : DM).goes.2.waits = [(1 - at_, cutS (ofL (blockL (a.next s))))]) ∨
          (∃ e, ({ E with waits := [(1 - at_, cutS (ofL (blockL (a.next s))))] } : DM).goes.1 = some e ∧ e ≠ 0 ∧ ∃ n, n ≤ 4 ∧ ({ E with waits := [(1 - at_, cutS (ofL (blockL (a.next s))))] } : DM).goes.2.blocks = D.blocks.set (1 - at_).toNat (mixB (cutS (ofL (blockL (a.next s)))) o n)) := by
        unfold DM.goes
        split
        · exact .inl ⟨rfl, g3, rfl⟩
        · split
          · exact .inl ⟨rfl, g3, rfl⟩
          · split
            · exact .inr ⟨270, rfl, by decide, 0, by omega, by rw [mixB_none, hset]; exact g3⟩
            · refine .inr ⟨271, rfl, by decide, nOf E.keep 0, nOf_le _ _, ?_⟩
              show fallTo E.blocks [(1 - at_, cutS (ofL (blockL (a.next s))))] E.keep 1 = _
              rw [g3]
              show D.blocks.set (1 - at_).toNat (mixB (cutS (ofL (blockL (a.next s)))) (D.blocks.getD (1 - at_).toNat []) (nOf E.keep 0)) = _
              rw [hog]
      rcases hgf with ⟨f1, f2, f3⟩ | ⟨e2, f1, f2, n, f3, f4⟩
      · rw [f1]
        simp only
        refine ⟨by first | rfl | trivial, .inr ⟨by first | rfl | trivial, 4, by omega, by omega, ?_⟩⟩
        rw [f2, f3, mixB_all hxS hoS]
        rfl
      · rw [f1]
        simp only
        refine ⟨by first | rfl | trivial, ?_⟩
        cases n with
        | zero =>
          refine .inl ⟨f2, ?_⟩
          rw [f4, mixB_none, hset]
        | succ n => exact .inr ⟨by first | rfl | trivial, n + 1, by omega, f3, f4⟩
    · rw [g1]
      simp only
      rw [if_pos g2]
      exact ⟨g3, .inl ⟨g2, g4⟩⟩

/-- Up again, down, up. -/
def DM.again (D : DM) (keep : List Int) : DM := ((if D.down = true then D.start.2 else D).crash keep).2.start.2
theorem again_facts {D : DM} (hw : D.waits = []) (keep : List Int) : ((if D.down = true then D.start.2 else D).crash keep).1 = 0 ∧ ((if D.down = true then D.start.2 else D).crash keep).2.start.1 = 0 ∧
    (D.again keep).blocks = D.blocks ∧ (D.again keep).waits = [] ∧ (D.again keep).down = false ∧ (D.again keep).armed = false := by
  obtain ⟨E, hE, e1, e2, e3⟩ : ∃ E, (if D.down = true then D.start.2 else D) = E ∧ E.blocks = D.blocks ∧ E.waits = [] ∧ E.down = false := by
    cases hd : D.down with
    | true => exact ⟨_, by rw [if_pos rfl], by simp [DM.start, hd], by simp [DM.start, hd, hw], by simp [DM.start, hd]⟩
    | false => exact ⟨_, by rw [if_neg (by simp)], rfl, hw, hd⟩
  unfold DM.again
  rw [hE]
  have ec : E.crash keep = (0, E.fall keep) := by simp [DM.crash, e3]
  have es : (E.fall keep).start = (0, { E.fall keep with down := false }) := by
    unfold DM.start
    rw [if_neg (by simp [DM.fall])]
  rw [ec]
  simp only
  rw [es]
  refine ⟨by first | rfl | trivial, by first | rfl | trivial, ?_, rfl, rfl, rfl⟩
  show fallTo E.blocks E.waits keep E.waits.length = D.blocks
  rw [e2, ← e1]
  rfl

/-- THE LAW of one step. -/
theorem slot_lasts {D : DM} {a : SM} {at_ : Int} (h : Calm D a at_) (s : SM) {D1 : DM} (h1 : D1.blocks = D.blocks) (h2 : D1.waits = []) (h3 : D1.down = false) (keep : List Int) :
    ∃ now at', Calm ((D1.put s).2.again keep) now at' ∧ (now = a.next s ∨ (now = a ∧ (D1.put s).1 ≠ 0)) ∧ (D1.put s).2.waits = [] := by
  have hD1 : Calm { D1 with armed := false } a at_ := h.same h1 h2 h3
  obtain ⟨p1, p2⟩ := put_leaves hD1 s (.inr trivial)
  obtain ⟨_, _, f1, f2, f3, f4⟩ := again_facts p1 keep
  rcases p2 with ⟨p3, p4⟩ | ⟨p3, n, p4, p5, p6⟩
  · exact ⟨a, at_, h.same (by rw [f1, p4, h1]) f2 f3, .inr ⟨rfl, p3⟩, p1⟩
  · refine ⟨a.next s, 1 - at_, h.put p4 p5 p3 (by show a.number < a.number + 1; omega) (by rw [f1, p6, h1]) f2 f3, .inl rfl, p1⟩
end Go.Proofs.Ythgopkppmppdoaa
