/-
  Disks: what changes them: the power goes, an arm goes off.
-/
import Derived.Test.YthgopkppmppdoaaDisk3
set_option linter.unusedVariables false
set_option linter.unusedSimpArgs false
set_option maxRecDepth 20000
namespace Go.Proofs.Ythgopkppmppdoaa
open Go Go.Proofs Go.Vc
open Go.RowKit (Below intOf)

abbrev Bl := List (List ByteArray)
/-- How many sectors last of write k. -/
def nOf (keep : List Int) (k : Nat) : Nat :=
  match keep[k]? with
  | some x => (min (max x 0) 4).toNat
  | none => 0
theorem nOf_le (keep : List Int) (k : Nat) : nOf keep k ≤ 4 := by
  unfold nOf
  split <;> omega
def mixB (x y : List ByteArray) (n : Nat) : List ByteArray := x.take n ++ y.drop n
theorem mixB_sec {x y : List ByteArray} (hx : Sec x) (hy : Sec y) {n : Nat} (hn : n ≤ 4) : Sec (mixB x y n) := by
  refine ⟨by simp [mixB, hx.1, hy.1]; omega, fun s hs => ?_⟩
  rcases List.mem_append.1 hs with h | h
  · exact hx.2 s (List.mem_of_mem_take h)
  · exact hy.2 s (List.mem_of_mem_drop h)
def fallOne (bl : Bl) (x : Int × List ByteArray) (n : Nat) : Bl := bl.set x.1.toNat (mixB x.2 (bl.getD x.1.toNat []) n)
/-- The blocks behind so many of the writes that waited. -/
def fallTo (bl : Bl) (ws : List (Int × List ByteArray)) (keep : List Int) : Nat → Bl
  | 0 => bl
  | j + 1 => match ws[j]? with
    | some x => fallOne (fallTo bl ws keep j) x (nOf keep j)
    | none => fallTo bl ws keep j
def flushTo (bl : Bl) (ws : List (Int × List ByteArray)) : Nat → Bl
  | 0 => bl
  | j + 1 => match ws[j]? with
    | some x => (flushTo bl ws j).set x.1.toNat x.2
    | none => flushTo bl ws j

theorem fallOne_length (bl : Bl) (x : Int × List ByteArray) (n : Nat) : (fallOne bl x n).length = bl.length := by simp [fallOne]
theorem fallTo_length (bl : Bl) (ws : List (Int × List ByteArray)) (keep : List Int) : ∀ j, (fallTo bl ws keep j).length = bl.length
  | 0 => rfl
  | j + 1 => by
    unfold fallTo
    split
    · rw [fallOne_length, fallTo_length bl ws keep j]
    · exact fallTo_length bl ws keep j
theorem flushTo_length (bl : Bl) (ws : List (Int × List ByteArray)) : ∀ j, (flushTo bl ws j).length = bl.length
  | 0 => rfl
  | j + 1 => by
    unfold flushTo
    split
    · rw [List.length_set, flushTo_length bl ws j]
    · exact flushTo_length bl ws j
theorem sec_set {bl : Bl} (h : ∀ b ∈ bl, Sec b) {i : Nat} {b : List ByteArray} (hb : Sec b) : ∀ x ∈ bl.set i b, Sec x := by
  intro x hx
  rcases List.mem_or_eq_of_mem_set hx with h1 | rfl
  · exact h x h1
  · exact hb
theorem fallTo_sec {bl : Bl} {ws : List (Int × List ByteArray)} (keep : List Int) (h : ∀ b ∈ bl, Sec b) (hw : ∀ x ∈ ws, Sec x.2 ∧ 0 ≤ x.1 ∧ x.1 < bl.length) : ∀ j, ∀ b ∈ fallTo bl ws keep j, Sec b
  | 0 => h
  | j + 1 => by
    have ih := fallTo_sec keep h hw j
    unfold fallTo
    split
    · rename_i x hx
      have hx' := hw x (List.mem_of_getElem? hx)
      have hl : x.1.toNat < (fallTo bl ws keep j).length := by rw [fallTo_length]; omega
      refine sec_set ih (mixB_sec hx'.1 ?_ (nOf_le _ _))
      rw [List.getD_eq_getElem?_getD, List.getElem?_eq_getElem hl]
      exact ih _ (List.getElem_mem hl)
    · exact ih
theorem flushTo_sec {bl : Bl} {ws : List (Int × List ByteArray)} (h : ∀ b ∈ bl, Sec b) (hw : ∀ x ∈ ws, Sec x.2 ∧ 0 ≤ x.1 ∧ x.1 < bl.length) : ∀ j, ∀ b ∈ flushTo bl ws j, Sec b
  | 0 => h
  | j + 1 => by
    have ih := flushTo_sec h hw j
    unfold flushTo
    split
    · rename_i x hx
      exact sec_set ih (hw x (List.mem_of_getElem? hx)).1
    · exact ih

def DM.fall (D : DM) (keep : List Int) : DM := { D with blocks := fallTo D.blocks D.waits keep D.waits.length, waits := [], down := true, armed := false }
/-- What the arm tells at a call: none: nothing. -/
def DM.goes (D : DM) : Option Int × DM :=
  if D.armed = false then (none, D)
  else if 0 < D.after then (none, { D with after := D.after - 1 })
  else if D.cut = false then (some 270, { D with armed := false })
  else (some 271, { D with armed := false }.fall D.keep)
def DM.write (D : DM) (i : Int) (s : ByteArray) : Int × DM :=
  if ¬ (0 ≤ i ∧ i < D.blocks.length) ∨ s.size ≠ 256 then (1, D)
  else if D.down = true then (271, D)
  else match D.goes.1 with
    | some e => (e, D.goes.2)
    | none => (0, { D.goes.2 with waits := D.goes.2.waits ++ [(i, cutS s)] })
def DM.flush (D : DM) : Int × DM :=
  if D.down = true then (271, D)
  else match D.goes.1 with
    | some e => (e, { D.goes.2 with waits := [] })
    | none => (0, { D.goes.2 with blocks := flushTo D.goes.2.blocks D.goes.2.waits D.goes.2.waits.length, waits := [] })
def DM.set (D : DM) (after : Int) (cut : Bool) (keep : List Int) : Int × DM :=
  if after < 0 then (1, D) else if D.down = true then (271, D) else (0, { D with after := after, cut := cut, keep := keep, armed := true })
def DM.crash (D : DM) (keep : List Int) : Int × DM := if D.down = true then (271, D) else (0, D.fall keep)
def DM.start (D : DM) : Int × DM := if D.down = false then (7, D) else (0, { D with down := false })
def DM.read (D : DM) (i : Int) : ByteArray × Int :=
  if ¬ (0 ≤ i ∧ i < D.blocks.length) then (⟨#[]⟩, 1)
  else if D.down = true then (⟨#[]⟩, 271)
  else (joined (lastW i (D.blocks.getD i.toNat []) D.waits), 0)
def DM.lasts (D : DM) (i : Int) : ByteArray := if ¬ (0 ≤ i ∧ i < D.blocks.length) then ⟨#[]⟩ else joined (D.blocks.getD i.toNat [])

/-- A row of blocks of which one is written. -/
theorem flat_set {α : Type} (f : α → List Value) (n : Nat) : ∀ (l : List α), (∀ x ∈ l, (f x).length = n) → ∀ i (x : α), i < l.length → (f x).length = n → (l.set i x).flatMap f = splice (l.flatMap f) (i * n) (f x)
  | [], _, i, x, hi, _ => by simp at hi
  | y :: l, h, 0, x, hi, hx => by
    have hy := h y (List.mem_cons_self ..)
    simp [splice, List.flatMap_cons, hx, ← hy]
  | y :: l, h, i + 1, x, hi, hx => by
    have hy := h y (List.mem_cons_self ..)
    rw [List.set_cons_succ, List.flatMap_cons, List.flatMap_cons, flat_set f n l (fun u hu => h u (List.mem_cons_of_mem _ hu)) i x (by simpa using hi) hx]
    unfold splice
    rw [Nat.add_mul, Nat.one_mul, Nat.add_comm (i * n) n, Nat.add_assoc, ← hy, List.take_length_add_append, List.drop_length_add_append]
    simp [List.append_assoc]

/-- A store into a row's elements. -/
theorem row_store {α : Type} {f : α → List Value} {w w' : World} {T sz g cap : Nat} {l : List α} {cs : List Value} (h : Row w T sz (.slice (some ⟨g, 0, none⟩) l.length cap) l.length (l.flatMap f)) (hb : Blk w g T cs)
    (hf : ∀ x ∈ l, (f x).length = sz) {i : Nat} (hi : i < l.length) {x : α} (hx : (f x).length = sz) (h1 : Blk w' g T (splice cs (i * sz) (f x))) :
    Row w' T sz (.slice (some ⟨g, 0, none⟩) l.length cap) (l.set i x).length ((l.set i x).flatMap f) := by
  have hle : i * sz + sz ≤ l.length * sz := by
    have := Nat.mul_le_mul_right sz (show i + 1 ≤ l.length from hi)
    rwa [Nat.add_mul, Nat.one_mul] at this
  have hmax : cap ≤ maxLen := by
    rcases h.2 with ⟨h0, h2⟩ | ⟨g', cap', _, h0, _, _, _, h5, _⟩
    · omega
    · injection h0 with _ _ h02
      omega
  rcases h.form with ⟨h0, h2, _⟩ | ⟨g', cap', cs', h0, hg, hc1, hc2, hc3⟩
  · omega
  injection h0 with h01 _ h02
  injection h01 with h01
  injection h01 with h01 _ _
  subst h01 h02
  obtain rfl := (hg.inj hb).2
  have hlen : (l.flatMap f).length = l.length * sz := flat_length f sz l hf
  have hcap : l.length * sz ≤ cap * sz := Nat.mul_le_mul_right _ hc1
  have hsl : (splice cs' (i * sz) (f x)).length = cs'.length := splice_length (by rw [hx]; omega)
  have hset : ((l.set i x).flatMap f).length = l.length * sz := by
    rw [flat_set f sz l hf i x hi hx, splice_length (by rw [hx, hlen]; omega), hlen]
  have htk : (splice cs' (i * sz) (f x)).take (l.length * sz) = splice (l.flatMap f) (i * sz) (f x) := by
    apply List.ext_getElem?
    intro k
    rw [List.getElem?_take]
    have hk1 : (splice cs' (i * sz) (f x))[k]? = _ := splice_get (by rw [hx]; omega) k
    have hk2 : (splice (l.flatMap f) (i * sz) (f x))[k]? = _ := splice_get (by rw [hx, hlen]; omega) k
    rw [hk2]
    simp only [hk1]
    by_cases hk : k < l.length * sz
    · rw [if_pos hk, ← hc3, List.getElem?_take, if_pos hk]
    · rw [if_neg hk, if_neg (by omega), if_neg (by rw [hx]; omega), ← hc3, List.getElem?_take, if_neg hk]
  refine ⟨by rw [hset, List.length_set], .inr ⟨g, cap, (splice cs' (i * sz) (f x)).toArray, by rw [List.length_set], Nat.zero_le _, by simpa [Blk] using h1, by rw [List.length_set]; exact hc1, hmax, by rw [List.size_toArray, hsl, hc2], ?_⟩⟩
  rw [List.length_set, flat_set f sz l hf i x hi hx]
  exact htk
end Go.Proofs.Ythgopkppmppdoaa
