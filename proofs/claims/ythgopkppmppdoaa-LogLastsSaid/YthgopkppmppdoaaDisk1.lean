/-
  Disks: reading.
-/
import Derived.Test.YthgopkppmppdoaaDisk0
import Derived.Test.YthgopkppmppdoaaBld
set_option linter.unusedVariables false
set_option linter.unusedSimpArgs false
set_option maxRecDepth 20000
namespace Go.Proofs.Ythgopkppmppdoaa
open Go Go.Proofs Go.Vc
open Go.RowKit (Below)

theorem flat_get {α : Type} (f : α → List Value) (n : Nat) : ∀ (l : List α), (∀ x ∈ l, (f x).length = n) → ∀ i (x : α), l[i]? = some x → (l.flatMap f).length = l.length * n ∧
    ((l.flatMap f).drop (i * n)).take n = f x
  | [], h, i, x, hx => by simp at hx
  | y :: l, h, i, x, hx => by
    have hy := h y (List.mem_cons_self ..)
    have hlen : ∀ m : List α, (∀ x ∈ m, (f x).length = n) → (m.flatMap f).length = m.length * n := by
      intro m
      induction m with
      | nil => intro _; simp
      | cons z m ih =>
        intro hm
        rw [List.flatMap_cons, List.length_append, hm z (List.mem_cons_self ..), ih fun u hu => hm u (List.mem_cons_of_mem _ hu), List.length_cons, Nat.add_mul]
        omega
    refine ⟨hlen (y :: l) h, ?_⟩
    cases i with
    | zero =>
      simp at hx
      subst hx
      rw [List.flatMap_cons, Nat.zero_mul, List.drop_zero, List.take_append_of_le_length (by omega), List.take_of_length_le (by omega)]
    | succ i =>
      rw [List.flatMap_cons, Nat.add_mul, Nat.one_mul, Nat.add_comm (i * n) n, ← List.drop_drop, List.drop_append_of_le_length (by omega), List.drop_of_length_le (l := f y) (by omega), List.nil_append]
      exact (flat_get f n l (fun u hu => h u (List.mem_cons_of_mem _ hu)) i x (by simpa using hx)).2

theorem flat_length {α : Type} (f : α → List Value) (n : Nat) (l : List α) (h : ∀ x ∈ l, (f x).length = n) : (l.flatMap f).length = l.length * n := by
  cases l with
  | nil => simp
  | cons y l => exact (flat_get f n (y :: l) h 0 y rfl).1

/-- An element of a row. -/
theorem row_elem {α : Type} {f : α → List Value} {w : World} {T sz : Nat} {v : Value} {l : List α} (h : Row w T sz v l.length (l.flatMap f)) (hf : ∀ x ∈ l, (f x).length = sz) {i : Nat} {x : α} (hx : l[i]? = some x) :
    ∃ g cap, v = .slice (some ⟨g, 0, none⟩) l.length cap ∧ i < l.length ∧ ∃ cs, Blk w g T cs ∧ i * sz + sz ≤ cs.length ∧ (cs.drop (i * sz)).take sz = f x := by
  have hi : i < l.length := (List.getElem?_eq_some_iff.1 hx).1
  obtain ⟨g, cap, cs, rfl, hb, h1, h2, h3, h4⟩ := h.at_ (by omega)
  have hle : i * sz + sz ≤ l.length * sz := by
    have := Nat.mul_le_mul_right sz (show i + 1 ≤ l.length from hi)
    rwa [Nat.add_mul, Nat.one_mul] at this
  refine ⟨g, cap, rfl, hi, cs, hb, by omega, ?_⟩
  rw [← (flat_get f sz l hf i x hx).2]
  apply List.ext_getElem?
  intro j
  rw [List.getElem?_take, List.getElem?_take]
  split
  · rw [List.getElem?_drop, List.getElem?_drop, h4 _ (by omega)]
  · rfl

section
variable {w : World} {K : Value → World → Prop}

theorem lib_join_nil (l : List (List UInt8)) : Lib.join l [] = l.flatten := by
  unfold Lib.join
  induction l with
  | nil => rfl
  | cons x l ih =>
    cases l with
    | nil => simp [List.intercalate]
    | cons y l =>
      have : List.intercalate [] (x :: y :: l) = x ++ ([] ++ List.intercalate [] (y :: l)) := by simp [List.intercalate]
      rw [this, ih]
      simp

/-- (block).text: the sectors, one behind the other. -/
theorem text_c {b : List ByteArray} (hS : Sec b) (k : ∀ w', Ext w w' → K (.string (joined b)) w') : mCall Try.prog 78 #[.agg (encB b).toArray] w K := by
  have h4 := hS.1
  have hl := joined_size hS
  refine ⟨ok78 ?_⟩
  unfold sh78
  have hbox : (Instr.box 124 (.agg (encB b).toArray)).run Try.prog w = .ok (.pointer (some ⟨w.heap.size, 0, none⟩)) (w.alloc (.cells (encB b).toArray 124 (0, 0))) := by kernel_rfl
  refine mN_new hbox fun w1 hb1 hu1 hs1 => ?_
  have hsl : (Instr.sliceAt 124 (.pointer (some ⟨w.heap.size, 0, none⟩)) none none none).run Try.prog w1 = .ok (.slice (some ⟨w.heap.size, 0, none⟩) 4 4) w1 := by kernel_rfl
  refine mN_v hsl ?_
  have hj := Try.strings_Join w.heap.size 0 4 b ⟨#[]⟩ w1 (fun j x hx => hb1.cell (by simp [encB, hx])) (by omega) (by omega) (by omega) (by
    rw [lib_join_nil]
    rw [joined_len b hS.2]
    omega)
  rw [h4] at hj
  refine mCall_kit hj fun w2 hb2 => ?_
  have e : (⟨(Lib.join (b.map fun x => x.data.toList) (⟨#[]⟩ : ByteArray).data.toList).toArray⟩ : ByteArray) = joined b := by
    unfold joined
    rw [lib_join_nil]
  rw [e]
  exact k w2 (hu1.ext (ext_of_below hb2))

variable {p : Nat} {fp : Nat → Prop} {D : DM} {vb vw vk : Value}

theorem lasts_c (h : DiskAt w p fp D vb vw vk) (i : Int)
    (k0 : (i < 0 ∨ (D.blocks.length : Int) ≤ i) → K (.string ⟨#[]⟩) w) (k1 : 0 ≤ i → ∀ b, D.blocks[i.toNat]? = some b → ∀ w', Ext w w' → K (.string (joined b)) w') : mCall Try.prog 23 #[dptr p, .int .i64 i] w K := by
  refine ⟨ok23 ?_⟩
  unfold sh23
  refine in_c h i ?_
  unfold dptr
  try simp only [push_cast]
  by_cases hi : 0 ≤ i ∧ i < D.blocks.length
  · simp only [hi, decide_true, push_cast]
    refine mN_v (r_loadB _ (by kernel_rfl) h.cells rfl) ?_
    obtain ⟨b, hb⟩ : ∃ b, D.blocks[i.toNat]? = some b := ⟨_, List.getElem?_eq_getElem (by omega)⟩
    have hb4 := h.b4 b (List.mem_of_getElem? hb)
    obtain ⟨g, cap, rfl, _, cs, hg, hle, hcs⟩ := row_elem (f := encB) h.blocks (fun x hx => by simp [encB, (h.b4 x hx).1]) hb
    refine mN_v (r_indexAt w (sz := 4) Try.underlying127 (by kernel_rfl) g 0 D.blocks.length cap i hi.1 hi.2) ?_
    rw [Nat.zero_add]
    refine mN_v (r_loadN w (n := 4) (by kernel_rfl) (by kernel_rfl) hg hle) ?_
    rw [hcs]
    exact text_c hb4 (k1 hi.1 b hb)
  · simp only [hi, decide_false, push_cast]
    exact k0 (by omega)
end

end Go.Proofs.Ythgopkppmppdoaa
