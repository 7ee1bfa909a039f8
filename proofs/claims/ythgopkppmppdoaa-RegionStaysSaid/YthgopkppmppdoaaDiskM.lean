/-
  Disks: reading.
-/
import Derived.Test.YthgopkppmppdoaaDisk0
import Derived.Test.YthgopkppmppdoaaBld
import Derived.Test.YthgopkppmppdoaaLib2
import Derived.Laws.MakeOwn
set_option linter.unusedVariables false
set_option linter.unusedSimpArgs false
set_option maxRecDepth 20000
namespace Go.Proofs.Ythgopkppmppdoaa
open Go Go.Proofs Go.Vc
open Go.RowKit (Below)

theorem flat_get {α : Type} (f : α → List Value) (n : Nat) : ∀ (l : List α), (∀ x ∈ l, (f x).length = n) → ∀ i (x : α), l[i]? = some x → (l.flatMap f).length = l.length * n ∧
    ((l.flatMap f).drop (i * n)).take n = f x
  | [], h, i, x, hx => by simp at hx
  | y :: l, h, i, x, hx => by
    have hy := h y (List.mem_cons_self ..)
    have hlen : ∀ m : List α, (∀ x ∈ m, (f x).length = n) → (m.flatMap f).length = m.length * n := by
      intro m
      induction m with
      | nil => intro _; simp
      | cons z m ih =>
        intro hm
        rw [List.flatMap_cons, List.length_append, hm z (List.mem_cons_self ..), ih fun u hu => hm u (List.mem_cons_of_mem _ hu), List.length_cons, Nat.add_mul]
        omega
    refine ⟨hlen (y :: l) h, ?_⟩
    cases i with
    | zero =>
      simp at hx
      subst hx
      rw [List.flatMap_cons, Nat.zero_mul, List.drop_zero, List.take_append_of_le_length (by omega), List.take_of_length_le (by omega)]
    | succ i =>
      rw [List.flatMap_cons, Nat.add_mul, Nat.one_mul, Nat.add_comm (i * n) n, ← List.drop_drop, List.drop_append_of_le_length (by omega), List.drop_of_length_le (l := f y) (by omega), List.nil_append]
      exact (flat_get f n l (fun u hu => h u (List.mem_cons_of_mem _ hu)) i x (by simpa using hx)).2

theorem flat_length {α : Type} (f : α → List Value) (n : Nat) (l : List α) (h : ∀ x ∈ l, (f x).length = n) : (l.flatMap f).length = l.length * n := by
  cases l with
  | nil => simp
  | cons y l => exact (flat_get f n (y :: l) h 0 y rfl).1

/-- An element of a row. -/
theorem row_elem {α : Type} {f : α → List Value} {w : World} {T sz : Nat} {v : Value} {l : List α} (h : Row w T sz v l.length (l.flatMap f)) (hf : ∀ x ∈ l, (f x).length = sz) {i : Nat} {x : α} (hx : l[i]? = some x) :
    ∃ g cap, v = .slice (some ⟨g, 0, none⟩) l.length cap ∧ i < l.length ∧ ∃ cs, Blk w g T cs ∧ i * sz + sz ≤ cs.length ∧ (cs.drop (i * sz)).take sz = f x := by
  have hi : i < l.length := (List.getElem?_eq_some_iff.1 hx).1
  obtain ⟨g, cap, cs, rfl, hb, h1, h2, h3, h4⟩ := h.at_ (by omega)
  have hle : i * sz + sz ≤ l.length * sz := by
    have := Nat.mul_le_mul_right sz (show i + 1 ≤ l.length from hi)
    rwa [Nat.add_mul, Nat.one_mul] at this
  refine ⟨g, cap, rfl, hi, cs, hb, by omega, ?_⟩
  rw [← (flat_get f sz l hf i x hx).2]
  apply List.ext_getElem?
  intro j
  rw [List.getElem?_take, List.getElem?_take]
  split
  · rw [List.getElem?_drop, List.getElem?_drop, h4 _ (by omega)]
  · rfl

section
variable {w : World} {K : Value → World → Prop}

theorem lib_join_nil (l : List (List UInt8)) : Lib.join l [] = l.flatten := by
  unfold Lib.join
  induction l with
  | nil => rfl
  | cons x l ih =>
    cases l with
    | nil => simp [List.intercalate]
    | cons y l =>
      have : List.intercalate [] (x :: y :: l) = x ++ ([] ++ List.intercalate [] (y :: l)) := by simp [List.intercalate]
      rw [this, ih]
      simp

/-- (block).text: the sectors, one behind the other. -/
theorem text_c {b : List ByteArray} (hS : Sec b) (k : ∀ w', Ext w w' → K (.string (joined b)) w') : mCall Try.prog 78 #[.agg (encB b).toArray] w K := by
  have h4 := hS.1
  have hl := joined_size hS
  refine ⟨ok78 ?_⟩
  unfold sh78
  have hbox : (Instr.box 124 (.agg (encB b).toArray)).run Try.prog w = .ok (.pointer (some ⟨w.heap.size, 0, none⟩)) (w.alloc (.cells (encB b).toArray 124 (0, 0))) := by kernel_rfl
  refine mN_new hbox fun w1 hb1 hu1 hs1 => ?_
  have hsl : (Instr.sliceAt 124 (.pointer (some ⟨w.heap.size, 0, none⟩)) none none none).run Try.prog w1 = .ok (.slice (some ⟨w.heap.size, 0, none⟩) 4 4) w1 := by kernel_rfl
  refine mN_v hsl ?_
  have hj := Try.strings_Join w.heap.size 0 4 b ⟨#[]⟩ w1 (fun j x hx => hb1.cell (by simp [encB, hx])) (by omega) (by omega) (by omega) (by
    rw [lib_join_nil]
    rw [joined_len b hS.2]
    omega)
  rw [h4] at hj
  refine mCall_kit hj fun w2 hb2 => ?_
  have e : (⟨(Lib.join (b.map fun x => x.data.toList) (⟨#[]⟩ : ByteArray).data.toList).toArray⟩ : ByteArray) = joined b := by
    unfold joined
    rw [lib_join_nil]
  rw [e]
  exact k w2 (hu1.ext (ext_of_below hb2))

variable {p : Nat} {fp : Nat → Prop} {D : DM} {vb vw vk : Value}

theorem lasts_c (h : DiskAt w p fp D vb vw vk) (i : Int)
    (k0 : (i < 0 ∨ (D.blocks.length : Int) ≤ i) → K (.string ⟨#[]⟩) w) (k1 : 0 ≤ i → ∀ b, D.blocks[i.toNat]? = some b → ∀ w', Ext w w' → K (.string (joined b)) w') : mCall Try.prog 23 #[dptr p, .int .i64 i] w K := by
  refine ⟨ok23 ?_⟩
  unfold sh23
  refine in_c h i ?_
  unfold dptr
  try simp only [push_cast]
  by_cases hi : 0 ≤ i ∧ i < D.blocks.length
  · simp only [hi, decide_true, push_cast]
    refine mN_v (r_loadB _ (by kernel_rfl) h.cells rfl) ?_
    obtain ⟨b, hb⟩ : ∃ b, D.blocks[i.toNat]? = some b := ⟨_, List.getElem?_eq_getElem (by omega)⟩
    have hb4 := h.b4 b (List.mem_of_getElem? hb)
    obtain ⟨g, cap, rfl, _, cs, hg, hle, hcs⟩ := row_elem (f := encB) h.blocks (fun x hx => by simp [encB, (h.b4 x hx).1]) hb
    refine mN_v (r_indexAt w (sz := 4) Try.underlying127 (by kernel_rfl) g 0 D.blocks.length cap i hi.1 hi.2) ?_
    rw [Nat.zero_add]
    refine mN_v (r_loadN w (n := 4) (by kernel_rfl) (by kernel_rfl) hg hle) ?_
    rw [hcs]
    exact text_c hb4 (k1 hi.1 b hb)
  · simp only [hi, decide_false, push_cast]
    exact k0 (by omega)
end

end Go.Proofs.Ythgopkppmppdoaa

/-
  Disks: how a block reads; a text cut into sectors.
-/
set_option linter.unusedVariables false
set_option linter.unusedSimpArgs false
set_option maxRecDepth 20000
namespace Go.Proofs.Ythgopkppmppdoaa
open Go Go.Proofs Go.Vc
open Go.RowKit (Below intOf)

/-- A block as the writes that wait have it. -/
def lastW (i : Int) (b : List ByteArray) (l : List (Int × List ByteArray)) : List ByteArray := l.foldl (fun acc x => if x.1 = i then x.2 else acc) b

theorem lastW_snoc (i : Int) (b : List ByteArray) (l : List (Int × List ByteArray)) (x : Int × List ByteArray) : lastW i b (l ++ [x]) = if x.1 = i then x.2 else lastW i b l := by
  simp [lastW]
theorem take_snoc {α : Type} {l : List α} {i : Nat} {x : α} (h : l[i]? = some x) : l.take (i + 1) = l.take i ++ [x] := by
  rw [List.take_add_one, h]; rfl
theorem lastW_sec {i : Int} {b : List ByteArray} (hb : Sec b) : ∀ {l : List (Int × List ByteArray)}, (∀ x ∈ l, Sec x.2) → Sec (lastW i b l) := by
  intro l
  unfold lastW
  induction l generalizing b with
  | nil => intro _; exact hb
  | cons x l ih =>
    intro h
    rw [List.foldl_cons]
    refine ih ?_ fun y hy => h y (List.mem_cons_of_mem _ hy)
    split
    · exact h x (List.mem_cons_self ..)
    · exact hb

theorem splice_all (cs vs : List Value) (h : cs.length = vs.length) : splice cs 0 vs = vs := by
  simp [splice, ← h]

theorem Row.small {w : World} {T sz n : Nat} {v : Value} {xs : List Value} (h : Row w T sz v n xs) : n ≤ 9223372036854775807 := by
  rcases h.2 with ⟨_, h2⟩ | ⟨_, _, _, _, _, _, h4, h5, _⟩
  · omega
  · have : maxLen = 9223372036854775807 := by decide
    omega

theorem Row.small' {w : World} {T sz n : Nat} {v : Value} {xs : List Value} (h : Row w T sz v n xs) : n ≤ maxLen := by
  rcases h.2 with ⟨_, h2⟩ | ⟨_, _, _, _, _, _, h4, h5, _⟩ <;> omega
section
variable {w : World} {K : Value → World → Prop} {p : Nat} {fp : Nat → Prop} {D : DM} {vb vw vk : Value}

theorem zero124 (w : World) : (Instr.alloc 124 true (.tuple #[])).run Try.prog w = .ok (.pointer (some ⟨w.heap.size, 0, none⟩)) (w.alloc (.cells (encB [⟨#[]⟩, ⟨#[]⟩, ⟨#[]⟩, ⟨#[]⟩]).toArray 124 (0, 0))) := by kernel_rfl
theorem zero136 (w : World) : (Instr.alloc 136 true (.tuple #[])).run Try.prog w = .ok (.pointer (some ⟨w.heap.size, 0, none⟩)) (w.alloc (.cells (encW (0, [⟨#[]⟩, ⟨#[]⟩, ⟨#[]⟩, ⟨#[]⟩])).toArray 136 (0, 0))) := by kernel_rfl
theorem encB_one {b : List ByteArray} : ∀ v ∈ encB b, v.oneCell' = true := by
  intro v hv
  obtain ⟨x, _, rfl⟩ := List.mem_map.1 hv
  rfl
theorem encW_one {x : Int × List ByteArray} : ∀ v ∈ encW x, v.oneCell' = true := by
  intro v hv
  rcases List.mem_cons.1 hv with rfl | hv
  · rfl
  · exact encB_one v hv
theorem encB_len {b : List ByteArray} : (encB b).length = b.length := by simp [encB]
theorem encW_len {x : Int × List ByteArray} : (encW x).length = x.2.length + 1 := by simp [encW, encB]

theorem read_c (h : DiskAt w p fp D vb vw vk) (i : Int)
    (k0 : (i < 0 ∨ (D.blocks.length : Int) ≤ i) → K (.tuple #[.string ⟨#[]⟩, .int .i64 1]) w)
    (k1 : 0 ≤ i → i < D.blocks.length → D.down = true → K (.tuple #[.string ⟨#[]⟩, .int .i64 271]) w)
    (k2 : 0 ≤ i → ∀ b, D.blocks[i.toNat]? = some b → D.down = false → ∀ w', Ext w w' → K (.tuple #[.string (joined (lastW i b D.waits)), .int .i64 0]) w') :
    mCall Try.prog 29 #[dptr p, .int .i64 i] w K := by
  have hwn : D.waits.length ≤ 9223372036854775807 := Row.small h.waits
  refine ⟨ok29 ?_⟩
  unfold sh29
  refine in_c h i ?_
  try simp only [push_cast]
  by_cases hi : 0 ≤ i ∧ i < D.blocks.length
  case neg =>
    simp only [hi, decide_false, push_cast]
    exact k0 (by omega)
  simp only [hi, decide_true, and_self, push_cast]
  refine up_c h ?_
  try simp only [push_cast, Bool.not_not]
  cases hd : D.down with
  | true => exact k1 hi.1 hi.2 hd
  | false =>
    unfold dptr
    try simp only [push_cast]
    refine mN_v (r_loadB _ (by kernel_rfl) h.cells rfl) ?_
    obtain ⟨b, hb⟩ : ∃ b, D.blocks[i.toNat]? = some b := ⟨_, List.getElem?_eq_getElem (by omega)⟩
    have hbS := h.b4 b (List.mem_of_getElem? hb)
    have hb4 := hbS.1
    obtain ⟨g, cap, rfl, _, cs, hg, hle, hcs⟩ := row_elem (f := encB) h.blocks (fun x hx => by simp [encB, (h.b4 x hx).1]) hb
    refine mN_v (r_indexAt w (sz := 4) Try.underlying127 (by kernel_rfl) g 0 D.blocks.length cap i hi.1 hi.2) ?_
    rw [Nat.zero_add]
    refine mN_v (r_loadN w (n := 4) (by kernel_rfl) (by kernel_rfl) hg hle) ?_
    rw [hcs]
    refine mN_new (zero124 w) fun w1 hb1 hu1 hs1 => ?_
    refine mN_storeN (by rw [encB_len, hb4]; kernel_rfl) hb1 (by simp [encB, hb4]) encB_one fun w2 hb2 hu2 hs2 => ?_
    rw [splice_all _ _ (by simp [encB, hb4])] at hb2
    have u2 : Ext w w2 := hu1.trans hu2 (fun _ _ x => x) fun i hi e => by omega
    try simp only [push_cast]
    have hc2 := h.cells.keep u2 id
    refine mN_v (r_loadB _ (by kernel_rfl) hc2 rfl) ?_
    have hr2 := h.waits.keep u2 fun _ _ => id
    obtain ⟨A, c, rfl⟩ := hr2.slice
    try simp only [push_cast]
    refine mLoop1.mk (fun x wr => ∃ j : Nat, x = .int .i64 j ∧ j ≤ D.waits.length ∧ Ext w wr ∧ Blk wr w.heap.size 124 (encB (lastW i b (D.waits.take j)))) (fun x _ => D.waits.length - (intOf x).toNat) ?_ ?_
    · exact ⟨0, rfl, Nat.zero_le _, u2, by simpa [lastW] using hb2⟩
    · rintro x wr ⟨j, rfl, hj, ur, hbr⟩
      try simp only [push_cast]
      refine mIf_dec (fun hlt => ?_) fun hlt => ?_
      · obtain ⟨y, hy⟩ : ∃ y, D.waits[j]? = some y := ⟨_, List.getElem?_eq_getElem (by omega)⟩
        have hyS := (h.w4 y (List.mem_of_getElem? hy)).1
        have hy4 := hyS.1
        have hrr := h.waits.keep ur fun _ _ => id
        obtain ⟨g', cap', hA, _, cs', hg', hle', hcs'⟩ := row_elem (f := encW) hrr (fun x hx => by rw [encW_len, (h.w4 x hx).1.1]) hy
        injection hA with hA _ _
        subst hA
        refine mN_v (r_indexAt wr (sz := 5) Try.underlying129 (by kernel_rfl) g' 0 D.waits.length c j (by omega) (by omega)) ?_
        rw [Nat.zero_add, Int.toNat_natCast]
        refine mN_v (r_loadN wr (n := 5) (by kernel_rfl) (by kernel_rfl) hg' hle') ?_
        rw [hcs']
        refine mN_new (zero136 wr) fun w3 hb3 hu3 hs3 => ?_
        refine mN_storeN (by rw [encW_len, hy4]; kernel_rfl) hb3 (by simp [encW, encB, hy4]) encW_one fun w4 hb4' hu4 hs4 => ?_
        rw [splice_all _ _ (by simp [encW, encB, hy4])] at hb4'
        have ur3 : Ext w w4 := (ur.ext hu3).trans hu4 (fun _ _ x => x) fun i hi e => by have := ur.size; omega
        have hbr4 : Blk w4 w.heap.size 124 (encB (lastW i b (D.waits.take j))) := (hbr.keep hu3 id).keep hu4 (by have := hbr.lt; omega)
        try simp only [push_cast]
        refine mN_v (r_loadB _ (by kernel_rfl) hb4' rfl) ?_
        try simp only [push_cast]
        have hnext : IntKind.wrap .i64 ((j : Int) + 1) = ((j + 1 : Nat) : Int) := by rw [i64w _ (by omega) (by omega)]; omega
        rw [hnext]
        have hmu : ∀ q : Nat, j + 1 = q → D.waits.length - (intOf (.int .i64 (q : Int))).toNat < D.waits.length - (intOf (.int .i64 (j : Int))).toNat := by
          intro q hq
          simp only [intOf, Int.toNat_natCast]
          omega
        have hsn := lastW_snoc i b (D.waits.take j) y
        by_cases hyi : y.1 = i
        · rw [show (y.1 == i) = true from by simpa using hyi]
          try simp only [push_cast]
          refine mN_v (r_loadN w4 (n := 4) (by kernel_rfl) (by kernel_rfl) hb4' (by rw [encW_len, hy4]; omega)) ?_
          rw [show ((encW y).drop 1).take 4 = encB y.2 from by rw [encW, List.drop_one, List.tail_cons, List.take_of_length_le (by rw [encB_len, hy4]; omega)]]
          refine mN_storeN (by rw [encB_len, hy4]; kernel_rfl) hbr4 (by rw [encB_len, encB_len, hy4, (lastW_sec hbS fun x hx => (h.w4 x (List.mem_of_mem_take hx)).1).1]; exact Nat.le_refl _) encB_one fun w5 hb5 hu5 hs5 => ?_
          rw [splice_all _ _ (by rw [encB_len, encB_len, hy4, (lastW_sec hbS fun x hx => (h.w4 x (List.mem_of_mem_take hx)).1).1])] at hb5
          try simp only [push_cast]
          refine ⟨⟨j + 1, rfl, by omega, ur3.trans hu5 (fun _ _ x => x) fun i hi e => by omega, ?_⟩, hmu _ rfl⟩
          rw [take_snoc hy, hsn, if_pos hyi]
          exact hb5
        · rw [show (y.1 == i) = false from by simpa using hyi]
          try simp only [push_cast]
          refine ⟨⟨j + 1, rfl, by omega, ur3, ?_⟩, hmu _ rfl⟩
          rw [take_snoc hy, hsn, if_neg hyi]
          exact hbr4
      · have hj' : D.waits.take j = D.waits := List.take_of_length_le (by omega)
        rw [hj'] at hbr
        have hlS : Sec (lastW i b D.waits) := lastW_sec hbS fun x hx => (h.w4 x hx).1
        have hl4 := hlS.1
        refine mN_v (r_loadN wr (n := 4) (by kernel_rfl) (by kernel_rfl) hbr (by rw [encB_len, hl4]; omega)) ?_
        rw [List.drop_zero, List.take_of_length_le (by rw [encB_len, hl4]; omega)]
        exact text_c hlS fun w' u' => k2 hi.1 b hb hd w' (ur.ext u')
end

end Go.Proofs.Ythgopkppmppdoaa

/-
  Disks: a text cut into sectors; what a disk does, as a model.
-/
set_option linter.unusedVariables false
set_option linter.unusedSimpArgs false
set_option maxRecDepth 20000
namespace Go.Proofs.Ythgopkppmppdoaa
open Go Go.Proofs Go.Vc
open Go.RowKit (Below intOf)

/-- A block's text as sectors. -/
def cutS (s : ByteArray) : List ByteArray := [s.extract 0 64, s.extract 64 128, s.extract 128 192, s.extract 192 256]
theorem cutS_sec {s : ByteArray} (h : s.size = 256) : Sec (cutS s) := by
  refine ⟨rfl, fun x hx => ?_⟩
  simp only [cutS, List.mem_cons, List.not_mem_nil, or_false] at hx
  rcases hx with rfl | rfl | rfl | rfl <;> simp [ByteArray.size_extract, h]
theorem joined_cutS {s : ByteArray} (h : s.size = 256) : joined (cutS s) = s := by
  obtain ⟨⟨l⟩⟩ := s
  have h : l.length = 256 := h
  show (⟨_⟩ : ByteArray) = _
  congr 1
  simp only [cutS, List.map_cons, List.map_nil, List.flatten_cons, List.flatten_nil, ByteArray.data_extract, List.extract_toArray, List.append_nil, List.extract_eq_take_drop]
  have e : ∀ a b : Nat, a ≤ b → b ≤ 256 → (l.drop a).take (b - a) ++ l.drop b = l.drop a := fun a b h1 h2 => by
    conv => rhs; rw [← List.take_append_drop (b - a) (l.drop a), List.drop_drop, show a + (b - a) = b from by omega]
  have h0 : l.take 64 ++ ((l.drop 64).take (128 - 64) ++ ((l.drop 128).take (192 - 128) ++ (l.drop 192).take (256 - 192))) = l := by
    have h4 : (l.drop 192).take (256 - 192) = l.drop 192 := List.take_of_length_le (by simp; omega)
    rw [h4, e 128 192 (by omega) (by omega), e 64 128 (by omega) (by omega), List.take_append_drop]
  simpa using congrArg List.toArray h0

section
variable {w : World} {K : Value → World → Prop}

theorem cut_c {s : ByteArray} (h : s.size = 256) (k : ∀ w', Ext w w' → K (.agg (encB (cutS s)).toArray) w') : mCall Try.prog 73 #[.string s] w K := by
  refine ⟨ok73 ?_⟩
  unfold sh73
  refine mN_new (zero124 w) fun w1 hb1 hu1 hs1 => ?_
  refine mN_new (zero124 w1) fun w2 hb2 hu2 hs2 => ?_
  refine mLoop1.mk (fun x wr => ∃ j : Nat, x = .int .i64 j ∧ j ≤ 4 ∧ Ext w wr ∧ Blk wr w1.heap.size 124 (encB ((cutS s).take j ++ [⟨#[]⟩, ⟨#[]⟩, ⟨#[]⟩, ⟨#[]⟩].drop j)) ∧ ∃ c, Blk wr w.heap.size 124 c ∧ c.length = 4) (fun x _ => 4 - (intOf x).toNat) ?_ ?_
  · exact ⟨0, rfl, Nat.zero_le _, hu1.ext hu2, hb2, _, hb1.keep hu2 id, rfl⟩
  · rintro x wr ⟨j, rfl, hj, ur, hbr, c, hc, hc4⟩
    try simp only [push_cast]
    refine mIf_dec (fun hlt => ?_) fun hlt => ?_
    · rw [i64w ((j : Int) + 1) (by omega) (by omega), i64w ((j : Int) * 64) (by omega) (by omega), i64w (((j : Int) + 1) * 64) (by omega) (by omega)]
      refine mN_v (r_sliceS wr Try.underlying9 s _ _ (by omega) (by omega) (by omega)) ?_
      refine mN_v (r_indexAtA wr (sz := 1) Try.underlying124 (by kernel_rfl) _ _ j (by omega) (by omega)) ?_
      have hlen : (encB ((cutS s).take j ++ [⟨#[]⟩, ⟨#[]⟩, ⟨#[]⟩, ⟨#[]⟩].drop j)).length = 4 := by
        simp [encB, cutS]; omega
      refine mN_store1 (by kernel_rfl) hbr (by omega) rfl fun w3 hb3 hu3 hs3 => ?_
      refine ⟨⟨j + 1, congrArg (Value.int .i64) (by omega), by omega, ur.trans hu3 (fun _ _ x => x) fun i hi e => by omega, ?_, _, hc.keep hu3 (by omega), hc4⟩, by simp only [intOf]; omega⟩
      have hj4 : j = 0 ∨ j = 1 ∨ j = 2 ∨ j = 3 := by omega
      rcases hj4 with rfl | rfl | rfl | rfl <;> exact hb3
    · obtain rfl : j = 4 := by omega
      have hbr' : Blk wr w1.heap.size 124 (encB (cutS s)) := hbr
      refine mN_v (r_loadN wr (n := 4) (by kernel_rfl) (by kernel_rfl) hbr' (by simp [encB, cutS])) ?_
      refine mN_storeN (by kernel_rfl) hc (by simp [encB, cutS, hc4]) (fun v hv => encB_one (b := cutS s) v hv) fun w3 hb3 hu3 hs3 => ?_
      rw [splice_all _ _ (by simp [encB, cutS, hc4])] at hb3
      have hb3' : Blk w3 w.heap.size 124 (encB (cutS s)) := hb3
      refine mRes.mk (.agg (encB (cutS s)).toArray) ?_ ?_
      · have := rdV_N (P := Try.prog) (w := w3) (T := 124) (n := 4) (by kernel_rfl) (by kernel_rfl) hb3' (o := 0) (by simp [encB, cutS])
        exact this
      · exact k w3 (ur.trans hu3 (fun _ _ x => x) fun i hi e => by omega)
end
end Go.Proofs.Ythgopkppmppdoaa

/-
  Disks: what changes them: the power goes, an arm goes off.
-/
set_option linter.unusedVariables false
set_option linter.unusedSimpArgs false
set_option maxRecDepth 20000
namespace Go.Proofs.Ythgopkppmppdoaa
open Go Go.Proofs Go.Vc
open Go.RowKit (Below intOf)

abbrev Bl := List (List ByteArray)
/-- How many sectors last of write k. -/
def nOf (keep : List Int) (k : Nat) : Nat :=
  match keep[k]? with
  | some x => (min (max x 0) 4).toNat
  | none => 0
theorem nOf_le (keep : List Int) (k : Nat) : nOf keep k ≤ 4 := by
  unfold nOf
  split <;> omega
def mixB (x y : List ByteArray) (n : Nat) : List ByteArray := x.take n ++ y.drop n
theorem mixB_sec {x y : List ByteArray} (hx : Sec x) (hy : Sec y) {n : Nat} (hn : n ≤ 4) : Sec (mixB x y n) := by
  refine ⟨by simp [mixB, hx.1, hy.1]; omega, fun s hs => ?_⟩
  rcases List.mem_append.1 hs with h | h
  · exact hx.2 s (List.mem_of_mem_take h)
  · exact hy.2 s (List.mem_of_mem_drop h)
def fallOne (bl : Bl) (x : Int × List ByteArray) (n : Nat) : Bl := bl.set x.1.toNat (mixB x.2 (bl.getD x.1.toNat []) n)
/-- The blocks behind so many of the writes that waited. -/
def fallTo (bl : Bl) (ws : List (Int × List ByteArray)) (keep : List Int) : Nat → Bl
  | 0 => bl
  | j + 1 => match ws[j]? with
    | some x => fallOne (fallTo bl ws keep j) x (nOf keep j)
    | none => fallTo bl ws keep j
def flushTo (bl : Bl) (ws : List (Int × List ByteArray)) : Nat → Bl
  | 0 => bl
  | j + 1 => match ws[j]? with
    | some x => (flushTo bl ws j).set x.1.toNat x.2
    | none => flushTo bl ws j

theorem fallOne_length (bl : Bl) (x : Int × List ByteArray) (n : Nat) : (fallOne bl x n).length = bl.length := by simp [fallOne]
theorem fallTo_length (bl : Bl) (ws : List (Int × List ByteArray)) (keep : List Int) : ∀ j, (fallTo bl ws keep j).length = bl.length
  | 0 => rfl
  | j + 1 => by
    unfold fallTo
    split
    · rw [fallOne_length, fallTo_length bl ws keep j]
    · exact fallTo_length bl ws keep j
theorem flushTo_length (bl : Bl) (ws : List (Int × List ByteArray)) : ∀ j, (flushTo bl ws j).length = bl.length
  | 0 => rfl
  | j + 1 => by
    unfold flushTo
    split
    · rw [List.length_set, flushTo_length bl ws j]
    · exact flushTo_length bl ws j
theorem sec_set {bl : Bl} (h : ∀ b ∈ bl, Sec b) {i : Nat} {b : List ByteArray} (hb : Sec b) : ∀ x ∈ bl.set i b, Sec x := by
  intro x hx
  rcases List.mem_or_eq_of_mem_set hx with h1 | rfl
  · exact h x h1
  · exact hb
theorem fallTo_sec {bl : Bl} {ws : List (Int × List ByteArray)} (keep : List Int) (h : ∀ b ∈ bl, Sec b) (hw : ∀ x ∈ ws, Sec x.2 ∧ 0 ≤ x.1 ∧ x.1 < bl.length) : ∀ j, ∀ b ∈ fallTo bl ws keep j, Sec b
  | 0 => h
  | j + 1 => by
    have ih := fallTo_sec keep h hw j
    unfold fallTo
    split
    · rename_i x hx
      have hx' := hw x (List.mem_of_getElem? hx)
      have hl : x.1.toNat < (fallTo bl ws keep j).length := by rw [fallTo_length]; omega
      refine sec_set ih (mixB_sec hx'.1 ?_ (nOf_le _ _))
      rw [List.getD_eq_getElem?_getD, List.getElem?_eq_getElem hl]
      exact ih _ (List.getElem_mem hl)
    · exact ih
theorem flushTo_sec {bl : Bl} {ws : List (Int × List ByteArray)} (h : ∀ b ∈ bl, Sec b) (hw : ∀ x ∈ ws, Sec x.2 ∧ 0 ≤ x.1 ∧ x.1 < bl.length) : ∀ j, ∀ b ∈ flushTo bl ws j, Sec b
  | 0 => h
  | j + 1 => by
    have ih := flushTo_sec h hw j
    unfold flushTo
    split
    · rename_i x hx
      exact sec_set ih (hw x (List.mem_of_getElem? hx)).1
    · exact ih

def DM.fall (D : DM) (keep : List Int) : DM := { D with blocks := fallTo D.blocks D.waits keep D.waits.length, waits := [], down := true, armed := false }
/-- What the arm tells at a call: none: nothing. -/
def DM.goes (D : DM) : Option Int × DM :=
  if D.armed = false then (none, D)
  else if 0 < D.after then (none, { D with after := D.after - 1 })
  else if D.cut = false then (some 270, { D with armed := false })
  else (some 271, { D with armed := false }.fall D.keep)
def DM.write (D : DM) (i : Int) (s : ByteArray) : Int × DM :=
  if ¬ (0 ≤ i ∧ i < D.blocks.length) ∨ s.size ≠ 256 then (1, D)
  else if D.down = true then (271, D)
  else match D.goes.1 with
    | some e => (e, D.goes.2)
    | none => (0, { D.goes.2 with waits := D.goes.2.waits ++ [(i, cutS s)] })
def DM.flush (D : DM) : Int × DM :=
  if D.down = true then (271, D)
  else match D.goes.1 with
    | some e => (e, { D.goes.2 with waits := [] })
    | none => (0, { D.goes.2 with blocks := flushTo D.goes.2.blocks D.goes.2.waits D.goes.2.waits.length, waits := [] })
def DM.set (D : DM) (after : Int) (cut : Bool) (keep : List Int) : Int × DM :=
  if after < 0 then (1, D) else if D.down = true then (271, D) else (0, { D with after := after, cut := cut, keep := keep, armed := true })
def DM.crash (D : DM) (keep : List Int) : Int × DM := if D.down = true then (271, D) else (0, D.fall keep)
def DM.start (D : DM) : Int × DM := if D.down = false then (7, D) else (0, { D with down := false })
def DM.read (D : DM) (i : Int) : ByteArray × Int :=
  if ¬ (0 ≤ i ∧ i < D.blocks.length) then (⟨#[]⟩, 1)
  else if D.down = true then (⟨#[]⟩, 271)
  else (joined (lastW i (D.blocks.getD i.toNat []) D.waits), 0)
def DM.lasts (D : DM) (i : Int) : ByteArray := if ¬ (0 ≤ i ∧ i < D.blocks.length) then ⟨#[]⟩ else joined (D.blocks.getD i.toNat [])

/-- A row of blocks of which one is written. -/
theorem flat_set {α : Type} (f : α → List Value) (n : Nat) : ∀ (l : List α), (∀ x ∈ l, (f x).length = n) → ∀ i (x : α), i < l.length → (f x).length = n → (l.set i x).flatMap f = splice (l.flatMap f) (i * n) (f x)
  | [], _, i, x, hi, _ => by simp at hi
  | y :: l, h, 0, x, hi, hx => by
    have hy := h y (List.mem_cons_self ..)
    simp [splice, List.flatMap_cons, hx, ← hy]
  | y :: l, h, i + 1, x, hi, hx => by
    have hy := h y (List.mem_cons_self ..)
    rw [List.set_cons_succ, List.flatMap_cons, List.flatMap_cons, flat_set f n l (fun u hu => h u (List.mem_cons_of_mem _ hu)) i x (by simpa using hi) hx]
    unfold splice
    rw [Nat.add_mul, Nat.one_mul, Nat.add_comm (i * n) n, Nat.add_assoc, ← hy, List.take_length_add_append, List.drop_length_add_append]
    simp [List.append_assoc]

/-- A store into a row's elements. -/
theorem row_store {α : Type} {f : α → List Value} {w w' : World} {T sz g cap : Nat} {l : List α} {cs : List Value} (h : Row w T sz (.slice (some ⟨g, 0, none⟩) l.length cap) l.length (l.flatMap f)) (hb : Blk w g T cs)
    (hf : ∀ x ∈ l, (f x).length = sz) {i : Nat} (hi : i < l.length) {x : α} (hx : (f x).length = sz) (h1 : Blk w' g T (splice cs (i * sz) (f x))) :
    Row w' T sz (.slice (some ⟨g, 0, none⟩) l.length cap) (l.set i x).length ((l.set i x).flatMap f) := by
  have hle : i * sz + sz ≤ l.length * sz := by
    have := Nat.mul_le_mul_right sz (show i + 1 ≤ l.length from hi)
    rwa [Nat.add_mul, Nat.one_mul] at this
  have hmax : cap ≤ maxLen := by
    rcases h.2 with ⟨h0, h2⟩ | ⟨g', cap', _, h0, _, _, _, h5, _⟩
    · omega
    · injection h0 with _ _ h02
      omega
  rcases h.form with ⟨h0, h2, _⟩ | ⟨g', cap', cs', h0, hg, hc1, hc2, hc3⟩
  · omega
  injection h0 with h01 _ h02
  injection h01 with h01
  injection h01 with h01 _ _
  subst h01 h02
  obtain rfl := (hg.inj hb).2
  have hlen : (l.flatMap f).length = l.length * sz := flat_length f sz l hf
  have hcap : l.length * sz ≤ cap * sz := Nat.mul_le_mul_right _ hc1
  have hsl : (splice cs' (i * sz) (f x)).length = cs'.length := splice_length (by rw [hx]; omega)
  have hset : ((l.set i x).flatMap f).length = l.length * sz := by
    rw [flat_set f sz l hf i x hi hx, splice_length (by rw [hx, hlen]; omega), hlen]
  have htk : (splice cs' (i * sz) (f x)).take (l.length * sz) = splice (l.flatMap f) (i * sz) (f x) := by
    apply List.ext_getElem?
    intro k
    rw [List.getElem?_take]
    have hk1 : (splice cs' (i * sz) (f x))[k]? = _ := splice_get (by rw [hx]; omega) k
    have hk2 : (splice (l.flatMap f) (i * sz) (f x))[k]? = _ := splice_get (by rw [hx, hlen]; omega) k
    rw [hk2]
    simp only [hk1]
    by_cases hk : k < l.length * sz
    · rw [if_pos hk, ← hc3, List.getElem?_take, if_pos hk]
    · rw [if_neg hk, if_neg (by omega), if_neg (by rw [hx]; omega), ← hc3, List.getElem?_take, if_neg hk]
  refine ⟨by rw [hset, List.length_set], .inr ⟨g, cap, (splice cs' (i * sz) (f x)).toArray, by rw [List.length_set], Nat.zero_le _, by simpa [Blk] using h1, by rw [List.length_set]; exact hc1, hmax, by rw [List.size_toArray, hsl, hc2], ?_⟩⟩
  rw [List.length_set, flat_set f sz l hf i x hi hx]
  exact htk
end Go.Proofs.Ythgopkppmppdoaa

/-
  Disks: the power goes.
-/
set_option linter.unusedVariables false
set_option linter.unusedSimpArgs false
set_option maxRecDepth 20000
namespace Go.Proofs.Ythgopkppmppdoaa
open Go Go.Proofs Go.Vc
open Go.RowKit (Below intOf)

section
variable {w : World} {K : Value → World → Prop} {p : Nat} {fp fk : Nat → Prop} {D : DM} {vb vw vk v : Value} {keep : List Int}

theorem DiskAt.stay {w' : World} {F : Nat → Prop} (h : DiskAt w p fp D vb vw vk) (u : Upd w w' F) (hn : ∀ k, fp k → ¬ F k) : DiskAt w' p fp D vb vw vk :=
  ⟨h.cells.keep u (hn p h.fpp), h.blocks.keep u fun k hk => hn k (h.fpb k hk), h.waits.keep u fun k hk => hn k (h.fpw k hk), h.keep.keep u fun k hk => hn k (h.fpk k hk), h.fpp, h.fpb, h.fpw, h.fpk,
    fun k hk => Nat.lt_of_lt_of_le (h.fplt k hk) u.size, h.b4, h.w4, h.bn⟩
/-- A row of ints, as a slice that is read. -/
theorem Ints.of_row (h : Row w 3 1 v keep.length (encI keep)) : Ints w v keep (Fp v) := by
  obtain ⟨A, c, rfl⟩ := h.slice
  refine ⟨A, c, rfl, Row.small' h, fun h0 => ?_⟩
  obtain ⟨g, cap, cs, e, hb, h1, h2, h3, h4⟩ := h.at_ h0
  injection e with e1 _ e2
  subst e1 e2
  refine ⟨g, 0, rfl, rfl, fun i x hx => ⟨[.int .i64 x], rfl, fun j u hu => ?_, rfl⟩⟩
  have hi := (List.getElem?_eq_some_iff.1 hx).1
  obtain ⟨rfl, rfl⟩ : j = 0 ∧ u = .int .i64 x := by
    cases j with
    | zero => simp at hu; exact ⟨rfl, hu.symm⟩
    | succ j => simp at hu
  refine hb.cell ?_
  rw [Nat.zero_add, Nat.mul_one, Nat.add_zero, h4 i (by omega)]
  simp [encI, hx]

/-- Some cells are written over; the others are as they were. -/
theorem splice_part {cs xs ys : List Value} {o n sz : Nat} (hx : xs.length = sz) (hy : (cs.drop o).take sz = ys) (ho : o + sz ≤ cs.length) (hn : n ≤ sz) : splice cs o (xs.take n) = splice cs o (xs.take n ++ ys.drop n) := by
  have hyl : ys.length = sz := by rw [← hy]; simp; omega
  have e : cs.drop o = ys ++ cs.drop (o + sz) := by rw [← hy, ← List.drop_drop, List.take_append_drop]
  have e2 : cs.drop (o + n) = ys.drop n ++ cs.drop (o + sz) := by rw [← List.drop_drop, e, List.drop_append_of_le_length (by omega)]
  have l1 : (xs.take n).length = n := by simp; omega
  have l2 : (xs.take n ++ ys.drop n).length = sz := by simp; omega
  unfold splice
  rw [l1, l2, e2]
  simp [List.append_assoc]

/-- One of a disk's blocks is written. -/
theorem DiskAt.putB {w' : World} {gb cap i : Nat} {csb : List Value} {b : List ByteArray} (h : DiskAt w p fp D (.slice (some ⟨gb, 0, none⟩) D.blocks.length cap) vw vk) (hgb : Blk w gb 124 csb) (hi : i < D.blocks.length) (hb : Sec b)
    (h1 : Blk w' gb 124 (splice csb (i * 4) (encB b))) (u : Upd w w' (· = gb)) (hs : w'.heap.size = w.heap.size) :
    DiskAt w' p fp { D with blocks := D.blocks.set i b } (.slice (some ⟨gb, 0, none⟩) D.blocks.length cap) vw vk := by
  refine ⟨h.cells.keep u fun e => ?_, ?_, h.waits.keep u fun k hk e => ?_, h.keep.keep u fun k hk e => ?_, h.fpp, h.fpb, h.fpw, h.fpk, fun k hk => by rw [hs]; exact h.fplt k hk, sec_set h.b4 hb, fun x hx => ?_, ?_⟩
  · exact (hgb.ne_type h.cells (by decide)) e.symm
  · exact row_store h.blocks hgb (fun x hx => by rw [encB_len, (h.b4 x hx).1]) hi (by rw [encB_len, hb.1]) h1
  · exact row_ne h.waits hgb (by decide) (e ▸ hk)
  · exact row_ne h.keep hgb (by decide) (e ▸ hk)
  · show Sec x.2 ∧ 0 ≤ x.1 ∧ x.1 < (D.blocks.set i b).length
    rw [List.length_set]
    exact h.w4 x hx
  · show (D.blocks.set i b).length ≤ 128
    rw [List.length_set]
    exact h.bn

/-- How many sectors of a write last. -/
theorem many_c {A : Option Addr} {c : Nat} (hk : Ints w (.slice A keep.length c) keep fk) (j : Nat) (hj : j ≤ 9223372036854775807) {J : Value → World → Prop} (k : J (.int .i64 (nOf keep j)) w) :
    mIf (.bool (decide ((j : Int) < (keep.length : Nat)))) (mN Try.prog (vS (Instr.indexAt 35 (.slice A keep.length c) (.int .i64 j))) w fun t23 w =>
      mN Try.prog (vS (Instr.loadAt 3 t23)) w fun t24 w => mN Try.prog (builtin .max #[3, 3] 3 #[false, true] #[t24, (.int .i64 0)]) w fun t25 w =>
      mN Try.prog (builtin .min #[3, 3] 3 #[false, true] #[t25, (.int .i64 4)]) w fun t26 w => J t26 w) (J (.int .i64 0) w) := by
  refine mIf_dec (fun hlt => ?_) fun hlt => ?_
  · obtain ⟨x, hx⟩ : ∃ x, keep[j]? = some x := ⟨_, List.getElem?_eq_getElem (by omega)⟩
    obtain ⟨_, b, o, rfl, _, cs, hcl, hc, rfl⟩ := Arr.at_ hk hx
    refine mN_v (r_indexAt w (sz := 1) Try.underlying35 (by kernel_rfl) b o keep.length c j (by omega) (by omega)) ?_
    rw [Int.toNat_natCast]
    refine mN_v (r_load1 w (by kernel_rfl) (hc 0 _ rfl)) ?_
    try simp only [push_cast]
    have e : ((nOf keep j : Nat) : Int) = if 4 < (if 0 > x then 0 else x) then 4 else if 0 > x then 0 else x := by
      unfold nOf
      rw [hx]
      show ((min (max x 0) 4).toNat : Int) = _
      split <;> split <;> omega
    rw [e] at k
    exact k
  · have : nOf keep j = 0 := by
      unfold nOf
      rw [List.getElem?_eq_none (by omega)]
    rw [this] at k
    exact k

theorem fall_c (h : DiskAt w p fp D vb vw vk) (hk : Ints w v keep fk) (hne : ∀ k, fk k → k ≠ p ∧ ¬ Fp vb k)
    (k : ∀ w', DiskAt w' p fp (D.fall keep) vb (.slice none 0 0) vk → Upd w w' fp → K (.tuple #[]) w') : mCall Try.prog 84 #[dptr p, v] w K := by
  have hwn : D.waits.length ≤ 9223372036854775807 := Row.small h.waits
  refine ⟨ok84 ?_⟩
  unfold sh84 dptr
  try simp only [push_cast]
  refine mN_v (r_loadB _ (by kernel_rfl) h.cells rfl) ?_
  obtain ⟨A, c, rfl⟩ := h.waits.slice
  obtain ⟨A2, c2, rfl⟩ := Arr.slice hk
  try simp only [push_cast]
  refine mLoop1.mk (fun x wr => ∃ j : Nat, x = .int .i64 j ∧ j ≤ D.waits.length ∧ DiskAt wr p fp { D with blocks := fallTo D.blocks D.waits keep j } vb (.slice A D.waits.length c) vk ∧ Upd w wr fp ∧ Ints wr (.slice A2 keep.length c2) keep fk) (fun x _ => D.waits.length - (intOf x).toNat) ?_ ?_
  · exact ⟨0, rfl, Nat.zero_le _, h, Upd.refl _ _, hk⟩
  · rintro x wr ⟨j, rfl, hj, hd, ur, hkr⟩
    try simp only [push_cast]
    refine mIf_dec (fun hlt => ?_) fun hlt => ?_
    · obtain ⟨y, hy⟩ : ∃ y, D.waits[j]? = some y := ⟨_, List.getElem?_eq_getElem (by omega)⟩
      have hyS := hd.w4 y (List.mem_of_getElem? hy)
      have hy4 := hyS.1.1
      obtain ⟨g', cap', hA, _, cs', hg', hle', hcs'⟩ := row_elem (f := encW) hd.waits (fun x hx => by rw [encW_len, (hd.w4 x hx).1.1]) hy
      injection hA with hA _ _
      subst hA
      refine mN_v (r_indexAt wr (sz := 5) Try.underlying129 (by kernel_rfl) g' 0 D.waits.length c j (by omega) (by omega)) ?_
      rw [Nat.zero_add, Int.toNat_natCast]
      refine mN_v (r_loadN wr (n := 5) (by kernel_rfl) (by kernel_rfl) hg' hle') ?_
      rw [hcs']
      refine mN_new (zero136 wr) fun w3 hb3 hu3 hs3 => ?_
      refine mN_storeN (by rw [encW_len, hy4]; kernel_rfl) hb3 (by simp [encW, encB, hy4]) encW_one fun w4 hb4' hu4 hs4 => ?_
      rw [splice_all _ _ (by simp [encW, encB, hy4])] at hb4'
      have u4 : Ext wr w4 := hu3.trans hu4 (fun _ _ x => x) fun i hi e => by omega
      have hd4 := hd.stay u4 fun _ _ => id
      have hk4 := hkr.keep u4 fun _ _ => id
      try simp only [push_cast]
      refine ⟨many_c hk4 j (by omega) ?_⟩
      unfold mDrew
      have hd5 := hd4.stay (Upd.drew w4 _) (fun _ _ => id)
      have hk5 := hk4.keep (Upd.drew w4 _) (fun _ _ => id)
      have hb5 : Blk w4.drew wr.heap.size 136 (encW y) := hb4'
      generalize hw5 : w4.drew = w5 at hd5 hk5 hb5
      have u5 : Ext wr w5 := hw5 ▸ u4.drewn
      try simp only [push_cast]
      refine mR_v (r_loadB _ (by kernel_rfl) hd5.cells rfl) ?_
      try simp only [push_cast]
      refine mR_v (r_loadB _ (by kernel_rfl) hb5 rfl) ?_
      have hlb : y.1.toNat < (fallTo D.blocks D.waits keep j).length := by
        rw [fallTo_length]
        have := (h.w4 y (List.mem_of_getElem? hy)).2
        omega
      obtain ⟨b, hb⟩ : ∃ b, (fallTo D.blocks D.waits keep j)[y.1.toNat]? = some b := ⟨_, List.getElem?_eq_getElem hlb⟩
      have hbS := hd5.b4 b (List.mem_of_getElem? hb)
      obtain ⟨gb, capb, rfl, _, csb, hgb, hleb, hcsb⟩ := row_elem (f := encB) hd5.blocks (fun x hx => by rw [encB_len, (hd5.b4 x hx).1]) hb
      refine mP_v (fun w => r_indexAt w (sz := 4) Try.underlying127 (by kernel_rfl) gb 0 _ capb y.1 hyS.2.1 (by omega)) ?_
      rw [Nat.zero_add]
      have hn4 := nOf_le keep j
      refine mP_v (fun w => r_sliceAh w (sz := 1) Try.underlying124 (by kernel_rfl) gb _ (nOf keep j) (by omega) (by omega) (by omega)) ?_
      try simp only [push_cast]
      refine mP_v (fun w => r_sliceAh w (sz := 1) Try.underlying124 (by kernel_rfl) wr.heap.size _ (nOf keep j) (by omega) (by omega) (by omega)) ?_
      have hnn : Nat.min ((nOf keep j : Int)).toNat ((nOf keep j : Int)).toNat = nOf keep j := by rw [Int.toNat_natCast]; exact Nat.min_self _
      have hcl : ((encB y.2).take (nOf keep j)).length = nOf keep j * 1 := by rw [List.length_take, encB_len, hy4]; omega
      refine mN_copy Try.underlying67 (by kernel_rfl) hgb (nOf keep j) hnn ((encB y.2).take (nOf keep j)) hcl (fun i u hu => hb5.cell ?_) (by omega) (fun u hu => encB_one u (List.mem_of_mem_take hu)) fun w6 h6 u6 hs6 => ?_
      · rw [Nat.add_comm]
        show (encB y.2)[i]? = _
        rw [List.getElem?_take] at hu
        split at hu
        · exact hu
        · cases hu
      · have hpart : splice csb (y.1.toNat * 4) ((encB y.2).take (nOf keep j)) = splice csb (y.1.toNat * 4) (encB (mixB y.2 b (nOf keep j))) := by
          rw [splice_part (ys := encB b) (sz := 4) (by rw [encB_len, hy4]) hcsb hleb hn4]
          simp [encB, mixB, List.map_append, List.map_take, List.map_drop]
        rw [hpart] at h6
        have hd6 := hd5.putB hgb hlb (mixB_sec hyS.1 hbS hn4) h6 u6 hs6
        have hb6 : Blk w6 wr.heap.size 136 (encW y) := hb5.keep u6 (hb5.ne_type hgb (by decide))
        refine ⟨rdN_v (r_loadB _ (by kernel_rfl) hb6 rfl), rdN_v (r_loadB _ (by kernel_rfl) hd6.cells rfl), ?_⟩
        try simp only [push_cast]
        rw [i64w ((j : Int) + 1) (by omega) (by omega)]
        have hstep : fallTo D.blocks D.waits keep (j + 1) = (fallTo D.blocks D.waits keep j).set y.1.toNat (mixB y.2 b (nOf keep j)) := by
          conv => lhs; unfold fallTo
          rw [hy]
          show fallOne _ _ _ = _
          unfold fallOne
          rw [List.getD_eq_getElem?_getD, hb]
          rfl
        refine ⟨⟨j + 1, congrArg (Value.int .i64) (by omega), by omega, ?_, ?_, hk5.keep u6 fun k hk e => (hne k hk).2 (by rw [e]; rfl)⟩, by simp only [intOf]; omega⟩
        · rw [hstep]
          have := hd6
          simp only [fallTo_length] at this ⊢
          exact this
        · exact (ur.ext u5).trans u6 (fun _ _ x => x) fun i hi e => by
            rw [e]
            exact h.fpb _ rfl
    · obtain rfl : j = D.waits.length := by omega
      try simp only [push_cast]
      refine mN_store1 (by kernel_rfl) hd.cells (by simp) rfl fun w1 h1 u1 s1 => ?_
      try simp only [push_cast]
      refine mN_store1 (by kernel_rfl) h1 (by simp) rfl fun w2 h2 u2 s2 => ?_
      try simp only [push_cast]
      refine mN_store1 (by kernel_rfl) h2 (by simp) rfl fun w3 h3 u3 s3 => ?_
      try simp only [push_cast]
      have u13 : Upd wr w3 (· = p) := (u1.then u2).then u3
      have hs13 : w3.heap.size = wr.heap.size := by omega
      refine k w3 ⟨h3, ?_, ?_, ?_, h.fpp, h.fpb, fun k hk => (by cases hk), h.fpk, fun k hk => (by rw [hs13]; exact hd.fplt k hk), hd.b4, fun x hx => (by cases hx), hd.bn⟩ (ur.trans u13 (fun _ _ x => x) fun i hi e => by rw [e]; exact h.fpp)
      · exact hd.blocks.keep u13 fun k hf e => row_ne hd.blocks hd.cells (by decide) (e ▸ hf)
      · exact Row.nil _ _ _
      · exact hd.keep.keep u13 fun k hf e => row_ne hd.keep hd.cells (by decide) (e ▸ hf)
end
end Go.Proofs.Ythgopkppmppdoaa

/-
  Disks: an arm goes off; writing, flushing.
-/
set_option linter.unusedVariables false
set_option linter.unusedSimpArgs false
set_option maxRecDepth 20000
namespace Go.Proofs.Ythgopkppmppdoaa
open Go Go.Proofs Go.Vc
open Go.RowKit (Below intOf)

section
variable {w : World} {K : Value → World → Prop} {p : Nat} {fp fk : Nat → Prop} {D : DM} {vb vw vk v : Value} {keep : List Int}

/-- The word that stands for what an arm tells. -/
def goesV (o : Option Int) : Value := .tuple #[.int .i64 (o.getD 0), .bool o.isSome]

theorem goes_c (h : DiskAt w p fp D vb vw vk) (ha : D.after ≤ 9223372036854775807) (k : ∀ w' vw', DiskAt w' p fp D.goes.2 vb vw' vk → Upd w w' fp → K (goesV D.goes.1) w') : mCall Try.prog 77 #[dptr p] w K := by
  refine ⟨ok77 ?_⟩
  unfold sh77 dptr
  try simp only [push_cast]
  refine mN_v (r_loadB _ (by kernel_rfl) h.cells rfl) ?_
  try simp only [push_cast]
  cases har : D.armed with
  | false =>
    have e : D.goes = (none, D) := by simp [DM.goes, har]
    rw [e] at k
    try simp only [push_cast]
    exact k w vw h (Upd.refl _ _)
  | true =>
    try simp only [push_cast]
    refine mN_v (r_loadB _ (by kernel_rfl) h.cells rfl) ?_
    try simp only [push_cast]
    refine mIf_dec (fun h0 => ?_) fun h0 => ?_
    · have e : D.goes = (none, { D with after := D.after - 1 }) := by simp [DM.goes, har, h0]
      rw [e] at k
      refine mN_v (r_loadB _ (by kernel_rfl) h.cells rfl) ?_
      try simp only [push_cast]
      rw [i64w (D.after - 1) (by omega) (by omega)]
      refine mN_store1 (by kernel_rfl) h.cells (by simp) rfl fun w1 h1 u1 s1 => ?_
      exact k w1 vw (h.put (D' := { D with after := D.after - 1 }) rfl rfl rfl u1 s1 h1) (u1.mono fun i _ e => by rw [e]; exact h.fpp)
    · refine mN_store1 (by kernel_rfl) h.cells (by simp) rfl fun w1 h1 u1 s1 => ?_
      have hd1 := h.put (D' := { D with armed := false }) rfl rfl rfl u1 s1 h1
      try simp only [push_cast]
      refine mN_v (r_loadB _ (by kernel_rfl) hd1.cells rfl) ?_
      try simp only [push_cast]
      cases hc : D.cut with
      | false =>
        have e : D.goes = (some 270, { D with armed := false }) := by simp [DM.goes, har, h0, hc]
        rw [e] at k
        try simp only [push_cast]
        exact k w1 vw hd1 (u1.mono fun i _ e => by rw [e]; exact h.fpp)
      | true =>
        have e : D.goes = (some 271, { D with armed := false }.fall D.keep) := by simp [DM.goes, har, h0, hc]
        rw [e] at k
        try simp only [push_cast]
        refine mN_v (r_loadB _ (by kernel_rfl) hd1.cells rfl) ?_
        refine fall_c hd1 (Ints.of_row hd1.keep) (fun k hk => ⟨fun e => row_ne hd1.keep hd1.cells (by decide) (e ▸ hk), row_ne_row hd1.keep hd1.blocks (by decide) hk⟩) fun w2 hd2 u2 => ?_
        exact k w2 _ hd2 (u1.trans u2 (fun i _ e => by rw [e]; exact h.fpp) fun _ _ x => x)

theorem goes_len (D : DM) : D.goes.2.blocks.length = D.blocks.length ∧ D.goes.2.waits.length ≤ D.waits.length ∧ (D.goes.1 = none → D.goes.2.waits = D.waits ∧ D.goes.2.blocks = D.blocks ∧ D.goes.2.down = D.down) ∧ D.goes.2.keep = D.keep ∧ (D.after ≤ 9223372036854775807 → D.goes.2.after ≤ 9223372036854775807) := by
  unfold DM.goes
  split
  · exact ⟨rfl, Nat.le_refl _, fun _ => ⟨rfl, rfl, rfl⟩, rfl, id⟩
  · split
    · exact ⟨rfl, Nat.le_refl _, fun _ => ⟨rfl, rfl, rfl⟩, rfl, fun h => by show D.after - 1 ≤ _; omega⟩
    · split
      · exact ⟨rfl, Nat.le_refl _, (fun h => by cases h), rfl, id⟩
      · exact ⟨fallTo_length _ _ _ _, Nat.zero_le _, (fun h => by cases h), rfl, id⟩


theorem write0_c (h : DiskAt w p fp D vb vw vk) (ha : D.after ≤ 9223372036854775807) (hwn : D.waits.length ≤ 1000000000) (i : Int) (s : ByteArray)
    (k : ∀ w' fp' vw', DiskAt w' p fp' (D.write i s).2 vb vw' vk → Upd w w' fp → (∀ k, fp' k → fp k ∨ w.heap.size ≤ k) → K (.int .i64 (D.write i s).1) w') : mCall Try.prog 20 #[dptr p, .int .i64 i, .string s] w K := by
  refine ⟨ok20 ?_⟩
  unfold sh20
  refine in_c h i ?_
  try simp only [push_cast]
  by_cases hi : 0 ≤ i ∧ i < D.blocks.length
  case neg =>
    have e : D.write i s = (1, D) := by simp only [DM.write, hi, not_false_eq_true, true_or, if_true]
    rw [e] at k
    simp only [hi, decide_false, push_cast]
    exact k w fp vw h (Upd.refl _ _) fun _ x => .inl x
  simp only [hi, decide_true, and_self, push_cast]
  by_cases hs : s.size = 256
  case neg =>
    have e : D.write i s = (1, D) := by simp only [DM.write, hs, ne_eq, not_false_eq_true, or_true, if_true]
    rw [e] at k
    rw [show ((s.size : Int) != 256) = true from by simp; omega]
    try simp only [push_cast]
    exact k w fp vw h (Upd.refl _ _) fun _ x => .inl x
  rw [show ((s.size : Int) != 256) = false from by simp; omega]
  try simp only [push_cast]
  refine up_c h ?_
  try simp only [push_cast, Bool.not_not]
  cases hd : D.down with
  | true =>
    have e : D.write i s = (271, D) := by simp only [DM.write, hi, hs, hd, and_self, not_true_eq_false, ne_eq, or_self, if_true, if_false]
    rw [e] at k
    try simp only [push_cast]
    exact k w fp vw h (Upd.refl _ _) fun _ x => .inl x
  | false =>
    have e : D.write i s = match D.goes.1 with
        | some e => (e, D.goes.2)
        | none => (0, { D.goes.2 with waits := D.goes.2.waits ++ [(i, cutS s)] }) := by
      unfold DM.write
      rw [if_neg (by simp [hi, hs]), if_neg (by simp [hd])]
      all_goals (cases D.goes.1 <;> rfl)
    try simp only [push_cast]
    refine goes_c h ha fun w1 vw1 hd1 u1 => ?_
    unfold goesV
    obtain ⟨gl1, gl2, gl3, _, _⟩ := goes_len D
    cases hg : D.goes.1 with
    | some e1 =>
      rw [hg] at e
      rw [e] at k
      try simp only [push_cast, Option.getD_some, Option.isSome_some]
      exact k w1 fp vw1 hd1 u1 fun _ x => .inl x
    | none =>
      rw [hg] at e
      rw [e] at k
      obtain ⟨g1, g2, g3⟩ := gl3 hg
      try simp only [push_cast, Option.getD_none, Option.isSome_none]
      unfold mDrew
      have hd2 := hd1.stay (Upd.drew w1 _) (fun _ _ => id)
      have u2 : Upd w w1.drew fp := u1.drewn
      generalize w1.drew = w2 at hd2 u2
      unfold dptr
      try simp only [push_cast]
      refine mR_v (r_loadB _ (by kernel_rfl) hd2.cells rfl) ?_
      refine cut_c hs fun w3 u3 => ?_
      have hd3 := hd2.stay u3 (fun _ _ => id)
      refine ⟨rdN_v (r_loadB _ (by kernel_rfl) hd3.cells rfl), ?_⟩
      have hbuild : ∀ w, (Instr.build 136 #[(0, .int .i64 i), (1, .agg (encB (cutS s)).toArray)]).run Try.prog w = .ok (.agg (encW (i, cutS s)).toArray) w := fun w => by kernel_rfl
      refine mP_v hbuild ?_
      have hsl : (Instr.buildSlice 129 1 #[(0, .agg (encW (i, cutS s)).toArray)]).run Try.prog w3 = .ok (.slice (some ⟨w3.heap.size, 0, none⟩) 1 1) (w3.alloc (.cells (encW (i, cutS s)).toArray 136 (0, 0))) := by kernel_rfl
      refine mN_new hsl fun w4 h4 u4 s4 => ?_
      have hd4 := hd3.stay u4 (fun _ _ => id)
      refine ⟨rdN_v (r_loadB _ (by kernel_rfl) hd4.cells rfl), ?_⟩
      refine mN_append (z := ((Try.prog.info? 136).getD default).zero.getD default) (sz := 5) (bytes := 72) Try.underlying129 (by kernel_rfl) (by kernel_rfl) (by omega) hd4.waits (ys := encW (i, cutS s)) (by simp [encW, encB, cutS]) (fun j u hu => h4.cell (by simpa using hu)) encW_one
        (by omega) (by omega) fun vw5 w5 hr5 u5 hy5 => ?_
      try simp only [push_cast]
      have hne5 : ¬ Fp vw1 p := row_ne hd4.waits hd4.cells (by decide)
      have hc5 := hd4.cells.keep u5 hne5
      have ho : vw5.oneCell' = true := by
        obtain ⟨A, c, rfl⟩ := hr5.slice
        rfl
      refine mN_store1 (by kernel_rfl) hc5 (by simp) ho fun w6 h6 u6 s6 => ?_
      have hlen : D.goes.2.waits.length + 1 = (D.goes.2.waits ++ [(i, cutS s)]).length := by simp
      have hfl : D.goes.2.waits.flatMap encW ++ encW (i, cutS s) = (D.goes.2.waits ++ [(i, cutS s)]).flatMap encW := by simp [List.flatMap_append]
      rw [hlen, hfl] at hr5
      have u4' : Upd w w4 fp := (u2.ext u3).ext u4
      refine k w6 (fun k => fp k ∨ Fp vw5 k) vw5 ⟨h6, ?_, ?_, ?_, .inl hd4.fpp, fun k hk => .inl (hd4.fpb k hk), fun k hk => .inr hk, fun k hk => .inl (hd4.fpk k hk), fun k hk => ?_, hd4.b4, fun x hx => ?_, hd4.bn⟩ ?_ fun k hk => ?_
      · exact (hd4.blocks.keep u5 fun k hf hf2 => row_ne_row hd4.blocks hd4.waits (by decide) hf hf2).keep u6 fun k hf e => row_ne hd4.blocks hd4.cells (by decide) (e ▸ hf)
      · exact hr5.keep u6 fun k hf e => row_ne hr5 hc5 (by decide) (e ▸ hf)
      · exact (hd4.keep.keep u5 fun k hf hf2 => row_ne_row hd4.keep hd4.waits (by decide) hf hf2).keep u6 fun k hf e => row_ne hd4.keep hd4.cells (by decide) (e ▸ hf)
      · rw [s6]
        rcases hk with hk | hk
        · exact Nat.lt_of_lt_of_le (hd4.fplt k hk) u5.size
        · exact hr5.lt hk
      · show Sec x.2 ∧ 0 ≤ x.1 ∧ x.1 < D.goes.2.blocks.length
        rcases List.mem_append.1 hx with hx | hx
        · exact hd4.w4 x hx
        · rw [List.mem_singleton] at hx
          subst hx
          exact ⟨cutS_sec hs, hi.1, by rw [gl1]; exact hi.2⟩
      · refine (u4'.trans u5 (fun _ _ x => x) fun i hi hf => hd4.fpw i hf).trans u6 (fun _ _ x => x) fun i hi e => ?_
        rw [e]
        exact hd4.fpp
      · rcases hk with hk | hk
        · exact .inl hk
        · rcases hy5 k hk with hk | hk
          · exact .inl (hd4.fpw k hk)
          · have := u4'.size
            exact .inr (by omega)
end
end Go.Proofs.Ythgopkppmppdoaa

/-
  Disks: flushing, arms, crashes; a disk as one fact.
-/
set_option linter.unusedVariables false
set_option linter.unusedSimpArgs false
set_option maxRecDepth 20000
namespace Go.Proofs.Ythgopkppmppdoaa
open Go Go.Proofs Go.Vc
open Go.RowKit (Below intOf)

section
variable {w : World} {K : Value → World → Prop} {p : Nat} {fp fk : Nat → Prop} {D : DM} {vb vw vk v : Value} {keep : List Int}

/-- What waits is done away with. -/
theorem clear_c (h : DiskAt w p fp D vb vw vk) {K : World → Prop} (k : ∀ w', DiskAt w' p fp { D with waits := [] } vb (.slice none 0 0) vk → Upd w w' fp → K w') :
    mN Try.prog (uS (Instr.storeAt 129 (.pointer (some ⟨p, 1, none⟩)) (.slice none 0 0))) w fun _ w => K w := by
  refine mN_store1 (by kernel_rfl) h.cells (by simp) rfl fun w1 h1 u1 s1 => ?_
  refine k w1 ⟨h1, ?_, Row.nil _ _ _, ?_, h.fpp, h.fpb, fun k hk => (by cases hk), h.fpk, fun k hk => (by rw [s1]; exact h.fplt k hk), h.b4, fun x hx => (by cases hx), h.bn⟩ (u1.mono fun i _ e => by rw [e]; exact h.fpp)
  · exact h.blocks.keep u1 fun k hf e => row_ne h.blocks h.cells (by decide) (e ▸ hf)
  · exact h.keep.keep u1 fun k hf e => row_ne h.keep h.cells (by decide) (e ▸ hf)

theorem flush0_c (h : DiskAt w p fp D vb vw vk) (ha : D.after ≤ 9223372036854775807)
    (k : ∀ w' vw', DiskAt w' p fp D.flush.2 vb vw' vk → Upd w w' fp → K (.int .i64 D.flush.1) w') : mCall Try.prog 22 #[dptr p] w K := by
  refine ⟨ok22 ?_⟩
  unfold sh22
  refine up_c h ?_
  try simp only [push_cast, Bool.not_not]
  cases hd : D.down with
  | true =>
    have e : D.flush = (271, D) := by simp [DM.flush, hd]
    rw [e] at k
    try simp only [push_cast]
    exact k w vw h (Upd.refl _ _)
  | false =>
    have e : D.flush = match D.goes.1 with
        | some e => (e, { D.goes.2 with waits := [] })
        | none => (0, { D.goes.2 with blocks := flushTo D.goes.2.blocks D.goes.2.waits D.goes.2.waits.length, waits := [] }) := by
      unfold DM.flush
      rw [if_neg (by simp [hd])]
      all_goals (cases D.goes.1 <;> rfl)
    try simp only [push_cast]
    refine goes_c h ha fun w1 vw1 hd1 u1 => ?_
    unfold goesV
    cases hg : D.goes.1 with
    | some e1 =>
      rw [hg] at e
      rw [e] at k
      unfold dptr
      try simp only [push_cast, Option.getD_some, Option.isSome_some]
      exact clear_c hd1 fun w2 hd2 u2 => k w2 _ hd2 (u1.then u2)
    | none =>
      rw [hg] at e
      rw [e] at k
      generalize D.goes.2 = E at hd1 k
      have hwn : E.waits.length ≤ 9223372036854775807 := Row.small hd1.waits
      unfold dptr
      try simp only [push_cast, Option.getD_none, Option.isSome_none]
      refine mN_v (r_loadB _ (by kernel_rfl) hd1.cells rfl) ?_
      obtain ⟨A, c, rfl⟩ := hd1.waits.slice
      try simp only [push_cast]
      refine mLoop1.mk (fun x wr => ∃ j : Nat, x = .int .i64 j ∧ j ≤ E.waits.length ∧ DiskAt wr p fp { E with blocks := flushTo E.blocks E.waits j } vb (.slice A E.waits.length c) vk ∧ Upd w wr fp) (fun x _ => E.waits.length - (intOf x).toNat) ?_ ?_
      · exact ⟨0, rfl, Nat.zero_le _, hd1, u1⟩
      · rintro x wr ⟨j, rfl, hj, hd, ur⟩
        try simp only [push_cast]
        refine mIf_dec (fun hlt => ?_) fun hlt => ?_
        · obtain ⟨y, hy⟩ : ∃ y, E.waits[j]? = some y := ⟨_, List.getElem?_eq_getElem (by omega)⟩
          have hyS := hd.w4 y (List.mem_of_getElem? hy)
          have hy4 := hyS.1.1
          obtain ⟨g', cap', hA, _, cs', hg', hle', hcs'⟩ := row_elem (f := encW) hd.waits (fun x hx => by rw [encW_len, (hd.w4 x hx).1.1]) hy
          injection hA with hA _ _
          subst hA
          refine mN_v (r_indexAt wr (sz := 5) Try.underlying129 (by kernel_rfl) g' 0 E.waits.length c j (by omega) (by omega)) ?_
          rw [Nat.zero_add, Int.toNat_natCast]
          refine mN_v (r_loadN wr (n := 5) (by kernel_rfl) (by kernel_rfl) hg' hle') ?_
          rw [hcs']
          refine mN_new (zero136 wr) fun w3 hb3 hu3 hs3 => ?_
          refine mN_storeN (by rw [encW_len, hy4]; kernel_rfl) hb3 (by simp [encW, encB, hy4]) encW_one fun w4 hb4' hu4 hs4 => ?_
          rw [splice_all _ _ (by simp [encW, encB, hy4])] at hb4'
          have u4 : Ext wr w4 := hu3.trans hu4 (fun _ _ x => x) fun i hi e => by omega
          have hd4 := hd.stay u4 fun _ _ => id
          unfold mDrew
          have hd5 := hd4.stay (Upd.drew w4 _) (fun _ _ => id)
          have hb5 : Blk w4.drew wr.heap.size 136 (encW y) := hb4'
          generalize hw5 : w4.drew = w5 at hd5 hb5
          have u5 : Ext wr w5 := hw5 ▸ u4.drewn
          try simp only [push_cast]
          refine mR_v (r_loadB _ (by kernel_rfl) hd5.cells rfl) ?_
          try simp only [push_cast]
          refine mR_v (r_loadB _ (by kernel_rfl) hb5 rfl) ?_
          try simp only [push_cast]
          refine mR_v (r_loadN w5 (n := 4) (by kernel_rfl) (by kernel_rfl) hb5 (by rw [encW_len, hy4]; omega)) ?_
          rw [show ((encW y).drop 1).take 4 = encB y.2 from by rw [encW, List.drop_one, List.tail_cons, List.take_of_length_le (by rw [encB_len, hy4]; omega)]]
          have hlb : y.1.toNat < (flushTo E.blocks E.waits j).length := by
            rw [flushTo_length]
            have := (hd1.w4 y (List.mem_of_getElem? hy)).2
            omega
          obtain ⟨b, hb⟩ : ∃ b, (flushTo E.blocks E.waits j)[y.1.toNat]? = some b := ⟨_, List.getElem?_eq_getElem hlb⟩
          obtain ⟨gb, capb, rfl, _, csb, hgb, hleb, hcsb⟩ := row_elem (f := encB) hd5.blocks (fun x hx => by rw [encB_len, (hd5.b4 x hx).1]) hb
          refine mP_v (fun w => r_indexAt w (sz := 4) Try.underlying127 (by kernel_rfl) gb 0 _ capb y.1 hyS.2.1 (by omega)) ?_
          rw [Nat.zero_add]
          refine mN_storeN (by rw [encB_len, hy4]; kernel_rfl) hgb (by rw [encB_len, hy4]; omega) encB_one fun w6 h6 u6 hs6 => ?_
          have hd6 := hd5.putB hgb hlb hyS.1 h6 u6 hs6
          try simp only [push_cast]
          rw [i64w ((j : Int) + 1) (by omega) (by omega)]
          have hstep : flushTo E.blocks E.waits (j + 1) = (flushTo E.blocks E.waits j).set y.1.toNat y.2 := by
            conv => lhs; unfold flushTo
            rw [hy]
          refine ⟨⟨j + 1, congrArg (Value.int .i64) (by omega), by omega, ?_, ?_⟩, by simp only [intOf]; omega⟩
          · rw [hstep]
            have := hd6
            simp only [flushTo_length] at this ⊢
            exact this
          · exact (ur.ext u5).trans u6 (fun _ _ x => x) fun i hi e => by
              rw [e]
              exact h.fpb _ rfl
        · obtain rfl : j = E.waits.length := by omega
          try simp only [push_cast]
          exact clear_c hd fun w2 hd2 u2 => k w2 _ hd2 (ur.then u2)

theorem crash0_c (h : DiskAt w p fp D vb vw vk) (hk : Ints w v keep fk) (hne : ∀ k, fk k → ¬ fp k)
    (k : ∀ w' vw', DiskAt w' p fp (D.crash keep).2 vb vw' vk → Upd w w' fp → K (.int .i64 (D.crash keep).1) w') : mCall Try.prog 30 #[dptr p, v] w K := by
  refine ⟨ok30 ?_⟩
  unfold sh30
  refine up_c h ?_
  try simp only [push_cast, Bool.not_not]
  cases hd : D.down with
  | true =>
    have e : D.crash keep = (271, D) := by simp [DM.crash, hd]
    rw [e] at k
    try simp only [push_cast]
    exact k w vw h (Upd.refl _ _)
  | false =>
    have e : D.crash keep = (0, D.fall keep) := by simp [DM.crash, hd]
    rw [e] at k
    try simp only [push_cast]
    exact fall_c h hk (fun i hi => ⟨fun e => hne i hi (e ▸ h.fpp), fun hf => hne i hi (h.fpb i hf)⟩) fun w' hd' u => k w' _ hd' u
end
end Go.Proofs.Ythgopkppmppdoaa

/-
  Disks: an arm is set; a new disk.
-/
set_option linter.unusedVariables false
set_option linter.unusedSimpArgs false
set_option maxRecDepth 20000
namespace Go.Proofs.Ythgopkppmppdoaa
open Go Go.Proofs Go.Vc
open Go.RowKit (Below intOf)

section
variable {w : World} {K : Value → World → Prop} {p : Nat} {fp fk : Nat → Prop} {D : DM} {vb vw vk v : Value} {keep : List Int}

theorem clone_c (hk : Ints w v keep fk) (hn : keep.length ≤ 1000000) (k : ∀ v' w', Row w' 3 1 v' keep.length (encI keep) → Ext w w' → (∀ k, Fp v' k → w.heap.size ≤ k) → K v' w') : mCall Try.prog 83 #[v] w K := by
  obtain ⟨A, c, rfl, _, h⟩ := hk
  cases A with
  | none =>
    have h0 : keep = [] := by
      cases keep with
      | nil => rfl
      | cons x l =>
        obtain ⟨_, _, e, _⟩ := h (by simp)
        cases e
    subst h0
    refine mCall_kit (Try.slices_Clone_int_nil _ c w) fun w' hw => ?_
    subst hw
    exact k _ _ (Row.nil _ _ _) (Upd.refl _ _) fun k hk => by cases hk
  | some a =>
    by_cases h0 : 0 < keep.length
    · obtain ⟨b, o, e, _, hc⟩ := h h0
      injection e with e
      subst e
      have hcl := Try.slices_Clone_int b o keep.length c keep w (Nat.le_refl _) (by omega) (fun j hj => by
        obtain ⟨cs, _, h2, rfl⟩ := hc j _ (List.getElem?_eq_getElem hj)
        have := h2 0 _ rfl
        rw [List.getD_eq_getElem?_getD, List.getElem?_eq_getElem hj]
        simpa using this)
      refine ⟨hcl.mono fun e w' ⟨v', he, hr, _, hbl⟩ => ?_⟩
      subst he
      rw [List.take_of_length_le (Nat.le_refl _)] at hr
      exact k v' w' (Row.of_own hr) (ext_of_below hbl) fun k hk => own_young hr hk
    · obtain rfl : keep = [] := List.eq_nil_of_length_eq_zero (by omega)
      have hcl := Try.slices_Clone_int_zero a c w
      refine ⟨hcl.mono fun e w' ⟨v', he, hr, _, hbl⟩ => ?_⟩
      subst he
      exact k v' w' (Row.of_own hr) (ext_of_below hbl) fun k hk => own_young hr hk

theorem set0_c (h : DiskAt w p fp D vb vw vk) (after : Int) (cut : Bool) (hk : Ints w v keep fk) (hn : keep.length ≤ 1000000)
    (k : ∀ w' fp' vk', DiskAt w' p fp' (D.set after cut keep).2 vb vw vk' → Upd w w' fp → (∀ k, fp' k → fp k ∨ w.heap.size ≤ k) → K (.int .i64 (D.set after cut keep).1) w') : mCall Try.prog 26 #[dptr p, .agg #[.int .i64 after, .bool cut, v]] w K := by
  refine ⟨ok26 ?_⟩
  unfold sh26
  have hbox : (Instr.box 42 (.agg #[.int .i64 after, .bool cut, v])).run Try.prog w = .ok (.pointer (some ⟨w.heap.size, 0, none⟩)) (w.alloc (.cells #[.int .i64 after, .bool cut, v] 42 (0, 0))) := by kernel_rfl
  refine mN_new hbox fun w1 h1 u1 s1 => ?_
  try simp only [push_cast]
  refine mN_v (r_loadB _ (by kernel_rfl) h1 rfl) ?_
  try simp only [push_cast]
  refine mIf_dec (fun h0 => ?_) fun h0 => ?_
  · have e : D.set after cut keep = (1, D) := by simp [DM.set, h0]
    rw [e] at k
    exact k w1 fp vk (h.stay u1 fun _ _ => id) (u1.mono fun _ _ => False.elim) fun _ x => .inl x
  have hd1 := h.stay u1 fun _ _ => id
  refine up_c hd1 ?_
  try simp only [push_cast, Bool.not_not]
  cases hd : D.down with
  | true =>
    have e : D.set after cut keep = (271, D) := by simp [DM.set, h0, hd]
    rw [e] at k
    try simp only [push_cast]
    exact k w1 fp vk hd1 (u1.mono fun _ _ => False.elim) fun _ x => .inl x
  | false =>
    have e : D.set after cut keep = (0, { D with after := after, cut := cut, keep := keep, armed := true }) := by simp [DM.set, h0, hd]
    rw [e] at k
    try simp only [push_cast]
    refine mN_v (r_loadB _ (by kernel_rfl) h1 rfl) ?_
    refine clone_c (hk.keep u1 fun _ _ => id) hn fun v2 w2 hr2 u2 y2 => ?_
    try simp only [push_cast]
    have h2 := h1.keep u2 id
    have ho : v2.oneCell' = true := by
      obtain ⟨A, c, rfl⟩ := hr2.slice
      rfl
    refine mN_store1 (by kernel_rfl) h2 (by simp) ho fun w3 h3 u3 s3 => ?_
    have hlt1 : w.heap.size < w1.heap.size := by omega
    have u3' : Ext w w3 := (u1.ext u2).trans u3 (fun _ _ x => x) fun i hi e => by omega
    have hd3 := h.stay u3' fun _ _ => id
    have hr3 : Row w3 3 1 v2 keep.length (encI keep) := hr2.keep u3 fun k hk e => by have := y2 k hk; omega
    refine mN_v (r_loadN w3 (n := 3) (by kernel_rfl) (by kernel_rfl) h3 (by simp)) ?_
    unfold dptr
    try simp only [push_cast]
    refine mN_storeN (vs := [.int .i64 after, .bool cut, v2]) (by kernel_rfl) hd3.cells (by simp) (fun u hu => ?_) fun w4 h4 u4 s4 => ?_
    · simp only [List.mem_cons, List.not_mem_nil, or_false] at hu
      rcases hu with rfl | rfl | rfl
      · rfl
      · rfl
      · exact ho
    · try simp only [push_cast]
      refine mN_store1 (by kernel_rfl) h4 (by simp [splice]) rfl fun w5 h5 u5 s5 => ?_
      have u35 : Upd w3 w5 (· = p) := u4.then u5
      have hs35 : w5.heap.size = w3.heap.size := by omega
      refine k w5 (fun k => fp k ∨ Fp v2 k) v2 ⟨h5, ?_, ?_, ?_, .inl hd3.fpp, fun k hk => .inl (hd3.fpb k hk), fun k hk => .inl (hd3.fpw k hk), fun k hk => .inr hk, fun k hk => ?_, hd3.b4, hd3.w4, hd3.bn⟩ ?_ fun k hk => ?_
      · exact hd3.blocks.keep u35 fun k hf e => row_ne hd3.blocks hd3.cells (by decide) (e ▸ hf)
      · exact hd3.waits.keep u35 fun k hf e => row_ne hd3.waits hd3.cells (by decide) (e ▸ hf)
      · exact hr3.keep u35 fun k hf e => row_ne hr3 hd3.cells (by decide) (e ▸ hf)
      · rw [hs35]
        rcases hk with hk | hk
        · exact hd3.fplt k hk
        · exact hr3.lt hk
      · exact u3'.trans u35 (fun _ _ x => x.elim) fun i hi e => by rw [e]; exact h.fpp
      · rcases hk with hk | hk
        · exact .inl hk
        · have := y2 k hk
          exact .inr (by omega)

/-- An empty block's text. -/
def zeroS : ByteArray := ⟨(List.replicate 256 (0 : UInt8)).toArray⟩
def zeroB : List ByteArray := cutS zeroS
theorem zeroS_size : zeroS.size = 256 := by
  show (List.toArray _).size = _
  simp
theorem zeroB_sec : Sec zeroB := cutS_sec zeroS_size
theorem repeat_zero : ∀ n, Lib.repeatL [(0 : UInt8)] n = List.replicate n 0
  | 0 => rfl
  | n + 1 => by
    show [0] ++ Lib.repeatL [0] n = _
    rw [repeat_zero n]
    rfl

theorem encB_rep {z : List ByteArray} (hz : z.length = 4) (n : Nat) : ((List.replicate n z).flatMap encB).length = n * 4 := by
  rw [flat_length encB 4 _ fun x hx => by rw [List.eq_of_mem_replicate hx, encB_len, hz], List.length_replicate]
theorem encB_rep_add {z : List ByteArray} (m n : Nat) : (List.replicate (m + n) z).flatMap encB = (List.replicate m z).flatMap encB ++ (List.replicate n z).flatMap encB := by
  rw [← List.flatMap_append, List.replicate_append_replicate]
theorem encB_rep_one {z : List ByteArray} (n : Nat) : ∀ v ∈ (List.replicate n z).flatMap encB, v.oneCell' = true := by
  intro v hv
  obtain ⟨x, _, hx⟩ := List.mem_flatMap.1 hv
  exact encB_one v hx

theorem splice_take {cs ys : List Value} {o : Nat} (h : o ≤ cs.length) : (splice cs o ys).take (o + ys.length) = cs.take o ++ ys := by
  unfold splice
  rw [List.take_append_of_le_length (by simp; omega), List.take_of_length_le (by simp; omega)]

/-- slices.Repeat of one block. -/
theorem repeat_c {g : Nat} {z : List ByteArray} (hz : z.length = 4) (hg : Blk w g 124 (encB z)) (n : Nat) (hn : 0 < n) (hn2 : n ≤ 128)
    (k : ∀ w' g', Row w' 124 4 (.slice (some ⟨g', 0, none⟩) n n) n ((List.replicate n z).flatMap encB) → Ext w w' → w.heap.size ≤ g' → K (.slice (some ⟨g', 0, none⟩) n n) w') : mCall Try.prog 75 #[.slice (some ⟨g, 0, none⟩) 1 1, .int .i64 n] w K := by
  refine ⟨ok75 ?_⟩
  unfold sh75
  try simp only [push_cast]
  rw [show decide ((n : Int) < 0) = false from by simp]
  try simp only [push_cast]
  refine ⟨?_⟩
  dsimp only
  rw [show IntKind.u64.wrap (0 + 1) = ((1 : Nat) : Int) from by rfl, show IntKind.u64.wrap (n : Int) = (n : Int) from by rw [IntKind.wrap_u64]; omega]
  refine mCall_kit (Try.bits_Mul 1 n (by omega) (by omega) w) fun w' hw => ?_
  subst hw
  rw [show 1 * n / 18446744073709551616 = 0 from by omega, show 1 * n % 18446744073709551616 = n from by omega]
  try simp only [push_cast]
  refine ⟨?_⟩
  try simp only [push_cast]
  have d1 : decide ((0 : Int) < 0) = false := rfl
  have d2 : decide ((9223372036854775807 : Int) < (n : Int)) = false := by simp; omega
  simp only [d1, d2, push_cast]
  refine ⟨?_⟩
  try simp only [push_cast]
  rw [i64w (n : Int) (by omega) (by omega)]
  have hmk := run_makeSlice (P := Try.prog) w' 127 124 ((Try.prog.info? 124).getD default) (((Try.prog.info? 124).getD default).zero.getD default) Try.underlying127 (by kernel_rfl) (by kernel_rfl) .i64 .i64 n n (by omega) (by omega)
    (by rw [show ((Try.prog.info? 124).getD default).size = 4 from by kernel_rfl]; omega) (by rw [show ((Try.prog.info? 124).getD default).bytes = 64 from by kernel_rfl]; omega) (by omega)
  rw [Int.toNat_natCast, show ((Try.prog.info? 124).getD default).size = 4 from by kernel_rfl] at hmk
  refine mN_new hmk fun w1 h1 u1 s1 => ?_
  have hl1 : (madeCells (((Try.prog.info? 124).getD default).zero.getD default).cells (n * 4)).toList.length = n * 4 := by
    rw [Array.length_toList, size_madeCells]
  generalize (madeCells (((Try.prog.info? 124).getD default).zero.getD default).cells (n * 4)).toList = cs0 at h1 hl1
  have hg1 := hg.keep u1 id
  refine mN_copy Try.underlying127 (by kernel_rfl) (sz := 4) h1 1 (Nat.min_eq_left (by omega)) (encB z) (by rw [encB_len, hz]) (fun j u hu => hg1.cell (by simpa using hu)) (by rw [encB_len]; omega) encB_one fun w2 h2 u2 s2 => ?_
  have u12 : Ext w' w2 := u1.trans u2 (fun _ _ x => x) fun i hi e => by omega
  refine mLoop1.mk (fun x wr => ∃ j : Nat, x = .int .i64 j ∧ 0 < j ∧ j ≤ n ∧ Ext w' wr ∧ ∃ cs, Blk wr w'.heap.size 124 cs ∧ cs.length = n * 4 ∧ cs.take (j * 4) = (List.replicate j z).flatMap encB) (fun x _ => n - (intOf x).toNat) ?_ ?_
  · refine ⟨1, rfl, by omega, by omega, u12, _, h2, by rw [splice_length (by rw [encB_len]; omega), hl1], ?_⟩
    unfold splice
    rw [List.take_zero, List.nil_append, List.take_append_of_le_length (by rw [encB_len]; omega), List.take_of_length_le (by rw [encB_len]; omega)]
    simp
  · rintro x wr ⟨j, rfl, hj0, hj, ur, cs, hc, hcl, hct⟩
    try simp only [push_cast]
    refine mIf_dec (fun hlt => ?_) fun hlt => ?_
    · unfold mDrew
      have hc' : Blk wr.drew w'.heap.size 124 cs := hc
      have ur' : Ext w' wr.drew := ur.drewn
      generalize wr.drew = w3 at hc' ur'
      refine mP_v (fun w => r_sliceLl w (sz := 4) Try.underlying127 (by kernel_rfl) _ 0 n n j (by omega) (by omega) (by omega)) ?_
      refine mP_v (fun w => r_sliceLh w (sz := 4) Try.underlying127 (by kernel_rfl) _ n n j (by omega) (by omega)) ?_
      rw [Int.toNat_natCast, Nat.zero_add]
      obtain ⟨m, hm⟩ : ∃ m, Nat.min j (n - j) = m := ⟨_, rfl⟩
      have hm1 : m ≤ j ∧ m ≤ n - j ∧ 0 < m := by
        rw [← hm]
        exact ⟨Nat.min_le_left _ _, Nat.min_le_right _ _, Nat.lt_min.2 ⟨hj0, by omega⟩⟩
      have hyl : ((List.replicate m z).flatMap encB).length = m * 4 := encB_rep hz m
      refine mN_copy Try.underlying127 (by kernel_rfl) (sz := 4) hc' m hm ((List.replicate m z).flatMap encB) hyl (fun i u hu => hc'.cell ?_) (by rw [hyl]; omega) (encB_rep_one m) fun w4 h4 u4 s4 => ?_
      · have hi : i < m * 4 := by rw [← hyl]; exact (List.getElem?_eq_some_iff.1 hu).1
        rw [Nat.zero_add, ← hu]
        have e1 : cs[i]? = ((List.replicate j z).flatMap encB)[i]? := by
          rw [← hct, List.getElem?_take, if_pos (by omega)]
        rw [e1, show j = m + (j - m) from by omega, encB_rep_add, List.getElem?_append_left (by rw [hyl]; omega)]
      · refine mP_v (fun w => r_add w 3 .i64 j m) ?_
        rw [i64w ((j : Int) + m) (by omega) (by omega)]
        refine ⟨⟨j + m, congrArg (Value.int .i64) (by omega), by omega, by omega, ur'.trans u4 (fun _ _ x => x) fun i hi e => by omega, _, h4, by rw [splice_length (by rw [hyl]; omega), hcl], ?_⟩, by simp only [intOf]; omega⟩
        rw [show (j + m) * 4 = j * 4 + ((List.replicate m z).flatMap encB).length from by rw [hyl]; omega, splice_take (by omega), hct, ← encB_rep_add]
    · obtain rfl : j = n := by omega
      refine k wr _ ⟨encB_rep hz j, .inr ⟨_, _, cs.toArray, rfl, Nat.zero_le _, hc, Nat.le_refl _, ?_, ?_, ?_⟩⟩ ur (Nat.le_refl _)
      · have : maxLen = 9223372036854775807 := by decide
        omega
      · rw [List.size_toArray, hcl]
      · exact hct
end
end Go.Proofs.Ythgopkppmppdoaa

/-
  Disks: a new one; and each function of package disk as one fact about the model.
-/
set_option linter.unusedVariables false
set_option linter.unusedSimpArgs false
set_option maxRecDepth 20000
namespace Go.Proofs.Ythgopkppmppdoaa
open Go Go.Proofs Go.Vc
open Go.RowKit (Below intOf)

def IsDisk (w : World) (p : Nat) (fp : Nat → Prop) (D : DM) : Prop := (∃ vb vw vk, DiskAt w p fp D vb vw vk) ∧ D.after ≤ 9223372036854775807
def DM.new (n : Nat) : DM := ⟨List.replicate n zeroB, [], false, false, 0, false, []⟩

section
variable {w : World} {K : Value → World → Prop} {p : Nat} {fp fk : Nat → Prop} {D : DM} {v : Value} {keep : List Int}

theorem IsDisk.stay {w' : World} {F : Nat → Prop} (h : IsDisk w p fp D) (u : Upd w w' F) (hn : ∀ k, fp k → ¬ F k) : IsDisk w' p fp D := by
  obtain ⟨⟨vb, vw, vk, h⟩, ha⟩ := h
  exact ⟨⟨vb, vw, vk, h.stay u hn⟩, ha⟩
theorem IsDisk.lt (h : IsDisk w p fp D) {k : Nat} (hk : fp k) : k < w.heap.size := by
  obtain ⟨⟨vb, vw, vk, h⟩, ha⟩ := h
  exact h.fplt k hk
theorem IsDisk.ext {w' : World} (h : IsDisk w p fp D) (u : Ext w w') : IsDisk w' p fp D := h.stay u fun _ _ => id

theorem new_c (n : Int) (k0 : (n < 4 ∨ 128 < n) → K (.tuple #[.pointer none, .int .i64 1]) w)
    (k1 : 4 ≤ n → n ≤ 128 → ∀ w' p fp, IsDisk w' p fp (DM.new n.toNat) → Ext w w' → (∀ k, fp k → w.heap.size ≤ k) → K (.tuple #[dptr p, .int .i64 0]) w') : mCall Try.prog 17 #[.int .i64 n] w K := by
  refine ⟨ok17 ?_⟩
  unfold sh17
  try simp only [push_cast]
  refine mIf_dec (fun h => k0 (.inl h)) fun h4 => ?_
  refine mIf_dec (fun h => k0 (.inr h)) fun h128 => ?_
  have hrep := Try.strings_Repeat ⟨#[0]⟩ 256 w (by omega) (by decide)
  refine mCall_kit hrep fun w1 hb1 => ?_
  have ez : (⟨(Lib.repeatL (⟨#[0]⟩ : ByteArray).data.toList 256).toArray⟩ : ByteArray) = zeroS := by
    show (⟨(Lib.repeatL [0] 256).toArray⟩ : ByteArray) = _
    rw [repeat_zero]
    rfl
  rw [ez]
  refine cut_c zeroS_size fun w2 u2 => ?_
  refine mN_new (zero124 w2) fun w3 h3 u3 s3 => ?_
  refine mN_storeN (by kernel_rfl) h3 (by simp [encB, cutS]) encB_one fun w4 h4' u4 s4 => ?_
  rw [splice_all _ _ (by simp [encB, cutS])] at h4'
  refine mN_v (r_loadN w4 (n := 4) (by kernel_rfl) (by kernel_rfl) h4' (by simp [encB, cutS])) ?_
  have e4 : ((encB (cutS zeroS)).drop 0).take 4 = encB zeroB := rfl
  rw [e4]
  have hsl : (Instr.buildSlice 127 1 #[(0, .agg (encB zeroB).toArray)]).run Try.prog w4 = .ok (.slice (some ⟨w4.heap.size, 0, none⟩) 1 1) (w4.alloc (.cells (encB zeroB).toArray 124 (0, 0))) := by kernel_rfl
  refine mN_new hsl fun w5 h5 u5 s5 => ?_
  rw [show (Value.int .i64 n) = .int .i64 (n.toNat : Nat) from congrArg _ (by omega)]
  refine repeat_c zeroB_sec.1 h5 n.toNat (by omega) (by omega) fun w6 g' hr u6 hg' => ?_
  have hbuild : (Instr.build 131 #[(0, .slice (some ⟨g', 0, none⟩) n.toNat n.toNat)]).run Try.prog w6 = .ok (.agg #[.slice (some ⟨g', 0, none⟩) n.toNat n.toNat, .slice none 0 0, .bool false, .bool false, .int .i64 0, .bool false, .slice none 0 0]) w6 := by kernel_rfl
  refine mN_v hbuild ?_
  have hbox : (Instr.box 131 (.agg #[.slice (some ⟨g', 0, none⟩) n.toNat n.toNat, .slice none 0 0, .bool false, .bool false, .int .i64 0, .bool false, .slice none 0 0])).run Try.prog w6 =
      .ok (.pointer (some ⟨w6.heap.size, 0, none⟩)) (w6.alloc (.cells #[.slice (some ⟨g', 0, none⟩) n.toNat n.toNat, .slice none 0 0, .bool false, .bool false, .int .i64 0, .bool false, .slice none 0 0] 131 (0, 0))) := by kernel_rfl
  refine mN_new hbox fun w7 h7 u7 s7 => ?_
  have u14 : Ext w w4 := (((ext_of_below hb1).ext u2).ext u3).trans u4 (fun _ _ x => x) fun i hi e => by
    have := hb1.size
    have := u2.size
    omega
  have hall : Ext w w7 := ((u14.ext u5).ext u6).ext u7
  have hsz : w.heap.size ≤ w4.heap.size := u14.size
  have hsz6 : w5.heap.size ≤ w6.heap.size := u6.size
  have hr7 := hr.keep u7 fun _ _ => id
  have hn : (DM.new n.toNat).blocks.length = n.toNat := by simp [DM.new]
  refine k1 (by omega) (by omega) w7 w6.heap.size (fun k => k = w6.heap.size ∨ k = g') ⟨⟨_, _, _, h7, ?_, Row.nil _ _ _, Row.nil _ _ _, .inl rfl, fun k hk => ?_, fun k hk => (by cases hk), fun k hk => (by cases hk), fun k hk => ?_, fun b hb => ?_, fun x hx => (by cases hx), ?_⟩, by show (0 : Int) ≤ _; omega⟩ hall fun k hk => ?_
  · rw [hn]
    exact hr7
  · right
    have : g' = k := by simpa [Fp, Value.ownBlock] using hk
    exact this.symm
  · rcases hk with rfl | rfl
    · omega
    · exact hr7.lt (by rfl)
  · rw [List.eq_of_mem_replicate hb]
    exact zeroB_sec
  · rw [hn]
    omega
  · rcases hk with rfl | rfl <;> omega

theorem isdisk_blocks (h : IsDisk w p fp D) (k : K (.int .i64 D.blocks.length) w) : mCall Try.prog 32 #[dptr p] w K := by
  obtain ⟨⟨vb, vw, vk, h⟩, ha⟩ := h
  exact blocks_c h k
theorem isdisk_waits (h : IsDisk w p fp D) (k : K (.int .i64 D.waits.length) w) : mCall Try.prog 28 #[dptr p] w K := by
  obtain ⟨⟨vb, vw, vk, h⟩, ha⟩ := h
  exact waits_c h k
theorem isdisk_up (h : IsDisk w p fp D) (k : K (.bool (!D.down)) w) : mCall Try.prog 27 #[dptr p] w K := by
  obtain ⟨⟨vb, vw, vk, h⟩, ha⟩ := h
  exact up_c h k
theorem isdisk_lasts (h : IsDisk w p fp D) (i : Int) (k : ∀ w', Ext w w' → K (.string (D.lasts i)) w') : mCall Try.prog 23 #[dptr p, .int .i64 i] w K := by
  obtain ⟨⟨vb, vw, vk, h⟩, ha⟩ := h
  unfold DM.lasts at k
  refine lasts_c h i (fun h0 => ?_) fun h0 b hb w' u => ?_
  · rw [if_pos (by omega)] at k
    exact k w (Upd.refl _ _)
  · have := (List.getElem?_eq_some_iff.1 hb).1
    rw [if_neg (by omega)] at k
    rw [List.getD_eq_getElem?_getD, hb] at k
    exact k w' u
theorem isdisk_read (h : IsDisk w p fp D) (i : Int) (k : ∀ w', Ext w w' → K (.tuple #[.string (D.read i).1, .int .i64 (D.read i).2]) w') : mCall Try.prog 29 #[dptr p, .int .i64 i] w K := by
  obtain ⟨⟨vb, vw, vk, h⟩, ha⟩ := h
  unfold DM.read at k
  refine read_c h i (fun h0 => ?_) (fun h0 h1 hd => ?_) fun h0 b hb hd w' u => ?_
  · rw [if_pos (by omega)] at k
    exact k w (Upd.refl _ _)
  · rw [if_neg (by omega), if_pos hd] at k
    exact k w (Upd.refl _ _)
  · have := (List.getElem?_eq_some_iff.1 hb).1
    rw [if_neg (by omega), if_neg (by simp [hd])] at k
    rw [List.getD_eq_getElem?_getD, hb] at k
    exact k w' u

/-- What a function that changes a disk leaves. -/
def DAfter (w : World) (p : Nat) (fp : Nat → Prop) (D' : DM) (w' : World) : Prop := ∃ fp', IsDisk w' p fp' D' ∧ Upd w w' fp ∧ ∀ k, fp' k → fp k ∨ w.heap.size ≤ k

theorem isdisk_write (h : IsDisk w p fp D) (hwn : D.waits.length ≤ 1000000000) (i : Int) (s : ByteArray) (k : ∀ w', DAfter w p fp (D.write i s).2 w' → K (.int .i64 (D.write i s).1) w') : mCall Try.prog 20 #[dptr p, .int .i64 i, .string s] w K := by
  obtain ⟨⟨vb, vw, vk, h⟩, ha⟩ := h
  refine write0_c h ha hwn i s fun w' fp' vw' h' u y => k w' ⟨fp', ⟨⟨_, _, _, h'⟩, ?_⟩, u, y⟩
  have := (goes_len D).2.2.2.2 ha
  unfold DM.write
  split
  · exact ha
  · split
    · exact ha
    · split <;> exact this
theorem isdisk_flush (h : IsDisk w p fp D) (k : ∀ w', DAfter w p fp D.flush.2 w' → K (.int .i64 D.flush.1) w') : mCall Try.prog 22 #[dptr p] w K := by
  obtain ⟨⟨vb, vw, vk, h⟩, ha⟩ := h
  refine flush0_c h ha fun w' vw' h' u => k w' ⟨fp, ⟨⟨_, _, _, h'⟩, ?_⟩, u, fun _ x => .inl x⟩
  have := (goes_len D).2.2.2.2 ha
  unfold DM.flush
  split
  · exact ha
  · split <;> exact this
theorem isdisk_set (h : IsDisk w p fp D) (after : Int) (hA : after ≤ 9223372036854775807) (cut : Bool) (hk : Ints w v keep fk) (hn : keep.length ≤ 1000000) (k : ∀ w', DAfter w p fp (D.set after cut keep).2 w' → K (.int .i64 (D.set after cut keep).1) w') :
    mCall Try.prog 26 #[dptr p, .agg #[.int .i64 after, .bool cut, v]] w K := by
  obtain ⟨⟨vb, vw, vk, h⟩, ha⟩ := h
  refine set0_c h after cut hk hn fun w' fp' vk' h' u y => k w' ⟨fp', ⟨⟨_, _, _, h'⟩, ?_⟩, u, y⟩
  unfold DM.set
  split
  · exact ha
  · split
    · exact ha
    · exact hA
theorem isdisk_crash (h : IsDisk w p fp D) (hk : Ints w v keep fk) (hne : ∀ k, fk k → ¬ fp k) (k : ∀ w', DAfter w p fp (D.crash keep).2 w' → K (.int .i64 (D.crash keep).1) w') : mCall Try.prog 30 #[dptr p, v] w K := by
  obtain ⟨⟨vb, vw, vk, h⟩, ha⟩ := h
  refine crash0_c h hk hne fun w' vw' h' u => k w' ⟨fp, ⟨⟨_, _, _, h'⟩, ?_⟩, u, fun _ x => .inl x⟩
  unfold DM.crash
  split <;> exact ha
theorem isdisk_start (h : IsDisk w p fp D) (k : ∀ w', DAfter w p fp D.start.2 w' → K (.int .i64 D.start.1) w') : mCall Try.prog 31 #[dptr p] w K := by
  obtain ⟨⟨vb, vw, vk, h⟩, ha⟩ := h
  unfold DM.start at k
  refine start_c h (fun h0 => ?_) fun h0 w' h' u s => ?_
  · rw [if_pos h0] at k
    exact k w ⟨fp, ⟨⟨_, _, _, h⟩, ha⟩, Upd.refl _ _, fun _ x => .inl x⟩
  · rw [if_neg (by simp [h0])] at k
    refine k w' ⟨fp, ⟨⟨_, _, _, h'⟩, ha⟩, u.mono fun i _ e => by rw [e]; exact h.fpp, fun _ x => .inl x⟩
end
end Go.Proofs.Ythgopkppmppdoaa
