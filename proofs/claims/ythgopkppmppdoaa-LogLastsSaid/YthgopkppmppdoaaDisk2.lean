/-
  Disks: how a block reads; a text cut into sectors.
-/
import Derived.Test.YthgopkppmppdoaaDisk1
set_option linter.unusedVariables false
set_option linter.unusedSimpArgs false
set_option maxRecDepth 20000
namespace Go.Proofs.Ythgopkppmppdoaa
open Go Go.Proofs Go.Vc
open Go.RowKit (Below intOf)

/-- A block as the writes that wait have it. -/
def lastW (i : Int) (b : List ByteArray) (l : List (Int × List ByteArray)) : List ByteArray := l.foldl (fun acc x => if x.1 = i then x.2 else acc) b

theorem lastW_snoc (i : Int) (b : List ByteArray) (l : List (Int × List ByteArray)) (x : Int × List ByteArray) : lastW i b (l ++ [x]) = if x.1 = i then x.2 else lastW i b l := by
  simp [lastW]
theorem take_snoc {α : Type} {l : List α} {i : Nat} {x : α} (h : l[i]? = some x) : l.take (i + 1) = l.take i ++ [x] := by
  rw [List.take_add_one, h]; rfl
theorem lastW_sec {i : Int} {b : List ByteArray} (hb : Sec b) : ∀ {l : List (Int × List ByteArray)}, (∀ x ∈ l, Sec x.2) → Sec (lastW i b l) := by
  intro l
  unfold lastW
  induction l generalizing b with
  | nil => intro _; exact hb
  | cons x l ih =>
    intro h
    rw [List.foldl_cons]
    refine ih ?_ fun y hy => h y (List.mem_cons_of_mem _ hy)
    split
    · exact h x (List.mem_cons_self ..)
    · exact hb

theorem splice_all (cs vs : List Value) (h : cs.length = vs.length) : splice cs 0 vs = vs := by
  simp [splice, ← h]

theorem Row.small {w : World} {T sz n : Nat} {v : Value} {xs : List Value} (h : Row w T sz v n xs) : n ≤ 9223372036854775807 := by
  rcases h.2 with ⟨_, h2⟩ | ⟨_, _, _, _, _, _, h4, h5, _⟩
  · omega
  · have : maxLen = 9223372036854775807 := by decide
    omega

theorem Row.small' {w : World} {T sz n : Nat} {v : Value} {xs : List Value} (h : Row w T sz v n xs) : n ≤ maxLen := by
  rcases h.2 with ⟨_, h2⟩ | ⟨_, _, _, _, _, _, h4, h5, _⟩ <;> omega
section
variable {w : World} {K : Value → World → Prop} {p : Nat} {fp : Nat → Prop} {D : DM} {vb vw vk : Value}

theorem zero124 (w : World) : (Instr.alloc 124 true (.tuple #[])).run Try.prog w = .ok (.pointer (some ⟨w.heap.size, 0, none⟩)) (w.alloc (.cells (encB [⟨#[]⟩, ⟨#[]⟩, ⟨#[]⟩, ⟨#[]⟩]).toArray 124 (0, 0))) := by kernel_rfl
theorem zero136 (w : World) : (Instr.alloc 136 true (.tuple #[])).run Try.prog w = .ok (.pointer (some ⟨w.heap.size, 0, none⟩)) (w.alloc (.cells (encW (0, [⟨#[]⟩, ⟨#[]⟩, ⟨#[]⟩, ⟨#[]⟩])).toArray 136 (0, 0))) := by kernel_rfl
theorem encB_one {b : List ByteArray} : ∀ v ∈ encB b, v.oneCell' = true := by
  intro v hv
  obtain ⟨x, _, rfl⟩ := List.mem_map.1 hv
  rfl
theorem encW_one {x : Int × List ByteArray} : ∀ v ∈ encW x, v.oneCell' = true := by
  intro v hv
  rcases List.mem_cons.1 hv with rfl | hv
  · rfl
  · exact encB_one v hv
theorem encB_len {b : List ByteArray} : (encB b).length = b.length := by simp [encB]
theorem encW_len {x : Int × List ByteArray} : (encW x).length = x.2.length + 1 := by simp [encW, encB]

theorem read_c (h : DiskAt w p fp D vb vw vk) (i : Int)
    (k0 : (i < 0 ∨ (D.blocks.length : Int) ≤ i) → K (.tuple #[.string ⟨#[]⟩, .int .i64 1]) w)
    (k1 : 0 ≤ i → i < D.blocks.length → D.down = true → K (.tuple #[.string ⟨#[]⟩, .int .i64 271]) w)
    (k2 : 0 ≤ i → ∀ b, D.blocks[i.toNat]? = some b → D.down = false → ∀ w', Ext w w' → K (.tuple #[.string (joined (lastW i b D.waits)), .int .i64 0]) w') :
    mCall Try.prog 29 #[dptr p, .int .i64 i] w K := by
  have hwn : D.waits.length ≤ 9223372036854775807 := Row.small h.waits
  refine ⟨ok29 ?_⟩
  unfold sh29
  refine in_c h i ?_
  try simp only [push_cast]
  by_cases hi : 0 ≤ i ∧ i < D.blocks.length
  case neg =>
    simp only [hi, decide_false, push_cast]
    exact k0 (by omega)
  simp only [hi, decide_true, and_self, push_cast]
  refine up_c h ?_
  try simp only [push_cast, Bool.not_not]
  cases hd : D.down with
  | true => exact k1 hi.1 hi.2 hd
  | false =>
    unfold dptr
    try simp only [push_cast]
    refine mN_v (r_loadB _ (by kernel_rfl) h.cells rfl) ?_
    obtain ⟨b, hb⟩ : ∃ b, D.blocks[i.toNat]? = some b := ⟨_, List.getElem?_eq_getElem (by omega)⟩
    have hbS := h.b4 b (List.mem_of_getElem? hb)
    have hb4 := hbS.1
    obtain ⟨g, cap, rfl, _, cs, hg, hle, hcs⟩ := row_elem (f := encB) h.blocks (fun x hx => by simp [encB, (h.b4 x hx).1]) hb
    refine mN_v (r_indexAt w (sz := 4) Try.underlying127 (by kernel_rfl) g 0 D.blocks.length cap i hi.1 hi.2) ?_
    rw [Nat.zero_add]
    refine mN_v (r_loadN w (n := 4) (by kernel_rfl) (by kernel_rfl) hg hle) ?_
    rw [hcs]
    refine mN_new (zero124 w) fun w1 hb1 hu1 hs1 => ?_
    refine mN_storeN (by rw [encB_len, hb4]; kernel_rfl) hb1 (by simp [encB, hb4]) encB_one fun w2 hb2 hu2 hs2 => ?_
    rw [splice_all _ _ (by simp [encB, hb4])] at hb2
    have u2 : Ext w w2 := hu1.trans hu2 (fun _ _ x => x) fun i hi e => by omega
    try simp only [push_cast]
    have hc2 := h.cells.keep u2 id
    refine mN_v (r_loadB _ (by kernel_rfl) hc2 rfl) ?_
    have hr2 := h.waits.keep u2 fun _ _ => id
    obtain ⟨A, c, rfl⟩ := hr2.slice
    try simp only [push_cast]
    refine mLoop1.mk (fun x wr => ∃ j : Nat, x = .int .i64 j ∧ j ≤ D.waits.length ∧ Ext w wr ∧ Blk wr w.heap.size 124 (encB (lastW i b (D.waits.take j)))) (fun x _ => D.waits.length - (intOf x).toNat) ?_ ?_
    · exact ⟨0, rfl, Nat.zero_le _, u2, by simpa [lastW] using hb2⟩
    · rintro x wr ⟨j, rfl, hj, ur, hbr⟩
      try simp only [push_cast]
      refine mIf_dec (fun hlt => ?_) fun hlt => ?_
      · obtain ⟨y, hy⟩ : ∃ y, D.waits[j]? = some y := ⟨_, List.getElem?_eq_getElem (by omega)⟩
        have hyS := (h.w4 y (List.mem_of_getElem? hy)).1
        have hy4 := hyS.1
        have hrr := h.waits.keep ur fun _ _ => id
        obtain ⟨g', cap', hA, _, cs', hg', hle', hcs'⟩ := row_elem (f := encW) hrr (fun x hx => by rw [encW_len, (h.w4 x hx).1.1]) hy
        injection hA with hA _ _
        subst hA
        refine mN_v (r_indexAt wr (sz := 5) Try.underlying129 (by kernel_rfl) g' 0 D.waits.length c j (by omega) (by omega)) ?_
        rw [Nat.zero_add, Int.toNat_natCast]
        refine mN_v (r_loadN wr (n := 5) (by kernel_rfl) (by kernel_rfl) hg' hle') ?_
        rw [hcs']
        refine mN_new (zero136 wr) fun w3 hb3 hu3 hs3 => ?_
        refine mN_storeN (by rw [encW_len, hy4]; kernel_rfl) hb3 (by simp [encW, encB, hy4]) encW_one fun w4 hb4' hu4 hs4 => ?_
        rw [splice_all _ _ (by simp [encW, encB, hy4])] at hb4'
        have ur3 : Ext w w4 := (ur.ext hu3).trans hu4 (fun _ _ x => x) fun i hi e => by have := ur.size; omega
        have hbr4 : Blk w4 w.heap.size 124 (encB (lastW i b (D.waits.take j))) := (hbr.keep hu3 id).keep hu4 (by have := hbr.lt; omega)
        try simp only [push_cast]
        refine mN_v (r_loadB _ (by kernel_rfl) hb4' rfl) ?_
        try simp only [push_cast]
        have hnext : IntKind.wrap .i64 ((j : Int) + 1) = ((j + 1 : Nat) : Int) := by rw [i64w _ (by omega) (by omega)]; omega
        rw [hnext]
        have hmu : ∀ q : Nat, j + 1 = q → D.waits.length - (intOf (.int .i64 (q : Int))).toNat < D.waits.length - (intOf (.int .i64 (j : Int))).toNat := by
          intro q hq
          simp only [intOf, Int.toNat_natCast]
          omega
        have hsn := lastW_snoc i b (D.waits.take j) y
        by_cases hyi : y.1 = i
        · rw [show (y.1 == i) = true from by simpa using hyi]
          try simp only [push_cast]
          refine mN_v (r_loadN w4 (n := 4) (by kernel_rfl) (by kernel_rfl) hb4' (by rw [encW_len, hy4]; omega)) ?_
          rw [show ((encW y).drop 1).take 4 = encB y.2 from by rw [encW, List.drop_one, List.tail_cons, List.take_of_length_le (by rw [encB_len, hy4]; omega)]]
          refine mN_storeN (by rw [encB_len, hy4]; kernel_rfl) hbr4 (by rw [encB_len, encB_len, hy4, (lastW_sec hbS fun x hx => (h.w4 x (List.mem_of_mem_take hx)).1).1]; exact Nat.le_refl _) encB_one fun w5 hb5 hu5 hs5 => ?_
          rw [splice_all _ _ (by rw [encB_len, encB_len, hy4, (lastW_sec hbS fun x hx => (h.w4 x (List.mem_of_mem_take hx)).1).1])] at hb5
          try simp only [push_cast]
          refine ⟨⟨j + 1, rfl, by omega, ur3.trans hu5 (fun _ _ x => x) fun i hi e => by omega, ?_⟩, hmu _ rfl⟩
          rw [take_snoc hy, hsn, if_pos hyi]
          exact hb5
        · rw [show (y.1 == i) = false from by simpa using hyi]
          try simp only [push_cast]
          refine ⟨⟨j + 1, rfl, by omega, ur3, ?_⟩, hmu _ rfl⟩
          rw [take_snoc hy, hsn, if_neg hyi]
          exact hbr4
      · have hj' : D.waits.take j = D.waits := List.take_of_length_le (by omega)
        rw [hj'] at hbr
        have hlS : Sec (lastW i b D.waits) := lastW_sec hbS fun x hx => (h.w4 x hx).1
        have hl4 := hlS.1
        refine mN_v (r_loadN wr (n := 4) (by kernel_rfl) (by kernel_rfl) hbr (by rw [encB_len, hl4]; omega)) ?_
        rw [List.drop_zero, List.take_of_length_le (by rw [encB_len, hl4]; omega)]
        exact text_c hlS fun w' u' => k2 hi.1 b hb hd w' (ur.ext u')
end

end Go.Proofs.Ythgopkppmppdoaa
