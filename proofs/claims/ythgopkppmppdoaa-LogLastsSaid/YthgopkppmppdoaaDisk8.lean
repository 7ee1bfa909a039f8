/-
  Disks: an arm is set; a new disk.
-/
import Derived.Test.YthgopkppmppdoaaDisk7
import Derived.Laws.MakeOwn
set_option linter.unusedVariables false
set_option linter.unusedSimpArgs false
set_option maxRecDepth 20000
namespace Go.Proofs.Ythgopkppmppdoaa
open Go Go.Proofs Go.Vc
open Go.RowKit (Below intOf)

section
variable {w : World} {K : Value → World → Prop} {p : Nat} {fp fk : Nat → Prop} {D : DM} {vb vw vk v : Value} {keep : List Int}

theorem clone_c (hk : Ints w v keep fk) (hn : keep.length ≤ 1000000) (k : ∀ v' w', Row w' 3 1 v' keep.length (encI keep) → Ext w w' → (∀ k, Fp v' k → w.heap.size ≤ k) → K v' w') : mCall Try.prog 83 #[v] w K := by
  obtain ⟨A, c, rfl, _, h⟩ := hk
  cases A with
  | none =>
    have h0 : keep = [] := by
      cases keep with
      | nil => rfl
      | cons x l =>
        obtain ⟨_, _, e, _⟩ := h (by simp)
        cases e
    subst h0
    refine mCall_kit (Try.slices_Clone_int_nil _ c w) fun w' hw => ?_
    subst hw
    exact k _ _ (Row.nil _ _ _) (Upd.refl _ _) fun k hk => by cases hk
  | some a =>
    by_cases h0 : 0 < keep.length
    · obtain ⟨b, o, e, _, hc⟩ := h h0
      injection e with e
      subst e
      have hcl := Try.slices_Clone_int b o keep.length c keep w (Nat.le_refl _) (by omega) (fun j hj => by
        obtain ⟨cs, _, h2, rfl⟩ := hc j _ (List.getElem?_eq_getElem hj)
        have := h2 0 _ rfl
        rw [List.getD_eq_getElem?_getD, List.getElem?_eq_getElem hj]
        simpa using this)
      refine ⟨hcl.mono fun e w' ⟨v', he, hr, _, hbl⟩ => ?_⟩
      subst he
      rw [List.take_of_length_le (Nat.le_refl _)] at hr
      exact k v' w' (Row.of_own hr) (ext_of_below hbl) fun k hk => own_young hr hk
    · obtain rfl : keep = [] := List.eq_nil_of_length_eq_zero (by omega)
      have hcl := Try.slices_Clone_int_zero a c w
      refine ⟨hcl.mono fun e w' ⟨v', he, hr, _, hbl⟩ => ?_⟩
      subst he
      exact k v' w' (Row.of_own hr) (ext_of_below hbl) fun k hk => own_young hr hk

theorem set0_c (h : DiskAt w p fp D vb vw vk) (after : Int) (cut : Bool) (hk : Ints w v keep fk) (hn : keep.length ≤ 1000000)
    (k : ∀ w' fp' vk', DiskAt w' p fp' (D.set after cut keep).2 vb vw vk' → Upd w w' fp → (∀ k, fp' k → fp k ∨ w.heap.size ≤ k) → K (.int .i64 (D.set after cut keep).1) w') : mCall Try.prog 26 #[dptr p, .agg #[.int .i64 after, .bool cut, v]] w K := by
  refine ⟨ok26 ?_⟩
  unfold sh26
  have hbox : (Instr.box 42 (.agg #[.int .i64 after, .bool cut, v])).run Try.prog w = .ok (.pointer (some ⟨w.heap.size, 0, none⟩)) (w.alloc (.cells #[.int .i64 after, .bool cut, v] 42 (0, 0))) := by kernel_rfl
  refine mN_new hbox fun w1 h1 u1 s1 => ?_
  try simp only [push_cast]
  refine mN_v (r_loadB _ (by kernel_rfl) h1 rfl) ?_
  try simp only [push_cast]
  refine mIf_dec (fun h0 => ?_) fun h0 => ?_
  · have e : D.set after cut keep = (1, D) := by simp [DM.set, h0]
    rw [e] at k
    exact k w1 fp vk (h.stay u1 fun _ _ => id) (u1.mono fun _ _ => False.elim) fun _ x => .inl x
  have hd1 := h.stay u1 fun _ _ => id
  refine up_c hd1 ?_
  try simp only [push_cast, Bool.not_not]
  cases hd : D.down with
  | true =>
    have e : D.set after cut keep = (271, D) := by simp [DM.set, h0, hd]
    rw [e] at k
    try simp only [push_cast]
    exact k w1 fp vk hd1 (u1.mono fun _ _ => False.elim) fun _ x => .inl x
  | false =>
    have e : D.set after cut keep = (0, { D with after := after, cut := cut, keep := keep, armed := true }) := by simp [DM.set, h0, hd]
    rw [e] at k
    try simp only [push_cast]
    refine mN_v (r_loadB _ (by kernel_rfl) h1 rfl) ?_
    refine clone_c (hk.keep u1 fun _ _ => id) hn fun v2 w2 hr2 u2 y2 => ?_
    try simp only [push_cast]
    have h2 := h1.keep u2 id
    have ho : v2.oneCell' = true := by
      obtain ⟨A, c, rfl⟩ := hr2.slice
      rfl
    refine mN_store1 (by kernel_rfl) h2 (by simp) ho fun w3 h3 u3 s3 => ?_
    have hlt1 : w.heap.size < w1.heap.size := by omega
    have u3' : Ext w w3 := (u1.ext u2).trans u3 (fun _ _ x => x) fun i hi e => by omega
    have hd3 := h.stay u3' fun _ _ => id
    have hr3 : Row w3 3 1 v2 keep.length (encI keep) := hr2.keep u3 fun k hk e => by have := y2 k hk; omega
    refine mN_v (r_loadN w3 (n := 3) (by kernel_rfl) (by kernel_rfl) h3 (by simp)) ?_
    unfold dptr
    try simp only [push_cast]
    refine mN_storeN (vs := [.int .i64 after, .bool cut, v2]) (by kernel_rfl) hd3.cells (by simp) (fun u hu => ?_) fun w4 h4 u4 s4 => ?_
    · simp only [List.mem_cons, List.not_mem_nil, or_false] at hu
      rcases hu with rfl | rfl | rfl
      · rfl
      · rfl
      · exact ho
    · try simp only [push_cast]
      refine mN_store1 (by kernel_rfl) h4 (by simp [splice]) rfl fun w5 h5 u5 s5 => ?_
      have u35 : Upd w3 w5 (· = p) := u4.then u5
      have hs35 : w5.heap.size = w3.heap.size := by omega
      refine k w5 (fun k => fp k ∨ Fp v2 k) v2 ⟨h5, ?_, ?_, ?_, .inl hd3.fpp, fun k hk => .inl (hd3.fpb k hk), fun k hk => .inl (hd3.fpw k hk), fun k hk => .inr hk, fun k hk => ?_, hd3.b4, hd3.w4, hd3.bn⟩ ?_ fun k hk => ?_
      · exact hd3.blocks.keep u35 fun k hf e => row_ne hd3.blocks hd3.cells (by decide) (e ▸ hf)
      · exact hd3.waits.keep u35 fun k hf e => row_ne hd3.waits hd3.cells (by decide) (e ▸ hf)
      · exact hr3.keep u35 fun k hf e => row_ne hr3 hd3.cells (by decide) (e ▸ hf)
      · rw [hs35]
        rcases hk with hk | hk
        · exact hd3.fplt k hk
        · exact hr3.lt hk
      · exact u3'.trans u35 (fun _ _ x => x.elim) fun i hi e => by rw [e]; exact h.fpp
      · rcases hk with hk | hk
        · exact .inl hk
        · have := y2 k hk
          exact .inr (by omega)

/-- An empty block's text. -/
def zeroS : ByteArray := ⟨(List.replicate 256 (0 : UInt8)).toArray⟩
def zeroB : List ByteArray := cutS zeroS
theorem zeroS_size : zeroS.size = 256 := by
  show (List.toArray _).size = _
  simp
theorem zeroB_sec : Sec zeroB := cutS_sec zeroS_size
theorem repeat_zero : ∀ n, Lib.repeatL [(0 : UInt8)] n = List.replicate n 0
  | 0 => rfl
  | n + 1 => by
    show [0] ++ Lib.repeatL [0] n = _
    rw [repeat_zero n]
    rfl

theorem encB_rep {z : List ByteArray} (hz : z.length = 4) (n : Nat) : ((List.replicate n z).flatMap encB).length = n * 4 := by
  rw [flat_length encB 4 _ fun x hx => by rw [List.eq_of_mem_replicate hx, encB_len, hz], List.length_replicate]
theorem encB_rep_add {z : List ByteArray} (m n : Nat) : (List.replicate (m + n) z).flatMap encB = (List.replicate m z).flatMap encB ++ (List.replicate n z).flatMap encB := by
  rw [← List.flatMap_append, List.replicate_append_replicate]
theorem encB_rep_one {z : List ByteArray} (n : Nat) : ∀ v ∈ (List.replicate n z).flatMap encB, v.oneCell' = true := by
  intro v hv
  obtain ⟨x, _, hx⟩ := List.mem_flatMap.1 hv
  exact encB_one v hx

theorem splice_take {cs ys : List Value} {o : Nat} (h : o ≤ cs.length) : (splice cs o ys).take (o + ys.length) = cs.take o ++ ys := by
  unfold splice
  rw [List.take_append_of_le_length (by simp; omega), List.take_of_length_le (by simp; omega)]

/-- slices.Repeat of one block. -/
theorem repeat_c {g : Nat} {z : List ByteArray} (hz : z.length = 4) (hg : Blk w g 124 (encB z)) (n : Nat) (hn : 0 < n) (hn2 : n ≤ 128)
    (k : ∀ w' g', Row w' 124 4 (.slice (some ⟨g', 0, none⟩) n n) n ((List.replicate n z).flatMap encB) → Ext w w' → w.heap.size ≤ g' → K (.slice (some ⟨g', 0, none⟩) n n) w') : mCall Try.prog 75 #[.slice (some ⟨g, 0, none⟩) 1 1, .int .i64 n] w K := by
  refine ⟨ok75 ?_⟩
  unfold sh75
  try simp only [push_cast]
  rw [show decide ((n : Int) < 0) = false from by simp]
  try simp only [push_cast]
  refine ⟨?_⟩
  dsimp only
  rw [show IntKind.u64.wrap (0 + 1) = ((1 : Nat) : Int) from by rfl, show IntKind.u64.wrap (n : Int) = (n : Int) from by rw [IntKind.wrap_u64]; omega]
  refine mCall_kit (Try.bits_Mul 1 n (by omega) (by omega) w) fun w' hw => ?_
  subst hw
  rw [show 1 * n / 18446744073709551616 = 0 from by omega, show 1 * n % 18446744073709551616 = n from by omega]
  try simp only [push_cast]
  refine ⟨?_⟩
  try simp only [push_cast]
  have d1 : decide ((0 : Int) < 0) = false := rfl
  have d2 : decide ((9223372036854775807 : Int) < (n : Int)) = false := by simp; omega
  simp only [d1, d2, push_cast]
  refine ⟨?_⟩
  try simp only [push_cast]
  rw [i64w (n : Int) (by omega) (by omega)]
  have hmk := run_makeSlice (P := Try.prog) w' 127 124 ((Try.prog.info? 124).getD default) (((Try.prog.info? 124).getD default).zero.getD default) Try.underlying127 (by kernel_rfl) (by kernel_rfl) .i64 .i64 n n (by omega) (by omega)
    (by rw [show ((Try.prog.info? 124).getD default).size = 4 from by kernel_rfl]; omega) (by rw [show ((Try.prog.info? 124).getD default).bytes = 64 from by kernel_rfl]; omega) (by omega)
  rw [Int.toNat_natCast, show ((Try.prog.info? 124).getD default).size = 4 from by kernel_rfl] at hmk
  refine mN_new hmk fun w1 h1 u1 s1 => ?_
  have hl1 : (madeCells (((Try.prog.info? 124).getD default).zero.getD default).cells (n * 4)).toList.length = n * 4 := by
    rw [Array.length_toList, size_madeCells]
  generalize (madeCells (((Try.prog.info? 124).getD default).zero.getD default).cells (n * 4)).toList = cs0 at h1 hl1
  have hg1 := hg.keep u1 id
  refine mN_copy Try.underlying127 (by kernel_rfl) (sz := 4) h1 1 (Nat.min_eq_left (by omega)) (encB z) (by rw [encB_len, hz]) (fun j u hu => hg1.cell (by simpa using hu)) (by rw [encB_len]; omega) encB_one fun w2 h2 u2 s2 => ?_
  have u12 : Ext w' w2 := u1.trans u2 (fun _ _ x => x) fun i hi e => by omega
  refine mLoop1.mk (fun x wr => ∃ j : Nat, x = .int .i64 j ∧ 0 < j ∧ j ≤ n ∧ Ext w' wr ∧ ∃ cs, Blk wr w'.heap.size 124 cs ∧ cs.length = n * 4 ∧ cs.take (j * 4) = (List.replicate j z).flatMap encB) (fun x _ => n - (intOf x).toNat) ?_ ?_
  · refine ⟨1, rfl, by omega, by omega, u12, _, h2, by rw [splice_length (by rw [encB_len]; omega), hl1], ?_⟩
    unfold splice
    rw [List.take_zero, List.nil_append, List.take_append_of_le_length (by rw [encB_len]; omega), List.take_of_length_le (by rw [encB_len]; omega)]
    simp
  · rintro x wr ⟨j, rfl, hj0, hj, ur, cs, hc, hcl, hct⟩
    try simp only [push_cast]
    refine mIf_dec (fun hlt => ?_) fun hlt => ?_
    · unfold mDrew
      have hc' : Blk wr.drew w'.heap.size 124 cs := hc
      have ur' : Ext w' wr.drew := ur.drewn
      generalize wr.drew = w3 at hc' ur'
      refine mP_v (fun w => r_sliceLl w (sz := 4) Try.underlying127 (by kernel_rfl) _ 0 n n j (by omega) (by omega) (by omega)) ?_
      refine mP_v (fun w => r_sliceLh w (sz := 4) Try.underlying127 (by kernel_rfl) _ n n j (by omega) (by omega)) ?_
      rw [Int.toNat_natCast, Nat.zero_add]
      obtain ⟨m, hm⟩ : ∃ m, Nat.min j (n - j) = m := ⟨_, rfl⟩
      have hm1 : m ≤ j ∧ m ≤ n - j ∧ 0 < m := by
        rw [← hm]
        exact ⟨Nat.min_le_left _ _, Nat.min_le_right _ _, Nat.lt_min.2 ⟨hj0, by omega⟩⟩
      have hyl : ((List.replicate m z).flatMap encB).length = m * 4 := encB_rep hz m
      refine mN_copy Try.underlying127 (by kernel_rfl) (sz := 4) hc' m hm ((List.replicate m z).flatMap encB) hyl (fun i u hu => hc'.cell ?_) (by rw [hyl]; omega) (encB_rep_one m) fun w4 h4 u4 s4 => ?_
      · have hi : i < m * 4 := by rw [← hyl]; exact (List.getElem?_eq_some_iff.1 hu).1
        rw [Nat.zero_add, ← hu]
        have e1 : cs[i]? = ((List.replicate j z).flatMap encB)[i]? := by
          rw [← hct, List.getElem?_take, if_pos (by omega)]
        rw [e1, show j = m + (j - m) from by omega, encB_rep_add, List.getElem?_append_left (by rw [hyl]; omega)]
      · refine mP_v (fun w => r_add w 3 .i64 j m) ?_
        rw [i64w ((j : Int) + m) (by omega) (by omega)]
        refine ⟨⟨j + m, congrArg (Value.int .i64) (by omega), by omega, by omega, ur'.trans u4 (fun _ _ x => x) fun i hi e => by omega, _, h4, by rw [splice_length (by rw [hyl]; omega), hcl], ?_⟩, by simp only [intOf]; omega⟩
        rw [show (j + m) * 4 = j * 4 + ((List.replicate m z).flatMap encB).length from by rw [hyl]; omega, splice_take (by omega), hct, ← encB_rep_add]
    · obtain rfl : j = n := by omega
      refine k wr _ ⟨encB_rep hz j, .inr ⟨_, _, cs.toArray, rfl, Nat.zero_le _, hc, Nat.le_refl _, ?_, ?_, ?_⟩⟩ ur (Nat.le_refl _)
      · have : maxLen = 9223372036854775807 := by decide
        omega
      · rw [List.size_toArray, hcl]
      · exact hct
end
end Go.Proofs.Ythgopkppmppdoaa
