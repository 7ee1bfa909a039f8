/-
  Disks: an arm goes off; writing, flushing.
-/
import Derived.Test.YthgopkppmppdoaaDisk5
set_option linter.unusedVariables false
set_option linter.unusedSimpArgs false
set_option maxRecDepth 20000
namespace Go.Proofs.Ythgopkppmppdoaa
open Go Go.Proofs Go.Vc
open Go.RowKit (Below intOf)

section
variable {w : World} {K : Value → World → Prop} {p : Nat} {fp fk : Nat → Prop} {D : DM} {vb vw vk v : Value} {keep : List Int}

/-- The word that stands for what an arm tells. -/
def goesV (o : Option Int) : Value := .tuple #[.int .i64 (o.getD 0), .bool o.isSome]

theorem goes_c (h : DiskAt w p fp D vb vw vk) (ha : D.after ≤ 9223372036854775807) (k : ∀ w' vw', DiskAt w' p fp D.goes.2 vb vw' vk → Upd w w' fp → K (goesV D.goes.1) w') : mCall Try.prog 77 #[dptr p] w K := by
  refine ⟨ok77 ?_⟩
  unfold sh77 dptr
  try simp only [push_cast]
  refine mN_v (r_loadB _ (by kernel_rfl) h.cells rfl) ?_
  try simp only [push_cast]
  cases har : D.armed with
  | false =>
    have e : D.goes = (none, D) := by simp [DM.goes, har]
    rw [e] at k
    try simp only [push_cast]
    exact k w vw h (Upd.refl _ _)
  | true =>
    try simp only [push_cast]
    refine mN_v (r_loadB _ (by kernel_rfl) h.cells rfl) ?_
    try simp only [push_cast]
    refine mIf_dec (fun h0 => ?_) fun h0 => ?_
    · have e : D.goes = (none, { D with after := D.after - 1 }) := by simp [DM.goes, har, h0]
      rw [e] at k
      refine mN_v (r_loadB _ (by kernel_rfl) h.cells rfl) ?_
      try simp only [push_cast]
      rw [i64w (D.after - 1) (by omega) (by omega)]
      refine mN_store1 (by kernel_rfl) h.cells (by simp) rfl fun w1 h1 u1 s1 => ?_
      exact k w1 vw (h.put (D' := { D with after := D.after - 1 }) rfl rfl rfl u1 s1 h1) (u1.mono fun i _ e => by rw [e]; exact h.fpp)
    · refine mN_store1 (by kernel_rfl) h.cells (by simp) rfl fun w1 h1 u1 s1 => ?_
      have hd1 := h.put (D' := { D with armed := false }) rfl rfl rfl u1 s1 h1
      try simp only [push_cast]
      refine mN_v (r_loadB _ (by kernel_rfl) hd1.cells rfl) ?_
      try simp only [push_cast]
      cases hc : D.cut with
      | false =>
        have e : D.goes = (some 270, { D with armed := false }) := by simp [DM.goes, har, h0, hc]
        rw [e] at k
        try simp only [push_cast]
        exact k w1 vw hd1 (u1.mono fun i _ e => by rw [e]; exact h.fpp)
      | true =>
        have e : D.goes = (some 271, { D with armed := false }.fall D.keep) := by simp [DM.goes, har, h0, hc]
        rw [e] at k
        try simp only [push_cast]
        refine mN_v (r_loadB _ (by kernel_rfl) hd1.cells rfl) ?_
        refine fall_c hd1 (Ints.of_row hd1.keep) (fun k hk => ⟨fun e => row_ne hd1.keep hd1.cells (by decide) (e ▸ hk), row_ne_row hd1.keep hd1.blocks (by decide) hk⟩) fun w2 hd2 u2 => ?_
        exact k w2 _ hd2 (u1.trans u2 (fun i _ e => by rw [e]; exact h.fpp) fun _ _ x => x)

theorem goes_len (D : DM) : D.goes.2.blocks.length = D.blocks.length ∧ D.goes.2.waits.length ≤ D.waits.length ∧ (D.goes.1 = none → D.goes.2.waits = D.waits ∧ D.goes.2.blocks = D.blocks ∧ D.goes.2.down = D.down) ∧ D.goes.2.keep = D.keep ∧ (D.after ≤ 9223372036854775807 → D.goes.2.after ≤ 9223372036854775807) := by
  unfold DM.goes
  split
  · exact ⟨rfl, Nat.le_refl _, fun _ => ⟨rfl, rfl, rfl⟩, rfl, id⟩
  · split
    · exact ⟨rfl, Nat.le_refl _, fun _ => ⟨rfl, rfl, rfl⟩, rfl, fun h => by show D.after - 1 ≤ _; omega⟩
    · split
      · exact ⟨rfl, Nat.le_refl _, (fun h => by cases h), rfl, id⟩
      · exact ⟨fallTo_length _ _ _ _, Nat.zero_le _, (fun h => by cases h), rfl, id⟩


theorem write0_c (h : DiskAt w p fp D vb vw vk) (ha : D.after ≤ 9223372036854775807) (hwn : D.waits.length ≤ 1000000000) (i : Int) (s : ByteArray)
    (k : ∀ w' fp' vw', DiskAt w' p fp' (D.write i s).2 vb vw' vk → Upd w w' fp → (∀ k, fp' k → fp k ∨ w.heap.size ≤ k) → K (.int .i64 (D.write i s).1) w') : mCall Try.prog 20 #[dptr p, .int .i64 i, .string s] w K := by
  refine ⟨ok20 ?_⟩
  unfold sh20
  refine in_c h i ?_
  try simp only [push_cast]
  by_cases hi : 0 ≤ i ∧ i < D.blocks.length
  case neg =>
    have e : D.write i s = (1, D) := by simp only [DM.write, hi, not_false_eq_true, true_or, if_true]
    rw [e] at k
    simp only [hi, decide_false, push_cast]
    exact k w fp vw h (Upd.refl _ _) fun _ x => .inl x
  simp only [hi, decide_true, and_self, push_cast]
  by_cases hs : s.size = 256
  case neg =>
    have e : D.write i s = (1, D) := by simp only [DM.write, hs, ne_eq, not_false_eq_true, or_true, if_true]
    rw [e] at k
    rw [show ((s.size : Int) != 256) = true from by simp; omega]
    try simp only [push_cast]
    exact k w fp vw h (Upd.refl _ _) fun _ x => .inl x
  rw [show ((s.size : Int) != 256) = false from by simp; omega]
  try simp only [push_cast]
  refine up_c h ?_
  try simp only [push_cast, Bool.not_not]
  cases hd : D.down with
  | true =>
    have e : D.write i s = (271, D) := by simp only [DM.write, hi, hs, hd, and_self, not_true_eq_false, ne_eq, or_self, if_true, if_false]
    rw [e] at k
    try simp only [push_cast]
    exact k w fp vw h (Upd.refl _ _) fun _ x => .inl x
  | false =>
    have e : D.write i s = match D.goes.1 with
        | some e => (e, D.goes.2)
        | none => (0, { D.goes.2 with waits := D.goes.2.waits ++ [(i, cutS s)] }) := by
      unfold DM.write
      rw [if_neg (by simp [hi, hs]), if_neg (by simp [hd])]
      cases D.goes.1 <;> rfl
    try simp only [push_cast]
    refine goes_c h ha fun w1 vw1 hd1 u1 => ?_
    unfold goesV
    obtain ⟨gl1, gl2, gl3, _, _⟩ := goes_len D
    cases hg : D.goes.1 with
    | some e1 =>
      rw [hg] at e
      rw [e] at k
      try simp only [push_cast, Option.getD_some, Option.isSome_some]
      exact k w1 fp vw1 hd1 u1 fun _ x => .inl x
    | none =>
      rw [hg] at e
      rw [e] at k
      obtain ⟨g1, g2, g3⟩ := gl3 hg
      try simp only [push_cast, Option.getD_none, Option.isSome_none]
      unfold mDrew
      have hd2 := hd1.stay (Upd.drew w1 _) (fun _ _ => id)
      have u2 : Upd w w1.drew fp := u1.drewn
      generalize w1.drew = w2 at hd2 u2
      unfold dptr
      try simp only [push_cast]
      refine mR_v (r_loadB _ (by kernel_rfl) hd2.cells rfl) ?_
      refine cut_c hs fun w3 u3 => ?_
      have hd3 := hd2.stay u3 (fun _ _ => id)
      refine ⟨rdN_v (r_loadB _ (by kernel_rfl) hd3.cells rfl), ?_⟩
      have hbuild : ∀ w, (Instr.build 136 #[(0, .int .i64 i), (1, .agg (encB (cutS s)).toArray)]).run Try.prog w = .ok (.agg (encW (i, cutS s)).toArray) w := fun w => by kernel_rfl
      refine mP_v hbuild ?_
      have hsl : (Instr.buildSlice 129 1 #[(0, .agg (encW (i, cutS s)).toArray)]).run Try.prog w3 = .ok (.slice (some ⟨w3.heap.size, 0, none⟩) 1 1) (w3.alloc (.cells (encW (i, cutS s)).toArray 136 (0, 0))) := by kernel_rfl
      refine mN_new hsl fun w4 h4 u4 s4 => ?_
      have hd4 := hd3.stay u4 (fun _ _ => id)
      refine ⟨rdN_v (r_loadB _ (by kernel_rfl) hd4.cells rfl), ?_⟩
      refine mN_append (z := ((Try.prog.info? 136).getD default).zero.getD default) (sz := 5) (bytes := 72) Try.underlying129 (by kernel_rfl) (by kernel_rfl) (by omega) hd4.waits (ys := encW (i, cutS s)) (by simp [encW, encB, cutS]) (fun j u hu => h4.cell (by simpa using hu)) encW_one
        (by omega) (by omega) fun vw5 w5 hr5 u5 hy5 => ?_
      try simp only [push_cast]
      have hne5 : ¬ Fp vw1 p := row_ne hd4.waits hd4.cells (by decide)
      have hc5 := hd4.cells.keep u5 hne5
      have ho : vw5.oneCell' = true := by
        obtain ⟨A, c, rfl⟩ := hr5.slice
        rfl
      refine mN_store1 (by kernel_rfl) hc5 (by simp) ho fun w6 h6 u6 s6 => ?_
      have hlen : D.goes.2.waits.length + 1 = (D.goes.2.waits ++ [(i, cutS s)]).length := by simp
      have hfl : D.goes.2.waits.flatMap encW ++ encW (i, cutS s) = (D.goes.2.waits ++ [(i, cutS s)]).flatMap encW := by simp [List.flatMap_append]
      rw [hlen, hfl] at hr5
      have u4' : Upd w w4 fp := (u2.ext u3).ext u4
      refine k w6 (fun k => fp k ∨ Fp vw5 k) vw5 ⟨h6, ?_, ?_, ?_, .inl hd4.fpp, fun k hk => .inl (hd4.fpb k hk), fun k hk => .inr hk, fun k hk => .inl (hd4.fpk k hk), fun k hk => ?_, hd4.b4, fun x hx => ?_, hd4.bn⟩ ?_ fun k hk => ?_
      · exact (hd4.blocks.keep u5 fun k hf hf2 => row_ne_row hd4.blocks hd4.waits (by decide) hf hf2).keep u6 fun k hf e => row_ne hd4.blocks hd4.cells (by decide) (e ▸ hf)
      · exact hr5.keep u6 fun k hf e => row_ne hr5 hc5 (by decide) (e ▸ hf)
      · exact (hd4.keep.keep u5 fun k hf hf2 => row_ne_row hd4.keep hd4.waits (by decide) hf hf2).keep u6 fun k hf e => row_ne hd4.keep hd4.cells (by decide) (e ▸ hf)
      · rw [s6]
        rcases hk with hk | hk
        · exact Nat.lt_of_lt_of_le (hd4.fplt k hk) u5.size
        · exact hr5.lt hk
      · show Sec x.2 ∧ 0 ≤ x.1 ∧ x.1 < D.goes.2.blocks.length
        rcases List.mem_append.1 hx with hx | hx
        · exact hd4.w4 x hx
        · rw [List.mem_singleton] at hx
          subst hx
          exact ⟨cutS_sec hs, hi.1, by rw [gl1]; exact hi.2⟩
      · refine (u4'.trans u5 (fun _ _ x => x) fun i hi hf => hd4.fpw i hf).trans u6 (fun _ _ x => x) fun i hi e => ?_
        rw [e]
        exact hd4.fpp
      · rcases hk with hk | hk
        · exact .inl hk
        · rcases hy5 k hk with hk | hk
          · exact .inl (hd4.fpw k hk)
          · have := u4'.size
            exact .inr (by omega)
end
end Go.Proofs.Ythgopkppmppdoaa
