/-
  SlotBack: there and back.
-/
import Derived.Test.YthgopkppmppdoaaSlotM
import Derived.Test.YthgopkppmppdoaaRowLib
set_option linter.unusedVariables false
set_option linter.unusedSimpArgs false
set_option maxRecDepth 20000
namespace Go.Proofs.Ythgopkppmppdoaa
open Go Go.Proofs Go.Vc
open Go.RowKit (Below intOf)

/-- Bytes in a block of their own. -/
def BB (w : World) (g : Nat) (l : List UInt8) : Prop :=
  ∃ (cs : Array Value) (fr : Nat × Nat), w.heap[g]? = some (.cells cs 5 fr) ∧ l.length ≤ cs.size ∧ cs.size ≤ fr.1 ∧ ∀ (j : Nat) (c : UInt8), l[j]? = some c → cs[j]? = some (.int .u8 c.toNat)
theorem BB.cell {w : World} {g : Nat} {l : List UInt8} (h : BB w g l) {j : Nat} {c : UInt8} (hj : l[j]? = some c) : w.cell? ⟨g, j, none⟩ = some (.int .u8 c.toNat) := by
  obtain ⟨cs, fr, h1, h2, h3, h4⟩ := h
  simp [World.cell?, h1, h4 j c hj]
theorem BB.lt {w : World} {g : Nat} {l : List UInt8} (h : BB w g l) : g < w.heap.size := by
  obtain ⟨cs, fr, h1, _⟩ := h
  exact (Array.getElem?_eq_some_iff.1 h1).1
theorem BB.keep {w w' : World} {g : Nat} {l : List UInt8} {F : Nat → Prop} (h : BB w g l) (u : Upd w w' F) (hn : ¬ F g) : BB w' g l := by
  have hlt := h.lt
  obtain ⟨cs, fr, h1, h2⟩ := h
  exact ⟨cs, fr, by rw [u.old g hlt hn]; exact h1, h2⟩
theorem BB.put {w : World} {g : Nat} {l : List UInt8} (h : BB w g l) {j : Nat} (hj : j < l.length) (c : UInt8) {K : Value → World → Prop}
    (k : ∀ w', BB w' g (l.set j c) → Upd w w' (· = g) → w'.heap.size = w.heap.size → K undef w') : mN Try.prog (uS (Instr.storeAt 5 (.pointer (some ⟨g, j, none⟩)) (.int .u8 c.toNat))) w K := by
  obtain ⟨b, hb⟩ : ∃ b, l[j]? = some b := ⟨_, List.getElem?_eq_getElem hj⟩
  have hc := h.cell hb
  obtain ⟨cs, fr, h1, h2, h3, h4⟩ := h
  have hf : w.frozen? ⟨g, j, none⟩ = false := by
    simp [World.frozen?, h1]
    omega
  have hs : (store ⟨g, j, none⟩ (.int .u8 c.toNat)).run Try.prog w = .ok () (w.setCell ⟨g, j, none⟩ (.int .u8 c.toNat)) := by simp [store, Sem.run, hc, hf]
  have hsz : szOf Try.prog 5 = some 1 := by kernel_rfl
  have hrun : (Instr.storeAt 5 (.pointer (some ⟨g, j, none⟩)) (.int .u8 c.toNat)).run Try.prog w = .ok () (w.setCell ⟨g, j, none⟩ (.int .u8 c.toNat)) := by
    simp only [Instr.storeAt, Instr.sureAddr, storeVar, Value.cells, Sem.run_bind, Sem.run_pure, Result.andThen_ok, sizeOf_run w hsz]
    simp [storeCells, add_off, hs]
  refine mN_u hrun (k _ ?_ ⟨rfl, rfl, rfl, by simp, fun i hi hn => Go.RowKit.Below.heap_setCell _ _ _ _ hn⟩ (by simp))
  refine ⟨cs.setIfInBounds j (.int .u8 c.toNat), fr, ?_, by simpa using h2, by simpa using h3, fun i d hd => ?_⟩
  · simp [World.setCell, Array.getElem?_modify, h1]
  · by_cases e : j = i
    · subst e
      rw [List.getElem?_set_self hj] at hd
      injection hd with hd
      subst hd
      rw [Array.getElem?_setIfInBounds, if_pos rfl, if_pos (by omega)]
    · rw [List.getElem?_set_ne e] at hd
      rw [Array.getElem?_setIfInBounds_ne e]
      exact h4 i d hd
/-- []byte of a text -/
theorem bytes_new {w : World} (l : List UInt8) {K : Value → World → Prop} (k : ∀ w' c, BB w' w.heap.size l → Ext w w' → w'.heap.size = w.heap.size + 1 → K (.slice (some ⟨w.heap.size, 0, none⟩) l.length c) w') :
    mN Try.prog (vS (convert 9 52 (.string (ofL l)))) w K := by
  refine mN_v (run_bytes_of_string (P := Try.prog) w 9 52 5 (ofL l) Try.underlying9 Try.underlying52 Try.underlying5) ?_
  have hge := grownCap_ge w (ofL l).size 0 5
  generalize grownCap w (ofL l).size 0 5 = c at hge
  have hsz : (bytesRow (ofL l) c).size = c := by
    simp only [bytesRow, Array.size_append, Array.size_map, Array.size_replicate]
    have : (ofL l).data.size = (ofL l).size := rfl
    omega
  refine k _ c ⟨bytesRow (ofL l) c, ((bytesRow (ofL l) c).size, (bytesRow (ofL l) c).size + 1), ?_, ?_, Nat.le_refl _, fun j d hd => ?_⟩ ((Upd.drew w _).trans (alloc_upd w.drew _ _) (fun _ _ x => x) fun _ _ x => x) (by
    show (w.drew.heap.push _).size = _
    rw [Array.size_push]
    rfl)
  · show (w.drew.heap.push _)[w.heap.size]? = _
    have : w.drew.heap.size = w.heap.size := rfl
    rw [← this, Array.getElem?_push_size]
  · rw [hsz]
    exact hge
  · obtain ⟨h1, h2⟩ := List.getElem?_eq_some_iff.1 hd
    have := bytesRow_at (ofL l) c j h1
    rw [this]
    have e : (ofL l).data[j] = d := h2
    rw [e]
theorem bytes_back {w : World} {g c : Nat} {l : List UInt8} (h : BB w g l) : (convert 52 9 (.slice (some ⟨g, 0, none⟩) l.length c)).run Try.prog w = .ok (.string (ofL l)) w :=
  run_convert_bytes_back (P := Try.prog) w 52 9 5 ⟨g, 0, none⟩ c l Try.underlying52 Try.underlying5 Try.underlying9 (fun j hj => by
    rw [add_off, Nat.zero_add]
    exact h.cell (List.getElem?_eq_getElem hj))

section
variable {w : World} {K : Value → World → Prop}

theorem back_c (s : SM) (b : UInt8) (k : ∀ w', Ext w w' → K (.bool true) w') : mCall Try.prog 6 #[slotV s, .int .u8 b.toNat] w K := by
  refine ⟨ok6 ?_⟩
  unfold sh6
  refine mN_new (box50 s w) fun w1 h1 u1 s1 => ?_
  have hl := r_loadN (P := Try.prog) w1 (T := 50) (n := 4) (by kernel_rfl) (by kernel_rfl) h1 (o := 0) (by simp [slotC])
  refine mN_v hl ?_
  refine block_c s (fun hr w2 u2 => ?_) fun hr w2 u2 => ?_
  · try simp only [push_cast]
    refine mIf_neI (fun _ => ?_) fun h => absurd h (by decide)
    refine mIf_eqS (fun _ => ?_) fun h => absurd rfl h
    exact two_c fun w3 u3 => k w3 ((u1.ext u2).ext u3)
  have hbl := blockL_len hr
  try simp only [push_cast, bne_self_eq_false]
  rw [ofL_size, hbl]
  refine mIf_neI (fun h => absurd (by decide) h) fun _ => ?_
  refine bytes_new (blockL s) fun w3 c h3 u3 s3 => ?_
  rw [hbl]
  have a2 : Ext w w2 := u1.ext u2
  have hh := h1.keep u2 id
  have hN2 : w.heap.size < w2.heap.size := hh.lt
  refine mLoop1.mk (fun x wr => ∃ j : Nat, x = .int .i64 j ∧ 64 ≤ j ∧ j ≤ 256 ∧ Ext w wr ∧ Blk wr w.heap.size 50 (slotC s) ∧ BB wr w2.heap.size ((blockL s).take 64 ++ List.replicate (j - 64) b ++ List.replicate (256 - j) 0)) (fun x _ => 256 - (intOf x).toNat) ?_ ?_
  · refine ⟨64, rfl, by omega, by omega, a2.ext u3, hh.keep u3 id, ?_⟩
    have e : (blockL s).take 64 ++ List.replicate (64 - 64) b ++ List.replicate (256 - 64) 0 = blockL s := by
      conv => rhs; rw [← List.take_append_drop 64 (blockL s)]
      rw [Nat.sub_self, List.replicate_zero, List.append_nil]
      congr 1
      apply List.ext_getElem?
      intro i
      rw [List.getElem?_drop, List.getElem?_replicate]
      by_cases hi : i < 256 - 64
      · rw [if_pos hi, blockL_zero hr (by omega) (by omega)]
      · rw [if_neg hi, List.getElem?_eq_none (by omega)]
    rw [e]
    exact h3
  rintro x wr ⟨j, rfl, hj64, hj, ur, hb, hB⟩
  obtain ⟨l, hl⟩ : ∃ l, (blockL s).take 64 ++ List.replicate (j - 64) b ++ List.replicate (256 - j) 0 = l := ⟨_, rfl⟩
  have hll : l.length = 256 := by
    rw [← hl]
    simp [hbl]
    omega
  rw [hl] at hB
  try simp only [push_cast]
  refine mIf_dec (fun hlt => ?_) fun hlt => ?_
  · have hi : (Instr.indexAt 52 (.slice (some ⟨w2.heap.size, 0, none⟩) 256 c) (.int .i64 (j : Int))).run Try.prog wr = .ok (.pointer (some ⟨w2.heap.size, j, none⟩)) wr := by
      have := r_indexAt (P := Try.prog) wr (sz := 1) Try.underlying52 (by kernel_rfl) w2.heap.size 0 256 c j (by omega) (by omega)
      rwa [Nat.zero_add, Nat.mul_one, Int.toNat_natCast] at this
    have hz : l[j]? = some 0 := by
      rw [← hl, List.getElem?_append_right (by simp [hbl]; omega), List.getElem?_replicate, if_pos (by simp [hbl]; omega)]
    refine mN_v hi ?_
    refine mN_v (r_load1 wr (by kernel_rfl) (hB.cell hz)) ?_
    try simp only [push_cast]
    refine mIf_neI (fun h => absurd rfl h) fun _ => ?_
    refine mN_v hi ?_
    refine hB.put (by omega) b fun w4 h4 u4 s4 => ?_
    try simp only [push_cast]
    rw [i64w ((j : Int) + 1) (by omega) (by omega)]
    refine ⟨⟨j + 1, congrArg (Value.int .i64) (by omega), by omega, by omega, ur.trans u4 (fun _ _ x => x) fun i hi e => by omega, hb.keep u4 (by omega), ?_⟩, by simp only [intOf]; omega⟩
    have e : l.set j b = (blockL s).take 64 ++ List.replicate (j + 1 - 64) b ++ List.replicate (256 - (j + 1)) 0 := by
      rw [← hl, List.set_append_right _ _ (by simp [hbl]; omega)]
      have e1 : j - ((blockL s).take 64 ++ List.replicate (j - 64) b).length = 0 := by simp [hbl]; omega
      rw [e1, show 256 - j = (256 - (j + 1)) + 1 from by omega, List.replicate_succ, List.set_cons_zero, show j + 1 - 64 = (j - 64) + 1 from by omega, List.replicate_succ']
      simp [List.append_assoc]
    rw [e] at h4
    exact h4
  · obtain rfl : j = 256 := by omega
    have hcv := bytes_back (c := c) hB
    rw [hll] at hcv
    refine mN_v hcv ?_
    refine sread_c (by omega) fun w5 u5 => ?_
    have hrd : readL l = some s := by
      refine readL_back hr hll ?_
      rw [← hl, List.append_assoc, List.take_append_of_le_length (by simp [hbl]), List.take_of_length_le (by rw [List.length_take]; omega)]
    unfold readV
    rw [hrd]
    try simp only [push_cast]
    refine mN_new (zero50 w5) fun w6 h6 u6 s6 => ?_
    refine mN_storeN (vs := slotC s) (by kernel_rfl) h6 (by simp [slotC]) (slotC_one _) fun w7 h7 u7 s7 => ?_
    rw [splice_all _ _ (by simp [slotC])] at h7
    have u57 : Ext w5 w7 := u6.trans u7 (fun _ _ x => x) fun i hi e => by omega
    have a7 := (ur.ext u5).ext u57
    try simp only [push_cast]
    have hl7 := r_loadN (P := Try.prog) w7 (T := 50) (n := 4) (by kernel_rfl) (by kernel_rfl) h7 (o := 0) (by simp [slotC])
    refine mN_v hl7 ?_
    have hb7 := (hb.keep u5 id).keep u57 id
    have hl8 := r_loadN (P := Try.prog) w7 (T := 50) (n := 4) (by kernel_rfl) (by kernel_rfl) hb7 (o := 0) (by simp [slotC])
    refine mN_v hl8 ?_
    refine mN_v (slot_eq _ _ s s w7) ?_
    try simp only [decide_true, push_cast]
    exact two_c fun w8 u8 => k w8 (a7.ext u8)

theorem back_row {cs : Array Value} (hc : ∃ s : SM, cs.toList = slotC s) {n : Int} (hn : (Lit.int .u8 n).wf = true) (k : ∀ w', Ext w w' → K (.bool true) w') : mCall Try.prog 6 #[.agg cs, .int .u8 n] w K := by
  obtain ⟨s, e⟩ := hc
  obtain ⟨b, rfl⟩ := u8_of hn
  have e2 : cs = List.toArray _ := congrArg List.toArray e
  subst e2
  exact back_c s b k

section
variable {H : Type} {enc : TypeId × Value → H} {w : World} {spare : Nat → Bool} {held : Bool}
theorem open_slot : ∀ n cs y, DataW.trod enc Try.prog w 0 spare held n 50 cs = some y → ∃ s : SM, cs = slotC s := fun n cs y h => by
  obtain ⟨xs, m, _, _, hl, hxl, hf⟩ := DataW.trod_struct Try.underlying50 h
  have hl4 : cs.length = 4 := hl.trans (by kernel_rfl)
  match cs, hl4 with
  | [c0, c1, c2, c3], _ =>
    have e (i : Nat) (hi : i < 4) : ∃ z, xs[i]? = some z := ⟨_, List.getElem?_eq_getElem (by rw [hxl]; exact hi)⟩
    obtain ⟨z0, e0⟩ := e 0 (by omega)
    obtain ⟨z1, e1⟩ := e 1 (by omega)
    obtain ⟨z2, e2⟩ := e 2 (by omega)
    obtain ⟨z3, e3⟩ := e 3 (by omega)
    have f0 : DataW.trod enc Try.prog w 0 spare held m 3 (([c0, c1, c2, c3].drop 0).take (Try.prog.cellsOf 3)) = xs[0]? := hf 0 _ rfl
    have f1 : DataW.trod enc Try.prog w 0 spare held m 3 (([c0, c1, c2, c3].drop 1).take (Try.prog.cellsOf 3)) = xs[1]? := hf 1 _ rfl
    have f2 : DataW.trod enc Try.prog w 0 spare held m 3 (([c0, c1, c2, c3].drop 2).take (Try.prog.cellsOf 3)) = xs[2]? := hf 2 _ rfl
    have f3 : DataW.trod enc Try.prog w 0 spare held m 3 (([c0, c1, c2, c3].drop 3).take (Try.prog.cellsOf 3)) = xs[3]? := hf 3 _ rfl
    rw [show Try.prog.cellsOf 3 = 1 from by kernel_rfl] at f0 f1 f2 f3
    rw [e0] at f0
    rw [e1] at f1
    rw [e2] at f2
    rw [e3] at f3
    obtain ⟨a0, g0, _, w0⟩ := DataW.trod_int Try.underlying3 f0
    obtain ⟨a1, g1, _, w1⟩ := DataW.trod_int Try.underlying3 f1
    obtain ⟨a2, g2, _, w2⟩ := DataW.trod_int Try.underlying3 f2
    obtain ⟨a3, g3, _, w3⟩ := DataW.trod_int Try.underlying3 f3
    injection g0 with g0
    injection g1 with g1
    injection g2 with g2
    injection g3 with g3
    subst g0 g1 g2 g3
    exact ⟨⟨a0, a1, a2, a3⟩, rfl⟩
end
end
end Go.Proofs.Ythgopkppmppdoaa
