/-
  SlotLasts: the walk.
-/
import Derived.Test.YthgopkppmppdoaaSlotL0
import Derived.Test.YthgopkppmppdoaaSlotBack
import Derived.Test.YthgopkppmppdoaaDoes27
import Derived.Test.YthgopkppmppdoaaRowLib
set_option linter.unusedVariables false
set_option linter.unusedSimpArgs false
set_option maxRecDepth 20000
namespace Go.Proofs.Ythgopkppmppdoaa
open Go Go.Proofs Go.Vc
open Go.RowKit (Below intOf)

structure Arm27 where
  after : Int
  cut : Bool
  keep : List Int
def isArm27 (fp : Nat → Prop) (w : World) (cs : List Value) (a : Arm27) : Prop :=
  ∃ v, cs = [.int .i64 a.after, .bool a.cut, v] ∧ a.after ≤ 9223372036854775807 ∧ Ints w v a.keep fp
theorem isArm27_stable (fp : Nat → Prop) : Stable fp (isArm27 fp) := fun w w' F cs x u hn h => by
  obtain ⟨v, e, ha, hk⟩ := h
  exact ⟨v, e, ha, hk.keep u hn⟩
def isSlot (_ : World) (cs : List Value) (s : SM) : Prop := cs = slotC s
theorem isSlot_stable (fp : Nat → Prop) : Stable fp isSlot := fun _ _ _ _ _ _ _ h => h

section
variable {H : Type} {enc : TypeId × Value → H} {w : World} {spare : Nat → Bool} {held : Bool}
theorem open_arm27 : ∀ n cs y, DataW.trod enc Try.prog w 0 spare held n 42 cs = some y → ∃ s, isArm27 (· < w.heap.size) w cs s := fun n cs y h => by
  obtain ⟨xs, m, _, _, hl, hxl, hf⟩ := DataW.trod_struct Try.underlying42 h
  have hl3 : cs.length = 3 := hl.trans (by kernel_rfl)
  match cs, hl3 with
  | [c0, c1, c2], _ =>
    have e (i : Nat) (hi : i < 3) : ∃ z, xs[i]? = some z := ⟨_, List.getElem?_eq_getElem (by rw [hxl]; exact hi)⟩
    obtain ⟨z0, e0⟩ := e 0 (by omega)
    obtain ⟨z1, e1⟩ := e 1 (by omega)
    obtain ⟨z2, e2⟩ := e 2 (by omega)
    have f0 : DataW.trod enc Try.prog w 0 spare held m 3 (([c0, c1, c2].drop 0).take (Try.prog.cellsOf 3)) = xs[0]? := hf 0 _ rfl
    have f1 : DataW.trod enc Try.prog w 0 spare held m 4 (([c0, c1, c2].drop 1).take (Try.prog.cellsOf 4)) = xs[1]? := hf 1 _ rfl
    have f2 : DataW.trod enc Try.prog w 0 spare held m 35 (([c0, c1, c2].drop 2).take (Try.prog.cellsOf 35)) = xs[2]? := hf 2 _ rfl
    rw [show Try.prog.cellsOf 3 = 1 from by kernel_rfl] at f0
    rw [show Try.prog.cellsOf 4 = 1 from by kernel_rfl] at f1
    rw [show Try.prog.cellsOf 35 = 1 from by kernel_rfl] at f2
    rw [e0] at f0
    rw [e1] at f1
    rw [e2] at f2
    obtain ⟨a0, g0, _, w0⟩ := DataW.trod_int Try.underlying3 f0
    obtain ⟨a1, g1, _⟩ := DataW.trod_bool Try.underlying4 f1
    obtain ⟨v, l, g2, hv⟩ := open_arr (sz := 1) Try.underlying35 (by kernel_rfl) (by decide) (open_isInt Try.underlying3) f2
    injection g0 with g0
    injection g1 with g1
    injection g2 with g2
    subst g0 g1 g2
    exact ⟨⟨a0, a1, l⟩, _, rfl, i64_le w0, hv⟩
end

section
variable {w : World} {K : Value → World → Prop} {p : Nat} {fp : Nat → Prop} {D : DM}

/-- A slot in a block of its own. -/
theorem slot_new (s : SM) {K : Value → World → Prop} (k : ∀ w', Blk w' w.heap.size 50 (slotC s) → Ext w w' → K (.pointer (some ⟨w.heap.size, 0, none⟩)) w') :
    mN Try.prog (vS (Instr.alloc 50 true (.tuple #[]))) w fun t w => mN Try.prog (uS (Instr.storeAt 50 t (slotV s))) w fun _ w => K t w := by
  refine mN_new (zero50 w) fun w1 h1 u1 s1 => ?_
  refine mN_storeN (vs := slotC s) (by kernel_rfl) h1 (by simp [slotC]) (slotC_one _) fun w2 h2 u2 s2 => ?_
  rw [splice_all _ _ (by simp [slotC])] at h2
  exact k w2 h2 (u1.trans u2 (fun _ _ x => x) fun i hi e => by omega)
theorem slot_load {g : Nat} {s : SM} (h : Blk w g 50 (slotC s)) : (Instr.loadAt 50 (.pointer (some ⟨g, 0, none⟩))).run Try.prog w = .ok (slotV s) w := by
  have := r_loadN (P := Try.prog) w (T := 50) (n := 4) (by kernel_rfl) (by kernel_rfl) h (o := 0) (by simp [slotC])
  exact this

theorem zero_le_of_max : True := trivial

/-- A disk that a law holds. -/
def Holds (N : Nat) (w : World) (p : Nat) (D : DM) : Prop := ∃ fp, IsDisk w p fp D ∧ ∀ k, fp k → N ≤ k
theorem Holds.ext {N : Nat} {w' : World} (h : Holds N w p D) (u : Ext w w') : Holds N w' p D := by
  obtain ⟨fp, h, y⟩ := h
  exact ⟨fp, h.ext u, y⟩
theorem Holds.after {N : Nat} {w' : World} {D' : DM} (h : IsDisk w p fp D) (y : ∀ k, fp k → N ≤ k) (hN : N ≤ w.heap.size) (a : DAfter w p fp D' w') : Holds N w' p D' ∧ Upd w w' (N ≤ ·) := by
  obtain ⟨fp', h', u, y'⟩ := a
  exact ⟨⟨fp', h', young_of y' y hN⟩, u.mono fun i _ hf => y i hf⟩

/-- What a law may change: behind N, but for some blocks. -/
def Fr (N lo hi k : Nat) : Prop := N ≤ k ∧ ¬ (lo ≤ k ∧ k < hi)
def Hd (N lo hi : Nat) (w : World) (p : Nat) (D : DM) : Prop := ∃ fp, IsDisk w p fp D ∧ ∀ k, fp k → Fr N lo hi k
theorem Hd.ext {N lo hi : Nat} {w' : World} (h : Hd N lo hi w p D) (u : Ext w w') : Hd N lo hi w' p D := by
  obtain ⟨fp, h, y⟩ := h
  exact ⟨fp, h.ext u, y⟩
theorem Hd.of {N lo hi : Nat} {w' : World} {D' : DM} (y : ∀ k, fp k → Fr N lo hi k) (hN : N ≤ w.heap.size) (hh : hi ≤ w.heap.size) (a : DAfter w p fp D' w') : Hd N lo hi w' p D' ∧ Upd w w' (Fr N lo hi) := by
  obtain ⟨fp', h', u, y'⟩ := a
  refine ⟨⟨fp', h', fun k hk => ?_⟩, u.mono fun i _ hf => y i hf⟩
  rcases y' k hk with h | h
  · exact y k h
  · exact ⟨by omega, by omega⟩

theorem slotLasts_c {v0 v1 v2 : Value} {l : List SM} {arms : List Arm27} {keep : List Int} (h0 : Arr w v0 4 (· < w.heap.size) l isSlot) (h1 : Arr w v1 3 (· < w.heap.size) arms (isArm27 (· < w.heap.size)))
    (h2 : Ints w v2 keep (· < w.heap.size)) (k : ∀ w', Ext w w' → K (.bool true) w') : mCall Try.prog 10 #[v0, v1, v2] w K := by
  refine ⟨ok10 ?_⟩
  unfold sh10
  obtain ⟨A0, c0, rfl⟩ := Arr.slice h0
  obtain ⟨A1, c1, rfl⟩ := Arr.slice h1
  obtain ⟨A2, c2, rfl⟩ := Arr.slice h2
  refine new_c 4 (fun h => by omega) fun _ _ w1 p fp d1 u1 y1 => ?_
  unfold dptr
  try simp only [push_cast, Option.isNone_some, Bool.not_false, bne_self_eq_false, beq_self_eq_true]
  refine mIf_dec (fun _ => two_c fun w3 u3 => k w3 (u1.ext u3)) fun hl40 => ?_
  refine mIf_dec (fun _ => two_c fun w3 u3 => k w3 (u1.ext u3)) fun ha40 => ?_
  refine mIf_dec (fun _ => two_c fun w3 u3 => k w3 (u1.ext u3)) fun hk60 => ?_
  refine format_c d1 (by decide) fun w2 d2 => ?_
  rw [show (DM.new (4 : Int).toNat) = DM.new 4 from rfl, two_format] at d2 ⊢
  obtain ⟨hd2, u2⟩ := Holds.after d1 y1 u1.size d2
  have a2 : Ext w w2 := u1.young u2 fun i hi => .inr hi
  try simp only [push_cast, bne_self_eq_false]
  have hcalm : Calm (twoD (cutS zeroS)) SM.one 0 := by
    obtain ⟨fp2, ⟨⟨vb, vw, vk, hd⟩, _⟩, _⟩ := hd2
    exact ⟨rfl, rfl, by decide, hd.b4, twoD_choose1⟩
  refine mLoop1.mk (fun x wr => ∃ (j : Nat) (D : DM) (a : SM) (at_ : Int), x = .int .i64 j ∧ j ≤ l.length ∧ Holds w.heap.size wr p D ∧ Calm D a at_ ∧ Ext w wr) (fun x _ => l.length - (intOf x).toNat) ?_ ?_
  · exact ⟨0, _, _, _, rfl, Nat.zero_le _, hd2, hcalm, a2⟩
  rintro x wr ⟨j, D, a, at_, rfl, hj, ⟨fpr, hd, yr⟩, hC, ur⟩
  try simp only [push_cast]
  refine mIf_dec (fun hlt => ?_) fun hlt => ?_
  · obtain ⟨s, hs⟩ : ∃ s, l[j]? = some s := ⟨_, List.getElem?_eq_getElem (by omega)⟩
    have hlr := h0.keep (isSlot_stable _) ur fun _ _ => id
    obtain ⟨_, bb, o, rfl, _, cs, hcl, hc, hss⟩ := Arr.at_ hlr hs
    refine mN_v (r_indexAt wr (sz := 4) Try.underlying87 (by kernel_rfl) bb o l.length c0 j (by omega) (by omega)) ?_
    rw [Int.toNat_natCast]
    refine mN_v (r_loadNs wr (n := 4) (by kernel_rfl) (by kernel_rfl) hcl hc) ?_
    obtain rfl : cs = slotC s := hss
    refine slot_new s fun w3 b3 u3 => ?_
    refine choose_c (hd.ext u3) fun w4 u4 => ?_
    rw [hC.c]
    try simp only [push_cast]
    refine slot_new a fun w5 b5 u5 => ?_
    try simp only [push_cast, bne_self_eq_false]
    have b3 := (b3.keep u4 id).keep u5 id
    have r5 : Ext w w5 := ((ur.ext u3).ext u4).ext u5
    have e5 : Ext wr w5 := (u3.ext u4).ext u5
    have hd5 := hd.ext e5
    obtain ⟨har, hat⟩ := hC.right
    obtain ⟨n1, n2, _⟩ := SM.right_iff.1 har
    have hnum : IntKind.wrap .i64 (a.number + 1) = a.number + 1 := i64w _ (by omega) (by omega)
    have hN3 : w.heap.size ≤ wr.heap.size := ur.size
    have hN5 : w.heap.size ≤ w5.heap.size := r5.size
    have yF : ∀ k, fpr k → Fr w.heap.size wr.heap.size w5.heap.size k := fun k hk => ⟨yr k hk, fun hh => by have := hd.lt hk; omega⟩
    have hi3 : wr.heap.size < w5.heap.size := b3.lt
    have hi4 : w4.heap.size < w5.heap.size := b5.lt
    have hlo4 : wr.heap.size ≤ w4.heap.size := (u3.ext u4).size
    have n3 : ¬ Fr w.heap.size wr.heap.size w5.heap.size wr.heap.size := fun h => h.2 ⟨Nat.le_refl _, hi3⟩
    have n4 : ¬ Fr w.heap.size wr.heap.size w5.heap.size w4.heap.size := fun h => h.2 ⟨hlo4, hi4⟩
    refine mJ0_intro (fun w' => ∃ D1 : DM, Hd w.heap.size wr.heap.size w5.heap.size w' p D1 ∧ D1.blocks = D.blocks ∧ D1.waits = [] ∧ D1.down = false ∧ Ext w w' ∧ Upd w5 w' (Fr w.heap.size wr.heap.size w5.heap.size)) (fun J hJ => ?_) ?_
    · refine mIf_dec (fun hja => ?_) fun hja => hJ w5 ⟨D, ⟨fpr, hd5, yF⟩, rfl, hC.w, hC.d, r5, Upd.refl _ _⟩
      obtain ⟨arm, harm⟩ : ∃ x, arms[j]? = some x := ⟨_, List.getElem?_eq_getElem (by omega)⟩
      have ha5 := h1.keep (isArm27_stable _) r5 fun _ _ => id
      obtain ⟨_, b1, o1, rfl, _, cs1, hcl1, hc1, hss1⟩ := Arr.at_ ha5 harm
      have hi1 := r_indexAt (P := Try.prog) w5 (sz := 3) Try.underlying88 (by kernel_rfl) b1 o1 arms.length c1 j (by omega) (by omega)
      rw [Int.toNat_natCast] at hi1
      obtain ⟨vk, rfl, haA, hkA⟩ := hss1
      refine mN_v hi1 ?_
      refine mN_v (r_fieldAt w5 (T := 42) (f := 2) (off := 2) (by kernel_rfl) _ _) ?_
      refine mN_v (r_load1 w5 (by kernel_rfl) (hc1 2 _ rfl)) ?_
      obtain ⟨A3, c3, rfl⟩ := Arr.slice hkA
      try simp only [push_cast]
      refine mIf_dec (fun _ => two_c fun w6 u6 => k w6 (r5.ext u6)) fun hkl => ?_
      refine mN_v hi1 ?_
      refine mN_v (r_loadNs w5 (n := 3) (by kernel_rfl) (by kernel_rfl) hcl1 hc1) ?_
      refine isdisk_set hd5 arm.after haA arm.cut hkA (by omega) fun w6 d6 => ?_
      obtain ⟨hd6, u6⟩ := Hd.of yF hN5 (Nat.le_refl _) d6
      refine hJ w6 ⟨_, hd6, ?_, ?_, ?_, r5.young u6 fun i hi => .inr hi.1, u6⟩
      · unfold DM.set
        repeat' split
        all_goals rfl
      · unfold DM.set
        repeat' split
        all_goals exact hC.w
      · unfold DM.set
        repeat' split
        all_goals exact hC.d
    rintro w6 ⟨D1, ⟨fp1, hd6, y6⟩, e1, e2, e3, r6, q6⟩
    obtain ⟨now, at', hC', hnow, hpw⟩ := slot_lasts hC s e1 e2 e3 keep
    obtain ⟨ag1, ag2, _, _, _, _⟩ := again_facts hpw keep
    have hN6 : w.heap.size ≤ w6.heap.size := r6.size
    refine mN_v (slot_load (b3.keep q6 n3)) ?_
    refine put_c hd6 (by rw [e2]; exact Nat.zero_le _) s fun w7 d7 => ?_
    obtain ⟨⟨fp7, hd7, y7⟩, u7⟩ := Hd.of y6 hN6 q6.size d7
    have q7 := q6.then u7
    have r7 : Ext w w7 := r6.young u7 fun i hi => .inr hi.1
    refine isdisk_up hd7 ?_
    try simp only [push_cast, Bool.not_not]
    refine mJ0_intro (fun w' => Hd w.heap.size wr.heap.size w5.heap.size w' p (if (D1.put s).2.down = true then (D1.put s).2.start.2 else (D1.put s).2) ∧ Ext w w' ∧ Upd w5 w' (Fr w.heap.size wr.heap.size w5.heap.size)) (fun J hJ => ?_) ?_
    · cases hdn : (D1.put s).2.down with
      | true =>
        try simp only [push_cast]
        refine isdisk_start hd7 fun w8 d8 => ?_
        obtain ⟨hd8, u8⟩ := Hd.of y7 r7.size q7.size d8
        exact hJ w8 ⟨by rw [if_pos hdn]; exact hd8, r7.young u8 fun i hi => .inr hi.1, q7.then u8⟩
      | false =>
        try simp only [push_cast]
        exact hJ w7 ⟨by rw [if_neg (by simp [hdn])]; exact ⟨fp7, hd7, y7⟩, r7, q7⟩
    rintro w8 ⟨⟨fp8, hd8, y8⟩, r8, q8⟩
    refine isdisk_crash hd8 (h2.keep r8 fun _ _ => id) (fun k hk hf => by have := (y8 k hf).1; omega) fun w9 d9 => ?_
    rw [ag1]
    obtain ⟨⟨fp9, hd9, y9⟩, u9⟩ := Hd.of y8 r8.size q8.size d9
    have q9 := q8.then u9
    have r9 : Ext w w9 := r8.young u9 fun i hi => .inr hi.1
    try simp only [push_cast, bne_self_eq_false]
    refine isdisk_start hd9 fun w10 d10 => ?_
    rw [ag2]
    obtain ⟨⟨fp10, hd10, y10⟩, u10⟩ := Hd.of y9 r9.size q9.size d10
    have q10 := q9.then u10
    have r10 : Ext w w10 := r9.young u10 fun i hi => .inr hi.1
    have hagain : ((if (D1.put s).2.down = true then (D1.put s).2.start.2 else (D1.put s).2).crash keep).2.start.2 = (D1.put s).2.again keep := rfl
    rw [hagain] at hd10
    try simp only [push_cast, bne_self_eq_false]
    refine choose_c hd10 fun w11 u11 => ?_
    rw [hC'.c]
    try simp only [push_cast]
    refine slot_new now fun w12 b12 u12 => ?_
    have b3 := ((b3.keep q10 n3).keep u11 id).keep u12 id
    have b5 := ((b5.keep q10 n4).keep u11 id).keep u12 id
    have r12 : Ext w w12 := (r10.ext u11).ext u12
    have hd12 := (hd10.ext u11).ext u12
    try simp only [push_cast]
    refine mN_v (r_loadB _ (by kernel_rfl) b5 rfl) ?_
    try simp only [push_cast, hnum]
    refine mN_v (r_loadB _ (by kernel_rfl) b3 rfl) ?_
    try simp only [push_cast]
    refine mN_v (r_loadB _ (by kernel_rfl) b3 rfl) ?_
    try simp only [push_cast]
    refine mN_v (r_loadB _ (by kernel_rfl) b3 rfl) ?_
    try simp only [push_cast]
    refine mN_v (build50n (a.next s) _) ?_
    refine slot_new (a.next s) fun w13 b13 u13 => ?_
    have b12 := b12.keep u13 id
    have b5 := b5.keep u13 id
    have r13 := r12.ext u13
    have hd13 := hd12.ext u13
    try simp only [push_cast, bne_self_eq_false]
    refine mN_v (slot_load b12) ?_
    refine mN_v (slot_load b13) ?_
    refine mN_v (slot_ne _ _ now (a.next s) _) ?_
    have hfin : ∀ K' : Prop, ((∃ (j_1 : Nat) (D : DM) (a : SM) (at_ : Int), Value.int .i64 ((j : Int) + 1) = .int .i64 j_1 ∧ j_1 ≤ l.length ∧ Holds w.heap.size w13 p D ∧ Calm D a at_ ∧ Ext w w13) ∧
        l.length - (intOf (.int .i64 ((j : Int) + 1))).toNat < l.length - (intOf (.int .i64 (j : Int))).toNat → K') → K' := fun K' h =>
      h ⟨⟨j + 1, _, now, at', congrArg (Value.int .i64) (by omega), by omega, ⟨fp10, hd13, fun k hk => (y10 k hk).1⟩, hC', r13⟩, by simp only [intOf]; omega⟩
    have htail : mN Try.prog (vS (Instr.loadAt 50 (.pointer (some ⟨w11.heap.size, 0, none⟩)))) w13 fun t141 w_1 => mN Try.prog (vS (Instr.loadAt 50 (.pointer (some ⟨w12.heap.size, 0, none⟩)))) w_1 fun t142 w_2 =>
        mN Try.prog (vS (eqS .eql 50 false false t141 t142)) w_2 fun t143 w_3 => mIf t143
          (mN Try.prog (vS (Instr.loadAt 3 (.pointer (some ⟨w11.heap.size, 0, none⟩)))) w_3 fun t146 w_4 => mN Try.prog (vS (Instr.loadAt 3 (.pointer (some ⟨w4.heap.size, 0, none⟩)))) w_4 fun t148 w_5 =>
            mN Try.prog (vS (binOp .add 3 t148 (.int .i64 1))) w_5 fun t149 w_6 => mN Try.prog (vS (eqS .neq 3 false false t146 t149)) w_6 fun t150 w_7 => mIf t150 (K (.bool false) w_7)
              ((∃ (j_1 : Nat) (D : DM) (a : SM) (at_ : Int), Value.int .i64 (IntKind.wrap .i64 ((j : Int) + 1)) = .int .i64 j_1 ∧ j_1 ≤ l.length ∧ Holds w.heap.size w_7 p D ∧ Calm D a at_ ∧ Ext w w_7) ∧
                l.length - (intOf (.int .i64 (IntKind.wrap .i64 ((j : Int) + 1)))).toNat < l.length - (intOf (.int .i64 (j : Int))).toNat))
          ((∃ (j_1 : Nat) (D : DM) (a : SM) (at_ : Int), Value.int .i64 (IntKind.wrap .i64 ((j : Int) + 1)) = .int .i64 j_1 ∧ j_1 ≤ l.length ∧ Holds w.heap.size w_3 p D ∧ Calm D a at_ ∧ Ext w w_3) ∧
            l.length - (intOf (.int .i64 (IntKind.wrap .i64 ((j : Int) + 1)))).toNat < l.length - (intOf (.int .i64 (j : Int))).toNat) := by
      rw [i64w ((j : Int) + 1) (by omega) (by omega)]
      refine mN_v (slot_load b12) ?_
      refine mN_v (slot_load b13) ?_
      refine mN_v (slot_eq _ _ now (a.next s) _) ?_
      refine mIf_dec (fun hn => ?_) fun hn => hfin _ id
      subst hn
      refine mN_v (r_loadB _ (by kernel_rfl) b12 rfl) ?_
      refine mN_v (r_loadB _ (by kernel_rfl) b5 rfl) ?_
      try simp only [push_cast, hnum]
      refine mIf_neI (fun h => absurd rfl h) fun _ => hfin _ id
    by_cases hn : now = a.next s
    · simp only [hn, decide_true, Bool.not_true, push_cast] at htail ⊢
      exact htail
    · obtain ⟨rfl, hg⟩ := hnow.resolve_left hn
      simp only [hn, decide_false, Bool.not_false, push_cast]
      refine mN_v (slot_load b12) ?_
      refine mN_v (slot_load b5) ?_
      refine mN_v (slot_ne _ _ now now _) ?_
      simp only [decide_true, Bool.not_true, push_cast]
      refine mIf_eqI (fun h => absurd h hg) fun _ => ?_
      exact htail
  · exact two_c fun w3 u3 => k w3 (ur.ext u3)
end
end Go.Proofs.Ythgopkppmppdoaa
