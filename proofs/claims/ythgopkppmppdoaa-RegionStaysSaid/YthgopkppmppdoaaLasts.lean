/-
  DiskLasts: what was flushed lasts.
-/
import Derived.Test.YthgopkppmppdoaaDoes27
set_option linter.unusedVariables false
set_option linter.unusedSimpArgs false
set_option maxRecDepth 20000
namespace Go.Proofs.Ythgopkppmppdoaa
open Go Go.Proofs Go.Vc
open Go.RowKit (Below intOf)

/-- A block that stays. -/
structure Stays (D : DM) (a : Nat) (B : List ByteArray) (n : Nat) : Prop where
  at_ : D.blocks[a]? = some B
  off : ∀ x ∈ D.waits, x.1.toNat ≠ a
  wn : D.waits.length ≤ n

theorem fallTo_get {bl : Bl} {ws : List (Int × List ByteArray)} (keep : List Int) {a : Nat} (h : ∀ x ∈ ws, x.1.toNat ≠ a) : ∀ j, (fallTo bl ws keep j)[a]? = bl[a]?
  | 0 => rfl
  | j + 1 => by
    unfold fallTo
    split
    · rename_i x hx
      unfold fallOne
      rw [List.getElem?_set_ne (h x (List.mem_of_getElem? hx))]
      exact fallTo_get keep h j
    · exact fallTo_get keep h j
theorem flushTo_get {bl : Bl} {ws : List (Int × List ByteArray)} {a : Nat} (h : ∀ x ∈ ws, x.1.toNat ≠ a) : ∀ j, (flushTo bl ws j)[a]? = bl[a]?
  | 0 => rfl
  | j + 1 => by
    unfold flushTo
    split
    · rename_i x hx
      rw [List.getElem?_set_ne (h x (List.mem_of_getElem? hx))]
      exact flushTo_get h j
    · exact flushTo_get h j
theorem Stays.fall {D : DM} {a n : Nat} {B : List ByteArray} (h : Stays D a B n) (keep : List Int) : Stays (D.fall keep) a B n :=
  ⟨(fallTo_get keep h.off _).trans h.at_, fun x hx => (by cases hx), Nat.zero_le _⟩
theorem Stays.goes {D : DM} {a n : Nat} {B : List ByteArray} (h : Stays D a B n) : Stays D.goes.2 a B n := by
  unfold DM.goes
  split
  · exact h
  · split
    · exact ⟨h.at_, h.off, h.wn⟩
    · split
      · exact ⟨h.at_, h.off, h.wn⟩
      · exact Stays.fall (D := { D with armed := false }) ⟨h.at_, h.off, h.wn⟩ _
theorem Stays.more {D : DM} {a n m : Nat} {B : List ByteArray} (h : Stays D a B n) (hm : n ≤ m) : Stays D a B m := ⟨h.at_, h.off, Nat.le_trans h.wn hm⟩
theorem Stays.write {D : DM} {a n : Nat} {B : List ByteArray} (h : Stays D a B n) (i : Int) (s : ByteArray) (hi : ¬ i = (a : Int)) : Stays (D.write i s).2 a B (n + 1) := by
  unfold DM.write
  split
  · exact h.more (by omega)
  · rename_i hin
    split
    · exact h.more (by omega)
    · split
      · exact h.goes.more (by omega)
      · refine ⟨h.goes.at_, fun x hx => ?_, ?_⟩
        · rcases List.mem_append.1 hx with hx | hx
          · exact h.goes.off x hx
          · rw [List.mem_singleton] at hx
            subst hx
            show i.toNat ≠ a
            have : 0 ≤ i := by
              rcases Decidable.em (0 ≤ i) with h0 | h0
              · exact h0
              · exact absurd (Or.inl fun hh => h0 hh.1) hin
            omega
        · show (D.goes.2.waits ++ [(i, cutS s)]).length ≤ n + 1
          have := h.goes.wn
          simp
          omega
theorem Stays.flush {D : DM} {a n : Nat} {B : List ByteArray} (h : Stays D a B n) : Stays D.flush.2 a B n := by
  unfold DM.flush
  split
  · exact h
  · split
    · exact ⟨h.goes.at_, fun x hx => (by cases hx), Nat.zero_le _⟩
    · exact ⟨(flushTo_get h.goes.off _).trans h.goes.at_, fun x hx => (by cases hx), Nat.zero_le _⟩
theorem Stays.step {D : DM} {a n : Nat} {B : List ByteArray} (h : Stays D a B n) (s : Step27) (hs : s.what < 3 → ¬ s.at_ = (a : Int)) : Stays (D.step s).2 a B (n + 1) := by
  unfold DM.step
  split
  · exact h.write _ _ (hs (by omega))
  · split
    · exact h.flush.more (by omega)
    · split
      · unfold DM.crash
        split
        · exact h.more (by omega)
        · exact (h.fall _).more (by omega)
      · split
        · unfold DM.start
          split
          · exact h.more (by omega)
          · exact ⟨h.at_, h.off, by have := h.wn; show D.waits.length ≤ n + 1; omega⟩
        · split
          · unfold DM.set
            split
            · exact h.more (by omega)
            · split
              · exact h.more (by omega)
              · exact ⟨h.at_, h.off, by have := h.wn; show D.waits.length ≤ n + 1; omega⟩
          · exact h.more (by omega)
theorem Stays.lasts {D : DM} {a n : Nat} {B : List ByteArray} (h : Stays D a B n) : D.lasts (a : Int) = joined B := by
  have hl := (List.getElem?_eq_some_iff.1 h.at_).1
  unfold DM.lasts
  rw [if_neg (by omega), Int.toNat_natCast, List.getD_eq_getElem?_getD, h.at_]
  rfl
theorem step_waits (D : DM) (s : Step27) : (D.step s).2.waits.length ≤ D.waits.length + 1 := by
  have hg := (goes_len D).2.1
  unfold DM.step DM.write DM.flush DM.crash DM.start DM.set DM.fall
  repeat' split
  all_goals first
    | (show _ ≤ _; simp; omega)
    | (simp; done)
    | omega

section
variable {w : World} {K : Value → World → Prop} {v : Value} {l : List Step27} {N : Nat}

theorem zero37 (w : World) : (Instr.alloc 37 true (.tuple #[])).run Try.prog w = .ok (.pointer (some ⟨w.heap.size, 0, none⟩)) (w.alloc (.cells #[.int .i64 0, .int .i64 0, .int .u8 0, .bool false, .slice none 0 0] 37 (0, 0))) := by kernel_rfl

/-- A step in a block of its own. -/
theorem step27_new {cs : List Value} {s : Step27} {fp : Nat → Prop} (h : isStep27 fp w cs s) {A : Prop} {K : Value → World → Prop}
    (k : ∀ w' v, isStep27 fp w' cs s → cs = [.int .i64 s.what, .int .i64 s.at_, .int .u8 s.byte.toNat, .bool s.cut, v] → Ints w' v s.keep fp → Blk w' w.heap.size 37 cs → Ext w w' → K (.pointer (some ⟨w.heap.size, 0, none⟩)) w') :
    mN Try.prog (vS (Instr.alloc 37 true (.tuple #[]))) w fun t w => mN Try.prog (uS (Instr.storeAt 37 t (.agg cs.toArray))) w fun _ w => K t w := by
  refine mN_new (zero37 w) fun w1 h1 u1 s1 => ?_
  obtain ⟨v, rfl, ha, hk⟩ := h
  have ho : v.oneCell' = true := by
    obtain ⟨A, c, rfl⟩ := Arr.slice hk
    rfl
  refine mN_storeN (by kernel_rfl) h1 (by simp) (fun u hu => ?_) fun w2 h2 u2 s2 => ?_
  · simp only [List.mem_cons, List.not_mem_nil, or_false] at hu
    rcases hu with rfl | rfl | rfl | rfl | rfl <;> first | rfl | exact ho
  · rw [splice_all _ _ (by simp)] at h2
    have u12 : Ext w w2 := u1.trans u2 (fun _ _ x => x) fun i hi e => by omega
    exact k w2 v ⟨v, rfl, ha, hk.keep u12 fun _ _ => id⟩ rfl (hk.keep u12 fun _ _ => id) h2 u12

theorem long27_c (hl : Arr w v 5 (· < N) l (isStep27 (· < N))) (k0 : ∀ w', Ext w w' → K (.bool true) w') (k1 : l.length ≤ 61 → (∀ s ∈ l, s.keep.length ≤ 60) → ∀ w', Ext w w' → K (.bool false) w') : mCall Try.prog 18 #[v] w K := by
  have hsm := Arr.small hl
  refine ⟨ok18 ?_⟩
  unfold sh18
  obtain ⟨A, c, rfl⟩ := Arr.slice hl
  try simp only [push_cast]
  refine mLoop1.mk (fun x wr => ∃ j : Nat, x = .int .i64 j ∧ j ≤ l.length ∧ j ≤ 61 ∧ Ext w wr ∧ ∀ s ∈ l.take j, s.keep.length ≤ 60) (fun x _ => l.length - (intOf x).toNat) ?_ ?_
  · exact ⟨0, rfl, Nat.zero_le _, Nat.zero_le _, Upd.refl _ _, fun s hs => by simp at hs⟩
  rintro x wr ⟨j, rfl, hj, hj61, ur, hk⟩
  try simp only [push_cast]
  refine mIf_dec (fun hlt => ?_) fun hlt => ?_
  · obtain ⟨s, hs⟩ : ∃ s, l[j]? = some s := ⟨_, List.getElem?_eq_getElem (by omega)⟩
    have hlr := hl.keep (isStep27_stable _) ur fun _ _ => id
    obtain ⟨_, b, o, rfl, _, cs, hcl, hc, hst⟩ := Arr.at_ hlr hs
    refine mN_v (r_indexAt wr (sz := 5) Try.underlying22 (by kernel_rfl) b o l.length c j (by omega) (by omega)) ?_
    rw [Int.toNat_natCast]
    refine mN_v (r_loadNs wr (n := 5) (by kernel_rfl) (by kernel_rfl) hcl hc) ?_
    refine step27_new hst (A := True) fun w2 vk hst2 e2 hk2 h2 u2 => ?_
    subst e2
    try simp only [push_cast]
    refine mIf_dec (fun h60 => k0 w2 (ur.ext u2)) fun h60 => ?_
    refine mN_v (r_loadB _ (by kernel_rfl) h2 rfl) ?_
    obtain ⟨A2, c2, rfl⟩ := Arr.slice hk2
    try simp only [push_cast]
    refine mIf_dec (fun h60 => k0 w2 (ur.ext u2)) fun h60 => ?_
    rw [i64w ((j : Int) + 1) (by omega) (by omega)]
    refine ⟨⟨j + 1, congrArg (Value.int .i64) (by omega), by omega, by omega, ur.ext u2, fun t ht => ?_⟩, by simp only [intOf]; omega⟩
    rw [take_snoc hs] at ht
    rcases List.mem_append.1 ht with ht | ht
    · exact hk t ht
    · rw [List.mem_singleton] at ht
      subst ht
      omega
  · obtain rfl : j = l.length := by omega
    rw [List.take_of_length_le (Nat.le_refl _)] at hk
    exact k1 hj61 hk wr ur

theorem TwoAfter.ext {w w' w'' : World} {N p q : Nat} {D E : DM} (h : TwoAfter w N p q D E w') (u : Ext w' w'') : TwoAfter w N p q D E w'' := by
  obtain ⟨fp, fq, h, hu⟩ := h
  exact ⟨fp, fq, h.ext u, hu.ext u⟩

/-- A step, and the look behind it. -/
theorem lasts_tail {p q g N : Nat} {fp fq : Nat → Prop} {D E : DM} {s : Step27} {vk : Value} (hT : Two w N p q fp fq D E) (hN : N ≤ w.heap.size) (hwd : D.waits.length ≤ 1000000000) (hwe : E.waits.length ≤ 1000000000) (hkl : s.keep.length ≤ 1000000)
    (h2 : Blk w g 37 [.int .i64 s.what, .int .i64 s.at_, .int .u8 s.byte.toNat, .bool s.cut, vk]) (hs : isStep27 (· < N) w [.int .i64 s.what, .int .i64 s.at_, .int .u8 s.byte.toNat, .bool s.cut, vk] s) (a : Nat) (b : UInt8)
    (hl : (D.step s).2.lasts a = fillS b) {A R : World → Prop} (k : ∀ w', TwoAfter w N p q (D.step s).2 (E.step s).2 w' → R w') :
    mN Try.prog (vS (Instr.loadAt 37 (.pointer (some ⟨g, 0, none⟩)))) w fun t84 w => mCall Try.prog 25 #[.pointer (some ⟨p, 0, none⟩), dptr q, t84] w fun t85 w =>
      mCall Try.prog 23 #[.pointer (some ⟨p, 0, none⟩), .int .i64 a] w fun t88 w => mCall Try.prog 21 #[.int .u8 b.toNat] w fun t90 w =>
      mN Try.prog (vS (eqS .neq 9 false false t88 t90)) w fun t91 w => mIf t91 (A w) (R w) := by
  refine mN_v (r_loadN w (n := 5) (by kernel_rfl) (by kernel_rfl) h2 (by simp)) ?_
  refine does27_c hT hN hwd hwe hkl (cs := #[.int .i64 s.what, .int .i64 s.at_, .int .u8 s.byte.toNat, .bool s.cut, vk]) hs fun w3 h3 => ?_
  refine isdisk_lasts h3.choose_spec.choose_spec.1.d a fun w4 u4 => ?_
  refine fill27_c b fun w5 u5 => ?_
  rw [hl]
  try simp only [push_cast, beq_self_eq_true, Bool.not_true]
  exact k w5 ((h3.ext u4).ext u5)

theorem lasts_law (hl : Arr w v 5 (· < w.heap.size) l (isStep27 (· < w.heap.size))) (at_ : Int) (b : UInt8) (k : ∀ w', Ext w w' → K (.bool true) w') : mCall Try.prog 3 #[v, .int .i64 at_, .int .u8 b.toNat] w K := by
  refine ⟨ok3 ?_⟩
  unfold sh3
  refine new_c 16 (fun h => by omega) fun _ _ w1 p fp h1 u1 y1 => ?_
  unfold dptr
  try simp only [push_cast, Option.isNone_some, Bool.not_false, bne_self_eq_false, beq_self_eq_true]
  have hl1 := hl.keep (isStep27_stable _) u1 fun _ _ => id
  refine long27_c hl1 (fun w2 u2 => ?_) fun hn hks w2 u2 => ?_
  · try simp only [push_cast]
    exact torn_c fun w3 u3 => k w3 ((u1.ext u2).ext u3)
  try simp only [push_cast]
  refine mIf_dec (fun h0 => torn_c fun w3 u3 => k w3 ((u1.ext u2).ext u3)) fun h0 => ?_
  refine mIf_dec (fun h15 => torn_c fun w3 u3 => k w3 ((u1.ext u2).ext u3)) fun h15 => ?_
  refine fill27_c b fun w3 u3 => ?_
  have h3 := (h1.ext u2).ext u3
  have a3 : Ext w w3 := (u1.ext u2).ext u3
  obtain ⟨a, rfl⟩ : ∃ a : Nat, at_ = a := ⟨at_.toNat, by omega⟩
  have e1 : (DM.new (16 : Int).toNat).write a (fillS b) = (0, { DM.new 16 with waits := [((a : Int), cutS (fillS b))] }) := by
    unfold DM.write
    have hb : (DM.new (16 : Int).toNat).blocks.length = 16 := by kernel_rfl
    rw [hb, if_neg (by rw [fillS_size]; omega)]
    rfl
  have e2 : ({ DM.new 16 with waits := [((a : Int), cutS (fillS b))] } : DM).flush = (0, { DM.new 16 with blocks := (List.replicate 16 zeroB).set a (cutS (fillS b)) }) := by
    unfold DM.flush
    rfl
  refine isdisk_write h3 (by decide) a _ fun w4 a4 => ?_
  rw [e1] at a4 ⊢
  obtain ⟨fp4, h4, u4, y4⟩ := a4
  have z4 := young_of y4 y1 a3.size
  have a4 : Ext w w4 := a3.young u4 fun i hi => .inr (y1 i hi)
  refine isdisk_flush h4 fun w5 a5 => ?_
  rw [e2] at a5 ⊢
  obtain ⟨fp5, h5, u5, y5⟩ := a5
  have z5 := young_of y5 z4 a4.size
  have a5 : Ext w w5 := a4.young u5 fun i hi => .inr (z4 i hi)
  try simp only [push_cast, bne_self_eq_false]
  have hst0 : Stays ({ DM.new 16 with blocks := (List.replicate 16 zeroB).set a (cutS (fillS b)) } : DM) a (cutS (fillS b)) 0 :=
    ⟨by show ((List.replicate 16 zeroB).set a (cutS (fillS b)))[a]? = _; rw [List.getElem?_set_self (by simp; omega)], fun x hx => (by cases hx), Nat.le_refl _⟩
  generalize ({ DM.new 16 with blocks := (List.replicate 16 zeroB).set a (cutS (fillS b)) } : DM) = D5 at h5 hst0
  refine isdisk_lasts h5 a fun w6 u6 => ?_
  refine fill27_c b fun w7 u7 => ?_
  rw [hst0.lasts, joined_cutS (fillS_size b)]
  try simp only [push_cast, beq_self_eq_true, Bool.not_true]
  have a7 : Ext w w7 := (a5.ext u6).ext u7
  have h7 := (h5.ext u6).ext u7
  refine rnew_c 16 (by decide) a7.size fun w8 q fq h8 u8 y8 => ?_
  have hT8 : Two w8 w.heap.size p q fp5 fq D5 (DM.new 16) := ⟨h7.ext u8, h8, z5, fun k hk hq => by have := h7.lt hk; have := y8 k hq; omega⟩
  have a8 : Ext w w8 := a7.ext u8
  obtain ⟨A, c, rfl⟩ := Arr.slice hl
  try simp only [push_cast]
  refine mLoop1.mk (fun x wr => ∃ (j : Nat) (D E : DM) (fp fq : Nat → Prop), x = .int .i64 j ∧ j ≤ l.length ∧ Two wr w.heap.size p q fp fq D E ∧ Stays D a (cutS (fillS b)) j ∧ E.waits.length ≤ j ∧ Ext w wr) (fun x _ => l.length - (intOf x).toNat) ?_ ?_
  · exact ⟨0, D5, DM.new 16, fp5, fq, rfl, Nat.zero_le _, hT8, hst0, Nat.le_refl _, a8⟩
  rintro x wr ⟨j, D, E, fpr, fqr, rfl, hj, hT, hst, hE, ur⟩
  try simp only [push_cast]
  refine mIf_dec (fun hlt => ?_) fun hlt => ?_
  · obtain ⟨s, hs⟩ : ∃ s, l[j]? = some s := ⟨_, List.getElem?_eq_getElem (by omega)⟩
    have hlr := hl.keep (isStep27_stable _) ur fun _ _ => id
    obtain ⟨_, bb, o, rfl, _, cs, hcl, hc, hss⟩ := Arr.at_ hlr hs
    refine mN_v (r_indexAt wr (sz := 5) Try.underlying22 (by kernel_rfl) bb o l.length c j (by omega) (by omega)) ?_
    rw [Int.toNat_natCast]
    refine mN_v (r_loadNs wr (n := 5) (by kernel_rfl) (by kernel_rfl) hcl hc) ?_
    refine step27_new hss (A := True) fun w2 vk hst2 e2 hk2 h2 u2 => ?_
    have hT2 := hT.ext u2
    have r2 : Ext w w2 := ur.ext u2
    have hnext : IntKind.wrap .i64 ((j : Int) + 1) = (j : Int) + 1 := i64w _ (by omega) (by omega)
    rw [hnext]
    have hsk := hks s (List.mem_of_getElem? hs)
    have hgo : ¬ (s.what < 3 ∧ s.at_ = (a : Int)) → ∀ w', TwoAfter w2 w.heap.size p q (D.step s).2 (E.step s).2 w' → (∃ (j_1 : Nat) (D E : DM) (fp fq : Nat → Prop), Value.int .i64 ((j : Int) + 1) = .int .i64 j_1 ∧ j_1 ≤ l.length ∧ Two w' w.heap.size p q fp fq D E ∧ Stays D a (cutS (fillS b)) j_1 ∧ E.waits.length ≤ j_1 ∧ Ext w w') ∧
          l.length - (intOf (.int .i64 ((j : Int) + 1))).toNat < l.length - (intOf (.int .i64 (j : Int))).toNat := by
      rintro hno w' ⟨fp', fq', hT', u'⟩
      refine ⟨⟨j + 1, _, _, fp', fq', congrArg (Value.int .i64) (by omega), by omega, hT', hst.step s fun h1 h2 => hno ⟨h1, h2⟩, Nat.le_trans (step_waits E s) (by omega), r2.young u' fun i hi => .inr hi⟩, by simp only [intOf]; omega⟩
    have hwd : D.waits.length ≤ 1000000000 := by have := hst.wn; omega
    have hlast : ¬ (s.what < 3 ∧ s.at_ = (a : Int)) → (D.step s).2.lasts a = fillS b := fun hno => by
      rw [(hst.step s fun h1 h2 => hno ⟨h1, h2⟩).lasts, joined_cutS (fillS_size b)]
    subst e2
    try simp only [push_cast]
    refine mN_v (r_loadB _ (by kernel_rfl) h2 rfl) ?_
    try simp only [push_cast]
    refine mIf_dec (fun h3 => ?_) fun h3 => ?_
    · refine mN_v (r_loadB _ (by kernel_rfl) h2 rfl) ?_
      try simp only [push_cast]
      refine mIf_eqI (fun hat => ?_) fun hat => ?_
      · refine ⟨⟨j + 1, D, E, fpr, fqr, congrArg (Value.int .i64) (by omega), by omega, hT2, hst.more (by omega), by omega, r2⟩, by simp only [intOf]; omega⟩
      · exact lasts_tail hT2 (Nat.le_trans (Nat.le_refl _) r2.size) hwd (by omega) (by omega) h2 hst2 a b (hlast fun h => hat h.2) fun w' h' => hgo (fun h => hat h.2) w' h'
    · exact lasts_tail hT2 (Nat.le_trans (Nat.le_refl _) r2.size) hwd (by omega) (by omega) h2 hst2 a b (hlast fun h => h3 h.1) fun w' h' => hgo (fun h => h3 h.1) w' h'
  · exact torn_c fun w3 u3 => k w3 (ur.ext u3)
theorem lasts_row (hl : Arr w v 5 (· < w.heap.size) l (isStep27 (· < w.heap.size))) (at_ : Int) {n : Int} (hn : (Lit.int .u8 n).wf = true) (k : ∀ w', Ext w w' → K (.bool true) w') : mCall Try.prog 3 #[v, .int .i64 at_, .int .u8 n] w K := by
  obtain ⟨b, rfl⟩ := u8_of hn
  exact lasts_law hl at_ b k
end
end Go.Proofs.Ythgopkppmppdoaa
