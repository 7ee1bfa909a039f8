/-
  Slots: the reference's walks.
-/
import Derived.Test.YthgopkppmppdoaaSlotM
import Derived.Test.YthgopkppmppdoaaNumM
import Derived.Test.YthgopkppmppdoaaRefM
set_option linter.unusedVariables false
set_option linter.unusedSimpArgs false
set_option maxRecDepth 20000
namespace Go.Proofs.Ythgopkppmppdoaa
open Go Go.Proofs Go.Vc
open Go.RowKit (Below intOf)

section
variable {w : World} {K : Value → World → Prop}

theorem box82 (s : SM) (w : World) : (Instr.box 82 (slotV s)).run Try.prog w = .ok (.pointer (some ⟨w.heap.size, 0, none⟩)) (w.alloc (.cells (slotC s).toArray 82 (0, 0))) := by kernel_rfl
theorem zero82 (w : World) : (Instr.alloc 82 true (.tuple #[])).run Try.prog w = .ok (.pointer (some ⟨w.heap.size, 0, none⟩)) (w.alloc (.cells (slotC SM.zero).toArray 82 (0, 0))) := by kernel_rfl
theorem build82n (s : SM) (w : World) : (Instr.build 82 #[(0, .int .i64 s.number), (1, .int .i64 s.region), (2, .int .i64 s.bytes), (3, .int .i64 s.records)]).run Try.prog w = .ok (slotV s) w := by kernel_rfl

/-- rectolaw28.ref -/
theorem ref_c (s : SM) (k : ∀ w', Ext w w' → K (slotV s) w') : mCall Try.prog 51 #[slotV s] w K := by
  refine ⟨ok51 ?_⟩
  unfold sh51
  refine mN_new (box50 s w) fun w1 h1 u1 s1 => ?_
  refine mN_new (zero82 w1) fun w2 h2 u2 s2 => ?_
  have h1 := h1.keep u2 id
  simp only [slotC] at h1
  simp only [push_cast, ld h1, ag3, List.length_cons, List.length_nil, List.getD_cons_zero, List.getD_cons_succ, Nat.zero_add, Nat.reduceAdd, Nat.reduceLT, Nat.lt_add_one]
  refine mN_v (build82n s _) ?_
  exact ret_agg (by kernel_rfl) (n := 4) rfl (by kernel_rfl) h2 rfl (slotC_one s) (u1.ext u2) (by omega) k

/-- rectoref28.Right -/
theorem rright_c (s : SM) (k : ∀ w', Ext w w' → K (.bool s.right) w') : mCall Try.prog 127 #[slotV s] w K := by
  refine ⟨ok127 ?_⟩
  unfold sh127
  refine mN_new (box82 s w) fun w1 h1 u1 s1 => ?_
  have k := k w1 u1
  have hf : ∀ b : Bool, (b = true ↔ (1 ≤ s.number ∧ s.number ≤ 1099511627776 ∧ (s.region = 0 ∨ s.region = 1) ∧ 0 ≤ s.bytes ∧ s.bytes ≤ 65536 ∧ 0 ≤ s.records ∧ s.records ≤ 65536)) → K (.bool b) w1 := fun b h => by
    have e : b = s.right := by
      unfold SM.right
      cases b
      · symm
        rw [decide_eq_false_iff_not]
        intro hh
        exact absurd (h.2 hh) (by simp)
      · symm
        rw [decide_eq_true_iff]
        exact h.1 rfl
    rwa [e]
  simp only [slotC] at h1
  simp only [push_cast, ld h1, ag3, List.length_cons, List.length_nil, List.getD_cons_zero, List.getD_cons_succ, Nat.zero_add, Nat.reduceAdd, Nat.reduceLT, Nat.lt_add_one]
  refine mIf_dec (fun c1 => ?_) fun c1 => hf false (by simp; omega)
  refine mIf_dec (fun c2 => ?_) fun c2 => hf false (by simp; omega)
  refine mIf_dec (fun c3 => ?_) fun c3 => hf false (by simp; omega)
  refine mIf_dec (fun c4 => ?_) fun c4 => hf false (by simp; omega)
  refine mIf_dec (fun c5 => ?_) fun c5 => hf false (by simp; omega)
  refine mIf_dec (fun c6 => ?_) fun c6 => hf false (by simp; omega)
  refine mIf_dec (fun c7 => ?_) fun c7 => hf false (by simp; omega)
  exact hf _ (by simp; omega)

/-- Bytes 0 behind a text, up to a block's size. -/
theorem pad_step {l : List UInt8} {n : Nat} (h : l.length + n < 256) : (padL l).take (l.length + n) ++ [0] = (padL l).take (l.length + (n + 1)) := by
  have hl := padL_len (l := l) (by omega)
  have hg : (padL l)[l.length + n]? = some 0 := by
    unfold padL
    rw [List.getElem?_append_right (by omega), List.getElem?_replicate, if_pos (by omega)]
  rw [show l.length + (n + 1) = (l.length + n) + 1 from by omega, List.take_add_one, hg]
  rfl
theorem padloop_c {l : List UInt8} (hl : l.length ≤ 256) {R : Value → World → Prop} (k : R (.string (ofL (padL l))) w) {X : ByteArray} (hX : X = ofL l) :
    mLoop1 (fun t3 w k => mN Try.prog (builtin .len #[9] 3 #[false] #[t3]) w fun t21 w => mN Try.prog (vS (binOp .lss 3 t21 (.int .i64 256))) w fun t22 w =>
      mIf t22 (mN Try.prog (vS (binOp .add 9 t3 (.string ⟨#[0]⟩))) w fun t24 w => k t24 w) (R t3 w)) (.string X) w := by
  subst hX
  have hp := padL_len hl
  refine mLoop1.mk (fun x wr => ∃ n : Nat, x = .string (ofL ((padL l).take (l.length + n))) ∧ l.length + n ≤ 256 ∧ wr = w) (fun x _ => match x with
    | .string s => 256 - s.size
    | _ => 0) ?_ ?_
  · refine ⟨0, ?_, by omega, rfl⟩
    rw [Nat.add_zero]
    unfold padL
    rw [List.take_append_of_le_length (Nat.le_refl _), List.take_of_length_le (Nat.le_refl _)]
  rintro x wr ⟨n, rfl, hn, rfl⟩
  have hsz : (ofL ((padL l).take (l.length + n))).size = l.length + n := by
    rw [ofL_size, List.length_take]
    omega
  try simp only [push_cast]
  rw [hsz]
  refine mIf_dec (fun hlt => ?_) fun hlt => ?_
  · refine mN_v (r_addS _ _ _ _ (by rw [hsz]; show _ + 1 ≤ _; omega)) ?_
    have e : ofL ((padL l).take (l.length + n)) ++ (⟨#[0]⟩ : ByteArray) = ofL ((padL l).take (l.length + (n + 1))) := by
      rw [show (⟨#[0]⟩ : ByteArray) = ofL [0] from rfl, ofL_append, pad_step (by omega)]
    rw [e]
    refine ⟨⟨n + 1, rfl, by omega, rfl⟩, ?_⟩
    have hsz2 : (ofL ((padL l).take (l.length + (n + 1)))).size = l.length + (n + 1) := by
      rw [ofL_size, List.length_take]
      omega
    show 256 - (ofL ((padL l).take (l.length + (n + 1)))).size < _
    rw [hsz2]
    omega
  · rw [List.take_of_length_le (by omega)]
    exact k

/-- rectoref28.Plain -/
theorem rplainS_c {s : SM} (hr : s.right = true) (k : ∀ w', Ext w w' → K (.string (ofL (blockL s))) w') : mCall Try.prog 128 #[slotV s] w K := by
  obtain ⟨r1, r2, r3, r4, r5, r6, r7⟩ := SM.right_iff.1 hr
  have hhl := headL_len hr
  refine ⟨ok128 ?_⟩
  unfold sh128
  refine mN_new (box82 s w) fun w1 h1 u1 s1 => ?_
  unfold mDrew
  have h2 := h1.drew
  have u2 := u1.drewn
  generalize w1.drew = w2 at h2 u2
  refine mP_v (fun w => r_fieldAt w fa82_0 _ _) ?_
  refine mR_v (r_loadB _ (by kernel_rfl) h2 rfl) ?_
  refine mP_v (fun w => r_fieldAt w fa82_1 _ _) ?_
  refine mR_v (r_loadB _ (by kernel_rfl) h2 rfl) ?_
  refine mP_v (fun w => r_fieldAt w fa82_2 _ _) ?_
  refine mR_v (r_loadB _ (by kernel_rfl) h2 rfl) ?_
  refine mP_v (fun w => r_fieldAt w fa82_3 _ _) ?_
  refine mR_v (r_loadB _ (by kernel_rfl) h2 rfl) ?_
  have i1 : (Value.int .i64 s.number) = .int .i64 (s.number.toNat : Nat) := congrArg _ (by omega)
  have i2 : (Value.int .i64 s.region) = .int .i64 (s.region.toNat : Nat) := congrArg _ (by omega)
  have i3 : (Value.int .i64 s.bytes) = .int .i64 (s.bytes.toNat : Nat) := congrArg _ (by omega)
  have i4 : (Value.int .i64 s.records) = .int .i64 (s.records.toNat : Nat) := congrArg _ (by omega)
  have b1 := plainL_le (n := s.number.toNat) (by omega)
  have b2 := plainL_le (n := s.region.toNat) (by omega)
  have b3 := plainL_le (n := s.bytes.toNat) (by omega)
  have b4 := plainL_le (n := s.records.toNat) (by omega)
  have em : (⟨#[114, 99, 116, 111]⟩ : ByteArray) = ofL magicL := rfl
  have lm : magicL.length = 4 := rfl
  have hrd : ∀ {w' : World} {o : Nat} {v : Value}, Ext w2 w' → (slotC s).toArray.toList[o]? = some v → rdN Try.prog (vS (Instr.loadAt 3 (.pointer (some ⟨w.heap.size, o, none⟩)))) v w' := fun u ho =>
    rdN_v (r_loadB _ (by kernel_rfl) (h2.keep u id) ho)
  rw [i1]
  refine rplain_c s.number.toNat (by omega) fun w3 u3 => ?_
  refine ⟨hrd u3 rfl, hrd u3 rfl, hrd u3 rfl, ?_⟩
  rw [em]
  refine mP_v (fun w => r_addS w _ _ _ (by rw [ofL_size, ofL_size, lm]; omega)) ?_
  rw [ofL_append, i2]
  refine rplain_c s.region.toNat (by omega) fun w4 u4 => ?_
  refine ⟨hrd (u3.ext u4) rfl, hrd (u3.ext u4) rfl, ?_⟩
  refine mP_v (fun w => r_addS w _ _ _ (by rw [ofL_size, ofL_size, List.length_append, lm]; omega)) ?_
  rw [ofL_append, i3]
  refine rplain_c s.bytes.toNat (by omega) fun w5 u5 => ?_
  refine ⟨hrd ((u3.ext u4).ext u5) rfl, ?_⟩
  refine mP_v (fun w => r_addS w _ _ _ (by rw [ofL_size, ofL_size, List.length_append, List.length_append, lm]; omega)) ?_
  rw [ofL_append, i4]
  refine rplain_c s.records.toNat (by omega) fun w6 u6 => ?_
  refine mP_v (fun w => r_addS w _ _ _ (by rw [ofL_size, ofL_size, List.length_append, List.length_append, List.length_append, lm]; omega)) ?_
  rw [ofL_append]
  exact padloop_c (l := headL s) (by omega) (k w6 ((((u2.ext u3).ext u4).ext u5).ext u6)) rfl

/-! rectoref28.Read -/
def gotSV (o : Option SM) : List Value := match o with
  | some s => slotC s ++ [.bool true]
  | none => slotC SM.zero ++ [.bool false]
theorem gotSV_len (o : Option SM) : (gotSV o).length = 5 := by cases o <;> rfl
theorem gotSV_one (o : Option SM) : ∀ v ∈ gotSV o, v.oneCell' = true := by
  intro v hv
  cases o <;>
  · simp only [gotSV, List.mem_append, List.mem_singleton] at hv
    rcases hv with hv | rfl
    · exact slotC_one _ v hv
    · rfl
theorem zero173 (w : World) : (Instr.alloc 173 true (.tuple #[])).run Try.prog w = .ok (.pointer (some ⟨w.heap.size, 0, none⟩)) (w.alloc (.cells (gotSV none).toArray 173 (0, 0))) := by kernel_rfl
theorem build173 (w : World) : (Instr.build 173 #[]).run Try.prog w = .ok (.agg (gotSV none).toArray) w := by kernel_rfl
theorem build173s (s : SM) (w : World) : (Instr.build 173 #[(0, slotV s), (1, .bool true)]).run Try.prog w = .ok (.agg (gotSV (some s)).toArray) w := by kernel_rfl

theorem got_fail {g : Nat} {cs : List Value} (h : Blk w g 173 cs) (hl : cs.length = 5) {w0 : World} (u : Ext w0 w) (hg : w0.heap.size ≤ g) {K : Value → World → Prop} (k : ∀ w', Ext w0 w' → K (.agg (gotSV none).toArray) w') :
    mN Try.prog (vS (Instr.build 173 #[])) w fun t w => mN Try.prog (uS (Instr.storeAt 173 (.pointer (some ⟨g, 0, none⟩)) t)) w fun _ w => mRes Try.prog (cellS 173 (.pointer (some ⟨g, 0, none⟩))) w fun r0 => K r0 w := by
  refine mN_v (build173 w) ?_
  exact ret_agg (by kernel_rfl) (n := 5) (gotSV_len _) (by kernel_rfl) h hl (gotSV_one _) u hg k

def takenC (l : List UInt8) : List Value := match takeN l with
  | some (n, r) => [.int .i64 n, .string ⟨#[]⟩, .slice none 0 0, .string (ofL r), .int .i64 0]
  | none => [.int .i64 0, .string ⟨#[]⟩, .slice none 0 0, .string ⟨#[]⟩, .int .i64 4]
theorem rtakeNV_C (l : List UInt8) : rtakeNV l = .agg (takenC l).toArray := by
  unfold rtakeNV takenC
  cases takeN l with
  | none => rfl
  | some p => rfl
theorem takenC_len (l : List UInt8) : (takenC l).length = 5 := by
  unfold takenC
  cases takeN l with
  | none => rfl
  | some p => rfl
theorem takenC_one (l : List UInt8) : ∀ v ∈ takenC l, v.oneCell' = true := by
  intro v hv
  unfold takenC at hv
  cases h : takeN l with
  | none =>
    simp only [h, List.mem_cons, List.not_mem_nil, or_false] at hv
    rcases hv with rfl | rfl | rfl | rfl | rfl <;> rfl
  | some p =>
    simp only [h, List.mem_cons, List.not_mem_nil, or_false] at hv
    rcases hv with rfl | rfl | rfl | rfl | rfl <;> rfl
/-- What is left behind a number; nothing where there is none. -/
def restN (l : List UInt8) : List UInt8 := match takeN l with
  | some (_, r) => r
  | none => []
def numN (l : List UInt8) : Nat := match takeN l with
  | some (n, _) => n
  | none => 0
def errN (l : List UInt8) : Int := match takeN l with
  | some _ => 0
  | none => 4
theorem takenC_eq (l : List UInt8) : takenC l = [.int .i64 (numN l), .string ⟨#[]⟩, .slice none 0 0, .string (ofL (restN l)), .int .i64 (errN l)] := by
  unfold takenC restN numN errN
  cases takeN l with
  | none => rfl
  | some p => rfl
theorem restN_len (l : List UInt8) : (restN l).length ≤ l.length := by
  unfold restN
  cases h : takeN l with
  | none => exact Nat.zero_le _
  | some p =>
    have := takeN_len h
    show p.2.length ≤ _
    omega

/-- A number is taken, and what was taken laid. -/
theorem take_lay {l : List UInt8} (hl : l.length ≤ 9223372036854775807) {R : Value → World → Prop} (k : ∀ w' g, Blk w' g 195 (takenC l) → Ext w w' → w.heap.size ≤ g → R (.pointer (some ⟨g, 0, none⟩)) w') :
    mCall Try.prog 129 #[.string (ofL l)] w fun t19 w => mN Try.prog (vS (Instr.alloc 195 true (.tuple #[]))) w fun t3 w => mN Try.prog (uS (Instr.storeAt 195 t3 t19)) w fun _ w => R t3 w := by
  refine rtaken_c hl fun w1 u1 => ?_
  refine mN_new (zero195 w1) fun w2 h2 u2 s2 => ?_
  rw [rtakeNV_C]
  refine mN_storeN (vs := takenC l) (by rw [takenC_len]; kernel_rfl) h2 (by rw [takenC_len]; simp) (takenC_one l) fun w3 h3 u3 s3 => ?_
  rw [splice_all _ _ (by rw [takenC_len]; rfl)] at h3
  exact k w3 w1.heap.size h3 ((u1.ext u2).trans u3 (fun _ _ x => x) fun i hi e => by have := u1.size; omega) u1.size
theorem readL_E (l : List UInt8) : readL l = if l.length = 256 ∧ l.take 4 = magicL then
    if errN (l.drop 4) = 0 ∧ errN (restN (l.drop 4)) = 0 ∧ errN (restN (restN (l.drop 4))) = 0 ∧ errN (restN (restN (restN (l.drop 4)))) = 0 then
      if (SM.mk (numN (l.drop 4)) (numN (restN (l.drop 4))) (numN (restN (restN (l.drop 4)))) (numN (restN (restN (restN (l.drop 4)))))).right = true ∧
        (blockL (SM.mk (numN (l.drop 4)) (numN (restN (l.drop 4))) (numN (restN (restN (l.drop 4)))) (numN (restN (restN (restN (l.drop 4))))))).take 64 = l.take 64 then
        some (SM.mk (numN (l.drop 4)) (numN (restN (l.drop 4))) (numN (restN (restN (l.drop 4)))) (numN (restN (restN (restN (l.drop 4))))))
      else none
    else none else none := by
  unfold readL
  split
  · generalize l.drop 4 = r
    cases h0 : takeN r with
    | none => simp [errN, h0]
    | some p1 =>
      obtain ⟨n, r1⟩ := p1
      have e1 : restN r = r1 := by simp [restN, h0]
      have e2 : numN r = n := by simp [numN, h0]
      have e3 : errN r = 0 := by simp [errN, h0]
      rw [e1, e2, e3]
      simp only
      cases h1 : takeN r1 with
      | none => simp [errN, h1]
      | some p2 =>
        obtain ⟨g, r2⟩ := p2
        have e1 : restN r1 = r2 := by simp [restN, h1]
        have e2 : numN r1 = g := by simp [numN, h1]
        have e3 : errN r1 = 0 := by simp [errN, h1]
        rw [e1, e2, e3]
        simp only
        cases h2 : takeN r2 with
        | none => simp [errN, h2]
        | some p3 =>
          obtain ⟨b, r3⟩ := p3
          have e1 : restN r2 = r3 := by simp [restN, h2]
          have e2 : numN r2 = b := by simp [numN, h2]
          have e3 : errN r2 = 0 := by simp [errN, h2]
          rw [e1, e2, e3]
          simp only
          cases h3 : takeN r3 with
          | none => simp [errN, h3]
          | some p4 =>
            obtain ⟨c, r4⟩ := p4
            have e2 : numN r3 = c := by simp [numN, h3]
            have e3 : errN r3 = 0 := by simp [errN, h3]
            rw [e2, e3]
            simp
  · rfl

/-- rectoref28.Read -/
theorem rsread_c {l : List UInt8} (hl : l.length ≤ 9223372036854775807) (k : ∀ w', Ext w w' → K (.agg (gotSV (readL l)).toArray) w') : mCall Try.prog 104 #[.string (ofL l)] w K := by
  rw [readL_E] at k
  refine ⟨ok104 ?_⟩
  unfold sh104
  refine mN_new (zero173 w) fun w1 h1 u1 s1 => ?_
  try simp only [push_cast, ofL_size]
  refine mIf_neI (fun h => ?_) fun hlen => ?_
  · rw [if_neg (by omega)] at k
    exact got_fail h1 rfl u1 (Nat.le_refl _) k
  have hl256 : l.length = 256 := by omega
  refine mN_v (r_sliceSh _ Try.underlying9 _ _ (by decide) (by rw [ofL_size, hl256]; decide)) ?_
  rw [ofL_extract, List.drop_zero, show (4 : Int).toNat - 0 = 4 from rfl]
  try simp only [push_cast]
  refine mIf_neS (fun h => ?_) fun h => ?_
  · rw [if_neg (fun hh => h (by rw [hh.2]; rfl))] at k
    exact got_fail h1 rfl u1 (Nat.le_refl _) k
  have hm : l.take 4 = magicL := ofL_inj.1 h
  rw [if_pos ⟨hl256, hm⟩] at k
  refine mN_v (r_sliceSl _ Try.underlying9 _ _ (by decide) (by rw [ofL_size, hl256]; decide)) ?_
  rw [ofL_extract, show (4 : Int).toNat = 4 from rfl, ofL_size, List.take_of_length_le (by simp)]
  have hd4 : (l.drop 4).length ≤ 252 := by simp; omega
  generalize l.drop 4 = r0 at k hd4
  have l1 := restN_len r0
  have l2 := restN_len (restN r0)
  have l3 := restN_len (restN (restN r0))
  refine take_lay (by omega) fun w2 g1 t1 u2 y1 => ?_
  rw [takenC_eq] at t1
  try simp only [push_cast]
  refine mN_v (r_loadB _ (by kernel_rfl) t1 rfl) ?_
  refine take_lay (by omega) fun w3 g2 t2 u3 y2 => ?_
  rw [takenC_eq] at t2
  have t1 := t1.keep u3 id
  try simp only [push_cast]
  refine mN_v (r_loadB _ (by kernel_rfl) t2 rfl) ?_
  refine take_lay (by omega) fun w4 g3 t3 u4 y3 => ?_
  rw [takenC_eq] at t3
  have t1 := t1.keep u4 id
  have t2 := t2.keep u4 id
  try simp only [push_cast]
  refine mN_v (r_loadB _ (by kernel_rfl) t3 rfl) ?_
  refine take_lay (by omega) fun w5 g4 t4 u5 y4 => ?_
  rw [takenC_eq] at t4
  have t1 := t1.keep u5 id
  have t2 := t2.keep u5 id
  have t3 := t3.keep u5 id
  try simp only [push_cast]
  refine mN_v (r_loadB _ (by kernel_rfl) t1 rfl) ?_
  refine mN_v (r_loadB _ (by kernel_rfl) t2 rfl) ?_
  refine mN_v (r_loadB _ (by kernel_rfl) t3 rfl) ?_
  refine mN_v (r_loadB _ (by kernel_rfl) t4 rfl) ?_
  obtain ⟨s, hs⟩ : ∃ s : SM, SM.mk (numN r0) (numN (restN r0)) (numN (restN (restN r0))) (numN (restN (restN (restN r0)))) = s := ⟨_, rfl⟩
  have hb := build82n s w5
  rw [hs] at k
  refine mN_v (show (Instr.build 82 #[(0, .int .i64 (numN r0 : Nat)), (1, .int .i64 (numN (restN r0) : Nat)), (2, .int .i64 (numN (restN (restN r0)) : Nat)), (3, .int .i64 (numN (restN (restN (restN r0))) : Nat))]).run Try.prog w5 = .ok (slotV s) w5 from by rw [← hs] at hb ⊢; exact hb) ?_
  refine mN_new (zero82 w5) fun w6 h6 u6 s6 => ?_
  refine mN_storeN (vs := slotC s) (by kernel_rfl) h6 (by simp [slotC]) (slotC_one _) fun w7 h7 u7 s7 => ?_
  rw [splice_all _ _ (by simp [slotC])] at h7
  have u57 : Ext w5 w7 := u6.trans u7 (fun _ _ x => x) fun i hi e => by omega
  have a7 : Ext w w7 := ((((u1.ext u2).ext u3).ext u4).ext u5).ext u57
  have b7 := (((((h1.keep u2 id).keep u3 id).keep u4 id).keep u5 id).keep u57 id).drew
  have t1 := (t1.keep u57 id).drew
  have t2 := (t2.keep u57 id).drew
  have t3 := (t3.keep u57 id).drew
  have t4 := (t4.keep u57 id).drew
  have h8 := h7.drew
  have a8 := a7.drewn
  unfold mDrew
  generalize w7.drew = w8 at t1 t2 t3 t4 h8 a8 b7
  have hfail : ∀ {w' : World}, Ext w8 w' → K (.agg (gotSV none).toArray) = K (.agg (gotSV none).toArray) := fun _ => rfl
  try simp only [push_cast]
  refine mR_v (r_loadB _ (by kernel_rfl) t1 rfl) ?_
  try simp only [push_cast]
  refine mIf_neI (fun he => ?_) fun he1 => ?_
  · rw [if_neg (fun hh => he hh.1)] at k
    exact got_fail b7 rfl a8 (Nat.le_refl _) k
  refine mR_v (r_loadB _ (by kernel_rfl) t2 rfl) ?_
  try simp only [push_cast]
  refine mIf_neI (fun he => ?_) fun he2 => ?_
  · rw [if_neg (fun hh => he hh.2.1)] at k
    exact got_fail b7 rfl a8 (Nat.le_refl _) k
  refine mR_v (r_loadB _ (by kernel_rfl) t3 rfl) ?_
  try simp only [push_cast]
  refine mIf_neI (fun he => ?_) fun he3 => ?_
  · rw [if_neg (fun hh => he hh.2.2.1)] at k
    exact got_fail b7 rfl a8 (Nat.le_refl _) k
  refine mR_v (r_loadB _ (by kernel_rfl) t4 rfl) ?_
  try simp only [push_cast]
  refine mIf_neI (fun he => ?_) fun he4 => ?_
  · rw [if_neg (fun hh => he hh.2.2.2)] at k
    exact got_fail b7 rfl a8 (Nat.le_refl _) k
  rw [if_pos ⟨he1, he2, he3, he4⟩] at k
  have hld : ∀ {w' : World}, Ext w8 w' → (Instr.loadAt 82 (.pointer (some ⟨w5.heap.size, 0, none⟩))).run Try.prog w' = .ok (slotV s) w' := fun u => by
    have := r_loadN (P := Try.prog) _ (T := 82) (n := 4) (by kernel_rfl) (by kernel_rfl) (h8.keep u id) (o := 0) (by simp [slotC])
    exact this
  refine mR_v (hld (Upd.refl _ _)) ?_
  refine rright_c s fun w9 u9 => ?_
  refine ⟨rdN_v (r_loadB _ (by kernel_rfl) (t4.keep u9 id) rfl), rdN_v (r_loadB _ (by kernel_rfl) (t3.keep u9 id) rfl), rdN_v (r_loadB _ (by kernel_rfl) (t2.keep u9 id) rfl), rdN_v (r_loadB _ (by kernel_rfl) (t1.keep u9 id) rfl), ?_⟩
  try simp only [push_cast]
  have b9 := b7.keep u9 id
  have a9 := a8.ext u9
  cases hr : s.right with
  | false =>
    rw [if_neg (by simp [hr])] at k
    try simp only [push_cast, Bool.not_false]
    exact got_fail b9 rfl a9 (Nat.le_refl _) k
  | true =>
    try simp only [push_cast, Bool.not_true]
    refine mR_v (hld u9) ?_
    refine mP_v (fun w => r_sliceSh w Try.underlying9 _ _ (by decide) (by rw [ofL_size, hl256]; decide)) ?_
    refine rplainS_c hr fun w10 u10 => ?_
    have u8 := u9.ext u10
    refine ⟨rdN_v (r_loadB _ (by kernel_rfl) (t4.keep u8 id) rfl), rdN_v (r_loadB _ (by kernel_rfl) (t3.keep u8 id) rfl), rdN_v (r_loadB _ (by kernel_rfl) (t2.keep u8 id) rfl), rdN_v (r_loadB _ (by kernel_rfl) (t1.keep u8 id) rfl), ?_⟩
    have hbl := blockL_len hr
    refine mP_v (fun w => r_sliceSh w Try.underlying9 _ _ (by decide) (by rw [ofL_size, hbl]; decide)) ?_
    rw [ofL_extract, ofL_extract, List.drop_zero, List.drop_zero, show (64 : Int).toNat - 0 = 64 from rfl]
    try simp only [push_cast]
    have b10 := b9.keep u10 id
    have a10 := a9.ext u10
    refine mIf_neS (fun h => ?_) fun h => ?_
    · rw [if_neg (by rintro ⟨_, h2⟩; exact h (by rw [h2]))] at k
      exact got_fail b10 rfl a10 (Nat.le_refl _) k
    · rw [if_pos ⟨hr, ofL_inj.1 h⟩] at k
      refine mN_v (hld u8) ?_
      refine mN_v (build173s s _) ?_
      exact ret_agg (by kernel_rfl) (n := 5) (gotSV_len _) (by kernel_rfl) b10 rfl (gotSV_one _) a10 (Nat.le_refl _) k
end
end Go.Proofs.Ythgopkppmppdoaa

/-
  Slots: the reference chooses, puts, formats.
-/
set_option linter.unusedVariables false
set_option linter.unusedSimpArgs false
set_option maxRecDepth 20000
namespace Go.Proofs.Ythgopkppmppdoaa
open Go Go.Proofs Go.Vc
open Go.RowKit (Below intOf)

def chosenC (c : SM × Int × Int) : List Value := [.int .i64 c.1.number, .int .i64 c.1.region, .int .i64 c.1.bytes, .int .i64 c.1.records, .int .i64 c.2.1, .int .i64 c.2.2]
theorem chosenC_one (c : SM × Int × Int) : ∀ v ∈ chosenC c, v.oneCell' = true := by
  intro v hv
  simp only [chosenC, List.mem_cons, List.not_mem_nil, or_false] at hv
  rcases hv with rfl | rfl | rfl | rfl | rfl | rfl <;> rfl
theorem zero84 (w : World) : (Instr.alloc 84 true (.tuple #[])).run Try.prog w = .ok (.pointer (some ⟨w.heap.size, 0, none⟩)) (w.alloc (.cells (chosenC (SM.zero, 0, 0)).toArray 84 (0, 0))) := by kernel_rfl
theorem build84e (e : Int) (w : World) : (Instr.build 84 #[(2, .int .i64 e)]).run Try.prog w = .ok (.agg (chosenC (SM.zero, 0, e)).toArray) w := by kernel_rfl
theorem build84s (s : SM) (a : Int) (w : World) : (Instr.build 84 #[(0, slotV s), (1, .int .i64 a), (2, .int .i64 0)]).run Try.prog w = .ok (.agg (chosenC (s, a, 0)).toArray) w := by kernel_rfl

section
variable {w : World} {K : Value → World → Prop} {p N : Nat} {fp : Nat → Prop} {D : DM}

theorem choose_of {D : DM} (h0 : (D.read 0).2 = 0) (h1 : (D.read 1).2 = 0) : D.choose = if (best1 (rd D 0) (rd D 1)).2 < 0 then (SM.zero, 0, 290) else ((best1 (rd D 0) (rd D 1)).1, (best1 (rd D 0) (rd D 1)).2, 0) := by
  unfold DM.choose
  rw [if_neg (by simp [h0]), if_neg (by simp [h1])]

theorem isref_read_size (h : IsRef w p fp N D) (i : Int) : (D.read i).1.size ≤ 256 := by
  obtain ⟨⟨vb, vw, vk, h⟩, _⟩ := h
  unfold DM.read
  split
  · exact Nat.zero_le _
  · rename_i hi
    split
    · exact Nat.zero_le _
    · have hi : 0 ≤ i ∧ i < D.blocks.length := by
        rcases Decidable.em (0 ≤ i ∧ i < D.blocks.length) with h | h
        · exact h
        · exact absurd h hi
      obtain ⟨b, hb⟩ : ∃ b, D.blocks[i.toNat]? = some b := ⟨_, List.getElem?_eq_getElem (by omega)⟩
      have : Sec (lastW i (D.blocks.getD i.toNat []) D.waits) := lastW_sec (by
        rw [List.getD_eq_getElem?_getD, hb]
        exact h.b4 b (List.mem_of_getElem? hb)) fun x hx => (h.w4 x hx).1
      exact Nat.le_of_eq (joined_size this)

/-- rectoref28.Choose -/
theorem rchoose_c (h : IsRef w p fp N D) (k : ∀ w', Ext w w' → K (.agg (chosenC D.choose).toArray) w') : mCall Try.prog 50 #[dptr p] w K := by
  refine ⟨ok50 ?_⟩
  unfold sh50
  refine mN_new (zero84 w) fun w1 h1 u1 s1 => ?_
  refine isref_read (h.ext u1) 0 fun w2 u2 => ?_
  try simp only [push_cast]
  have h2 := h1.keep u2 id
  have a2 := u1.ext u2
  refine mIf_neI (fun he => ?_) fun he0 => ?_
  · have hch : D.choose = (SM.zero, 0, (D.read 0).2) := by
      unfold DM.choose
      rw [if_pos he]
    rw [hch] at k
    refine mN_v (build84e _ _) ?_
    exact ret_agg (by kernel_rfl) (n := 6) rfl (by kernel_rfl) h2 rfl (chosenC_one _) a2 (Nat.le_refl _) k
  refine isref_read (h.ext a2) 1 fun w3 u3 => ?_
  try simp only [push_cast]
  have h3 := h2.keep u3 id
  have a3 := a2.ext u3
  refine mIf_neI (fun he => ?_) fun he1 => ?_
  · have hch : D.choose = (SM.zero, 0, (D.read 1).2) := by
      unfold DM.choose
      rw [if_neg (by simp [he0]), if_pos he]
    rw [hch] at k
    refine mN_v (build84e _ _) ?_
    exact ret_agg (by kernel_rfl) (n := 6) rfl (by kernel_rfl) h3 rfl (chosenC_one _) a3 (Nat.le_refl _) k
  rw [choose_of he0 he1] at k
  have z0 := isref_read_size h 0
  have z1 := isref_read_size h 1
  refine rsread_c (l := (D.read 0).1.data.toList) (by
    have : (D.read 0).1.data.toList.length = (D.read 0).1.size := rfl
    omega) fun w4 u4 => ?_
  refine mN_new (zero173 w4) fun w5 h5 u5 s5 => ?_
  rw [show readL (D.read 0).1.data.toList = rd D 0 from rfl]
  refine mN_storeN (vs := gotSV (rd D 0)) (by rw [gotSV_len]; kernel_rfl) h5 (by rw [gotSV_len]; simp [gotSV, slotC]) (gotSV_one _) fun w6 h6 u6 s6 => ?_
  rw [splice_all _ _ (show (gotSV none).length = _ from by rw [gotSV_len, gotSV_len])] at h6
  have u46 : Ext w4 w6 := u5.trans u6 (fun _ _ x => x) fun i hi e => by omega
  have a6 := (a3.ext u4).ext u46
  have b6 := (h3.keep u4 id).keep u46 id
  refine rsread_c (l := (D.read 1).1.data.toList) (by
    have : (D.read 1).1.data.toList.length = (D.read 1).1.size := rfl
    omega) fun w7 u7 => ?_
  refine mN_new (zero173 w7) fun w8 h8 u8 s8 => ?_
  rw [show readL (D.read 1).1.data.toList = rd D 1 from rfl]
  refine mN_storeN (vs := gotSV (rd D 1)) (by rw [gotSV_len]; kernel_rfl) h8 (by rw [gotSV_len]; simp [gotSV, slotC]) (gotSV_one _) fun w9 h9 u9 s9 => ?_
  rw [splice_all _ _ (show (gotSV none).length = _ from by rw [gotSV_len, gotSV_len])] at h9
  have u79 : Ext w7 w9 := u8.trans u9 (fun _ _ x => x) fun i hi e => by omega
  have a9 := (a6.ext u7).ext u79
  have b9 := (b6.keep u7 id).keep u79 id
  have h6 := (h6.keep u7 id).keep u79 id
  have hret : ∀ (c : SM × Int × Int), (∀ w', Ext w w' → K (.agg (chosenC c).toArray) w') → mN Try.prog (uS (Instr.storeAt 84 (.pointer (some ⟨w.heap.size, 0, none⟩)) (.agg (chosenC c).toArray))) w9 fun _ w_1 => mRes Try.prog (cellS 84 (.pointer (some ⟨w.heap.size, 0, none⟩))) w_1 fun r0 => K r0 w_1 :=
    fun c k => ret_agg (by kernel_rfl) (n := 6) rfl (by kernel_rfl) b9 rfl (chosenC_one _) a9 (Nat.le_refl _) k
  try simp only [push_cast]
  cases hd0 : rd D 0 with
  | none =>
    rw [hd0] at h6 k
    simp only [gotSV, slotC, List.cons_append, List.nil_append] at h6
    cases hd1 : rd D 1 with
    | none =>
      rw [hd1] at h9 k
      simp only [gotSV, slotC, List.cons_append, List.nil_append] at h9
      rw [mJ_eq]
      refine mN_v (r_loadB _ (by kernel_rfl) h6 rfl) ?_
      try simp only [push_cast, Bool.not_false]
      refine mN_v (r_loadB _ (by kernel_rfl) h9 rfl) ?_
      try simp only [push_cast, Bool.not_false]
      refine mN_v (build84e _ _) ?_
      exact hret _ k
    | some b =>
      rw [hd1] at h9 k
      have hb1 := (SM.right_iff.1 (readL_right hd1).1).1
      have ek : (if (best1 none (some b)).2 < 0 then (SM.zero, 0, 290) else ((best1 none (some b)).1, (best1 none (some b)).2, (0 : Int))) = (b, 1, 0) := by
        have e : best1 none (some b) = if (0 : Int) < b.number then (b, 1) else (SM.zero, -1) := rfl
        rw [e, if_pos (show (0 : Int) < b.number from by omega)]
        rfl
      rw [ek] at k
      simp only [gotSV, slotC, List.cons_append, List.nil_append] at h9
      rw [mJ_eq]
      refine mN_v (r_loadB _ (by kernel_rfl) h6 rfl) ?_
      try simp only [push_cast, Bool.not_false]
      refine mN_v (r_loadB _ (by kernel_rfl) h9 rfl) ?_
      try simp only [push_cast, Bool.not_true]
      refine mN_v (r_loadB _ (by kernel_rfl) h6 rfl) ?_
      try simp only [push_cast, Bool.not_false]
      refine mN_v (r_loadN _ (T := 82) (n := 4) (by kernel_rfl) (by kernel_rfl) h9 (o := 0) (by simp)) ?_
      refine mN_v (build84s b 1 _) ?_
      exact hret _ k
  | some a =>
    rw [hd0] at h6 k
    simp only [gotSV, slotC, List.cons_append, List.nil_append] at h6
    cases hd1 : rd D 1 with
    | none =>
      rw [hd1] at h9 k
      simp only [gotSV, slotC, List.cons_append, List.nil_append] at h9
      rw [mJ_eq]
      refine mN_v (r_loadB _ (by kernel_rfl) h6 rfl) ?_
      try simp only [push_cast, Bool.not_true]
      refine mN_v (r_loadB _ (by kernel_rfl) h6 rfl) ?_
      try simp only [push_cast, Bool.not_true]
      refine mN_v (r_loadB _ (by kernel_rfl) h9 rfl) ?_
      try simp only [push_cast, Bool.not_true]
      refine mN_v (r_loadN _ (T := 82) (n := 4) (by kernel_rfl) (by kernel_rfl) h6 (o := 0) (by simp)) ?_
      refine mN_v (build84s a 0 _) ?_
      exact hret _ k
    | some b =>
      rw [hd1] at h9 k
      have ek : (if (best1 (some a) (some b)).2 < 0 then (SM.zero, 0, 290) else ((best1 (some a) (some b)).1, (best1 (some a) (some b)).2, (0 : Int))) = if a.number < b.number then (b, 1, 0) else (a, 0, 0) := by
        have e : best1 (some a) (some b) = if a.number < b.number then (b, 1) else (a, 0) := rfl
        rw [e]
        split <;> rfl
      rw [ek] at k
      simp only [gotSV, slotC, List.cons_append, List.nil_append] at h9
      rw [mJ_eq]
      refine mN_v (r_loadB _ (by kernel_rfl) h6 rfl) ?_
      try simp only [push_cast, Bool.not_true]
      refine mN_v (r_loadB _ (by kernel_rfl) h6 rfl) ?_
      try simp only [push_cast, Bool.not_true]
      refine mN_v (r_loadB _ (by kernel_rfl) h9 rfl) ?_
      try simp only [push_cast, Bool.not_true]
      refine mN_v (r_loadB _ (by kernel_rfl) h9 rfl) ?_
      try simp only [push_cast]
      refine mN_v (r_loadB _ (by kernel_rfl) h6 rfl) ?_
      try simp only [push_cast]
      refine mIf_dec (fun hlt => ?_) fun hlt => ?_
      · rw [if_pos hlt] at k
        refine mN_v (r_loadN _ (T := 82) (n := 4) (by kernel_rfl) (by kernel_rfl) h9 (o := 0) (by simp)) ?_
        refine mN_v (build84s b 1 _) ?_
        exact hret _ k
      · rw [if_neg hlt] at k
        refine mN_v (r_loadN _ (T := 82) (n := 4) (by kernel_rfl) (by kernel_rfl) h6 (o := 0) (by simp)) ?_
        refine mN_v (build84s a 0 _) ?_
        exact hret _ k

theorem RAfter.pre {w w1 w2 : World} {D' : DM} (u : Ext w w1) (a : RAfter w1 p fp N D' w2) : RAfter w p fp N D' w2 := by
  obtain ⟨fp', h, u2, y⟩ := a
  exact ⟨fp', h, u.trans u2 (fun _ _ x => x.elim) fun _ _ x => x, fun k hk => (y k hk).imp id fun e => Nat.le_trans u.size e⟩
theorem RAfter.then {w w1 w2 : World} {D2 : DM} {fp1 : Nat → Prop} (u : Upd w w1 fp) (y : ∀ k, fp1 k → fp k ∨ w.heap.size ≤ k) (a : RAfter w1 p fp1 N D2 w2) : RAfter w p fp N D2 w2 := by
  obtain ⟨fp2, h, u2, y2⟩ := a
  refine ⟨fp2, h, u.trans u2 (fun _ _ x => x) fun i hi hf => (y i hf).resolve_right (by omega), fun k hk => ?_⟩
  rcases y2 k hk with h1 | h1
  · exact y k h1
  · exact .inr (Nat.le_trans u.size h1)
theorem IsRef.after {w' : World} (h : IsRef w p fp N D) (u : Ext w w') : RAfter w p fp N D w' := ⟨fp, h.ext u, u.mono fun _ _ => False.elim, fun _ x => .inl x⟩

/-- rectoref28.Put -/
theorem rput_c (h : IsRef w p fp N D) (hwn : D.waits.length ≤ 1000000000) (hN : N ≤ w.heap.size) (s : SM) (k : ∀ w', RAfter w p fp N (D.put s).2 w' → K (.int .i64 (D.put s).1) w') : mCall Try.prog 101 #[dptr p, slotV s] w K := by
  refine ⟨ok101 ?_⟩
  unfold sh101
  refine mN_new (box82 s w) fun w1 h1 u1 s1 => ?_
  refine rchoose_c (h.ext u1) fun w2 u2 => ?_
  refine mN_new (zero84 w2) fun w3 h3 u3 s3 => ?_
  refine mN_storeN (vs := chosenC D.choose) (by kernel_rfl) h3 (by simp [chosenC]) (chosenC_one _) fun w4 h4 u4 s4 => ?_
  rw [splice_all _ _ (by simp [chosenC])] at h4
  have u24 : Ext w2 w4 := u3.trans u4 (fun _ _ x => x) fun i hi e => by omega
  have a4 := (u1.ext u2).ext u24
  have hb4 := (h1.keep u2 id).keep u24 id
  unfold DM.put at k
  try simp only [push_cast]
  refine mN_v (r_loadB _ (by kernel_rfl) h4 rfl) ?_
  try simp only [push_cast]
  refine mIf_neI (fun he => ?_) fun he => ?_
  · rw [if_pos he] at k
    refine mN_v (r_loadB _ (by kernel_rfl) h4 rfl) ?_
    exact k w4 (h.after a4)
  rw [if_neg (by simp [he])] at k
  obtain ⟨hcr, hat⟩ := choose_right he
  obtain ⟨r1, r2, _⟩ := SM.right_iff.1 hcr
  refine mN_v (r_loadB _ (by kernel_rfl) h4 rfl) ?_
  try simp only [push_cast]
  rw [i64w (D.choose.1.number + 1) (by omega) (by omega)]
  refine mN_v (r_loadB _ (by kernel_rfl) hb4 rfl) ?_
  try simp only [push_cast]
  refine mN_v (r_loadB _ (by kernel_rfl) hb4 rfl) ?_
  try simp only [push_cast]
  refine mN_v (r_loadB _ (by kernel_rfl) hb4 rfl) ?_
  try simp only [push_cast]
  refine mN_v (build82n (D.choose.1.next s) _) ?_
  refine mN_new (zero82 w4) fun w5 h5 u5 s5 => ?_
  refine mN_storeN (vs := slotC (D.choose.1.next s)) (by kernel_rfl) h5 (by simp [slotC]) (slotC_one _) fun w6 h6 u6 s6 => ?_
  rw [splice_all _ _ (by simp [slotC])] at h6
  have u46 : Ext w4 w6 := u5.trans u6 (fun _ _ x => x) fun i hi e => by omega
  have a6 := a4.ext u46
  have h4 := h4.keep u46 id
  have hld : ∀ {w' : World}, Ext w6 w' → (Instr.loadAt 82 (.pointer (some ⟨w4.heap.size, 0, none⟩))).run Try.prog w' = .ok (slotV (D.choose.1.next s)) w' := fun u => by
    have := r_loadN (P := Try.prog) _ (T := 82) (n := 4) (by kernel_rfl) (by kernel_rfl) (h6.keep u id) (o := 0) (by simp [slotC])
    exact this
  refine mN_v (hld (Upd.refl _ _)) ?_
  refine rright_c _ fun w7 u7 => ?_
  try simp only [push_cast]
  have a7 := a6.ext u7
  cases hr : (D.choose.1.next s).right with
  | false =>
    rw [if_pos hr] at k
    try simp only [push_cast, Bool.not_false]
    exact k w7 (h.after a7)
  | true =>
    rw [if_neg (by simp [hr])] at k
    try simp only [push_cast, Bool.not_true]
    unfold mDrew
    have h4 := (h4.keep u7 id).drew
    have u67 : Ext w6 w7.drew := u7.drewn
    have a8 : Ext w w7.drew := a7.drewn
    generalize w7.drew = w8 at h4 u67 a8
    refine mR_v (r_loadB _ (by kernel_rfl) h4 rfl) ?_
    try simp only [push_cast]
    rw [i64w _ (by omega) (by omega)]
    refine mR_v (hld u67) ?_
    refine rplainS_c hr fun w9 u9 => ?_
    have h4 := h4.keep u9 id
    have a9 := a8.ext u9
    refine ⟨rdN_v (r_loadB _ (by kernel_rfl) h4 rfl), ?_⟩
    refine isref_write (h.ext a9) hwn (Nat.le_trans hN a9.size) (1 - D.choose.2.1) _ fun w10 d10 => ?_
    have h4 := h4.keep d10.choose_spec.2.1 fun hf => by
      have := h.lt hf
      have := (u1.ext u2).size
      omega
    have d10' := d10.pre a9
    refine ⟨rdN_v (r_loadB _ (by kernel_rfl) h4 rfl), ?_⟩
    try simp only [push_cast]
    refine mIf_neI (fun hw => ?_) fun hw => ?_
    · rw [if_pos hw] at k
      exact k w10 d10'
    rw [if_neg (by simp [hw])] at k
    obtain ⟨fp7, h7, u7, y7⟩ := d10'
    refine isref_flush h7 fun w11 d11 => ?_
    exact k w11 (RAfter.then u7 y7 d11)

/-- rectoref28.Format -/
theorem rformat_c (h : IsRef w p fp N D) (hwn : D.waits.length ≤ 1000000) (hN : N ≤ w.heap.size) (k : ∀ w', RAfter w p fp N D.format.2 w' → K (.int .i64 D.format.1) w') : mCall Try.prog 102 #[dptr p] w K := by
  unfold DM.format at k
  refine ⟨ok102 ?_⟩
  unfold sh102
  have hb : (Instr.build 82 #[(0, .int .i64 1)]).run Try.prog w = .ok (slotV SM.one) w := by kernel_rfl
  refine mN_v hb ?_
  refine rplainS_c one_right fun w1 u1 => ?_
  have hww := write_waits D 0 (ofL (blockL SM.one))
  refine isref_write (h.ext u1) (by omega) (Nat.le_trans hN u1.size) 0 _ fun w2 d2 => ?_
  have d2 := d2.pre u1
  try simp only [push_cast]
  refine mIf_neI (fun he => ?_) fun he1 => ?_
  · rw [if_pos he] at k
    exact k w2 d2
  rw [if_neg (by simp [he1])] at k
  obtain ⟨fp2, h2, ux, yx⟩ := d2
  refine padloop_c (l := []) (by simp) ?_ rfl
  rw [zeroS_pad]
  refine isref_write h2 (by omega) (Nat.le_trans hN ux.size) 1 _ fun w3 d3 => ?_
  have d3 := RAfter.then ux yx d3
  try simp only [push_cast]
  refine mIf_neI (fun he => ?_) fun he2 => ?_
  · rw [if_pos he] at k
    exact k w3 d3
  rw [if_neg (by simp [he2])] at k
  obtain ⟨fp3, h3, u3, y3⟩ := d3
  refine isref_flush h3 fun w4 d4 => ?_
  exact k w4 (RAfter.then u3 y3 d4)
end
end Go.Proofs.Ythgopkppmppdoaa
