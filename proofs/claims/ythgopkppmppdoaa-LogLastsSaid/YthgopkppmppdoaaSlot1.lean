/-
  Slots: what package slot does with them.
-/
import Derived.Test.YthgopkppmppdoaaNum2
import Derived.Test.YthgopkppmppdoaaSlot0
set_option linter.unusedVariables false
set_option linter.unusedSimpArgs false
set_option maxRecDepth 20000
namespace Go.Proofs.Ythgopkppmppdoaa
open Go Go.Proofs Go.Vc
open Go.RowKit (Below intOf)

def slotC (s : SM) : List Value := [.int .i64 s.number, .int .i64 s.region, .int .i64 s.bytes, .int .i64 s.records]
def slotV (s : SM) : Value := .agg (slotC s).toArray
theorem slotC_one (s : SM) : ∀ v ∈ slotC s, v.oneCell' = true := by
  intro v hv
  simp only [slotC, List.mem_cons, List.not_mem_nil, or_false] at hv
  rcases hv with rfl | rfl | rfl | rfl <;> rfl

/-- A result that lies in memory is written and read. -/
theorem ret_agg {T n E g : Nat} (hA : aggOf Try.prog T = some true) {vs : List Value} (hn : vs.length = n) (hs : szOf Try.prog T = some n) {w w0 : World} {cs : List Value} (h : Blk w g E cs) (hl : cs.length = n) (h1 : ∀ v ∈ vs, v.oneCell' = true)
    (u : Ext w0 w) (hg : w0.heap.size ≤ g) {K : Value → World → Prop} (k : ∀ w', Ext w0 w' → K (.agg vs.toArray) w') :
    mN Try.prog (uS (Instr.storeAt T (.pointer (some ⟨g, 0, none⟩)) (.agg vs.toArray))) w fun _ w => mRes Try.prog (cellS T (.pointer (some ⟨g, 0, none⟩))) w fun r0 => K r0 w := by
  subst hn
  refine mN_storeN hs h (by omega) h1 fun w2 h2 u2 s2 => ?_
  rw [splice_all _ _ (by omega)] at h2
  refine mRes.mk (.agg vs.toArray) ?_ (k w2 (u.trans u2 (fun _ _ x => x) fun i hi e => by omega))
  have := rdV_N (P := Try.prog) (w := w2) (T := T) (n := vs.length) hA hs h2 (o := 0) (by omega)
  rw [List.drop_zero, List.take_of_length_le (Nat.le_refl _)] at this
  exact this

/-- A cell that is read, as a rule of rewriting. -/
theorem ld {T b o E : Nat} {cs : List Value} {w : World} {K : Value → World → Prop} (h : Blk w b E cs) (hA : aggOf Try.prog T = some false) (ho : o < cs.length) :
    mN Try.prog (vS (Instr.loadAt T (.pointer (some ⟨b, o, none⟩)))) w K = K (cs.getD o undef) w :=
  mN_eq (vS_run (r_loadB w hA h (by rw [List.getD_eq_getElem?_getD, List.getElem?_eq_getElem ho]; rfl)))
theorem ag3 : aggOf Try.prog 3 = some false := by kernel_rfl
theorem ag4 : aggOf Try.prog 4 = some false := by kernel_rfl
theorem ag9 : aggOf Try.prog 9 = some false := by kernel_rfl

theorem mN_callV {f : FuncId} {args : Array Value} {w : World} {K : Value → World → Prop} (hf : cOk f = true) (h : mCall Try.prog f args w K) : mY Try.prog (callVS (.func (.func f) #[] #[]) args) w K := by
  obtain ⟨fn, h1, h2, h3⟩ := callsOk f hf
  have h2' : fn.body ≠ none := fun e => by rw [e] at h2; cases h2
  have h3' : fn.name ≠ "runtime.NumGoroutine" := fun e => by rw [e] at h3; simp at h3
  refine ⟨?_⟩
  have : (callVS (.func (.func f) #[] #[]) args).run Try.prog w = .ok (.enter f args) w := by
    simp [callVS, Deferred.ofValue, invoke, callFunc, Go.program, bind, Sem.bind, Sem.run, h1, h2', h3', pure]
  rw [this]
  exact h.out

section
variable {w : World} {K : Value → World → Prop}

theorem count_c (n : Int) (k : K (.bool (decide (0 ≤ n ∧ n ≤ 65536))) w) : mCall Try.prog 119 #[.int .i64 n] w K := by
  refine ⟨ok119 ?_⟩
  unfold sh119
  try simp only [push_cast]
  refine mIf_dec (fun h0 => ?_) fun h0 => ?_
  · rwa [show decide (n ≤ 65536) = decide (0 ≤ n ∧ n ≤ 65536) from by simp [h0]]
  · rwa [show false = decide (0 ≤ n ∧ n ≤ 65536) from by simp; omega]

theorem box50 (s : SM) (w : World) : (Instr.box 50 (slotV s)).run Try.prog w = .ok (.pointer (some ⟨w.heap.size, 0, none⟩)) (w.alloc (.cells (slotC s).toArray 50 (0, 0))) := by kernel_rfl
theorem zero50 (w : World) : (Instr.alloc 50 true (.tuple #[])).run Try.prog w = .ok (.pointer (some ⟨w.heap.size, 0, none⟩)) (w.alloc (.cells (slotC SM.zero).toArray 50 (0, 0))) := by kernel_rfl

theorem countV_c (n : Int) (k : K (.bool (decide (0 ≤ n ∧ n ≤ 65536))) w) : mY Try.prog (callVS (.func (.func 119) #[] #[]) #[.int .i64 n]) w K := mN_callV (by decide) (count_c n k)

theorem right_c (s : SM) (k : ∀ w', Ext w w' → K (.bool s.right) w') : mCall Try.prog 85 #[slotV s] w K := by
  refine ⟨ok85 ?_⟩
  unfold sh85
  refine mN_new (box50 s w) fun w1 h1 u1 s1 => ?_
  have k := k w1 u1
  have hf : ∀ b : Bool, (b = true ↔ (1 ≤ s.number ∧ s.number ≤ 1099511627776 ∧ (s.region = 0 ∨ s.region = 1) ∧ 0 ≤ s.bytes ∧ s.bytes ≤ 65536 ∧ 0 ≤ s.records ∧ s.records ≤ 65536)) → K (.bool b) w1 := fun b h => by
    have e : b = s.right := by
      unfold SM.right
      cases b
      · symm
        rw [decide_eq_false_iff_not]
        intro hh
        exact absurd (h.2 hh) (by simp)
      · symm
        rw [decide_eq_true_iff]
        exact h.1 rfl
    rwa [e]
  simp only [slotC] at h1
  simp only [push_cast, ld h1, ag3, List.length_cons, List.length_nil, List.getD_cons_zero, List.getD_cons_succ, Nat.zero_add, Nat.reduceAdd, Nat.reduceLT, Nat.lt_add_one]
  refine mIf_dec (fun c1 => ?_) fun c1 => hf false (by simp; omega)
  refine mIf_dec (fun c2 => ?_) fun c2 => hf false (by simp; omega)
  have htail : (s.region = 0 ∨ s.region = 1) → mY Try.prog (callVS (.func (.func 119) #[] #[]) #[.int .i64 s.bytes]) w1 fun t26 w_1 => mIf t26 (mN Try.prog (vS (Instr.fieldAt 50 (.pointer (some ⟨w.heap.size, 0, none⟩)) 3)) w_1 fun t30 w =>
      mN Try.prog (vS (Instr.loadAt 3 t30)) w fun t31 w => mY Try.prog (callVS (.func (.func 119) #[] #[]) #[t31]) w fun t32 w => K t32 w) (K (.bool false) w_1) := by
    intro c3
    refine countV_c _ ?_
    refine mIf_dec (fun c4 => ?_) fun c4 => hf false (by simp; omega)
    simp only [push_cast, ld h1, ag3, List.length_cons, List.length_nil, List.getD_cons_zero, List.getD_cons_succ, Nat.zero_add, Nat.reduceAdd, Nat.reduceLT, Nat.lt_add_one]
    refine countV_c _ ?_
    refine hf _ ?_
    simp
    omega
  try simp only [push_cast] at htail
  refine mIf_eqI (fun c3 => htail (.inl c3)) fun c3 => ?_
  refine mIf_eqI (fun c4 => htail (.inr c4)) fun c4 => hf false (by simp; omega)
theorem parts_c (s : SM) (k : ∀ w', Ext w w' → K (slotV s) w') : mCall Try.prog 86 #[slotV s] w K := by
  refine ⟨ok86 ?_⟩
  unfold sh86
  refine mN_new (box50 s w) fun w1 h1 u1 s1 => ?_
  have hz : (Instr.alloc 142 true (.tuple #[])).run Try.prog w1 = .ok (.pointer (some ⟨w1.heap.size, 0, none⟩)) (w1.alloc (.cells #[.int .i64 0, .int .i64 0, .int .i64 0, .int .i64 0] 142 (0, 0))) := by kernel_rfl
  refine mN_new hz fun w2 h2 u2 s2 => ?_
  have h1 := h1.keep u2 id
  simp only [slotC] at h1
  simp only [push_cast, ld h1, ag3, List.length_cons, List.length_nil, List.getD_cons_zero, List.getD_cons_succ, Nat.zero_add, Nat.reduceAdd, Nat.reduceLT, Nat.lt_add_one]
  have hb : (Instr.build 142 #[(0, .int .i64 s.number), (1, .int .i64 s.region), (2, .int .i64 s.bytes), (3, .int .i64 s.records)]).run Try.prog w2 = .ok (slotV s) w2 := by kernel_rfl
  refine mN_v hb ?_
  exact ret_agg (by kernel_rfl) (n := 4) rfl (by kernel_rfl) h2 rfl (slotC_one s) (u1.ext u2) (by omega) k

theorem repeat_zero' (n : Nat) : (⟨(Lib.repeatL [(0 : UInt8)] n).toArray⟩ : ByteArray) = ofL (List.replicate n 0) := by rw [repeat_zero]; rfl

theorem padded_c {l : List UInt8} (hl : l.length ≤ 256) (k : ∀ w', Ext w w' → K (.string (ofL (padL l))) w') : mCall Try.prog 88 #[.string (ofL l)] w K := by
  refine ⟨ok88 ?_⟩
  unfold sh88
  try simp only [push_cast, ofL_size]
  rw [i64w _ (by omega) (by omega), show (256 : Int) - l.length = ((256 - l.length : Nat) : Int) from by omega]
  have hrep := Try.strings_Repeat ⟨#[0]⟩ (256 - l.length) w (by omega) (by show 1 * _ ≤ _; omega)
  refine mCall_kit hrep fun w1 hb1 => ?_
  have e : (⟨(Lib.repeatL (⟨#[0]⟩ : ByteArray).data.toList (256 - l.length)).toArray⟩ : ByteArray) = ofL (List.replicate (256 - l.length) 0) := repeat_zero' _
  rw [e]
  refine mN_v (r_addS _ _ _ _ (by rw [ofL_size, ofL_size]; simp; omega)) ?_
  rw [ofL_append]
  exact k w1 (ext_of_below hb1)

def partsL (s : SM) : List Int := [s.number, s.region, s.bytes, s.records]
def headTo (s : SM) (j : Nat) : List UInt8 := magicL ++ ((partsL s).take j).flatMap fun n => plainL n.toNat
theorem headTo4 (s : SM) : headTo s 4 = headL s := by simp [headTo, partsL, headL]
theorem headTo_succ (s : SM) {j : Nat} {n : Int} (h : (partsL s)[j]? = some n) : headTo s (j + 1) = headTo s j ++ plainL n.toNat := by
  unfold headTo
  rw [List.take_add_one, h]
  simp

theorem ix142_0 (s : SM) (w : World) : (Instr.index 142 (slotV s) (.int .i64 0)).run Try.prog w = .ok (.int .i64 s.number) w := by kernel_rfl
theorem ix142_1 (s : SM) (w : World) : (Instr.index 142 (slotV s) (.int .i64 1)).run Try.prog w = .ok (.int .i64 s.region) w := by kernel_rfl
theorem ix142_2 (s : SM) (w : World) : (Instr.index 142 (slotV s) (.int .i64 2)).run Try.prog w = .ok (.int .i64 s.bytes) w := by kernel_rfl
theorem ix142_3 (s : SM) (w : World) : (Instr.index 142 (slotV s) (.int .i64 3)).run Try.prog w = .ok (.int .i64 s.records) w := by kernel_rfl
/-- slot.Block -/
theorem block_c (s : SM) (k0 : s.right = false → ∀ w', Ext w w' → K (.tuple #[.string ⟨#[]⟩, .int .i64 1]) w') (k1 : s.right = true → ∀ w', Ext w w' → K (.tuple #[.string (ofL (blockL s)), .int .i64 0]) w') : mCall Try.prog 33 #[slotV s] w K := by
  refine ⟨ok33 ?_⟩
  unfold sh33
  refine mN_new (box50 s w) fun w1 h1 u1 s1 => ?_
  have hld : ∀ {w' : World}, Ext w1 w' → (Instr.loadAt 50 (.pointer (some ⟨w.heap.size, 0, none⟩))).run Try.prog w' = .ok (slotV s) w' := fun u => by
    have := r_loadN (P := Try.prog) _ (T := 50) (n := 4) (by kernel_rfl) (by kernel_rfl) (h1.keep u id) (o := 0) (by simp [slotC])
    exact this
  refine mN_v (hld (Upd.refl _ _)) ?_
  refine right_c s fun w2 u2 => ?_
  try simp only [push_cast]
  cases hr : s.right with
  | false =>
    try simp only [push_cast, Bool.not_false]
    exact k0 hr w2 (u1.ext u2)
  | true =>
    try simp only [push_cast, Bool.not_true]
    have k1 := k1 hr
    obtain ⟨r1, r2, r3, r4, r5, r6, r7⟩ := SM.right_iff.1 hr
    refine mN_v (hld u2) ?_
    refine parts_c s fun w3 u3 => ?_
    have hhl := headL_len hr
    refine mLoop2.mk (fun x y wr => ∃ j : Nat, x = .string (ofL (headTo s j)) ∧ y = .int .i64 j ∧ j ≤ 4 ∧ (headTo s j).length ≤ 4 + 7 * j ∧ Ext w wr) (fun _ y _ => 4 - (intOf y).toNat) ?_ ?_
    · exact ⟨0, rfl, rfl, by omega, by simp [headTo, magicL], (u1.ext u2).ext u3⟩
    rintro x y wr ⟨j, rfl, rfl, hj, hjl, ur⟩
    try simp only [push_cast]
    refine mIf_dec (fun hlt => ?_) fun hlt => ?_
    · obtain ⟨n, hn⟩ : ∃ n, (partsL s)[j]? = some n := ⟨_, List.getElem?_eq_getElem (by simp [partsL]; omega)⟩
      have hn40 : 0 ≤ n ∧ n ≤ 1099511627776 := by
        have hm := List.mem_of_getElem? hn
        simp only [partsL, List.mem_cons, List.not_mem_nil, or_false] at hm
        rcases hm with rfl | rfl | rfl | rfl <;> omega
      have hix : (Instr.index 142 (slotV s) (.int .i64 (j : Int))).run Try.prog wr = .ok (.int .i64 n) wr := by
        have hj4 : j = 0 ∨ j = 1 ∨ j = 2 ∨ j = 3 := by omega
        rcases hj4 with rfl | rfl | rfl | rfl
        · obtain rfl : s.number = n := Option.some.inj hn
          exact ix142_0 s wr
        · obtain rfl : s.region = n := Option.some.inj hn
          exact ix142_1 s wr
        · obtain rfl : s.bytes = n := Option.some.inj hn
          exact ix142_2 s wr
        · obtain rfl : s.records = n := Option.some.inj hn
          exact ix142_3 s wr
      refine mN_v hix ?_
      refine num_c n (fun h => by omega) fun _ _ w4 u4 => ?_
      try simp only [push_cast]
      have hpl := plainL_le (n := n.toNat) (by omega)
      refine mN_v (r_addS _ _ _ _ (by rw [ofL_size, ofL_size]; omega)) ?_
      rw [ofL_append, ← headTo_succ s hn]
      try simp only [push_cast]
      rw [i64w ((j : Int) + 1) (by omega) (by omega)]
      exact ⟨⟨j + 1, rfl, congrArg (Value.int .i64) (by omega), by omega, by rw [headTo_succ s hn, List.length_append]; omega, ur.ext u4⟩, by simp only [intOf]; omega⟩
    · obtain rfl : j = 4 := by omega
      rw [headTo4]
      exact padded_c (by omega) fun w5 u5 => k1 w5 (ur.ext u5)

/-- strings.CutPrefix of the four bytes -/
theorem cutMagic_c {l : List UInt8} (hl : l.length ≤ 9223372036854775807) (k : K (.tuple #[.string (ofL (if l.take 4 = magicL then l.drop 4 else l)), .bool (decide (l.take 4 = magicL))]) w) :
    mCall Try.prog 89 #[.string (ofL l), .string ⟨#[114, 99, 116, 111]⟩] w K := by
  refine ⟨ok89 ?_⟩
  unfold sh89
  refine ⟨ok121 ?_⟩
  unfold sh121
  have hm : (⟨#[114, 99, 116, 111]⟩ : ByteArray) = ofL magicL := rfl
  rw [hm]
  have hcut : ∀ {J : Value → World → Prop}, J (.bool (decide (l.take 4 = magicL))) w → mCall Try.prog 133 #[.string (ofL l), .string (ofL magicL)] w J := fun {J} hJ => by
    refine ⟨ok133 ?_⟩
    unfold sh133
    have h4 : magicL.length = 4 := rfl
    have h4' : ((ofL magicL).size : Int) = 4 := rfl
    try simp only [push_cast]
    rw [h4', ofL_size]
    refine mIf_dec (fun h => ?_) fun h => ?_
    · try simp only [push_cast]
      refine mN_v (r_sliceSh _ Try.underlying9 _ _ (by omega) (by rw [ofL_size]; omega)) ?_
      rw [ofL_extract]
      try simp only [push_cast]
      rw [bytes_beq, show ((4 : Int).toNat - 0) = 4 from rfl, List.drop_zero]
      rwa [show decide (ofL (l.take 4) = ofL magicL) = decide (l.take 4 = magicL) from by rw [decide_eq_decide]; exact ofL_inj]
    · rwa [show false = decide (l.take 4 = magicL) from by
        symm
        rw [decide_eq_false_iff_not]
        intro hh
        have := congrArg List.length hh
        rw [h4, List.length_take] at this
        omega]
  refine hcut ?_
  by_cases h : l.take 4 = magicL
  · rw [if_pos h] at k
    have h4 : magicL.length = 4 := rfl
    have hl4 : 4 ≤ l.length := by
      have := congrArg List.length h
      rw [h4, List.length_take] at this
      omega
    have h4' : ((ofL magicL).size : Int) = 4 := rfl
    simp only [h, decide_true, push_cast, Bool.not_true] at k ⊢
    rw [h4']
    refine mN_v (r_sliceSl _ Try.underlying9 _ _ (by omega) (by rw [ofL_size]; omega)) ?_
    rw [ofL_extract, show (4 : Int).toNat = 4 from rfl, ofL_size, List.take_of_length_le (by simp)]
    try simp only [push_cast]
    exact k
  · rw [if_neg h] at k
    simp only [h, decide_false, push_cast, Bool.not_false] at k ⊢
    exact k
end
end Go.Proofs.Ythgopkppmppdoaa
