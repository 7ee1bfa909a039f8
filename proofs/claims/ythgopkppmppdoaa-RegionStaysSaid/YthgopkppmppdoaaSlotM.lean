/-
  Slots: the plain laws.
-/
import Derived.Test.YthgopkppmppdoaaNumM
import Derived.Laws.StructEq
import Derived.ChangeKeysEq
set_option linter.unusedVariables false
set_option linter.unusedSimpArgs false
namespace Go.Vc
open Go

structure SM where
  number : Int
  region : Int
  bytes : Int
  records : Int

def SM.zero : SM := ⟨0, 0, 0, 0⟩
def SM.right (s : SM) : Bool := decide (1 ≤ s.number ∧ s.number ≤ 1099511627776 ∧ (s.region = 0 ∨ s.region = 1) ∧ 0 ≤ s.bytes ∧ s.bytes ≤ 65536 ∧ 0 ≤ s.records ∧ s.records ≤ 65536)
theorem SM.right_iff {s : SM} : s.right = true ↔ (1 ≤ s.number ∧ s.number ≤ 1099511627776 ∧ (s.region = 0 ∨ s.region = 1) ∧ 0 ≤ s.bytes ∧ s.bytes ≤ 65536 ∧ 0 ≤ s.records ∧ s.records ≤ 65536) := by simp [SM.right]

def SM.next (c s : SM) : SM := ⟨c.number + 1, s.region, s.bytes, s.records⟩
def SM.one : SM := ⟨1, 0, 0, 0⟩
def magicL : List UInt8 := [114, 99, 116, 111]
def headL (s : SM) : List UInt8 := magicL ++ plainL s.number.toNat ++ plainL s.region.toNat ++ plainL s.bytes.toNat ++ plainL s.records.toNat
def padL (l : List UInt8) : List UInt8 := l ++ List.replicate (256 - l.length) 0
def blockL (s : SM) : List UInt8 := padL (headL s)

theorem plainL_len (n : Nat) : (plainL n).length = (digL n).length + 1 := rfl
theorem plainL_le {n : Nat} (h : n ≤ 1099511627776) : (plainL n).length ≤ 7 := by
  have := digL_len6 h
  rw [plainL_len]
  omega
theorem headL_len {s : SM} (h : s.right = true) : (headL s).length ≤ 32 := by
  obtain ⟨h1, h2, h3, h4, h5, h6, h7⟩ := SM.right_iff.1 h
  have a1 := plainL_le (n := s.number.toNat) (by omega)
  have a2 := plainL_le (n := s.region.toNat) (by omega)
  have a3 := plainL_le (n := s.bytes.toNat) (by omega)
  have a4 := plainL_le (n := s.records.toNat) (by omega)
  simp only [headL, List.length_append, magicL, List.length_cons, List.length_nil]
  omega
theorem padL_len {l : List UInt8} (h : l.length ≤ 256) : (padL l).length = 256 := by
  simp only [padL, List.length_append, List.length_replicate]
  omega
theorem blockL_len {s : SM} (h : s.right = true) : (blockL s).length = 256 := padL_len (by have := headL_len h; omega)

/-- The slot of a block. -/
def readL (l : List UInt8) : Option SM :=
  if l.length = 256 ∧ l.take 4 = magicL then
    match takeN (l.drop 4) with
    | none => none
    | some (n, r1) => match takeN r1 with
      | none => none
      | some (g, r2) => match takeN r2 with
        | none => none
        | some (b, r3) => match takeN r3 with
          | none => none
          | some (c, _) => if (SM.mk n g b c).right = true ∧ (blockL ⟨n, g, b, c⟩).take 64 = l.take 64 then some ⟨n, g, b, c⟩ else none
  else none

theorem readL_right {l : List UInt8} {s : SM} (h : readL l = some s) : s.right = true ∧ (blockL s).take 64 = l.take 64 := by
  unfold readL at h
  repeat' split at h
  all_goals first
    | (cases h; done)
    | (rename_i hh; injection h with h; subst h; exact hh)

theorem readL_back {s : SM} (hs : s.right = true) {l : List UInt8} (hl : l.length = 256) (h : l.take 64 = (blockL s).take 64) : readL l = some s := by
  have hh := headL_len hs
  obtain ⟨h1, h2, h3, h4, h5, h6, h7⟩ := SM.right_iff.1 hs
  have hlt : l.take (headL s).length = headL s := by
    have e1 : (l.take 64).take (headL s).length = l.take (headL s).length := by rw [List.take_take]; congr 1; omega
    have e2 : ((blockL s).take 64).take (headL s).length = headL s := by
      rw [List.take_take, Nat.min_eq_left (by omega)]
      unfold blockL padL
      rw [List.take_append_of_le_length (Nat.le_refl _), List.take_of_length_le (Nat.le_refl _)]
    rw [← e1, h, e2]
  obtain ⟨t, ht⟩ : ∃ t, l = headL s ++ t := ⟨l.drop (headL s).length, by conv => lhs; rw [← List.take_append_drop (headL s).length l, hlt]⟩
  have e4 : l.take 4 = magicL := by rw [ht]; rfl
  have e5 : l.drop 4 = plainL s.number.toNat ++ (plainL s.region.toNat ++ (plainL s.bytes.toNat ++ (plainL s.records.toNat ++ t))) := by
    rw [ht]
    simp [headL, magicL, List.append_assoc]
  unfold readL
  rw [if_pos ⟨hl, e4⟩, e5, takeN_plain (by omega)]
  simp only
  rw [takeN_plain (by omega)]
  simp only
  rw [takeN_plain (by omega)]
  simp only
  rw [takeN_plain (by omega)]
  have es : (SM.mk (s.number.toNat : Int) s.region.toNat s.bytes.toNat s.records.toNat) = s := by
    obtain ⟨a, b, c, d⟩ := s
    simp only [SM.mk.injEq]
    simp only at h1 h2 h3 h4 h5 h6 h7
    refine ⟨?_, ?_, ?_, ?_⟩ <;> omega
  simp only [es]
  rw [if_pos ⟨hs, h.symm⟩]
theorem readL_block {s : SM} (hs : s.right = true) : readL (blockL s) = some s := readL_back hs (blockL_len hs) rfl
theorem readL_none {l : List UInt8} (h : ¬ (l.length = 256 ∧ l.take 4 = magicL)) : readL l = none := if_neg h
theorem readL_inj {l : List UInt8} {s t : SM} (hs : s.right = true) (hl : l.length = 256) (h : l.take 64 = (blockL s).take 64) (ht : readL l = some t) : t = s := by
  rw [readL_back hs hl h] at ht
  injection ht with ht
  exact ht.symm

/-- Behind the first sector a slot's block is empty. -/
theorem blockL_zero {s : SM} (hs : s.right = true) {i : Nat} (h1 : 64 ≤ i) (h2 : i < 256) : (blockL s)[i]? = some 0 := by
  have hh := headL_len hs
  unfold blockL padL
  rw [List.getElem?_append_right (by omega), List.getElem?_replicate, if_pos (by omega)]
end Go.Vc

/-
  Slots: what package slot does with them.
-/
set_option linter.unusedVariables false
set_option linter.unusedSimpArgs false
set_option maxRecDepth 20000
namespace Go.Proofs.Ythgopkppmppdoaa
open Go Go.Proofs Go.Vc
open Go.RowKit (Below intOf)

def slotC (s : SM) : List Value := [.int .i64 s.number, .int .i64 s.region, .int .i64 s.bytes, .int .i64 s.records]
def slotV (s : SM) : Value := .agg (slotC s).toArray
theorem slotC_one (s : SM) : ∀ v ∈ slotC s, v.oneCell' = true := by
  intro v hv
  simp only [slotC, List.mem_cons, List.not_mem_nil, or_false] at hv
  rcases hv with rfl | rfl | rfl | rfl <;> rfl

/-- A result that lies in memory is written and read. -/
theorem ret_agg {T n E g : Nat} (hA : aggOf Try.prog T = some true) {vs : List Value} (hn : vs.length = n) (hs : szOf Try.prog T = some n) {w w0 : World} {cs : List Value} (h : Blk w g E cs) (hl : cs.length = n) (h1 : ∀ v ∈ vs, v.oneCell' = true)
    (u : Ext w0 w) (hg : w0.heap.size ≤ g) {K : Value → World → Prop} (k : ∀ w', Ext w0 w' → K (.agg vs.toArray) w') :
    mN Try.prog (uS (Instr.storeAt T (.pointer (some ⟨g, 0, none⟩)) (.agg vs.toArray))) w fun _ w => mRes Try.prog (cellS T (.pointer (some ⟨g, 0, none⟩))) w fun r0 => K r0 w := by
  subst hn
  refine mN_storeN hs h (by omega) h1 fun w2 h2 u2 s2 => ?_
  rw [splice_all _ _ (by omega)] at h2
  refine mRes.mk (.agg vs.toArray) ?_ (k w2 (u.trans u2 (fun _ _ x => x) fun i hi e => by omega))
  have := rdV_N (P := Try.prog) (w := w2) (T := T) (n := vs.length) hA hs h2 (o := 0) (by omega)
  rw [List.drop_zero, List.take_of_length_le (Nat.le_refl _)] at this
  exact this

/-- A cell that is read, as a rule of rewriting. -/
theorem ld {T b o E : Nat} {cs : List Value} {w : World} {K : Value → World → Prop} (h : Blk w b E cs) (hA : aggOf Try.prog T = some false) (ho : o < cs.length) :
    mN Try.prog (vS (Instr.loadAt T (.pointer (some ⟨b, o, none⟩)))) w K = K (cs.getD o undef) w :=
  mN_eq (vS_run (r_loadB w hA h (by rw [List.getD_eq_getElem?_getD, List.getElem?_eq_getElem ho]; rfl)))
theorem ag3 : aggOf Try.prog 3 = some false := by kernel_rfl
theorem ag4 : aggOf Try.prog 4 = some false := by kernel_rfl
theorem ag9 : aggOf Try.prog 9 = some false := by kernel_rfl

theorem mN_callV {f : FuncId} {args : Array Value} {w : World} {K : Value → World → Prop} (hf : cOk f = true) (h : mCall Try.prog f args w K) : mY Try.prog (callVS (.func (.func f) #[] #[]) args) w K := by
  obtain ⟨fn, h1, h2, h3⟩ := callsOk f hf
  have h2' : fn.body ≠ none := fun e => by rw [e] at h2; cases h2
  have h3' : fn.name ≠ "runtime.NumGoroutine" := fun e => by rw [e] at h3; simp at h3
  refine ⟨?_⟩
  have : (callVS (.func (.func f) #[] #[]) args).run Try.prog w = .ok (.enter f args) w := by
    simp [callVS, Deferred.ofValue, invoke, callFunc, Go.program, bind, Sem.bind, Sem.run, h1, h2', h3', pure]
  rw [this]
  exact h.out

section
variable {w : World} {K : Value → World → Prop}

theorem count_c (n : Int) (k : K (.bool (decide (0 ≤ n ∧ n ≤ 65536))) w) : mCall Try.prog 119 #[.int .i64 n] w K := by
  refine ⟨ok119 ?_⟩
  unfold sh119
  try simp only [push_cast]
  refine mIf_dec (fun h0 => ?_) fun h0 => ?_
  · rwa [show decide (n ≤ 65536) = decide (0 ≤ n ∧ n ≤ 65536) from by simp [h0]]
  · rwa [show false = decide (0 ≤ n ∧ n ≤ 65536) from by simp; omega]

theorem box50 (s : SM) (w : World) : (Instr.box 50 (slotV s)).run Try.prog w = .ok (.pointer (some ⟨w.heap.size, 0, none⟩)) (w.alloc (.cells (slotC s).toArray 50 (0, 0))) := by kernel_rfl
theorem zero50 (w : World) : (Instr.alloc 50 true (.tuple #[])).run Try.prog w = .ok (.pointer (some ⟨w.heap.size, 0, none⟩)) (w.alloc (.cells (slotC SM.zero).toArray 50 (0, 0))) := by kernel_rfl

theorem countV_c (n : Int) (k : K (.bool (decide (0 ≤ n ∧ n ≤ 65536))) w) : mY Try.prog (callVS (.func (.func 119) #[] #[]) #[.int .i64 n]) w K := mN_callV (by decide) (count_c n k)

theorem right_c (s : SM) (k : ∀ w', Ext w w' → K (.bool s.right) w') : mCall Try.prog 85 #[slotV s] w K := by
  refine ⟨ok85 ?_⟩
  unfold sh85
  refine mN_new (box50 s w) fun w1 h1 u1 s1 => ?_
  have k := k w1 u1
  have hf : ∀ b : Bool, (b = true ↔ (1 ≤ s.number ∧ s.number ≤ 1099511627776 ∧ (s.region = 0 ∨ s.region = 1) ∧ 0 ≤ s.bytes ∧ s.bytes ≤ 65536 ∧ 0 ≤ s.records ∧ s.records ≤ 65536)) → K (.bool b) w1 := fun b h => by
    have e : b = s.right := by
      unfold SM.right
      cases b
      · symm
        rw [decide_eq_false_iff_not]
        intro hh
        exact absurd (h.2 hh) (by simp)
      · symm
        rw [decide_eq_true_iff]
        exact h.1 rfl
    rwa [e]
  simp only [slotC] at h1
  simp only [push_cast, ld h1, ag3, List.length_cons, List.length_nil, List.getD_cons_zero, List.getD_cons_succ, Nat.zero_add, Nat.reduceAdd, Nat.reduceLT, Nat.lt_add_one]
  refine mIf_dec (fun c1 => ?_) fun c1 => hf false (by simp; omega)
  refine mIf_dec (fun c2 => ?_) fun c2 => hf false (by simp; omega)
  have htail : (s.region = 0 ∨ s.region = 1) → mY Try.prog (callVS (.func (.func 119) #[] #[]) #[.int .i64 s.bytes]) w1 fun t26 w_1 => mIf t26 (mN Try.prog (vS (Instr.fieldAt 50 (.pointer (some ⟨w.heap.size, 0, none⟩)) 3)) w_1 fun t30 w =>
      mN Try.prog (vS (Instr.loadAt 3 t30)) w fun t31 w => mY Try.prog (callVS (.func (.func 119) #[] #[]) #[t31]) w fun t32 w => K t32 w) (K (.bool false) w_1) := by
    intro c3
    refine countV_c _ ?_
    refine mIf_dec (fun c4 => ?_) fun c4 => hf false (by simp; omega)
    simp only [push_cast, ld h1, ag3, List.length_cons, List.length_nil, List.getD_cons_zero, List.getD_cons_succ, Nat.zero_add, Nat.reduceAdd, Nat.reduceLT, Nat.lt_add_one]
    refine countV_c _ ?_
    refine hf _ ?_
    simp
    omega
  try simp only [push_cast] at htail
  refine mIf_eqI (fun c3 => htail (.inl c3)) fun c3 => ?_
  refine mIf_eqI (fun c4 => htail (.inr c4)) fun c4 => hf false (by simp; omega)
theorem parts_c (s : SM) (k : ∀ w', Ext w w' → K (slotV s) w') : mCall Try.prog 86 #[slotV s] w K := by
  refine ⟨ok86 ?_⟩
  unfold sh86
  refine mN_new (box50 s w) fun w1 h1 u1 s1 => ?_
  have hz : (Instr.alloc 142 true (.tuple #[])).run Try.prog w1 = .ok (.pointer (some ⟨w1.heap.size, 0, none⟩)) (w1.alloc (.cells #[.int .i64 0, .int .i64 0, .int .i64 0, .int .i64 0] 142 (0, 0))) := by kernel_rfl
  refine mN_new hz fun w2 h2 u2 s2 => ?_
  have h1 := h1.keep u2 id
  simp only [slotC] at h1
  simp only [push_cast, ld h1, ag3, List.length_cons, List.length_nil, List.getD_cons_zero, List.getD_cons_succ, Nat.zero_add, Nat.reduceAdd, Nat.reduceLT, Nat.lt_add_one]
  have hb : (Instr.build 142 #[(0, .int .i64 s.number), (1, .int .i64 s.region), (2, .int .i64 s.bytes), (3, .int .i64 s.records)]).run Try.prog w2 = .ok (slotV s) w2 := by kernel_rfl
  refine mN_v hb ?_
  exact ret_agg (by kernel_rfl) (n := 4) rfl (by kernel_rfl) h2 rfl (slotC_one s) (u1.ext u2) (by omega) k

theorem repeat_zero' (n : Nat) : (⟨(Lib.repeatL [(0 : UInt8)] n).toArray⟩ : ByteArray) = ofL (List.replicate n 0) := by rw [repeat_zero]; rfl

theorem padded_c {l : List UInt8} (hl : l.length ≤ 256) (k : ∀ w', Ext w w' → K (.string (ofL (padL l))) w') : mCall Try.prog 88 #[.string (ofL l)] w K := by
  refine ⟨ok88 ?_⟩
  unfold sh88
  try simp only [push_cast, ofL_size]
  rw [i64w _ (by omega) (by omega), show (256 : Int) - l.length = ((256 - l.length : Nat) : Int) from by omega]
  have hrep := Try.strings_Repeat ⟨#[0]⟩ (256 - l.length) w (by omega) (by show 1 * _ ≤ _; omega)
  refine mCall_kit hrep fun w1 hb1 => ?_
  have e : (⟨(Lib.repeatL (⟨#[0]⟩ : ByteArray).data.toList (256 - l.length)).toArray⟩ : ByteArray) = ofL (List.replicate (256 - l.length) 0) := repeat_zero' _
  rw [e]
  refine mN_v (r_addS _ _ _ _ (by rw [ofL_size, ofL_size]; simp; omega)) ?_
  rw [ofL_append]
  exact k w1 (ext_of_below hb1)

def partsL (s : SM) : List Int := [s.number, s.region, s.bytes, s.records]
def headTo (s : SM) (j : Nat) : List UInt8 := magicL ++ ((partsL s).take j).flatMap fun n => plainL n.toNat
theorem headTo4 (s : SM) : headTo s 4 = headL s := by simp [headTo, partsL, headL]
theorem headTo_succ (s : SM) {j : Nat} {n : Int} (h : (partsL s)[j]? = some n) : headTo s (j + 1) = headTo s j ++ plainL n.toNat := by
  unfold headTo
  rw [List.take_add_one, h]
  simp

theorem ix142_0 (s : SM) (w : World) : (Instr.index 142 (slotV s) (.int .i64 0)).run Try.prog w = .ok (.int .i64 s.number) w := by kernel_rfl
theorem ix142_1 (s : SM) (w : World) : (Instr.index 142 (slotV s) (.int .i64 1)).run Try.prog w = .ok (.int .i64 s.region) w := by kernel_rfl
theorem ix142_2 (s : SM) (w : World) : (Instr.index 142 (slotV s) (.int .i64 2)).run Try.prog w = .ok (.int .i64 s.bytes) w := by kernel_rfl
theorem ix142_3 (s : SM) (w : World) : (Instr.index 142 (slotV s) (.int .i64 3)).run Try.prog w = .ok (.int .i64 s.records) w := by kernel_rfl
/-- slot.Block -/
theorem block_c (s : SM) (k0 : s.right = false → ∀ w', Ext w w' → K (.tuple #[.string ⟨#[]⟩, .int .i64 1]) w') (k1 : s.right = true → ∀ w', Ext w w' → K (.tuple #[.string (ofL (blockL s)), .int .i64 0]) w') : mCall Try.prog 33 #[slotV s] w K := by
  refine ⟨ok33 ?_⟩
  unfold sh33
  refine mN_new (box50 s w) fun w1 h1 u1 s1 => ?_
  have hld : ∀ {w' : World}, Ext w1 w' → (Instr.loadAt 50 (.pointer (some ⟨w.heap.size, 0, none⟩))).run Try.prog w' = .ok (slotV s) w' := fun u => by
    have := r_loadN (P := Try.prog) _ (T := 50) (n := 4) (by kernel_rfl) (by kernel_rfl) (h1.keep u id) (o := 0) (by simp [slotC])
    exact this
  refine mN_v (hld (Upd.refl _ _)) ?_
  refine right_c s fun w2 u2 => ?_
  try simp only [push_cast]
  cases hr : s.right with
  | false =>
    try simp only [push_cast, Bool.not_false]
    exact k0 hr w2 (u1.ext u2)
  | true =>
    try simp only [push_cast, Bool.not_true]
    have k1 := k1 hr
    obtain ⟨r1, r2, r3, r4, r5, r6, r7⟩ := SM.right_iff.1 hr
    refine mN_v (hld u2) ?_
    refine parts_c s fun w3 u3 => ?_
    have hhl := headL_len hr
    refine mLoop2.mk (fun x y wr => ∃ j : Nat, x = .string (ofL (headTo s j)) ∧ y = .int .i64 j ∧ j ≤ 4 ∧ (headTo s j).length ≤ 4 + 7 * j ∧ Ext w wr) (fun _ y _ => 4 - (intOf y).toNat) ?_ ?_
    · exact ⟨0, rfl, rfl, by omega, by simp [headTo, magicL], (u1.ext u2).ext u3⟩
    rintro x y wr ⟨j, rfl, rfl, hj, hjl, ur⟩
    try simp only [push_cast]
    refine mIf_dec (fun hlt => ?_) fun hlt => ?_
    · obtain ⟨n, hn⟩ : ∃ n, (partsL s)[j]? = some n := ⟨_, List.getElem?_eq_getElem (by simp [partsL]; omega)⟩
      have hn40 : 0 ≤ n ∧ n ≤ 1099511627776 := by
        have hm := List.mem_of_getElem? hn
        simp only [partsL, List.mem_cons, List.not_mem_nil, or_false] at hm
        rcases hm with rfl | rfl | rfl | rfl <;> omega
      have hix : (Instr.index 142 (slotV s) (.int .i64 (j : Int))).run Try.prog wr = .ok (.int .i64 n) wr := by
        have hj4 : j = 0 ∨ j = 1 ∨ j = 2 ∨ j = 3 := by omega
        rcases hj4 with rfl | rfl | rfl | rfl
        · obtain rfl : s.number = n := Option.some.inj hn
          exact ix142_0 s wr
        · obtain rfl : s.region = n := Option.some.inj hn
          exact ix142_1 s wr
        · obtain rfl : s.bytes = n := Option.some.inj hn
          exact ix142_2 s wr
        · obtain rfl : s.records = n := Option.some.inj hn
          exact ix142_3 s wr
      refine mN_v hix ?_
      refine num_c n (fun h => by omega) fun _ _ w4 u4 => ?_
      try simp only [push_cast]
      have hpl := plainL_le (n := n.toNat) (by omega)
      refine mN_v (r_addS _ _ _ _ (by rw [ofL_size, ofL_size]; omega)) ?_
      rw [ofL_append, ← headTo_succ s hn]
      try simp only [push_cast]
      rw [i64w ((j : Int) + 1) (by omega) (by omega)]
      exact ⟨⟨j + 1, rfl, congrArg (Value.int .i64) (by omega), by omega, by rw [headTo_succ s hn, List.length_append]; omega, ur.ext u4⟩, by simp only [intOf]; omega⟩
    · obtain rfl : j = 4 := by omega
      rw [headTo4]
      exact padded_c (by omega) fun w5 u5 => k1 w5 (ur.ext u5)

/-- strings.CutPrefix of the four bytes -/
theorem cutMagic_c {l : List UInt8} (hl : l.length ≤ 9223372036854775807) (k : K (.tuple #[.string (ofL (if l.take 4 = magicL then l.drop 4 else l)), .bool (decide (l.take 4 = magicL))]) w) :
    mCall Try.prog 89 #[.string (ofL l), .string ⟨#[114, 99, 116, 111]⟩] w K := by
  refine ⟨ok89 ?_⟩
  unfold sh89
  refine ⟨ok121 ?_⟩
  unfold sh121
  have hm : (⟨#[114, 99, 116, 111]⟩ : ByteArray) = ofL magicL := rfl
  rw [hm]
  have hcut : ∀ {J : Value → World → Prop}, J (.bool (decide (l.take 4 = magicL))) w → mCall Try.prog 133 #[.string (ofL l), .string (ofL magicL)] w J := fun {J} hJ => by
    refine ⟨ok133 ?_⟩
    unfold sh133
    have h4 : magicL.length = 4 := rfl
    have h4' : ((ofL magicL).size : Int) = 4 := rfl
    try simp only [push_cast]
    rw [h4', ofL_size]
    refine mIf_dec (fun h => ?_) fun h => ?_
    · try simp only [push_cast]
      refine mN_v (r_sliceSh _ Try.underlying9 _ _ (by omega) (by rw [ofL_size]; omega)) ?_
      rw [ofL_extract]
      try simp only [push_cast]
      rw [bytes_beq, show ((4 : Int).toNat - 0) = 4 from rfl, List.drop_zero]
      rwa [show decide (ofL (l.take 4) = ofL magicL) = decide (l.take 4 = magicL) from by rw [decide_eq_decide]; exact ofL_inj]
    · rwa [show false = decide (l.take 4 = magicL) from by
        symm
        rw [decide_eq_false_iff_not]
        intro hh
        have := congrArg List.length hh
        rw [h4, List.length_take] at this
        omega]
  refine hcut ?_
  by_cases h : l.take 4 = magicL
  · rw [if_pos h] at k
    have h4 : magicL.length = 4 := rfl
    have hl4 : 4 ≤ l.length := by
      have := congrArg List.length h
      rw [h4, List.length_take] at this
      omega
    have h4' : ((ofL magicL).size : Int) = 4 := rfl
    simp only [h, decide_true, push_cast, Bool.not_true] at k ⊢
    rw [h4']
    refine mN_v (r_sliceSl _ Try.underlying9 _ _ (by omega) (by rw [ofL_size]; omega)) ?_
    rw [ofL_extract, show (4 : Int).toNat = 4 from rfl, ofL_size, List.take_of_length_le (by simp)]
    try simp only [push_cast]
    exact k
  · rw [if_neg h] at k
    simp only [h, decide_false, push_cast, Bool.not_false] at k ⊢
    exact k
end
end Go.Proofs.Ythgopkppmppdoaa

/-
  Slots: the slot of a block.
-/
set_option linter.unusedVariables false
set_option linter.unusedSimpArgs false
set_option maxRecDepth 20000
namespace Go.Proofs.Ythgopkppmppdoaa
open Go Go.Proofs Go.Vc
open Go.RowKit (Below intOf)

def takeK (l : List UInt8) : Nat → Option (List Nat × List UInt8)
  | 0 => some ([], l)
  | j + 1 => match takeK l j with
    | none => none
    | some (ns, r) => match takeN r with
      | none => none
      | some (n, r') => some (ns ++ [n], r')
theorem takeK_mono {l : List UInt8} {j k : Nat} (h : takeK l j = none) (hk : j ≤ k) : takeK l k = none := by
  induction k with
  | zero =>
    obtain rfl : j = 0 := by omega
    exact h
  | succ k ih =>
    by_cases hj : j = k + 1
    · subst hj; exact h
    · rw [takeK, ih (by omega)]
theorem takeK_step {l r r' : List UInt8} {ns : List Nat} {n j : Nat} (h : takeK l j = some (ns, r)) (hn : takeN r = some (n, r')) : takeK l (j + 1) = some (ns ++ [n], r') := by
  rw [takeK, h]
  simp only [hn]
theorem takeK_fail {l r : List UInt8} {ns : List Nat} {j : Nat} (h : takeK l j = some (ns, r)) (hn : takeN r = none) : takeK l (j + 1) = none := by
  rw [takeK, h]
  simp only [hn]
theorem readL_K (l : List UInt8) : readL l = if l.length = 256 ∧ l.take 4 = magicL then match takeK (l.drop 4) 4 with
    | some ([n, g, b, c], _) => if (SM.mk n g b c).right = true ∧ (blockL ⟨n, g, b, c⟩).take 64 = l.take 64 then some ⟨n, g, b, c⟩ else none
    | _ => none else none := by
  unfold readL
  split
  · simp only [takeK]
    cases takeN (l.drop 4) with
    | none => rfl
    | some p1 =>
      obtain ⟨n, r1⟩ := p1
      simp only
      cases takeN r1 with
      | none => rfl
      | some p2 =>
        obtain ⟨g, r2⟩ := p2
        simp only
        cases takeN r2 with
        | none => rfl
        | some p3 =>
          obtain ⟨b, r3⟩ := p3
          simp only
          cases takeN r3 with
          | none => rfl
          | some p4 => rfl
  · rfl

def readV (l : List UInt8) : Value := match readL l with
  | some s => .tuple #[slotV s, .bool true]
  | none => .tuple #[slotV SM.zero, .bool false]

def encN (ns : List Nat) : List Value := ns.map fun (n : Nat) => Value.int .i64 (n : Int)
theorem encN_len (ns : List Nat) : (encN ns).length = ns.length := by simp [encN]

section
variable {w : World} {K : Value → World → Prop}

theorem build50 (w : World) : (Instr.build 50 #[]).run Try.prog w = .ok (slotV SM.zero) w := by kernel_rfl
theorem build50n (s : SM) (w : World) : (Instr.build 50 #[(0, .int .i64 s.number), (1, .int .i64 s.region), (2, .int .i64 s.bytes), (3, .int .i64 s.records)]).run Try.prog w = .ok (slotV s) w := by kernel_rfl

/-- No slot. -/
theorem read_fail {g : Nat} {cs : List Value} (h : Blk w g 50 cs) (hl : cs.length = 4) {w0 : World} (u : Ext w0 w) (hg : w0.heap.size ≤ g) {K : Value → World → Prop} (k : ∀ w', Ext w0 w' → K (slotV SM.zero) w') :
    mN Try.prog (vS (Instr.build 50 #[])) w fun t w => mN Try.prog (uS (Instr.storeAt 50 (.pointer (some ⟨g, 0, none⟩)) t)) w fun _ w => mRes Try.prog (cellS 50 (.pointer (some ⟨g, 0, none⟩))) w fun r0 => K r0 w := by
  refine mN_v (build50 w) ?_
  exact ret_agg (by kernel_rfl) (n := 4) rfl (by kernel_rfl) h hl (slotC_one _) u hg k

/-- slot.Read -/
theorem sread_c {l : List UInt8} (hl : l.length ≤ 9223372036854775807) (k : ∀ w', Ext w w' → K (readV l) w') : mCall Try.prog 35 #[.string (ofL l)] w K := by
  unfold readV at k
  rw [readL_K] at k
  refine ⟨ok35 ?_⟩
  unfold sh35
  refine mN_new (zero50 w) fun w1 h1 u1 s1 => ?_
  try simp only [push_cast, ofL_size]
  refine mIf_neI (fun h => ?_) fun hlen => ?_
  · rw [if_neg (by omega)] at k
    exact read_fail (K := fun r w => K (.tuple #[r, .bool false]) w) h1 rfl u1 (Nat.le_refl _) k
  refine cutMagic_c hl ?_
  try simp only [push_cast]
  by_cases hm : l.take 4 = magicL
  case neg =>
    rw [if_neg (by simp [hm])] at k
    simp only [hm, decide_false, push_cast, Bool.not_false]
    exact read_fail (K := fun r w => K (.tuple #[r, .bool false]) w) h1 rfl u1 (Nat.le_refl _) k
  have hl256 : l.length = 256 := by omega
  rw [if_pos ⟨hl256, hm⟩] at k
  simp only [hm, decide_true, push_cast, Bool.not_true, if_true]
  have hz : (Instr.alloc 142 true (.tuple #[])).run Try.prog w1 = .ok (.pointer (some ⟨w1.heap.size, 0, none⟩)) (w1.alloc (.cells #[.int .i64 0, .int .i64 0, .int .i64 0, .int .i64 0] 142 (0, 0))) := by kernel_rfl
  refine mN_new hz fun w2 h2 u2 s2 => ?_
  have hd4 : (l.drop 4).length ≤ 252 := by simp; omega
  refine mLoop2.mk (fun x y wr => ∃ (j : Nat) (ns : List Nat) (r : List UInt8), x = .string (ofL r) ∧ y = .int .i64 j ∧ j ≤ 4 ∧ ns.length = j ∧ takeK (l.drop 4) j = some (ns, r) ∧ r.length ≤ 252 ∧ Ext w wr ∧
      Blk wr w.heap.size 50 (slotC SM.zero) ∧ Blk wr w1.heap.size 142 (encN ns ++ List.replicate (4 - j) (.int .i64 0))) (fun _ y _ => 4 - (intOf y).toNat) ?_ ?_
  · exact ⟨0, [], l.drop 4, rfl, rfl, by omega, rfl, rfl, hd4, u1.ext u2, h1.keep u2 id, h2⟩
  rintro x y wr ⟨j, ns, r, rfl, rfl, hj, hns, htk, hrl, ur, hb, hc⟩
  try simp only [push_cast]
  refine mIf_dec (fun hlt => ?_) fun hlt => ?_
  · refine taken_c (by omega) fun w3 u3 => ?_
    unfold takenV
    have hcl : (encN ns ++ List.replicate (4 - j) (Value.int .i64 0)).length = 4 := by simp [encN_len]; omega
    have hi : (Instr.indexAt 142 (.pointer (some ⟨w1.heap.size, 0, none⟩)) (.int .i64 (j : Int))).run Try.prog w3 = .ok (.pointer (some ⟨w1.heap.size, 0 + (j : Int).toNat * 1, none⟩)) w3 :=
      r_indexAtA w3 (sz := 1) Try.underlying142 (by kernel_rfl) _ _ j (by omega) (by omega)
    have hne : w1.heap.size ≠ w.heap.size := by omega
    cases htn : takeN r with
    | none =>
      have hf := takeK_mono (takeK_fail htk htn) (show j + 1 ≤ 4 from by omega)
      rw [hf] at k
      try simp only [push_cast]
      refine mN_v hi ?_
      refine mN_store1 (by kernel_rfl) (hc.keep u3 id) (by rw [hcl]; omega) rfl fun w4 h4 u4 s4 => ?_
      try simp only [push_cast]
      have hb4 := (hb.keep u3 id).keep u4 (fun e => hne e.symm)
      exact read_fail (K := fun r w => K (.tuple #[r, .bool false]) w) hb4 rfl ((ur.ext u3).trans u4 (fun _ _ x => x) fun i hi e => by omega) (Nat.le_refl _) k
    | some p =>
      obtain ⟨n, r'⟩ := p
      try simp only [push_cast]
      refine mN_v hi ?_
      refine mN_store1 (by kernel_rfl) (hc.keep u3 id) (by rw [hcl]; omega) rfl fun w4 h4 u4 s4 => ?_
      try simp only [push_cast, bne_self_eq_false]
      rw [i64w ((j : Int) + 1) (by omega) (by omega)]
      have hb4 := (hb.keep u3 id).keep u4 (fun e => hne e.symm)
      have hrl' := takeN_len htn
      refine ⟨⟨j + 1, ns ++ [n], r', rfl, congrArg (Value.int .i64) (by omega), by omega, by simp; omega, takeK_step htk htn, by omega, (ur.ext u3).trans u4 (fun _ _ x => x) fun i hi e => by omega, hb4, ?_⟩, by simp only [intOf]; omega⟩
      have e : (encN ns ++ List.replicate (4 - j) (Value.int .i64 0)).set (0 + (j : Int).toNat * 1) (.int .i64 n) = encN (ns ++ [n]) ++ List.replicate (4 - (j + 1)) (Value.int .i64 0) := by
        rw [Nat.zero_add, Nat.mul_one, Int.toNat_natCast, List.set_append_right _ _ (by rw [encN_len]; omega), encN_len, hns, Nat.sub_self, show 4 - j = (4 - (j + 1)) + 1 from by omega, List.replicate_succ, List.set_cons_zero]
        simp [encN]
      rw [e] at h4
      exact h4
  · obtain rfl : j = 4 := by omega
    obtain ⟨n, g, b, c, rfl⟩ : ∃ n g b c, ns = [n, g, b, c] := by
      match ns, hns with
      | [n, g, b, c], _ => exact ⟨n, g, b, c, rfl⟩
    rw [htk] at k
    simp only at k
    have hc' : Blk wr w1.heap.size 142 (slotC ⟨n, g, b, c⟩) := hc
    have hix : ∀ i : Nat, i < 4 → (Instr.indexAt 142 (.pointer (some ⟨w1.heap.size, 0, none⟩)) (.int .i64 (i : Int))).run Try.prog wr = .ok (.pointer (some ⟨w1.heap.size, i, none⟩)) wr := fun i hi => by
      have := r_indexAtA (P := Try.prog) wr (sz := 1) Try.underlying142 (by kernel_rfl) w1.heap.size 0 i (by omega) (by omega)
      rwa [Nat.zero_add, Nat.mul_one, Int.toNat_natCast] at this
    refine mN_v (hix 0 (by omega)) ?_
    refine mN_v (r_loadB _ (by kernel_rfl) hc' rfl) ?_
    refine mN_v (hix 1 (by omega)) ?_
    refine mN_v (r_loadB _ (by kernel_rfl) hc' rfl) ?_
    refine mN_v (hix 2 (by omega)) ?_
    refine mN_v (r_loadB _ (by kernel_rfl) hc' rfl) ?_
    refine mN_v (hix 3 (by omega)) ?_
    refine mN_v (r_loadB _ (by kernel_rfl) hc' rfl) ?_
    refine mN_v (build50n ⟨n, g, b, c⟩ _) ?_
    refine mN_new (zero50 wr) fun w3 h3 u3 s3 => ?_
    refine mN_storeN (vs := slotC ⟨n, g, b, c⟩) (by kernel_rfl) h3 (by simp [slotC]) (slotC_one _) fun w4 h4 u4 s4 => ?_
    rw [splice_all _ _ (by simp [slotC])] at h4
    have u34 : Ext wr w4 := u3.trans u4 (fun _ _ x => x) fun i hi e => by omega
    have hb4 := hb.keep u34 id
    have a4 := ur.ext u34
    have hld : ∀ {w' : World}, Ext w4 w' → (Instr.loadAt 50 (.pointer (some ⟨wr.heap.size, 0, none⟩))).run Try.prog w' = .ok (slotV ⟨n, g, b, c⟩) w' := fun u => by
      have := r_loadN (P := Try.prog) _ (T := 50) (n := 4) (by kernel_rfl) (by kernel_rfl) (h4.keep u id) (o := 0) (by simp [slotC])
      exact this
    refine mN_v (hld (Upd.refl _ _)) ?_
    refine block_c ⟨n, g, b, c⟩ (fun hr w5 u5 => ?_) fun hr w5 u5 => ?_
    · rw [if_neg (by simp [hr])] at k
      try simp only [push_cast]
      unfold mDrew
      try simp only [push_cast]
      refine mIf_neI (fun _ => ?_) fun h => absurd h (by decide)
      exact read_fail (K := fun r w => K (.tuple #[r, .bool false]) w) (hb4.keep u5 id).drew rfl (a4.ext u5).drewn (Nat.le_refl _) k
    · try simp only [push_cast]
      unfold mDrew
      have hb5 := (hb4.keep u5 id).drew
      have a5 := (a4.ext u5).drewn
      have u6 : Ext w4 w5.drew := u5.drewn
      generalize w5.drew = w6 at hb5 a5 u6
      try simp only [push_cast, bne_self_eq_false]
      have hbl := blockL_len hr
      refine mP_v (fun w => r_sliceSh w Try.underlying9 _ _ (by decide) (by rw [ofL_size, hbl]; decide)) ?_
      refine mP_v (fun w => r_sliceSh w Try.underlying9 _ _ (by decide) (by rw [ofL_size, hl256]; decide)) ?_
      rw [ofL_extract, ofL_extract, List.drop_zero, List.drop_zero, show (64 : Int).toNat - 0 = 64 from rfl]
      try simp only [push_cast]
      refine mIf_neS (fun h => ?_) fun h => ?_
      · rw [if_neg (by rintro ⟨_, h2⟩; exact h (by rw [h2]))] at k
        exact read_fail (K := fun r w => K (.tuple #[r, .bool false]) w) hb5 rfl a5 (Nat.le_refl _) k
      · rw [if_pos ⟨hr, ofL_inj.1 h⟩] at k
        refine mN_v (hld u6) ?_
        exact ret_agg (K := fun r w => K (.tuple #[r, .bool true]) w) (by kernel_rfl) (n := 4) rfl (by kernel_rfl) hb5 rfl (slotC_one _) a5 (Nat.le_refl _) k
end
end Go.Proofs.Ythgopkppmppdoaa

/-
  Structs of ints, compared.
-/
set_option linter.unusedVariables false
set_option linter.unusedSimpArgs false
set_option maxRecDepth 20000
namespace Go.Proofs.Ythgopkppmppdoaa
open Go Go.Proofs Go.Vc

theorem eqFields_ints {P : Program} (w : World) (d : Nat) (xs ys : Array Value) (T : Nat) (hT : P.underlying T = some (.int .i64)) (hk : P.plainKey T = true) :
    ∀ (fs : List Field) (us vs : List Int) (o : Nat), fs.map (fun f => (f.name == "_", f.type, f.offset)) = (List.range' o us.length).map (fun i => (false, T, i)) → us.length = vs.length →
      (∀ (i : Nat) (a : Int), us[i]? = some a → xs[o + i]? = some (.int .i64 a)) → (∀ (i : Nat) (a : Int), vs[i]? = some a → ys[o + i]? = some (.int .i64 a)) →
      (Op.eqFields (d + 1) xs ys fs).run P w = .ok (decide (us = vs)) w
  | [], [], [], o, _, _, _, _ => by simp [Op.eqFields]
  | [], [], _ :: _, o, _, h, _, _ => by simp at h
  | [], _ :: _, vs, o, h, _, _, _ => by simp at h
  | _ :: _, [], vs, o, h, _, _, _ => by simp at h
  | _ :: _, _ :: _, [], o, _, h, _, _ => by simp at h
  | f :: fs, a :: us, b :: vs, o, h, hl, hx, hy => by
    rw [List.length_cons, List.range'_succ, List.map_cons, List.map_cons] at h
    injection h with h1 h2
    simp only [Prod.mk.injEq] at h1
    obtain ⟨hn, ht, ho⟩ := h1
    have hn : f.name ≠ "_" := by simpa using hn
    have ih := eqFields_ints w d xs ys T hT hk fs us vs (o + 1) h2 (by simpa using hl) (fun i c hc => by
      have := hx (i + 1) c (by simpa using hc)
      rwa [show o + 1 + i = o + (i + 1) from by omega]) (fun i c hc => by
      have := hy (i + 1) c (by simpa using hc)
      rwa [show o + 1 + i = o + (i + 1) from by omega])
    have p1 := Go.run_part_plain w hk (hx 0 a rfl)
    have p2 := Go.run_part_plain w hk (hy 0 b rfl)
    rw [Nat.add_zero] at p1 p2
    have e := run_equalIn_int (P := P) w d T .i64 .i64 a b hT
    simp only [Op.eqFields, hn, ne_eq, not_false_eq_true, if_true, ht, ho, Sem.run_bind, p1, p2, e, Result.andThen_ok, Sem.run_ite]
    by_cases hab : a = b
    · subst hab
      simp [ih]
    · simp [hab]

theorem agg_eq {T : Nat} {us vs : List Int} (h1 : Try.prog.underlying T = some (.struct (Try.prog.fieldsOf T))) (h2 : Try.prog.stoodInHeld T = false) (h3 : Try.prog.eqGuardType Try.prog.depth T = false)
    (h4 : ((Try.prog.fieldsOf T).toList.map fun f => (f.name == "_", f.type, f.offset)) = (List.range' 0 us.length).map (fun i => (false, 3, i))) (hl : us.length = vs.length) (cx cy : Bool) (w : World) :
    (eqS .eql T cx cy (.agg (us.map (Value.int .i64)).toArray) (.agg (vs.map (Value.int .i64)).toArray)).run Try.prog w = .ok (.bool (decide (us = vs))) w := by
  have hk : Try.prog.plainKey 3 = true := by kernel_rfl
  have he := eqFields_ints (P := Try.prog) w 9998 (us.map (Value.int .i64)).toArray (vs.map (Value.int .i64)).toArray 3 Try.underlying3 hk _ us vs 0 h4 hl
    (fun i a h => by simp [h]) (fun i a h => by simp [h])
  unfold eqS
  simp only [Sem.run_bind]
  rw [run_eqGuard_agg w .eql T _ _ _ _ h3]
  simp only [Result.andThen_ok]
  rw [run_eql_struct, run_equalIn_struct w 9999 T _ _ h1 h2, he]
  rfl
theorem agg_ne {T : Nat} {us vs : List Int} (h1 : Try.prog.underlying T = some (.struct (Try.prog.fieldsOf T))) (h2 : Try.prog.stoodInHeld T = false) (h3 : Try.prog.eqGuardType Try.prog.depth T = false)
    (h4 : ((Try.prog.fieldsOf T).toList.map fun f => (f.name == "_", f.type, f.offset)) = (List.range' 0 us.length).map (fun i => (false, 3, i))) (hl : us.length = vs.length) (cx cy : Bool) (w : World) :
    (eqS .neq T cx cy (.agg (us.map (Value.int .i64)).toArray) (.agg (vs.map (Value.int .i64)).toArray)).run Try.prog w = .ok (.bool (!decide (us = vs))) w := by
  have hk : Try.prog.plainKey 3 = true := by kernel_rfl
  have he := eqFields_ints (P := Try.prog) w 9998 (us.map (Value.int .i64)).toArray (vs.map (Value.int .i64)).toArray 3 Try.underlying3 hk _ us vs 0 h4 hl
    (fun i a h => by simp [h]) (fun i a h => by simp [h])
  unfold eqS
  simp only [Sem.run_bind]
  rw [run_eqGuard_agg w .neq T _ _ _ _ h3]
  simp only [Result.andThen_ok]
  rw [run_neq_struct, run_equalIn_struct w 9999 T _ _ h1 h2, he]
  rfl

def slotI (s : SM) : List Int := [s.number, s.region, s.bytes, s.records]
theorem slotI_inj {s t : SM} : slotI s = slotI t ↔ s = t := by
  obtain ⟨a, b, c, d⟩ := s
  obtain ⟨a', b', c', d'⟩ := t
  simp [slotI]
instance : DecidableEq SM := fun s t => decidable_of_iff _ slotI_inj
theorem slotV_list (s : SM) : slotV s = .agg ((slotI s).map (Value.int .i64)).toArray := rfl
theorem slot_eq (cx cy : Bool) (s t : SM) (w : World) : (eqS .eql 50 cx cy (slotV s) (slotV t)).run Try.prog w = .ok (.bool (decide (s = t))) w := by
  rw [slotV_list, slotV_list, agg_eq (T := 50) (us := slotI s) (vs := slotI t) (by kernel_rfl) (by kernel_rfl) (by kernel_rfl) (by kernel_rfl) rfl cx cy w]
  congr 2
  rw [decide_eq_decide]
  exact slotI_inj
theorem slot_ne (cx cy : Bool) (s t : SM) (w : World) : (eqS .neq 50 cx cy (slotV s) (slotV t)).run Try.prog w = .ok (.bool (!decide (s = t))) w := by
  rw [slotV_list, slotV_list, agg_ne (T := 50) (us := slotI s) (vs := slotI t) (by kernel_rfl) (by kernel_rfl) (by kernel_rfl) (by kernel_rfl) rfl cx cy w]
  congr 3
  rw [decide_eq_decide]
  exact slotI_inj
theorem slot_ne82 (cx cy : Bool) (s t : SM) (w : World) : (eqS .neq 82 cx cy (slotV s) (slotV t)).run Try.prog w = .ok (.bool (!decide (s = t))) w := by
  rw [slotV_list, slotV_list, agg_ne (T := 82) (us := slotI s) (vs := slotI t) (by kernel_rfl) (by kernel_rfl) (by kernel_rfl) (by kernel_rfl) rfl cx cy w]
  congr 3
  rw [decide_eq_decide]
  exact slotI_inj
end Go.Proofs.Ythgopkppmppdoaa

/-
  Slots: choosing, putting, formatting.
-/
set_option linter.unusedVariables false
set_option linter.unusedSimpArgs false
set_option maxRecDepth 20000
namespace Go.Proofs.Ythgopkppmppdoaa
open Go Go.Proofs Go.Vc
open Go.RowKit (Below intOf)

def best0 (o : Option SM) : SM × Int := match o with
  | some a => (a, 0)
  | none => (SM.zero, -1)
def best1 (o q : Option SM) : SM × Int := match q with
  | some b => if (best0 o).1.number < b.number then (b, 1) else best0 o
  | none => best0 o
def rd (D : DM) (i : Int) : Option SM := readL (D.read i).1.data.toList
/-- The slot that counts, its block, an error. -/
def DM.choose (D : DM) : SM × Int × Int :=
  if (D.read 0).2 ≠ 0 then (SM.zero, 0, (D.read 0).2)
  else if (D.read 1).2 ≠ 0 then (SM.zero, 0, (D.read 1).2)
  else if (best1 (rd D 0) (rd D 1)).2 < 0 then (SM.zero, 0, 290)
  else ((best1 (rd D 0) (rd D 1)).1, (best1 (rd D 0) (rd D 1)).2, 0)
def DM.put (D : DM) (s : SM) : Int × DM :=
  if D.choose.2.2 ≠ 0 then (D.choose.2.2, D)
  else if (D.choose.1.next s).right = false then (1, D)
  else if (D.write (1 - D.choose.2.1) (ofL (blockL (D.choose.1.next s)))).1 ≠ 0 then D.write (1 - D.choose.2.1) (ofL (blockL (D.choose.1.next s)))
  else (D.write (1 - D.choose.2.1) (ofL (blockL (D.choose.1.next s)))).2.flush
def DM.format (D : DM) : Int × DM :=
  if (D.write 0 (ofL (blockL SM.one))).1 ≠ 0 then D.write 0 (ofL (blockL SM.one))
  else if ((D.write 0 (ofL (blockL SM.one))).2.write 1 zeroS).1 ≠ 0 then (D.write 0 (ofL (blockL SM.one))).2.write 1 zeroS
  else ((D.write 0 (ofL (blockL SM.one))).2.write 1 zeroS).2.flush

theorem best1_right (D : DM) : ((best1 (rd D 0) (rd D 1)).2 < 0 ∧ best1 (rd D 0) (rd D 1) = (SM.zero, -1)) ∨ ((best1 (rd D 0) (rd D 1)).1.right = true ∧ ((best1 (rd D 0) (rd D 1)).2 = 0 ∨ (best1 (rd D 0) (rd D 1)).2 = 1)) := by
  have hr : ∀ i s, rd D i = some s → s.right = true := fun i s h => (readL_right h).1
  cases h0 : rd D 0 with
  | none =>
    cases h1 : rd D 1 with
    | none => exact .inl ⟨by decide, rfl⟩
    | some b =>
      have hb := hr 1 b h1
      have := (SM.right_iff.1 hb).1
      have e : best1 none (some b) = if (0 : Int) < b.number then (b, 1) else (SM.zero, -1) := rfl
      rw [e, if_pos (by omega)]
      exact .inr ⟨hb, .inr rfl⟩
  | some a =>
    have ha := hr 0 a h0
    cases h1 : rd D 1 with
    | none => exact .inr ⟨ha, .inl rfl⟩
    | some b =>
      have e : best1 (some a) (some b) = if a.number < b.number then (b, 1) else (a, 0) := rfl
      rw [e]
      split
      · exact .inr ⟨hr 1 b h1, .inr rfl⟩
      · exact .inr ⟨ha, .inl rfl⟩
theorem choose_right {D : DM} (h : D.choose.2.2 = 0) : D.choose.1.right = true ∧ (D.choose.2.1 = 0 ∨ D.choose.2.1 = 1) := by
  unfold DM.choose at h ⊢
  split at h
  · rename_i h0; exact absurd h h0
  · rename_i h0
    rw [if_neg h0]
    split at h
    · rename_i h1; exact absurd h h1
    · rename_i h1
      rw [if_neg h1]
      split at h
      · cases h
      · rename_i h2
        rw [if_neg h2]
        rcases best1_right D with ⟨h3, _⟩ | h3
        · exact absurd h3 h2
        · exact h3

section
variable {w : World} {K : Value → World → Prop} {p : Nat} {fp : Nat → Prop} {D : DM}

theorem isdisk_read_size (h : IsDisk w p fp D) (i : Int) : (D.read i).1.size ≤ 256 := by
  obtain ⟨⟨vb, vw, vk, h⟩, _⟩ := h
  unfold DM.read
  split
  · exact Nat.zero_le _
  · rename_i hi
    split
    · exact Nat.zero_le _
    · have hi : 0 ≤ i ∧ i < D.blocks.length := by
        rcases Decidable.em (0 ≤ i ∧ i < D.blocks.length) with h | h
        · exact h
        · exact absurd h hi
      obtain ⟨b, hb⟩ : ∃ b, D.blocks[i.toNat]? = some b := ⟨_, List.getElem?_eq_getElem (by omega)⟩
      have : Sec (lastW i (D.blocks.getD i.toNat []) D.waits) := lastW_sec (by
        rw [List.getD_eq_getElem?_getD, hb]
        exact h.b4 b (List.mem_of_getElem? hb)) fun x hx => (h.w4 x hx).1
      exact Nat.le_of_eq (joined_size this)

theorem DAfter.pre {w w1 w2 : World} {D' : DM} (hlt : ∀ k, fp k → k < w.heap.size) (u : Ext w w1) (a : DAfter w1 p fp D' w2) : DAfter w p fp D' w2 := by
  obtain ⟨fp', h, u2, y⟩ := a
  exact ⟨fp', h, u.trans u2 (fun _ _ x => x.elim) fun _ _ x => x, fun k hk => (y k hk).imp id fun e => Nat.le_trans u.size e⟩
theorem DAfter.post {w w1 w2 : World} {D' : DM} (a : DAfter w p fp D' w1) (u : Ext w1 w2) : DAfter w p fp D' w2 := by
  obtain ⟨fp', h, u2, y⟩ := a
  exact ⟨fp', h.ext u, u2.ext u, y⟩
theorem DAfter.then {w w1 w2 : World} {D2 : DM} {fp1 : Nat → Prop} (u : Upd w w1 fp) (y : ∀ k, fp1 k → fp k ∨ w.heap.size ≤ k) (a : DAfter w1 p fp1 D2 w2) : DAfter w p fp D2 w2 := by
  obtain ⟨fp2, h, u2, y2⟩ := a
  refine ⟨fp2, h, u.trans u2 (fun _ _ x => x) fun i hi hf => (y i hf).resolve_right (by omega), fun k hk => ?_⟩
  rcases y2 k hk with h1 | h1
  · exact y k h1
  · exact .inr (Nat.le_trans u.size h1)

/-- slot.Choose -/
theorem choose_c (h : IsDisk w p fp D) (k : ∀ w', Ext w w' → K (.tuple #[slotV D.choose.1, .int .i64 D.choose.2.1, .int .i64 D.choose.2.2]) w') : mCall Try.prog 49 #[dptr p] w K := by
  refine ⟨ok49 ?_⟩
  unfold sh49
  refine mN_new (zero50 w) fun w1 h1 u1 s1 => ?_
  refine mN_v (build50 w1) ?_
  refine mN_new (zero50 w1) fun w2 h2 u2 s2 => ?_
  refine mN_storeN (vs := slotC SM.zero) (by kernel_rfl) h2 (by simp [slotC]) (slotC_one _) fun w3 h3 u3 s3 => ?_
  rw [splice_all _ _ (by simp [slotC])] at h3
  have u13 : Ext w1 w3 := u2.trans u3 (fun _ _ x => x) fun i hi e => by omega
  have h1 := h1.keep u13 id
  have a3 : Ext w w3 := u1.ext u13
  refine mLoop2.mk (fun x y wr => ∃ (j : Nat) (b : SM) (at_ : Int), x = .int .i64 at_ ∧ y = .int .i64 j ∧ j ≤ 2 ∧ Ext w wr ∧ Blk wr w.heap.size 50 (slotC SM.zero) ∧ Blk wr w1.heap.size 50 (slotC b) ∧
      ((j = 0 ∧ b = SM.zero ∧ at_ = -1) ∨ (j = 1 ∧ (D.read 0).2 = 0 ∧ (b, at_) = best0 (rd D 0)) ∨ (j = 2 ∧ (D.read 0).2 = 0 ∧ (D.read 1).2 = 0 ∧ (b, at_) = best1 (rd D 0) (rd D 1)))) (fun _ y _ => 2 - (intOf y).toNat) ?_ ?_
  · exact ⟨0, SM.zero, -1, rfl, rfl, by omega, a3, h1, h3, .inl ⟨rfl, rfl, rfl⟩⟩
  rintro x y wr ⟨j, b, at_, rfl, rfl, hj, ur, hr, hb, hcase⟩
  try simp only [push_cast]
  refine mIf_dec (fun hlt => ?_) fun hlt => ?_
  · refine isdisk_read (h.ext ur) j fun w4 u4 => ?_
    try simp only [push_cast]
    have hr4 := hr.keep u4 id
    have hb4 := hb.keep u4 id
    have a4 := ur.ext u4
    refine mIf_neI (fun he => ?_) fun he => ?_
    · have hch : D.choose = (SM.zero, 0, (D.read j).2) := by
        unfold DM.choose
        rcases hcase with ⟨rfl, _⟩ | ⟨rfl, h0, _⟩ | ⟨rfl, _⟩
        · have he' : (D.read 0).2 ≠ 0 := he
          rw [if_pos he']; rfl
        · have he' : (D.read 1).2 ≠ 0 := he
          rw [if_neg (by simp [h0]), if_pos he']; rfl
        · omega
      rw [hch] at k
      exact read_fail (K := fun r w => K (.tuple #[r, .int .i64 0, .int .i64 (D.read j).2]) w) hr4 rfl a4 (Nat.le_refl _) k
    have hsz := isdisk_read_size h j
    refine sread_c (l := (D.read j).1.data.toList) (by
      have : (D.read j).1.data.toList.length = (D.read j).1.size := rfl
      omega) fun w5 u5 => ?_
    have hr5 := hr4.keep u5 id
    have hb5 := hb4.keep u5 id
    have a5 := a4.ext u5
    have hbN : ¬ (w1.heap.size = w5.heap.size) := by have := hb5.lt; omega
    have hrd : readL (D.read j).1.data.toList = rd D j := rfl
    have hnext : ∀ (b' : SM) (at' : Int) (w' : World), Ext w w' → Blk w' w.heap.size 50 (slotC SM.zero) → Blk w' w1.heap.size 50 (slotC b') → (j = 0 → (b', at') = best0 (rd D 0)) → (j = 1 → (b', at') = best1 (rd D 0) (rd D 1)) →
        (∃ (j_1 : Nat) (b : SM) (at_ : Int), Value.int .i64 at' = .int .i64 at_ ∧ Value.int .i64 (IntKind.wrap .i64 ((j : Int) + 1)) = .int .i64 j_1 ∧ j_1 ≤ 2 ∧ Ext w w' ∧ Blk w' w.heap.size 50 (slotC SM.zero) ∧ Blk w' w1.heap.size 50 (slotC b) ∧
          ((j_1 = 0 ∧ b = SM.zero ∧ at_ = -1) ∨ (j_1 = 1 ∧ (D.read 0).2 = 0 ∧ (b, at_) = best0 (rd D 0)) ∨ (j_1 = 2 ∧ (D.read 0).2 = 0 ∧ (D.read 1).2 = 0 ∧ (b, at_) = best1 (rd D 0) (rd D 1)))) ∧
        2 - (intOf (.int .i64 (IntKind.wrap .i64 ((j : Int) + 1)))).toNat < 2 - (intOf (.int .i64 (j : Int))).toNat := by
      intro b' at' w' a' hr' hb' e0 e1
      rw [i64w ((j : Int) + 1) (by omega) (by omega)]
      refine ⟨⟨j + 1, b', at', rfl, congrArg (Value.int .i64) (by omega), by omega, a', hr', hb', ?_⟩, by simp only [intOf]; omega⟩
      rcases hcase with ⟨rfl, _⟩ | ⟨rfl, h0, _⟩ | ⟨rfl, _⟩
      · exact .inr (.inl ⟨rfl, he, e0 rfl⟩)
      · exact .inr (.inr ⟨rfl, h0, he, e1 rfl⟩)
      · omega
    unfold readV
    rw [hrd]
    cases hs : rd D j with
    | none =>
      try simp only [push_cast]
      refine mN_new (zero50 w5) fun w6 h6 u6 s6 => ?_
      refine mN_storeN (vs := slotC SM.zero) (by kernel_rfl) h6 (by simp [slotC]) (slotC_one _) fun w7 h7 u7 s7 => ?_
      have u57 : Ext w5 w7 := u6.trans u7 (fun _ _ x => x) fun i hi e => by omega
      try simp only [push_cast]
      refine hnext b at_ w7 (a5.ext u57) (hr5.keep u57 id) (hb5.keep u57 id) (fun h0 => ?_) fun h1 => ?_
      · subst h0
        have hs' : rd D 0 = none := hs
        rcases hcase with ⟨_, rfl, rfl⟩ | ⟨h, _⟩ | ⟨h, _⟩
        · rw [hs']; rfl
        · omega
        · omega
      · subst h1
        have hs' : rd D 1 = none := hs
        rcases hcase with ⟨h, _⟩ | ⟨_, _, h⟩ | ⟨h, _⟩
        · omega
        · rw [hs', h]; rfl
        · omega
    | some s =>
      try simp only [push_cast]
      refine mN_new (zero50 w5) fun w6 h6 u6 s6 => ?_
      refine mN_storeN (vs := slotC s) (by kernel_rfl) h6 (by simp [slotC]) (slotC_one _) fun w7 h7 u7 s7 => ?_
      rw [splice_all _ _ (by simp [slotC])] at h7
      have u57 : Ext w5 w7 := u6.trans u7 (fun _ _ x => x) fun i hi e => by omega
      have hr7 := hr5.keep u57 id
      have hb7 := hb5.keep u57 id
      have a7 := a5.ext u57
      try simp only [push_cast]
      refine mN_v (r_loadB _ (by kernel_rfl) h7 rfl) ?_
      try simp only [push_cast]
      refine mN_v (r_loadB _ (by kernel_rfl) hb7 rfl) ?_
      try simp only [push_cast]
      refine mIf_dec (fun hgt => ?_) fun hgt => ?_
      · have hl7 := r_loadN (P := Try.prog) w7 (T := 50) (n := 4) (by kernel_rfl) (by kernel_rfl) h7 (o := 0) (by simp [slotC])
        refine mN_v hl7 ?_
        refine mN_storeN (vs := slotC s) (by kernel_rfl) hb7 (by simp [slotC]) (slotC_one _) fun w8 h8 u8 s8 => ?_
        rw [splice_all _ _ (by simp [slotC])] at h8
        try simp only [push_cast]
        refine hnext s j w8 (a7.trans u8 (fun _ _ x => x) fun i hi e => by omega) (hr7.keep u8 (by omega)) h8 (fun h0 => ?_) fun h1 => ?_
        · subst h0
          have hs' : rd D 0 = some s := hs
          rw [hs']; rfl
        · subst h1
          have hs' : rd D 1 = some s := hs
          rcases hcase with ⟨h, _⟩ | ⟨_, _, h⟩ | ⟨h, _⟩
          · omega
          · have hn : (best0 (rd D 0)).1.number < s.number := by rw [← h]; exact hgt
            unfold best1
            rw [hs']
            simp only
            rw [if_pos hn]
            rfl
          · omega
      · try simp only [push_cast]
        refine hnext b at_ w7 a7 hr7 hb7 (fun h0 => ?_) fun h1 => ?_
        · subst h0
          have hs' : rd D 0 = some s := hs
          have := (SM.right_iff.1 (readL_right hs').1).1
          rcases hcase with ⟨_, rfl, rfl⟩ | ⟨h, _⟩ | ⟨h, _⟩
          · simp only [SM.zero] at hgt
            omega
          · omega
          · omega
        · subst h1
          have hs' : rd D 1 = some s := hs
          rcases hcase with ⟨h, _⟩ | ⟨_, _, h⟩ | ⟨h, _⟩
          · omega
          · have hn : ¬ (best0 (rd D 0)).1.number < s.number := by rw [← h]; exact hgt
            unfold best1
            rw [hs']
            simp only
            rw [if_neg hn, h]
          · omega
  · obtain rfl : j = 2 := by omega
    obtain ⟨h0, h1, hbest⟩ : (D.read 0).2 = 0 ∧ (D.read 1).2 = 0 ∧ (b, at_) = best1 (rd D 0) (rd D 1) := by
      rcases hcase with ⟨h, _⟩ | ⟨h, _⟩ | ⟨_, h⟩
      · omega
      · omega
      · exact h
    have hch : D.choose = if at_ < 0 then (SM.zero, 0, 290) else (b, at_, 0) := by
      unfold DM.choose
      rw [if_neg (by simp [h0]), if_neg (by simp [h1]), ← hbest]
    rw [hch] at k
    refine mIf_dec (fun hn => ?_) fun hn => ?_
    · rw [if_pos hn] at k
      exact read_fail (K := fun r w => K (.tuple #[r, .int .i64 0, .int .i64 290]) w) hr rfl ur (Nat.le_refl _) k
    · rw [if_neg hn] at k
      have hl := r_loadN (P := Try.prog) wr (T := 50) (n := 4) (by kernel_rfl) (by kernel_rfl) hb (o := 0) (by simp [slotC])
      refine mN_v hl ?_
      exact ret_agg (K := fun r w => K (.tuple #[r, .int .i64 at_, .int .i64 0]) w) (by kernel_rfl) (n := 4) rfl (by kernel_rfl) hr rfl (slotC_one b) ur (Nat.le_refl _) k
end
end Go.Proofs.Ythgopkppmppdoaa

/-
  Slots: putting, formatting; two slots, one behind the other.
-/
set_option linter.unusedVariables false
set_option linter.unusedSimpArgs false
set_option maxRecDepth 20000
namespace Go.Proofs.Ythgopkppmppdoaa
open Go Go.Proofs Go.Vc
open Go.RowKit (Below intOf)

theorem goes_free {D : DM} (h : D.armed = false) : D.goes = (none, D) := by simp [DM.goes, h]
theorem write_free {D : DM} (h : D.armed = false) (hd : D.down = false) {i : Int} (h0 : 0 ≤ i) (h1 : i < D.blocks.length) {s : ByteArray} (hs : s.size = 256) :
    D.write i s = (0, { D with waits := D.waits ++ [(i, cutS s)] }) := by
  unfold DM.write
  rw [if_neg (by simp [hs]; omega), if_neg (by simp [hd]), goes_free h]
theorem flush_free {D : DM} (h : D.armed = false) (hd : D.down = false) : D.flush = (0, { D with blocks := flushTo D.blocks D.waits D.waits.length, waits := [] }) := by
  unfold DM.flush
  rw [if_neg (by simp [hd]), goes_free h]
theorem write_waits (D : DM) (i : Int) (s : ByteArray) : (D.write i s).2.waits.length ≤ D.waits.length + 1 := by
  have hg := (goes_len D).2.1
  unfold DM.write
  repeat' split
  all_goals first
    | (show _ ≤ _; simp; omega)
    | (simp; done)
    | omega

section
variable {w : World} {K : Value → World → Prop} {p : Nat} {fp : Nat → Prop} {D : DM}

theorem IsDisk.after {w' : World} (h : IsDisk w p fp D) (u : Ext w w') : DAfter w p fp D w' := ⟨fp, h.ext u, u.mono fun _ _ => False.elim, fun _ x => .inl x⟩

/-- slot.Put -/
theorem put_c (h : IsDisk w p fp D) (hwn : D.waits.length ≤ 1000000000) (s : SM) (k : ∀ w', DAfter w p fp (D.put s).2 w' → K (.int .i64 (D.put s).1) w') : mCall Try.prog 53 #[dptr p, slotV s] w K := by
  have hlt : ∀ k, fp k → k < w.heap.size := fun k hk => h.lt hk
  refine ⟨ok53 ?_⟩
  unfold sh53
  refine mN_new (box50 s w) fun w1 h1 u1 s1 => ?_
  refine choose_c (h.ext u1) fun w2 u2 => ?_
  try simp only [push_cast]
  refine mN_new (zero50 w2) fun w3 h3 u3 s3 => ?_
  refine mN_storeN (vs := slotC D.choose.1) (by kernel_rfl) h3 (by simp [slotC]) (slotC_one _) fun w4 h4 u4 s4 => ?_
  rw [splice_all _ _ (by simp [slotC])] at h4
  have u24 : Ext w2 w4 := u3.trans u4 (fun _ _ x => x) fun i hi e => by omega
  have a4 : Ext w w4 := (u1.ext u2).ext u24
  have hb4 := (h1.keep u2 id).keep u24 id
  unfold DM.put at k
  try simp only [push_cast]
  refine mIf_neI (fun he => ?_) fun he => ?_
  · rw [if_pos he] at k
    exact k w4 (h.after a4)
  rw [if_neg (by simp [he])] at k
  obtain ⟨hcr, hat⟩ := choose_right he
  obtain ⟨r1, r2, _⟩ := SM.right_iff.1 hcr
  refine mN_v (r_loadB _ (by kernel_rfl) h4 rfl) ?_
  try simp only [push_cast]
  rw [i64w (D.choose.1.number + 1) (by omega) (by omega)]
  refine mN_store1 (by kernel_rfl) hb4 (by simp [slotC]) rfl fun w5 h5 u5 s5 => ?_
  have e5 : (slotC s).toArray.toList.set 0 (.int .i64 (D.choose.1.number + 1)) = slotC (D.choose.1.next s) := rfl
  rw [e5] at h5
  have a5 : Ext w w5 := a4.trans u5 (fun _ _ x => x) fun i hi e => by omega
  have hl := r_loadN (P := Try.prog) w5 (T := 50) (n := 4) (by kernel_rfl) (by kernel_rfl) h5 (o := 0) (by simp [slotC])
  refine mN_v hl ?_
  refine block_c (D.choose.1.next s) (fun hr w6 u6 => ?_) fun hr w6 u6 => ?_
  · rw [if_pos hr] at k
    try simp only [push_cast]
    refine mIf_neI (fun _ => ?_) fun h => absurd h (by decide)
    exact k w6 (h.after (a5.ext u6))
  rw [if_neg (by simp [hr])] at k
  try simp only [push_cast, bne_self_eq_false]
  rw [i64w _ (by omega) (by omega)]
  have a6 := a5.ext u6
  refine isdisk_write (h.ext a6) hwn (1 - D.choose.2.1) _ fun w7 d7 => ?_
  have d7' := d7.pre hlt a6
  try simp only [push_cast]
  refine mIf_neI (fun hw => ?_) fun hw => ?_
  · rw [if_pos hw] at k
    exact k w7 d7'
  rw [if_neg (by simp [hw])] at k
  obtain ⟨fp7, h7, u7, y7⟩ := d7'
  refine isdisk_flush h7 fun w8 d8 => ?_
  exact k w8 (DAfter.then u7 y7 d8)

theorem zeroS_pad : ofL (padL []) = zeroS := rfl
theorem build50_one (w : World) : (Instr.build 50 #[(0, .int .i64 1)]).run Try.prog w = .ok (slotV SM.one) w := by kernel_rfl
theorem build175 (a b : ByteArray) (w : World) : (Instr.build 175 #[(0, .string a), (1, .string b)]).run Try.prog w = .ok (.agg #[.string a, .string b]) w := by kernel_rfl
theorem ix175_0 (a b : ByteArray) (w : World) : (Instr.index 175 (.agg #[.string a, .string b]) (.int .i64 0)).run Try.prog w = .ok (.string a) w := by kernel_rfl
theorem ix175_1 (a b : ByteArray) (w : World) : (Instr.index 175 (.agg #[.string a, .string b]) (.int .i64 1)).run Try.prog w = .ok (.string b) w := by kernel_rfl
theorem one_right : SM.one.right = true := by decide

/-- slot.Format -/
theorem format_c (h : IsDisk w p fp D) (hwn : D.waits.length ≤ 1000000) (k : ∀ w', DAfter w p fp D.format.2 w' → K (.int .i64 D.format.1) w') : mCall Try.prog 52 #[dptr p] w K := by
  have hlt : ∀ k, fp k → k < w.heap.size := fun k hk => h.lt hk
  unfold DM.format at k
  refine ⟨ok52 ?_⟩
  unfold sh52
  refine mN_v (build50_one w) ?_
  refine block_c SM.one (fun hr => by rw [one_right] at hr; cases hr) fun _ w1 u1 => ?_
  try simp only [push_cast]
  have e0 : (⟨#[]⟩ : ByteArray) = ofL [] := rfl
  rw [e0]
  refine padded_c (by simp) fun w2 u2 => ?_
  rw [zeroS_pad]
  refine mN_v (build175 _ _ _) ?_
  have a2 : Ext w w2 := u1.ext u2
  have hww := write_waits D 0 (ofL (blockL SM.one))
  refine mLoop1.mk (fun x wr => (x = .int .i64 0 ∧ Ext w wr) ∨ (x = .int .i64 1 ∧ (D.write 0 (ofL (blockL SM.one))).1 = 0 ∧ DAfter w p fp (D.write 0 (ofL (blockL SM.one))).2 wr) ∨
      (x = .int .i64 2 ∧ (D.write 0 (ofL (blockL SM.one))).1 = 0 ∧ ((D.write 0 (ofL (blockL SM.one))).2.write 1 zeroS).1 = 0 ∧ DAfter w p fp ((D.write 0 (ofL (blockL SM.one))).2.write 1 zeroS).2 wr)) (fun x _ => 2 - (intOf x).toNat) (.inl ⟨rfl, a2⟩) ?_
  rintro x wr (⟨rfl, ur⟩ | ⟨rfl, e1, d1⟩ | ⟨rfl, e1, e2, d2⟩)
  · try simp only [push_cast]
    refine mIf_dec (fun _ => ?_) fun h => absurd (by decide) h
    refine mN_v (ix175_0 _ _ _) ?_
    refine isdisk_write (h.ext ur) (by omega) 0 _ fun w3 d3 => ?_
    have d3 := d3.pre hlt ur
    try simp only [push_cast]
    refine mIf_neI (fun he => ?_) fun he => ?_
    · rw [if_pos he] at k
      exact k w3 d3
    · exact ⟨.inr (.inl ⟨rfl, he, d3⟩), by decide⟩
  · rw [if_neg (by simp [e1])] at k
    obtain ⟨fp1, h1, ux, yx⟩ := d1
    try simp only [push_cast]
    refine mIf_dec (fun _ => ?_) fun h => absurd (by decide) h
    refine mN_v (ix175_1 _ _ _) ?_
    refine isdisk_write h1 (by omega) 1 _ fun w3 d3 => ?_
    have d3 := DAfter.then ux yx d3
    try simp only [push_cast]
    refine mIf_neI (fun he => ?_) fun he => ?_
    · rw [if_pos he] at k
      exact k w3 d3
    · exact ⟨.inr (.inr ⟨rfl, e1, he, d3⟩), by decide⟩
  · rw [if_neg (by simp [e1]), if_neg (by simp [e2])] at k
    obtain ⟨fp1, h1, ux, yx⟩ := d2
    try simp only [push_cast]
    refine mIf_dec (fun h => absurd h (by decide)) fun _ => ?_
    refine isdisk_flush h1 fun w3 d3 => ?_
    exact k w3 (DAfter.then ux yx d3)

/-! ### two -/

def SM.two : SM := ⟨2, 1, 5, 0⟩
def twoB1 : List ByteArray := cutS (ofL (blockL SM.one))
def twoB2 : List ByteArray := cutS (ofL (blockL SM.two))
def twoD (b : List ByteArray) : DM := { DM.new 4 with blocks := [twoB1, b, zeroB, zeroB] }
theorem block_size {s : SM} (h : s.right = true) : (ofL (blockL s)).size = 256 := blockL_len h
theorem two_right : SM.two.right = true := by decide
theorem two_format : (DM.new 4).format = (0, twoD (cutS zeroS)) := by
  have hw1 : (DM.new 4).write 0 (ofL (blockL SM.one)) = (0, { DM.new 4 with waits := [(0, twoB1)] }) := write_free rfl rfl (by decide) (by decide) (block_size one_right)
  have hw2 : ({ DM.new 4 with waits := [(0, twoB1)] } : DM).write 1 zeroS = (0, { DM.new 4 with waits := [(0, twoB1), (1, cutS zeroS)] }) := write_free rfl rfl (by decide) (by decide) zeroS_size
  have hf : ({ DM.new 4 with waits := [(0, twoB1), (1, cutS zeroS)] } : DM).flush = (0, twoD (cutS zeroS)) := flush_free rfl rfl
  unfold DM.format
  rw [hw1]
  simp only
  rw [hw2]
  simp only
  rw [hf]
  rfl
theorem zeroL : zeroS.data.toList = List.replicate 256 0 := rfl
theorem read_zero : readL zeroS.data.toList = none := readL_none fun h => by
  have := h.2
  rw [zeroL] at this
  revert this
  decide
theorem twoD_read0 (b : List ByteArray) : (twoD b).read 0 = (ofL (blockL SM.one), 0) := by
  have : (twoD b).read 0 = (joined twoB1, 0) := rfl
  rw [this]
  unfold twoB1
  rw [joined_cutS (block_size one_right)]
theorem twoD_choose1 : (twoD (cutS zeroS)).choose = (SM.one, 0, 0) := by
  have h0 := twoD_read0 (cutS zeroS)
  have h1 : (twoD (cutS zeroS)).read 1 = (zeroS, 0) := by
    have : (twoD (cutS zeroS)).read 1 = (joined (cutS zeroS), 0) := rfl
    rw [this, joined_cutS zeroS_size]
  have r0 : rd (twoD (cutS zeroS)) 0 = some SM.one := by
    unfold rd
    rw [h0]
    exact readL_block one_right
  have r1 : rd (twoD (cutS zeroS)) 1 = none := by
    unfold rd
    rw [h1]
    exact read_zero
  unfold DM.choose
  rw [h0, h1, r0, r1]
  rfl
theorem twoD_put : (twoD (cutS zeroS)).put ⟨0, 1, 5, 0⟩ = (0, twoD twoB2) := by
  unfold DM.put
  rw [twoD_choose1]
  simp only
  have e : SM.one.next ⟨0, 1, 5, 0⟩ = SM.two := rfl
  rw [e, if_neg (by simp), if_neg (by rw [two_right]; simp)]
  have hw1 : (twoD (cutS zeroS)).write (1 - 0) (ofL (blockL SM.two)) = (0, { twoD (cutS zeroS) with waits := [(1, twoB2)] }) := write_free rfl rfl (by decide) (by decide) (block_size two_right)
  have hf : ({ twoD (cutS zeroS) with waits := [(1, twoB2)] } : DM).flush = (0, twoD twoB2) := flush_free rfl rfl
  rw [hw1]
  simp only
  rw [hf]
  rfl
theorem twoD_choose2 : (twoD twoB2).choose = (SM.two, 1, 0) := by
  have h0 := twoD_read0 twoB2
  have h1 : (twoD twoB2).read 1 = (ofL (blockL SM.two), 0) := by
    have : (twoD twoB2).read 1 = (joined twoB2, 0) := rfl
    rw [this]
    unfold twoB2
    rw [joined_cutS (block_size two_right)]
  have r0 : rd (twoD twoB2) 0 = some SM.one := by
    unfold rd
    rw [h0]
    exact readL_block one_right
  have r1 : rd (twoD twoB2) 1 = some SM.two := by
    unfold rd
    rw [h1]
    exact readL_block two_right
  unfold DM.choose
  rw [h0, h1, r0, r1]
  rfl

theorem two_c (k : ∀ w', Ext w w' → K (.bool true) w') : mCall Try.prog 34 #[] w K := by
  refine ⟨ok34 ?_⟩
  unfold sh34
  refine new_c 4 (fun h => by omega) fun _ _ w1 p fp h1 u1 y1 => ?_
  unfold dptr
  try simp only [push_cast, Option.isNone_some, bne_self_eq_false]
  refine format_c h1 (by decide) fun w2 d2 => ?_
  rw [show (DM.new (4 : Int).toNat) = DM.new 4 from rfl, two_format] at d2 ⊢
  obtain ⟨fp2, h2, u2, y2⟩ := d2
  have z2 := young_of y2 y1 u1.size
  have a2 : Ext w w2 := u1.young u2 fun i hi => .inr (y1 i hi)
  have hb : (Instr.build 50 #[(1, .int .i64 1), (2, .int .i64 5)]).run Try.prog w2 = .ok (slotV ⟨0, 1, 5, 0⟩) w2 := by kernel_rfl
  refine mN_v hb ?_
  refine put_c h2 (by decide) ⟨0, 1, 5, 0⟩ fun w3 d3 => ?_
  rw [twoD_put] at d3 ⊢
  obtain ⟨fp3, h3, u3, y3⟩ := d3
  have a3 : Ext w w3 := a2.young u3 fun i hi => .inr (z2 i hi)
  refine choose_c h3 fun w4 u4 => ?_
  rw [twoD_choose2]
  try simp only [push_cast]
  refine mN_new (zero50 w4) fun w5 h5 u5 s5 => ?_
  refine mN_storeN (vs := slotC SM.two) (by kernel_rfl) h5 (by simp [slotC]) (slotC_one _) fun w6 h6 u6 s6 => ?_
  rw [splice_all _ _ (by simp [slotC])] at h6
  have a6 : Ext w w6 := ((a3.ext u4).ext u5).trans u6 (fun _ _ x => x) fun i hi e => by have := (a3.ext u4).size; omega
  try simp only [push_cast, beq_self_eq_true]
  have hl := r_loadN (P := Try.prog) w6 (T := 50) (n := 4) (by kernel_rfl) (by kernel_rfl) h6 (o := 0) (by simp [slotC])
  refine mN_v hl ?_
  have hb2 : (Instr.build 50 #[(0, .int .i64 2), (1, .int .i64 1), (2, .int .i64 5)]).run Try.prog w6 = .ok (slotV SM.two) w6 := by kernel_rfl
  refine mN_v hb2 ?_
  refine mN_v (slot_eq _ _ SM.two SM.two w6) ?_
  try simp only [decide_true, push_cast, beq_self_eq_true]
  exact k w6 a6
end
end Go.Proofs.Ythgopkppmppdoaa
