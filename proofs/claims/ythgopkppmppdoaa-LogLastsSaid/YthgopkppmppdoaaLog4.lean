/-
  rectoplain.Texts; a record that is written and opened again; a nil log; LogRoom.
-/
import Derived.Test.YthgopkppmppdoaaLog3
set_option linter.unusedVariables false
set_option linter.unusedSimpArgs false
set_option maxRecDepth 20000
namespace Go.Proofs.Ythgopkppmppdoaa
open Go Go.Proofs Go.Vc
open Go.RowKit (Below intOf)

section
variable {w : World} {K : Value → World → Prop} {p dp : Nat} {fp : Nat → Prop} {D : DM} {L : LM}

/-- Reading of a row of texts. -/
theorem strs_ix {A : Option Addr} {n c : Nat} {l : List ByteArray} (h : Strs w (.slice A n c) l fp) {i : Nat} {x : ByteArray} (hx : l[i]? = some x) :
    ∃ a, (∀ w, (Instr.indexAt 67 (.slice A n c) (.int .i64 i)).run Try.prog w = .ok (.pointer (some a)) w) ∧ (Instr.loadAt 9 (.pointer (some a))).run Try.prog w = .ok (.string x) w ∧ fp a.block := by
  obtain ⟨rfl, b, o, rfl, hb, cs, _, hc, rfl⟩ := Arr.at_ h hx
  have hi := (List.getElem?_eq_some_iff.1 hx).1
  refine ⟨⟨b, o + i, none⟩, fun w => ?_, r_load1 w ag9 ?_, hb⟩
  · have := r_indexAt (P := Try.prog) w (sz := 1) Try.underlying67 (by kernel_rfl) b o l.length c i (by omega) (by omega)
    rw [this]
    simp
  · have := hc 0 _ rfl
    simpa using this

theorem texts_c {v1 v2 : Value} {l1 l2 : List ByteArray} {f1 f2 : Nat → Prop} (h1 : Strs w v1 l1 f1) (h2 : Strs w v2 l2 f2) (k : ∀ w', Ext w w' → K (.bool (decide (l1 = l2))) w') : mCall Try.prog 40 #[v1, v2] w K := by
  obtain ⟨A1, c1, rfl⟩ := Arr.slice h1
  obtain ⟨A2, c2, rfl⟩ := Arr.slice h2
  have hs1 := Arr.small h1
  refine ⟨ok40 ?_⟩
  unfold sh40
  try simp only [push_cast]
  refine mLoop1.mk (fun x wr => ∃ j : Nat, x = .int .i64 j ∧ j ≤ l1.length ∧ Ext w wr ∧ j ≤ l2.length ∧ l1.take j = l2.take j) (fun x _ => l1.length - (intOf x).toNat) ⟨0, rfl, Nat.zero_le _, Upd.refl _ _, Nat.zero_le _, rfl⟩ ?_
  rintro x wr ⟨j, rfl, hj, ur, hj2, he⟩
  try simp only [push_cast]
  refine mIf_dec (fun hlt => ?_) fun hlt => ?_
  · unfold mDrew
    have u2 : Ext wr wr.drew := Upd.drew wr _
    have a2 := ur.ext u2
    generalize wr.drew = w2 at u2 a2
    try simp only [push_cast]
    refine mIf_dec (fun hge => ?_) fun hge => ?_
    · rw [show false = decide (l1 = l2) from by
        symm
        rw [decide_eq_false_iff_not]
        intro e
        rw [e] at hlt
        omega] 
      exact k w2 a2
    obtain ⟨x1, hx1⟩ : ∃ x, l1[j]? = some x := ⟨_, List.getElem?_eq_getElem (by omega)⟩
    obtain ⟨x2, hx2⟩ : ∃ x, l2[j]? = some x := ⟨_, List.getElem?_eq_getElem (by omega)⟩
    obtain ⟨p1, i1, r1, _⟩ := strs_ix (h1.keep a2 fun _ _ => id) hx1
    obtain ⟨p2, i2, r2, _⟩ := strs_ix (h2.keep a2 fun _ _ => id) hx2
    refine mP_v i1 ?_
    refine mR_v r1 ?_
    refine mP_v i2 ?_
    refine mR_v r2 ?_
    try simp only [push_cast]
    refine mIf_neS (fun hne => ?_) fun heq => ?_
    · rw [show false = decide (l1 = l2) from by
        symm
        rw [decide_eq_false_iff_not]
        rintro rfl
        rw [hx1] at hx2
        exact hne (Option.some.inj hx2)]
      exact k w2 a2
    · rw [i64w ((j : Int) + 1) (by omega) (by omega)]
      refine ⟨⟨j + 1, congrArg (Value.int .i64) (by omega), by omega, a2, by omega, ?_⟩, by simp only [intOf]; omega⟩
      rw [List.take_add_one, List.take_add_one, he, hx1, hx2, heq]
  · try simp only [push_cast]
    have e : ((l1.length : Int) == (l2.length : Int)) = decide (l1 = l2) := by
      obtain rfl : j = l1.length := by omega
      by_cases hl : l1.length = l2.length
      · rw [List.take_of_length_le (Nat.le_refl _), List.take_of_length_le (by omega)] at he
        simp [he]
      · have h0 : ¬ l1 = l2 := fun e => hl (by rw [e])
        rw [decide_eq_false h0]
        simp
        omega
    rw [e]
    exact k wr ur

/-! ### ab -/
def abL : List UInt8 := [97, 98]
def abB : List ByteArray := cutS (ofL (blkAt (textL abL) 0))
def abD : DM := { DM.new 4 with blocks := [zeroB, zeroB, abB, zeroB] }
theorem textL_ab : textL abL = [1, 2, 97, 98] := by
  unfold textL plainL
  have : digL abL.length = [2] := by
    show digL 2 = [2]
    rw [digL_pos (by decide), show 2 / 256 = 0 from rfl, digL_zero]
    rfl
  rw [this]
  rfl
theorem ab_open0 : (DM.new 4).openL 2 2 0 = (0, some ⟨2, 2, [], 0⟩) := by
  unfold DM.openL
  rw [if_neg (by decide), if_neg (by decide)]
  have : ((DM.new 4).text (2 : Int).toNat (nblk (0 : Int).toNat)).take (0 : Int).toNat = [] := rfl
  rw [this, parseL_none takeT_nil]
  rfl
theorem ab_add : (⟨2, 2, [], 0⟩ : LM).add abL = (0, ⟨2, 2, textL abL, 0⟩) := by
  unfold LM.add
  rw [if_neg (by decide), if_neg (by rw [textL_ab]; decide)]
  rfl
theorem ab_write : (⟨2, 2, textL abL, 0⟩ : LM).write (DM.new 4) = (0, { DM.new 4 with waits := [(2, abB)] }) := by
  have hl : (textL abL).length = 4 := by rw [textL_ab]; rfl
  unfold LM.write
  simp only [hl]
  rw [if_pos (by decide), show (nblk 4 - 0 / 256) = 1 from rfl, show 0 / 256 = 0 from rfl]
  have hw : (DM.new 4).write 2 (ofL (blkAt (textL abL) 0)) = (0, { DM.new 4 with waits := [(2, abB)] }) := write_free rfl rfl (by decide) (by decide) (blkAt_size _ _)
  unfold DM.logWrite
  rw [show ((2 : Nat) : Int) + ((0 : Nat) : Int) = 2 from rfl, hw]
  rfl
theorem ab_flush : ({ DM.new 4 with waits := [(2, abB)] } : DM).flush = (0, abD) := flush_free rfl rfl
theorem ab_open4 : abD.openL 2 2 4 = (0, some ⟨2, 2, textL abL, 4⟩) := by
  unfold DM.openL
  rw [if_neg (by decide), if_neg (by decide)]
  have hr : abD.read 2 = (ofL (blkAt (textL abL) 0), 0) := by
    have : abD.read 2 = (joined abB, 0) := rfl
    rw [this]
    unfold abB
    rw [joined_cutS (blkAt_size _ _)]
  have ht : (abD.text (2 : Int).toNat (nblk (4 : Int).toNat)).take (4 : Int).toNat = textL abL := by
    show (([] : List UInt8) ++ (abD.read 2).1.data.toList).take 4 = _
    rw [hr]
    show (blkAt (textL abL) 0).take 4 = _
    unfold blkAt padL
    rw [textL_ab]
    rfl
  rw [ht]
  have hp : parseL (textL abL) = ([abL], []) := by
    have := parseL_recs (ss := [abL]) (by simp [abL])
    simpa [recsL] using this
  rw [hp]
  rfl
theorem ab_parse : (parseL (textL abL)).1 = [abL] := by
  have := parseL_recs (ss := [abL]) (by simp [abL])
  rw [show recsL [abL] = textL abL from by simp [recsL]] at this
  rw [this]

theorem strs_one {w : World} {g : Nat} {s : ByteArray} (h : Blk w g 9 [.string s]) : Strs w (.slice (some ⟨g, 0, none⟩) 1 1) [s] (· = g) := by
  refine ⟨some ⟨g, 0, none⟩, 1, rfl, by show 1 ≤ maxLen; decide, fun _ => ⟨g, 0, rfl, rfl, fun i x hx => ?_⟩⟩
  obtain ⟨rfl, rfl⟩ : i = 0 ∧ s = x := by
    cases i with
    | zero => simpa using hx
    | succ i => simp at hx
  refine ⟨[.string s], rfl, fun j u hu => ?_, rfl⟩
  have := (List.getElem?_eq_some_iff.1 hu).1
  obtain rfl : j = 0 := by simpa using this
  exact h.cell hu

/-- rectolaw29.ab -/
theorem ab_c (k : ∀ w', Ext w w' → K (.bool true) w') : mCall Try.prog 36 #[] w K := by
  refine ⟨ok36 ?_⟩
  unfold sh36
  refine new_c 4 (fun h => by omega) fun _ _ w1 dp fp d1 u1 y1 => ?_
  rw [show (DM.new (4 : Int).toNat) = DM.new 4 from rfl] at d1
  try simp only [push_cast, dptr, Option.isNone_some, bne_self_eq_false]
  refine open_c d1 2 2 0 (fun e he => by rw [ab_open0] at he; cases he) fun L he ok w2 q h2 u2 hq => ?_
  rw [ab_open0] at he
  obtain rfl : (⟨2, 2, [], 0⟩ : LM) = L := by injection he with _ he; injection he
  have hql := h2.lt
  have hfq : ∀ k, fp k → k < w1.heap.size := fun k hk => d1.lt hk
  try simp only [push_cast, dptr, Option.isNone_some, bne_self_eq_false]
  rw [show (⟨#[97, 98]⟩ : ByteArray) = ofL abL from rfl]
  refine add_c (by decide) h2 ok fun w3 h3 u3 => ?_
  have ok3 := LM.add_ok (s := abL) ok
  rw [ab_add] at h3 ok3 ⊢
  refine sealed_c h3 ?_
  have d3 := (d1.ext u2).stay u3 fun k hk e => by have := hfq k hk; omega
  refine lwrite_c h3 ok3 d3 (fun hf => by have := hfq _ hf; omega) (by decide) fun w4 a4 => ?_
  rw [ab_write] at a4 ⊢
  obtain ⟨fp4, d4, u4, y4⟩ := a4
  have hs2 := u2.size
  have hs3 := u3.size
  have hs4 := u4.size
  have h4 := h3.keep u4 fun hf => by have := hfq _ hf; omega
  refine isdisk_flush d4 fun w5 a5 => ?_
  rw [ab_flush] at a5 ⊢
  obtain ⟨fp5, d5, u5, y5⟩ := a5
  have hs5 := u5.size
  have n4 : ¬ fp4 q := fun hf => (y4 _ hf).elim (fun hf => by have := hfq _ hf; omega) fun h => by omega
  have n5 : ¬ fp5 q := fun hf => (y5 _ hf).elim n4 fun h => by omega
  have h5 := h4.keep u5 n4
  refine seal_c h5 fun w6 h6 u6 => ?_
  have hs6 := u6.size
  have d6 := d5.stay u6 fun k hk e => n5 (e ▸ hk)
  have e6 : Ext w w6 := by
    have hf : ∀ k, fp k → w.heap.size ≤ k := y1
    have a2 := u1.ext u2
    have hs1 := u1.size
    have a3 : Ext w w3 := a2.trans u3 (fun _ _ x => x) fun i hi e => by omega
    have a4 : Ext w w4 := a3.trans u4 (fun _ _ x => x) fun i hi hfi => by have := hf _ hfi; omega
    have a5 : Ext w w5 := a4.trans u5 (fun _ _ x => x) fun i hi hfi => (y4 _ hfi).elim (fun h => by have := hf _ h; omega) fun h => by omega
    exact a5.trans u6 (fun _ _ x => x) fun i hi e => by omega
  refine open_c d6 2 2 4 (fun e he => by rw [ab_open4] at he; cases he) fun L7 he7 ok7 w7 q7 h7 u7 hq7 => ?_
  rw [ab_open4] at he7
  obtain rfl : (⟨2, 2, textL abL, 4⟩ : LM) = L7 := by injection he7 with _ he7; injection he7
  have h6' := h6.keep u7 id
  have hl : (textL abL).length = 4 := by rw [textL_ab]; rfl
  try simp only [push_cast, beq_self_eq_true]
  refine bytes_c h6' ?_
  simp only [hl]
  try simp only [push_cast]
  refine mIf_eqI (fun _ => ?_) fun h => absurd rfl h
  refine sealed_c h6' ?_
  simp only [hl]
  try simp only [push_cast]
  refine mIf_eqI (fun _ => ?_) fun h => absurd rfl h
  refine room_c h6' ⟨by decide, by decide, by show (textL abL).length ≤ _; rw [hl]; decide, by show (textL abL).length ≤ (textL abL).length; exact Nat.le_refl _⟩ fun w8 u8 => ?_
  simp only [hl]
  try simp only [push_cast]
  refine mIf_eqI (fun _ => ?_) fun h => absurd rfl h
  refine records_c (b := textL abL) (by rw [hl]; decide) (h7.keep u8 id) fun v w9 hv u9 => ?_
  rw [ab_parse] at hv
  refine mN_new (str_new _ _) fun w10 h10 u10 s10 => ?_
  refine texts_c (hv.keep u10 fun _ _ => id) (strs_one h10) fun w11 u11 => ?_
  rw [show decide (([abL] : List (List UInt8)).map ofL = [ofL abL]) = true from by simp]
  exact k w11 (((((e6.ext u7).ext u8).ext u9).ext u10).ext u11)
end
end Go.Proofs.Ythgopkppmppdoaa
