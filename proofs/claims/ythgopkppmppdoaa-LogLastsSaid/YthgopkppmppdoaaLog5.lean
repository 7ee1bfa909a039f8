/-
  LogNil, LogRoom: the walks.
-/
import Derived.Test.YthgopkppmppdoaaLog4
set_option linter.unusedVariables false
set_option linter.unusedSimpArgs false
set_option maxRecDepth 20000
namespace Go.Proofs.Ythgopkppmppdoaa
open Go Go.Proofs Go.Vc
open Go.RowKit (Below intOf)

section
variable {w : World} {K : Value → World → Prop} {p dp : Nat} {fp : Nat → Prop} {D : DM} {L : LM}

theorem seal_nil (k : K (.tuple #[]) w) : mCall Try.prog 54 #[.pointer none] w K := by
  refine ⟨ok54 ?_⟩
  unfold sh54
  simp only [push_cast, Option.isNone_none, Bool.not_true]
  exact k
theorem drop_nil (k : K (.tuple #[]) w) : mCall Try.prog 55 #[.pointer none] w K := by
  refine ⟨ok55 ?_⟩
  unfold sh55
  simp only [push_cast, Option.isNone_none, Bool.not_true]
  exact k
theorem add_nil {s : Value} (k : K (.int .i64 7) w) : mCall Try.prog 46 #[.pointer none, s] w K := by
  refine ⟨ok46 ?_⟩
  unfold sh46
  simp only [push_cast, Option.isNone_none, Bool.not_true]
  exact k
theorem lwrite_nil (k : K (.int .i64 7) w) : mCall Try.prog 56 #[.pointer none] w K := by
  refine ⟨ok56 ?_⟩
  unfold sh56
  simp only [push_cast, Option.isNone_none, Bool.not_true]
  exact k
theorem bytes_nil (k : K (.int .i64 0) w) : mCall Try.prog 43 #[.pointer none] w K := by
  refine ⟨ok43 ?_⟩
  unfold sh43
  simp only [push_cast, Option.isNone_none, Bool.not_true]
  exact k
theorem sealed_nil (k : K (.int .i64 0) w) : mCall Try.prog 42 #[.pointer none] w K := by
  refine ⟨ok42 ?_⟩
  unfold sh42
  simp only [push_cast, Option.isNone_none, Bool.not_true]
  exact k
theorem room_nil (k : K (.int .i64 0) w) : mCall Try.prog 44 #[.pointer none] w K := by
  refine ⟨ok44 ?_⟩
  unfold sh44
  simp only [push_cast, Option.isNone_none, Bool.not_true]
  exact k
theorem open_nil (n : Int) (hn : 1 ≤ n) (s m : Int) (hs : 0 ≤ s) (k : K (.tuple #[.pointer none, .int .i64 1]) w) : mCall Try.prog 38 #[.pointer none, .int .i64 s, .int .i64 n, .int .i64 m] w K := by
  refine ⟨ok38 ?_⟩
  unfold sh38
  try simp only [push_cast]
  refine mIf_dec (fun h => by omega) fun _ => ?_
  refine mIf_dec (fun h => by omega) fun _ => ?_
  refine blocks_nil ?_
  try simp only [push_cast]
  refine mIf_dec (fun h => k) fun h => by omega

theorem records_nil (k : ∀ w', Ext w w' → K (.slice none 0 0) w') : mCall Try.prog 41 #[.pointer none] w K := by
  refine ⟨(callsIn_wide (n := 0)).1 (callsIn_of_wp_marks Try.func41 body41 trivial ?_)⟩
  have hL0 := has_arg1 (fn := Try.f41) (n := 20) (by kernel_rfl) (by decide) (.pointer none)
  refine wpIn_seq (wpIn_vc callsOk mixed (k := .z) hL0 ?_ (K := fun e L w' => e = .normal ∧ L = [(2, .slice none 0 0), (0, .pointer none)] ∧ w' = w) fun e a L w' hL hK => ?_)
  · rw [vc41a]
    exact ⟨rfl, rfl, rfl⟩
  obtain ⟨rfl, rfl, rfl⟩ := hK
  refine wpIn_seq (wpIn_vc callsOk mixed (k := .z) hL ?_ (K := fun e L w'' => e = .ret ∧ L = [(2, .slice none 0 0), (6, .bool true), (5, .pointer none), (2, .slice none 0 0), (0, .pointer none)] ∧ w'' = w') fun e a L w1 hL hK => ?_)
  · rw [vc41b]
    try simp only [push_cast, Option.isNone_none]
    exact ⟨by first | rfl | trivial, by first | rfl | trivial, by first | rfl | trivial⟩
  obtain ⟨rfl, rfl, rfl⟩ := hK
  show LeavesInM _ _ _ _ _ _ _ _ _
  rw [hL.defers]
  refine ⟨_, res_one (t := 2) (by kernel_rfl) _ _, ?_⟩
  have hg := hL.get 2 (by rfl)
  rw [hg]
  exact k _ (Upd.refl _ _)

theorem logNil_c {s : Value} (k : ∀ w', Ext w w' → K (.bool true) w') : mCall Try.prog 11 #[s] w K := by
  refine ⟨ok11 ?_⟩
  unfold sh11
  refine seal_nil ?_
  refine drop_nil ?_
  refine open_nil 1 (by decide) 0 0 (by decide) ?_
  try simp only [push_cast]
  refine mIf_eqI (fun _ => ?_) fun h => absurd rfl h
  refine add_nil ?_
  try simp only [push_cast]
  refine mIf_eqI (fun _ => ?_) fun h => absurd rfl h
  refine lwrite_nil ?_
  try simp only [push_cast]
  refine mIf_eqI (fun _ => ?_) fun h => absurd rfl h
  refine records_nil fun w1 u1 => ?_
  try simp only [push_cast]
  refine mIf_eqI (fun _ => ?_) fun h => absurd rfl h
  refine bytes_nil ?_
  try simp only [push_cast]
  refine mIf_eqI (fun _ => ?_) fun h => absurd rfl h
  refine sealed_nil ?_
  try simp only [push_cast]
  refine mIf_eqI (fun _ => ?_) fun h => absurd rfl h
  refine room_nil ?_
  try simp only [push_cast]
  refine mIf_eqI (fun _ => ?_) fun h => absurd rfl h
  exact ab_c fun w2 u2 => k w2 (u1.ext u2)

theorem new_openL {n : Nat} (hn : n ≤ 8) {s b : Int} (h0 : 0 ≤ s) (h1 : 1 ≤ b) (h2 : s + b ≤ n) : (DM.new n).openL s b 0 = (0, some ⟨s.toNat, b.toNat, [], 0⟩) := by
  have hl : (DM.new n).blocks.length = n := by simp [DM.new]
  unfold DM.openL
  rw [hl, if_neg (by omega), if_neg (by simp)]
  have : ((DM.new n).text s.toNat (nblk (0 : Int).toNat)).take (0 : Int).toNat = [] := rfl
  rw [this, parseL_none takeT_nil, if_pos rfl]
  rfl

/-- rectolaw29.LogRoom -/
theorem logRoom_c (blocks : Int) {v : Value} {l : List ByteArray} (hv : Strs w v l (· < w.heap.size)) (k : ∀ w', Ext w w' → K (.bool true) w') : mCall Try.prog 8 #[.int .i64 blocks, v] w K := by
  obtain ⟨A, c, rfl⟩ := Arr.slice hv
  refine ⟨ok8 ?_⟩
  unfold sh8
  refine new_c 8 (fun h => by omega) fun _ _ w1 dp fp d1 u1 y1 => ?_
  rw [show (DM.new (8 : Int).toNat) = DM.new 8 from rfl] at d1
  try simp only [push_cast, dptr, Option.isNone_some, bne_self_eq_false, beq_self_eq_true, Bool.not_false]
  have hab : mCall Try.prog 36 #[] w1 K := ab_c fun w2 u2 => k w2 (u1.ext u2)
  refine mIf_dec (fun _ => hab) fun hb1 => ?_
  refine mIf_dec (fun _ => hab) fun hb2 => ?_
  refine mIf_dec (fun _ => hab) fun hb3 => ?_
  clear hab
  have ho := new_openL (n := 8) (by decide) (s := 2) (b := blocks) (by decide) (by omega) (by omega)
  refine open_c d1 2 blocks 0 (fun e he => by rw [ho] at he; cases he) fun L he ok w2 q h2 u2 hq => ?_
  rw [ho] at he
  obtain rfl : (⟨2, blocks.toNat, [], 0⟩ : LM) = L := by injection he with _ he; injection he
  try simp only [push_cast, dptr, Option.isNone_some, bne_self_eq_false, beq_self_eq_true, Bool.not_false]
  have a2 : Ext w w2 := u1.ext u2
  have hqw : w.heap.size ≤ q := Nat.le_trans u1.size hq
  refine mLoop1.mk (fun x wr => ∃ (j : Nat) (b : List UInt8), x = .int .i64 j ∧ j ≤ l.length ∧ Ext w wr ∧ Blk wr q 159 (logC dp ⟨2, blocks.toNat, b, 0⟩) ∧ (⟨2, blocks.toNat, b, 0⟩ : LM).Ok) (fun x _ => l.length - (intOf x).toNat)
    ⟨0, [], rfl, Nat.zero_le _, a2, h2, ok⟩ ?_
  rintro x wr ⟨j, b, rfl, hj, ur, hb, okb⟩
  try simp only [push_cast]
  refine mIf_dec (fun hlt => ?_) fun hlt => ?_
  rotate_left
  · exact ab_c fun w3 u3 => k w3 (ur.ext u3)
  obtain ⟨s, hs⟩ : ∃ x, l[j]? = some x := ⟨_, List.getElem?_eq_getElem (by omega)⟩
  obtain ⟨pa, i1, r1, _⟩ := strs_ix (hv.keep ur fun _ _ => id) hs
  refine mN_v (i1 wr) ?_
  refine mN_v r1 ?_
  obtain ⟨s, rfl⟩ := ofL_of s
  try simp only [push_cast, ofL_size]
  refine mIf_dec (fun hlong => ?_) fun hlong => ?_
  · exact ab_c fun w3 u3 => k w3 (ur.ext u3)
  refine bytes_c hb ?_
  refine room_c hb okb fun w3 u3 => ?_
  have a3 := ur.ext u3
  have hb3 := hb.keep u3 id
  have hlen : b.length ≤ 256 * blocks.toNat := okb.len
  try simp only [push_cast, ofL_size]
  rw [i64w ((s.length : Int) + 1) (by omega) (by omega)]
  have hdl := digL_len6 (n := s.length) (by omega)
  refine size_c _ (by omega) ?_
  rw [Int.toNat_natCast]
  try simp only [push_cast]
  have ht := textL_len s
  rw [show (s.length : Int) + 1 + (digL s.length).length = ((textL s).length : Int) from by rw [ht]; omega]
  have ew1 : IntKind.wrap .i64 ((textL s).length : Int) = (textL s).length := i64w _ (by omega) (by omega)
  have ew2 : IntKind.wrap .i64 ((b.length : Int) + (textL s).length) = (b.length : Int) + (textL s).length := i64w _ (by omega) (by omega)
  have ew3 : IntKind.wrap .i64 (256 * blocks) = 256 * blocks := i64w _ (by omega) (by omega)
  have ew4 : IntKind.wrap .i64 ((b.length : Int) + ((256 * blocks.toNat - b.length : Nat) : Int)) = (b.length : Int) + ((256 * blocks.toNat - b.length : Nat) : Int) := i64w _ (by omega) (by omega)
  try simp only [ew1]
  refine add_c (by omega) hb3 okb fun w4 h4 u4 => ?_
  have ok4 := LM.add_ok (s := s) okb
  have a4 : Ext w w4 := a3.trans u4 (fun _ _ x => x) fun i hi e => by omega
  try simp only
  try simp only [push_cast, ew1, ew2, ew3, ew4]
  refine mIf_neI (fun h => absurd (by omega) h) fun _ => ?_
  have hnext : ∀ b', Blk w4 q 159 (logC dp ⟨2, blocks.toNat, b', 0⟩) → (⟨2, blocks.toNat, b', 0⟩ : LM).Ok → (∃ (j' : Nat) (b : List UInt8), Value.int IntKind.i64 ((j : Int) + 1) = .int .i64 j' ∧ j' ≤ l.length ∧ Ext w w4 ∧ Blk w4 q 159 (logC dp ⟨2, blocks.toNat, b, 0⟩) ∧ (⟨2, blocks.toNat, b, 0⟩ : LM).Ok) ∧
      l.length - (intOf (.int .i64 ((j : Int) + 1))).toNat < l.length - (intOf (.int .i64 (j : Int))).toNat := fun b' hb' okb' =>
    ⟨⟨j + 1, b', congrArg (Value.int .i64) (by omega), by omega, a4, hb', okb'⟩, by simp only [intOf]; omega⟩
  have hsm := Arr.small hv
  rw [i64w ((j : Int) + 1) (by omega) (by omega)]
  unfold LM.add at h4 ok4 ⊢
  simp only at h4 ok4 ⊢
  by_cases hlg : 65536 < s.length
  · rw [if_pos hlg] at h4 ok4 ⊢
    refine mIf_dec (fun _ => ?_) fun h => by omega
    try simp only [push_cast]
    refine mIf_neI (fun h => absurd rfl h) fun _ => ?_
    refine mIf_dec (fun h => by omega) fun _ => ?_
    refine mIf_eqI (fun h => absurd h (by decide)) fun _ => ?_
    refine mIf_neI (fun _ => ?_) fun h => absurd h (by decide)
    refine bytes_c h4 ?_
    try simp only [push_cast]
    refine mIf_neI (fun h => absurd rfl h) fun _ => ?_
    exact hnext b h4 okb
  rw [if_neg hlg] at h4 ok4 ⊢
  refine mIf_dec (fun h => by omega) fun _ => ?_
  refine mIf_dec (fun _ => ?_) fun h => by omega
  by_cases hf : 256 * blocks.toNat < b.length + (textL s).length
  · rw [if_pos hf] at h4 ok4 ⊢
    have e1 : ((5 : Int) == 0) = false := rfl
    have e2 : decide (((textL s).length : Int) ≤ ((256 * blocks.toNat - b.length : Nat) : Int)) = false := by simp; omega
    try simp only [push_cast, e1, e2, bne_self_eq_false]
    refine bytes_c h4 ?_
    try simp only [push_cast]
    refine mIf_neI (fun h => absurd rfl h) fun _ => ?_
    exact hnext b h4 okb
  · rw [if_neg hf] at h4 ok4 ⊢
    have e1 : ((0 : Int) == 0) = true := rfl
    have e2 : decide (((textL s).length : Int) ≤ ((256 * blocks.toNat - b.length : Nat) : Int)) = true := by simp; omega
    try simp only [push_cast, e1, e2, bne_self_eq_false]
    refine bytes_c h4 ?_
    try simp only [push_cast, ew2]
    refine mIf_neI (fun h => absurd (by rw [List.length_append]; omega) h) fun _ => ?_
    exact hnext _ h4 ok4
end
end Go.Proofs.Ythgopkppmppdoaa
