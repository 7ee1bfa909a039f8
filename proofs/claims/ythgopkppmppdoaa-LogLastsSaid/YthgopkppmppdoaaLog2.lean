/-
  Package log: what a log is in memory; the small functions.
-/
import Derived.Test.YthgopkppmppdoaaLog1
import Derived.Test.YthgopkppmppdoaaSlot4
set_option linter.unusedVariables false
set_option linter.unusedSimpArgs false
set_option maxRecDepth 20000
namespace Go.Proofs.Ythgopkppmppdoaa
open Go Go.Proofs Go.Vc
open Go.RowKit (Below intOf)

/-- A log: its row of blocks, its bytes, how many are sealed. -/
structure LM where
  start : Nat
  blocks : Nat
  b : List UInt8
  sealed : Nat

def logC (dp : Nat) (L : LM) : List Value := [dptr dp, .int .i64 L.start, .int .i64 L.blocks, .string (ofL L.b), .int .i64 L.sealed]
/-- What holds of a log. -/
structure LM.Ok (L : LM) : Prop where
  s : L.start ≤ 128
  n : L.blocks ≤ 128
  len : L.b.length ≤ 256 * L.blocks
  sl : L.sealed ≤ L.b.length

def nblk (n : Nat) : Nat := (n + 255) / 256
def blkAt (b : List UInt8) (i : Nat) : List UInt8 := padL ((b.drop (256 * i)).take 256)
theorem blkAt_len (b : List UInt8) (i : Nat) : (blkAt b i).length = 256 := padL_len (by simp; omega)
theorem blkAt_size (b : List UInt8) (i : Nat) : (ofL (blkAt b i)).size = 256 := blkAt_len b i

/-- n blocks of a log are written, from the i-th on. -/
def DM.logWrite (D : DM) (start : Nat) (b : List UInt8) : Nat → Nat → Int × DM
  | _, 0 => (0, D)
  | i, n + 1 => if (D.write ((start : Int) + i) (ofL (blkAt b i))).1 ≠ 0 then D.write ((start : Int) + i) (ofL (blkAt b i)) else (D.write ((start : Int) + i) (ofL (blkAt b i))).2.logWrite start b (i + 1) n
def LM.write (L : LM) (D : DM) : Int × DM :=
  if L.sealed < L.b.length then D.logWrite L.start L.b (L.sealed / 256) (nblk L.b.length - L.sealed / 256) else (0, D)

section
variable {w : World} {K : Value → World → Prop} {p dp : Nat} {fp : Nat → Prop} {D : DM} {L : LM}

theorem blocksOf_c (n : Nat) (hn : n ≤ 1000000000) (k : K (.int .i64 (nblk n)) w) : mCall Try.prog 92 #[.int .i64 n] w K := by
  refine ⟨ok92 ?_⟩
  unfold sh92
  try simp only [push_cast]
  rw [i64w ((n : Int) + 256) (by omega) (by omega), i64w _ (by omega) (by omega)]
  refine mN_v (r_quo _ _ _ _ _ (by decide)) ?_
  have e : ((n : Int) + 256 - 1).tdiv 256 = ((nblk n : Nat) : Int) := by
    rw [Int.tdiv_eq_ediv_of_nonneg (by omega)]
    unfold nblk
    omega
  rw [e, i64w _ (by omega) (by unfold nblk; omega)]
  exact k

theorem sealed_c (h : Blk w p 159 (logC dp L)) (k : K (.int .i64 L.sealed) w) : mCall Try.prog 42 #[dptr p] w K := by
  refine ⟨ok42 ?_⟩
  unfold sh42 dptr
  try simp only [push_cast, Option.isNone_some]
  refine mN_v (r_loadB _ (by kernel_rfl) h rfl) ?_
  exact k
theorem bytes_c (h : Blk w p 159 (logC dp L)) (k : K (.int .i64 L.b.length) w) : mCall Try.prog 43 #[dptr p] w K := by
  refine ⟨ok43 ?_⟩
  unfold sh43 dptr
  try simp only [push_cast, Option.isNone_some]
  refine mN_v (r_loadB _ (by kernel_rfl) h rfl) ?_
  try simp only [push_cast, ofL_size]
  exact k
theorem room_c (h : Blk w p 159 (logC dp L)) (o : L.Ok) (k : ∀ w', Ext w w' → K (.int .i64 ((256 * L.blocks - L.b.length : Nat) : Int)) w') : mCall Try.prog 44 #[dptr p] w K := by
  have hl := o.len
  have hn := o.n
  refine ⟨ok44 ?_⟩
  unfold sh44 dptr
  try simp only [push_cast, Option.isNone_some]
  unfold mDrew
  have u1 : Ext w w.drew := Upd.drew w _
  have h := h.keep u1 id
  generalize w.drew = w1 at u1 h
  try simp only [push_cast]
  refine mR_v (r_loadB _ (by kernel_rfl) h rfl) ?_
  try simp only [push_cast]
  rw [i64w _ (by omega) (by omega)]
  refine mR_v (r_loadB _ (by kernel_rfl) h rfl) ?_
  try simp only [push_cast, ofL_size]
  rw [i64w _ (by omega) (by omega)]
  rw [show (L.blocks : Int) * 256 - L.b.length = ((256 * L.blocks - L.b.length : Nat) : Int) from by omega]
  exact k w1 u1

/-- What Add answers, and the log behind it. -/
def LM.add (L : LM) (s : List UInt8) : Int × LM :=
  if 65536 < s.length then (2, L) else if 256 * L.blocks < L.b.length + (textL s).length then (5, L) else (0, { L with b := L.b ++ textL s })
theorem LM.add_ok {s : List UInt8} (o : L.Ok) : (L.add s).2.Ok := by
  unfold LM.add
  split
  · exact o
  · split
    · exact o
    · have := o.sl
      exact ⟨o.s, o.n, by simp; omega, by simp; omega⟩

theorem add_c {s : List UInt8} (hs : s.length ≤ 9223372036854775807) (h : Blk w p 159 (logC dp L)) (o : L.Ok) (k : ∀ w', Blk w' p 159 (logC dp (L.add s).2) → Upd w w' (· = p) → K (.int .i64 (L.add s).1) w') :
    mCall Try.prog 46 #[dptr p, .string (ofL s)] w K := by
  have hl := o.len
  have hn := o.n
  unfold LM.add at k
  refine ⟨ok46 ?_⟩
  unfold sh46
  try simp only [push_cast, dptr, Option.isNone_some]
  refine qtext_c hs (fun hlong w1 u1 => ?_) fun hlong w1 u1 => ?_
  · rw [if_pos hlong] at k
    try simp only [push_cast]
    refine mIf_neI (fun _ => ?_) fun h => absurd h (by decide)
    exact k w1 (h.keep u1 id) (u1.mono fun _ _ => False.elim)
  rw [if_neg (by omega)] at k
  try simp only [push_cast, bne_self_eq_false, ofL_size]
  refine room_c (h.keep u1 id) o fun w2 u2 => ?_
  have a2 : Ext w w2 := u1.ext u2
  have h2 := h.keep a2 id
  have ht : (textL s).length ≤ 70000 := by
    rw [textL_len]
    have := digL_len6 (n := s.length) (by omega)
    omega
  try simp only [push_cast]
  refine mIf_dec (fun hlt => ?_) fun hlt => ?_
  · rw [if_pos (by omega)] at k
    exact k w2 h2 (a2.mono fun _ _ => False.elim)
  rw [if_neg (by omega)] at k
  refine mN_v (r_loadB _ (by kernel_rfl) h2 rfl) ?_
  refine mN_v (r_addS _ _ _ _ (by rw [ofL_size, ofL_size]; omega)) ?_
  rw [ofL_append]
  try simp only [push_cast]
  refine mN_store1 (by kernel_rfl) h2 (by simp [logC]) rfl fun w3 h3 u3 s3 => ?_
  exact k w3 h3 (a2.trans u3 (fun _ _ x => x.elim) fun _ _ e => e)

theorem seal_c (h : Blk w p 159 (logC dp L)) (k : ∀ w', Blk w' p 159 (logC dp { L with sealed := L.b.length }) → Upd w w' (· = p) → K (.tuple #[]) w') : mCall Try.prog 54 #[dptr p] w K := by
  refine ⟨ok54 ?_⟩
  unfold sh54
  try simp only [push_cast, dptr, Option.isNone_some, Bool.not_false]
  refine mN_v (r_loadB _ (by kernel_rfl) h rfl) ?_
  try simp only [push_cast, ofL_size]
  refine mN_store1 (by kernel_rfl) h (by simp [logC]) rfl fun w3 h3 u3 s3 => ?_
  exact k w3 h3 u3

theorem drop_c (h : Blk w p 159 (logC dp L)) (o : L.Ok) (k : ∀ w', Blk w' p 159 (logC dp { L with b := L.b.take L.sealed }) → Upd w w' (· = p) → K (.tuple #[]) w') : mCall Try.prog 55 #[dptr p] w K := by
  have hl := o.len
  have hn := o.n
  have hse := o.sl
  refine ⟨ok55 ?_⟩
  unfold sh55
  try simp only [push_cast, dptr, Option.isNone_some, Bool.not_false]
  unfold mDrew
  have u1 : Ext w w.drew := Upd.drew w _
  have h := h.keep u1 id
  generalize w.drew = w1 at u1 h
  try simp only [push_cast]
  refine mR_v (r_loadB _ (by kernel_rfl) h rfl) ?_
  try simp only [push_cast]
  refine mR_v (r_loadB _ (by kernel_rfl) h rfl) ?_
  refine mP_v (fun w => r_sliceSh w Try.underlying9 _ _ (by omega) (by rw [ofL_size]; omega)) ?_
  rw [ofL_extract, List.drop_zero, Int.toNat_natCast, Nat.sub_zero]
  try simp only [push_cast]
  refine mN_store1 (by kernel_rfl) h (by simp [logC]) rfl fun w3 h3 u3 s3 => ?_
  exact k w3 h3 (u1.trans u3 (fun _ _ x => x.elim) fun _ _ e => e)

theorem p_min2 (t : TypeId) (c : Array Bool) (ts : Array TypeId) (k k' : IntKind) (x y : Int) (K : Value → Prop) : mP Try.prog (builtin .min ts t c #[.int k x, .int k' y]) K = K (.int k (if y < x then y else x)) :=
  mP_eq fun w => by simp [builtin, run_min_int2]

/-- (*log.Log).Write -/
theorem lwrite_c (h : Blk w p 159 (logC dp L)) (o : L.Ok) (hd : IsDisk w dp fp D) (hne : ¬ fp p) (hwn : D.waits.length ≤ 100000000)
    (k : ∀ w', DAfter w dp fp (L.write D).2 w' → K (.int .i64 (L.write D).1) w') : mCall Try.prog 56 #[dptr p] w K := by
  have hl := o.len
  have hn := o.n
  have hse := o.sl
  have hst := o.s
  refine ⟨ok56 ?_⟩
  unfold sh56
  try simp only [push_cast, dptr, Option.isNone_some]
  refine mN_v (r_loadB _ (by kernel_rfl) h rfl) ?_
  refine mN_v (r_quo _ _ _ _ _ (by decide)) ?_
  rw [show (L.sealed : Int).tdiv 256 = ((L.sealed / 256 : Nat) : Int) from by rw [Int.tdiv_eq_ediv_of_nonneg (by omega)]; omega, i64w _ (by omega) (by omega)]
  have hnb : nblk L.b.length ≤ 128 := by unfold nblk; omega
  have hlt : ∀ k, fp k → k < w.heap.size := fun k hk => hd.lt hk
  refine mLoop1.mk (fun x wr => ∃ (i n : Nat) (D' : DM), x = .int .i64 i ∧ i + n = nblk L.b.length ∧ DAfter w dp fp D' wr ∧ D'.waits.length ≤ D.waits.length + i ∧ (L.sealed < L.b.length → D'.logWrite L.start L.b i n = L.write D) ∧ (¬ L.sealed < L.b.length → L.write D = (0, D')))
    (fun x _ => 200 - (intOf x).toNat) ?_ ?_
  · refine ⟨L.sealed / 256, nblk L.b.length - L.sealed / 256, D, rfl, by unfold nblk; omega, hd.after (Upd.refl _ _), by omega, fun h => by rw [LM.write, if_pos h], fun h => by rw [LM.write, if_neg h]⟩
  rintro x wr ⟨i, n, D', rfl, hin, ⟨fp', hd', u', y'⟩, hwl, hr, hr0⟩
  have hne' : ¬ fp' p := fun hf => (y' p hf).elim hne fun hx => by have := h.lt; omega
  have h' := h.keep u' hne
  unfold mDrew
  have u1 : Ext wr wr.drew := Upd.drew wr _
  have h1 := h'.keep u1 id
  have hd1 := hd'.ext u1
  generalize wr.drew = w1 at u1 h1 hd1
  try simp only [push_cast]
  refine mR_v (r_loadB _ (by kernel_rfl) h1 rfl) ?_
  try simp only [push_cast, ofL_size]
  refine blocksOf_c _ (by omega) ?_
  refine ⟨rdN_v (r_loadB _ (by kernel_rfl) h1 rfl), ?_⟩
  try simp only [push_cast]
  have hfin : ∀ w', Ext wr w' → (L.write D = (0, D')) → K (.int .i64 0) w' := fun w' u e => by
    rw [e] at k
    exact k w' ⟨fp', hd'.ext u, u'.ext u, y'⟩
  refine mIf_dec (fun hlt1 => ?_) fun hlt1 => ?_
  rotate_left
  · refine hfin w1 u1 ?_
    obtain rfl : n = 0 := by omega
    rcases Decidable.em (L.sealed < L.b.length) with h | h
    · rw [← hr h]; rfl
    · exact hr0 h
  try simp only [push_cast]
  refine mR_v (r_loadB _ (by kernel_rfl) h1 rfl) ?_
  try simp only [push_cast]
  refine mR_v (r_loadB _ (by kernel_rfl) h1 rfl) ?_
  try simp only [push_cast, ofL_size]
  refine mIf_dec (fun hlt2 => ?_) fun hlt2 => ?_
  rotate_left
  · exact hfin w1 u1 (hr0 (by omega))
  have hr := hr (by omega)
  obtain ⟨n, rfl⟩ : ∃ m, n = m + 1 := ⟨n - 1, by omega⟩
  have u2 : Ext w1 w1.drew := Upd.drew w1 _
  have h2 := h1.keep u2 id
  have hd2 := hd1.ext u2
  generalize w1.drew = w2 at u2 h2 hd2
  have hib : 256 * i < L.b.length := by unfold nblk at hin; omega
  try simp only [push_cast]
  refine mR_v (r_loadB _ (by kernel_rfl) h2 rfl) ?_
  rw [i64w ((i : Int) * 256) (by omega) (by omega)]
  try simp only [push_cast]
  refine mR_v (r_loadB _ (by kernel_rfl) h2 rfl) ?_
  try simp only [push_cast, ofL_size]
  rw [i64w ((i : Int) + 1) (by omega) (by omega), i64w (((i : Int) + 1) * 256) (by omega) (by omega)]
  rw [p_min2]
  have hmin : (if ((i : Int) + 1) * 256 < L.b.length then ((i : Int) + 1) * 256 else (L.b.length : Int)) = ((min (256 * i + 256) L.b.length : Nat) : Int) := by
    split <;> omega
  rw [hmin]
  refine mP_v (fun w => r_sliceS w Try.underlying9 _ _ _ (by omega) (by omega) (by rw [ofL_size]; omega)) ?_
  have u3 : Ext w2 w2.drew := Upd.drew w2 _
  have h3 := h2.keep u3 id
  have hd3 := hd2.ext u3
  generalize w2.drew = w3 at u3 h3 hd3
  have hcut : (ofL L.b).extract ((i : Int) * 256).toNat ((min (256 * i + 256) L.b.length : Nat) : Int).toNat = ofL ((L.b.drop (256 * i)).take 256) := by
    rw [ofL_extract]
    congr 1
    rw [show ((i : Int) * 256).toNat = 256 * i from by omega, Int.toNat_natCast]
    rcases Nat.le_total (256 * i + 256) L.b.length with hx | hx
    · rw [Nat.min_eq_left hx]
      congr 1
      omega
    · rw [Nat.min_eq_right hx, List.take_of_length_le (by simp), List.take_of_length_le (by simp; omega)]
  rw [hcut]
  try simp only [push_cast]
  refine mR_v (r_loadB _ (by kernel_rfl) h3 rfl) ?_
  try simp only [push_cast]
  refine mR_v (r_loadB _ (by kernel_rfl) h3 rfl) ?_
  try simp only [push_cast, ofL_size]
  have hcl : ((L.b.drop (256 * i)).take 256).length ≤ 256 := by simp; omega
  generalize hc : (L.b.drop (256 * i)).take 256 = c at hcl ⊢
  rw [i64w ((L.start : Int) + i) (by omega) (by omega), i64w _ (by omega) (by omega), show (256 : Int) - c.length = ((256 - c.length : Nat) : Int) from by omega]
  have hrep := Try.strings_Repeat ⟨#[0]⟩ (256 - c.length) w3 (by omega) (by show 1 * _ ≤ _; omega)
  refine mCall_kit hrep fun w4 hb4 => ?_
  have e : (⟨(Lib.repeatL (⟨#[0]⟩ : ByteArray).data.toList (256 - c.length)).toArray⟩ : ByteArray) = ofL (List.replicate (256 - c.length) 0) := repeat_zero' _
  rw [e]
  have u4 := ext_of_below hb4
  have h4 := h3.keep u4 id
  have hd4 := hd3.ext u4
  refine ⟨rdN_v (r_loadB _ (by kernel_rfl) h4 rfl), rdN_v (r_loadB _ (by kernel_rfl) h4 rfl), ?_⟩
  refine mP_v (fun w => r_addS _ _ _ _ (by rw [ofL_size, ofL_size]; simp; omega)) ?_
  rw [ofL_append]
  have ebl : c ++ List.replicate (256 - c.length) 0 = blkAt L.b i := by rw [blkAt, hc]; rfl
  rw [ebl]
  have a4 : Ext wr w4 := ((u1.ext u2).ext u3).ext u4
  refine isdisk_write hd4 (by omega) _ _ fun w5 d5 => ?_
  have d5 : DAfter w dp fp (D'.write ((L.start : Int) + i) (ofL (blkAt L.b i))).2 w5 := DAfter.then u' y' (d5.pre (fun k hk => hd'.lt hk) a4)
  have hww := write_waits D' ((L.start : Int) + i) (ofL (blkAt L.b i))
  refine ⟨rdN_v (r_loadB _ (by kernel_rfl) (h.keep d5.choose_spec.2.1 hne) rfl), ?_⟩
  try simp only [push_cast]
  unfold DM.logWrite at hr
  refine mIf_neI (fun he => ?_) fun he => ?_
  · rw [if_pos he] at hr
    rw [← hr] at k
    exact k w5 d5
  rw [if_neg (by simp [he])] at hr
  refine ⟨⟨i + 1, n, _, congrArg (Value.int .i64) (by omega), by omega, d5, by omega, fun _ => hr, fun h => absurd (by omega) h⟩, ?_⟩
  simp only [intOf]
  omega
end
end Go.Proofs.Ythgopkppmppdoaa
