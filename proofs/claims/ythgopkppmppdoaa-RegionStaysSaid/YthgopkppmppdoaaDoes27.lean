/-
  Layer 27's steps: a disk and the reference's, side by side.
-/
import Derived.Test.YthgopkppmppdoaaRefM
import Derived.Test.YthgopkppmppdoaaArg27
set_option linter.unusedVariables false
set_option linter.unusedSimpArgs false
set_option maxRecDepth 20000
namespace Go.Proofs.Ythgopkppmppdoaa
open Go Go.Proofs Go.Vc
open Go.RowKit (Below intOf)

def DM.step (D : DM) (s : Step27) : Int × DM :=
  if s.what = 0 ∨ s.what = 1 ∨ s.what = 2 then D.write s.at_ (fillS s.byte)
  else if s.what = 3 then D.flush
  else if s.what = 4 then D.crash s.keep
  else if s.what = 5 then D.start
  else if s.what = 6 then D.set s.at_ s.cut s.keep
  else (0, D)

/-- A disk and the reference's, in blocks of their own behind N. -/
structure Two (w : World) (N p q : Nat) (fp fq : Nat → Prop) (D E : DM) : Prop where
  d : IsDisk w p fp D
  r : IsRef w q fq N E
  y : ∀ k, fp k → N ≤ k
  ne : ∀ k, fp k → ¬ fq k
def TwoAfter (w : World) (N p q : Nat) (D E : DM) (w' : World) : Prop := ∃ fp fq, Two w' N p q fp fq D E ∧ Upd w w' (N ≤ ·)

section
variable {w : World} {K : Value → World → Prop} {p q N : Nat} {fp fq : Nat → Prop} {D E : DM}

theorem Two.ext {w' : World} (h : Two w N p q fp fq D E) (u : Ext w w') : Two w' N p q fp fq D E := ⟨h.d.ext u, h.r.ext u, h.y, h.ne⟩
theorem Two.left {w' : World} {D' : DM} (h : Two w N p q fp fq D E) (hN : N ≤ w.heap.size) (a : DAfter w p fp D' w') : ∃ fp', Two w' N p q fp' fq D' E ∧ Upd w w' (N ≤ ·) := by
  obtain ⟨fp', h1, u, y⟩ := a
  refine ⟨fp', ⟨h1, h.r.stay u (fun k hk hf => h.ne k hf hk) fun k hk hf => by have := h.y k hf; omega, fun k hk => ?_, fun k hk hq => ?_⟩, u.mono fun i _ hf => h.y i hf⟩
  · exact (y k hk).elim (h.y k) fun e => by omega
  · rcases y k hk with e | e
    · exact h.ne k e hq
    · have := h.r.lt hq
      omega
theorem Two.right {w' : World} {E' : DM} (h : Two w N p q fp fq D E) (hN : N ≤ w.heap.size) (a : RAfter w q fq N E' w') : ∃ fq', Two w' N p q fp fq' D E' ∧ Upd w w' (N ≤ ·) := by
  obtain ⟨fq', h1, u, y⟩ := a
  refine ⟨fq', ⟨h.d.stay u (fun k hk hf => h.ne k hk hf), h1, h.y, fun k hk hq => ?_⟩, u.mono fun i _ hf => h.r.young hf⟩
  · rcases y k hq with e | e
    · exact h.ne k hk e
    · have := h.d.lt hk
      omega

theorem build42 (a : Int) (b : Bool) (A : Option Addr) (n c : Nat) (w : World) : (Instr.build 42 #[(0, .int .i64 a), (1, .bool b), (2, .slice A n c)]).run Try.prog w = .ok (.agg #[.int .i64 a, .bool b, .slice A n c]) w := by kernel_rfl
theorem build104 (a : Int) (b : Bool) (A : Option Addr) (n c : Nat) (w : World) : (Instr.build 104 #[(0, .int .i64 a), (1, .bool b), (2, .slice A n c)]).run Try.prog w = .ok (.agg #[.int .i64 a, .bool b, .slice A n c]) w := by kernel_rfl

theorem does27_c (h : Two w N p q fp fq D E) (hN : N ≤ w.heap.size) (hwd : D.waits.length ≤ 1000000000) (hwe : E.waits.length ≤ 1000000000) {s : Step27} (hkl : s.keep.length ≤ 1000000) {cs : Array Value} (hs : isStep27 (· < N) w cs.toList s)
    (k : ∀ w', TwoAfter w N p q (D.step s).2 (E.step s).2 w' → K (.bool ((D.step s).1 == (E.step s).1)) w') : mCall Try.prog 25 #[dptr p, dptr q, .agg cs] w K := by
  obtain ⟨v, e, hA, hv⟩ := hs
  have e2 : cs = List.toArray _ := congrArg List.toArray e
  subst e2
  obtain ⟨what, at_, byte, cut, keep⟩ := s
  refine ⟨ok25 ?_⟩
  unfold sh25
  have hbox : (Instr.box 37 (.agg #[.int .i64 what, .int .i64 at_, .int .u8 byte.toNat, .bool cut, v])).run Try.prog w =
      .ok (.pointer (some ⟨w.heap.size, 0, none⟩)) (w.alloc (.cells #[.int .i64 what, .int .i64 at_, .int .u8 byte.toNat, .bool cut, v] 37 (0, 0))) := by kernel_rfl
  refine mN_new hbox fun w1 h1 u1 s1 => ?_
  have hT1 := h.ext u1
  have hv1 := hv.keep u1 fun _ _ => id
  have hN1 : N ≤ w1.heap.size := by omega
  have hb : ¬ N ≤ w.heap.size → False := fun h => h hN
  try simp only [push_cast]
  refine mN_v (r_loadB _ (by kernel_rfl) h1 rfl) ?_
  try simp only [push_cast]
  unfold DM.step at k
  dsimp only at k
  refine mJ1_intro (fun x w' => x = .bool (decide (what = 0 ∨ what = 1 ∨ what = 2)) ∧ w' = w1) (fun J hJ => ?_) ?_
  · refine mIf_eqI (fun h0 => hJ _ _ ⟨by simp [h0], rfl⟩) fun h0 => ?_
    refine mIf_eqI (fun h1 => hJ _ _ ⟨by simp [h1], rfl⟩) fun h1 => ?_
    refine hJ _ _ ⟨?_, rfl⟩
    congr 1
    by_cases h2 : what = 2 <;> simp [h0, h1, h2]
  rintro x w' ⟨rfl, rfl⟩
  refine mIf_dec (fun hw => ?_) fun hw => ?_
  · simp only [if_pos hw] at k
    unfold mDrew
    have hT2 := hT1.ext (Upd.drew w' _)
    have h2 : Blk w'.drew w.heap.size 37 _ := h1.drew
    have u2 : Ext w w'.drew := u1.drewn
    generalize w'.drew = w2 at hT2 h2 u2
    refine mR_v (r_loadB _ (by kernel_rfl) h2 rfl) ?_
    refine mR_v (r_loadB _ (by kernel_rfl) h2 rfl) ?_
    refine mR_v (r_loadB _ (by kernel_rfl) h2 rfl) ?_
    refine mR_v (r_loadB _ (by kernel_rfl) h2 rfl) ?_
    refine fill27_c byte fun w3 u3 => ?_
    have hT3 := hT2.ext u3
    have h3 := h2.keep u3 id
    have a3 : Ext w w3 := u2.ext u3
    refine ⟨rdN_v (r_loadB _ (by kernel_rfl) h3 rfl), rdN_v (r_loadB _ (by kernel_rfl) h3 rfl), rdN_v (r_loadB _ (by kernel_rfl) h3 rfl), ?_⟩
    refine isdisk_write hT3.d hwd at_ _ fun w4 a4 => ?_
    have h4 := h3.keep a4.choose_spec.2.1 fun hf => by have := h.d.lt (show fp w.heap.size from hf); omega
    obtain ⟨fp4, hT4, u4⟩ := hT3.left (Nat.le_trans hN a3.size) a4
    refine ⟨rdN_v (r_loadB _ (by kernel_rfl) h4 rfl), rdN_v (r_loadB _ (by kernel_rfl) h4 rfl), ?_⟩
    refine fill27_c byte fun w5 u5 => ?_
    have hT5 := hT4.ext u5
    have h5 := h4.keep u5 id
    refine ⟨rdN_v (r_loadB _ (by kernel_rfl) h5 rfl), ?_⟩
    refine isref_write hT5.r hwe (Nat.le_trans hN (Nat.le_trans a3.size (Nat.le_trans u4.size u5.size))) at_ _ fun w6 a6 => ?_
    obtain ⟨fq6, hT6, u6⟩ := hT5.right (Nat.le_trans hN (Nat.le_trans a3.size (Nat.le_trans u4.size u5.size))) a6
    try simp only [push_cast]
    exact k w6 ⟨fp4, fq6, hT6, (((a3.mono fun _ _ => False.elim).then u4).ext u5).then u6⟩
  simp only [if_neg hw] at k
  refine mIf_eqI (fun hw3 => ?_) fun hw3 => ?_
  · simp only [if_pos hw3] at k
    refine isdisk_flush hT1.d fun w2 a2 => ?_
    obtain ⟨fp2, hT2, u2⟩ := hT1.left hN1 a2
    refine isref_flush hT2.r fun w3 a3 => ?_
    obtain ⟨fq3, hT3, u3⟩ := hT2.right (Nat.le_trans hN1 u2.size) a3
    try simp only [push_cast]
    exact k w3 ⟨fp2, fq3, hT3, ((u1.mono fun _ _ => False.elim).then u2).then u3⟩
  simp only [if_neg hw3] at k
  refine mIf_eqI (fun hw4 => ?_) fun hw4 => ?_
  · simp only [if_pos hw4] at k
    unfold mDrew
    have hT2 := hT1.ext (Upd.drew w' _)
    have h2 : Blk w'.drew w.heap.size 37 _ := h1.drew
    have u2 : Ext w w'.drew := u1.drewn
    have hv2 := hv.keep u2 fun _ _ => id
    generalize w'.drew = w2 at hT2 h2 u2 hv2
    refine mR_v (r_loadB _ (by kernel_rfl) h2 rfl) ?_
    refine mR_v (r_loadB _ (by kernel_rfl) h2 rfl) ?_
    refine isdisk_crash hT2.d hv2 (fun k hk hf => by have := h.y k hf; omega) fun w3 a3 => ?_
    have h3 := h2.keep a3.choose_spec.2.1 fun hf => by have := h.d.lt (show fp w.heap.size from hf); omega
    obtain ⟨fp3, hT3, u3⟩ := hT2.left (Nat.le_trans hN u2.size) a3
    refine ⟨rdN_v (r_loadB _ (by kernel_rfl) h3 rfl), ?_⟩
    refine isref_crash hT3.r (hv2.keep u3 fun k hk hf => by omega) fun w4 a4 => ?_
    obtain ⟨fq4, hT4, u4⟩ := hT3.right (Nat.le_trans hN (Nat.le_trans u2.size u3.size)) a4
    try simp only [push_cast]
    exact k w4 ⟨fp3, fq4, hT4, ((u2.mono fun _ _ => False.elim).then u3).then u4⟩
  simp only [if_neg hw4] at k
  refine mIf_eqI (fun hw5 => ?_) fun hw5 => ?_
  · simp only [if_pos hw5] at k
    refine isdisk_start hT1.d fun w2 a2 => ?_
    obtain ⟨fp2, hT2, u2⟩ := hT1.left hN1 a2
    refine isref_start hT2.r fun w3 a3 => ?_
    obtain ⟨fq3, hT3, u3⟩ := hT2.right (Nat.le_trans hN1 u2.size) a3
    try simp only [push_cast]
    exact k w3 ⟨fp2, fq3, hT3, ((u1.mono fun _ _ => False.elim).then u2).then u3⟩
  simp only [if_neg hw5] at k
  refine mIf_eqI (fun hw6 => ?_) fun hw6 => ?_
  · simp only [if_pos hw6] at k
    unfold mDrew
    have hT2 := hT1.ext (Upd.drew w' _)
    have h2 : Blk w'.drew w.heap.size 37 _ := h1.drew
    have u2 : Ext w w'.drew := u1.drewn
    have hv2 := hv.keep u2 fun _ _ => id
    generalize w'.drew = w2 at hT2 h2 u2 hv2
    refine mR_v (r_loadB _ (by kernel_rfl) h2 rfl) ?_
    refine mR_v (r_loadB _ (by kernel_rfl) h2 rfl) ?_
    refine mR_v (r_loadB _ (by kernel_rfl) h2 rfl) ?_
    have hb1 : ∀ w, (Instr.build 42 #[(0, .int .i64 at_), (1, .bool cut), (2, v)]).run Try.prog w = .ok (.agg #[.int .i64 at_, .bool cut, v]) w := by
      obtain ⟨A, c, rfl⟩ := Arr.slice hv
      exact build42 at_ cut A _ c
    refine mP_v hb1 ?_
    refine mR_v (r_loadB _ (by kernel_rfl) h2 rfl) ?_
    refine mR_v (r_loadB _ (by kernel_rfl) h2 rfl) ?_
    refine mR_v (r_loadB _ (by kernel_rfl) h2 rfl) ?_
    have hb2 : ∀ w, (Instr.build 104 #[(0, .int .i64 at_), (1, .bool cut), (2, v)]).run Try.prog w = .ok (.agg #[.int .i64 at_, .bool cut, v]) w := by
      obtain ⟨A, c, rfl⟩ := Arr.slice hv
      exact build104 at_ cut A _ c
    refine mP_v hb2 ?_
    refine isdisk_set hT2.d at_ hA cut hv2 hkl fun w3 a3 => ?_
    have h3 := h2.keep a3.choose_spec.2.1 fun hf => by have := h.d.lt (show fp w.heap.size from hf); omega
    obtain ⟨fp3, hT3, u3⟩ := hT2.left (Nat.le_trans hN u2.size) a3
    refine ⟨rdN_v (r_loadB _ (by kernel_rfl) h3 rfl), rdN_v (r_loadB _ (by kernel_rfl) h3 rfl), rdN_v (r_loadB _ (by kernel_rfl) h3 rfl), rdN_v (r_loadB _ (by kernel_rfl) h3 rfl), rdN_v (r_loadB _ (by kernel_rfl) h3 rfl), rdN_v (r_loadB _ (by kernel_rfl) h3 rfl), ?_⟩
    refine isref_set hT3.r at_ hA cut (hv2.keep u3 fun k hk hf => by omega) (Nat.le_trans hN (Nat.le_trans u2.size u3.size)) fun w4 a4 => ?_
    have h4 := h3.keep a4.choose_spec.2.1 fun hf => by have := h.r.lt (show fq w.heap.size from hf); omega
    obtain ⟨fq4, hT4, u4⟩ := hT3.right (Nat.le_trans hN (Nat.le_trans u2.size u3.size)) a4
    refine ⟨rdN_v (r_loadB _ (by kernel_rfl) h4 rfl), rdN_v (r_loadB _ (by kernel_rfl) h4 rfl), rdN_v (r_loadB _ (by kernel_rfl) h4 rfl), rdN_v (r_loadB _ (by kernel_rfl) h4 rfl), rdN_v (r_loadB _ (by kernel_rfl) h4 rfl), rdN_v (r_loadB _ (by kernel_rfl) h4 rfl), ?_⟩
    try simp only [push_cast]
    exact k w4 ⟨fp3, fq4, hT4, ((u2.mono fun _ _ => False.elim).then u3).then u4⟩
  simp only [if_neg hw6] at k
  refine mIf_eqI (fun hw7 => ?_) fun hw7 => ?_
  · refine mN_v (r_loadB _ (by kernel_rfl) h1 rfl) ?_
    refine isdisk_write hT1.d hwd at_ _ fun w2 a2 => ?_
    have ew : D.write at_ ⟨#[120]⟩ = (1, D) := by
      unfold DM.write
      rw [if_pos (.inr (by decide))]
    rw [ew] at a2 ⊢
    obtain ⟨fp2, hT2, u2⟩ := hT1.left hN1 a2
    try simp only [push_cast, beq_self_eq_true]
    exact k w2 ⟨fp2, fq, hT2, (u1.mono fun _ _ => False.elim).then u2⟩
  · exact k w' ⟨fp, fq, hT1, u1.mono fun _ _ => False.elim⟩
end
end Go.Proofs.Ythgopkppmppdoaa
