/-
  Layer 29: what a step does.
-/
import Derived.Test.YthgopkppmppdoaaLog10
set_option linter.unusedVariables false
set_option linter.unusedSimpArgs false
set_option maxRecDepth 20000
namespace Go.Proofs.Ythgopkppmppdoaa
open Go Go.Proofs Go.Vc
open Go.RowKit (Below intOf)

theorem logWrite_waits {start : Nat} {b : List UInt8} : ∀ (n i : Nat) (D : DM), (D.logWrite start b i n).2.waits.length ≤ D.waits.length + n
  | 0, i, D => Nat.le_refl _
  | n + 1, i, D => by
    have hw := write_waits D ((start : Int) + i) (ofL (blkAt b i))
    unfold DM.logWrite
    split
    · omega
    · have := logWrite_waits (start := start) (b := b) n (i + 1) (D.write ((start : Int) + i) (ofL (blkAt b i))).2
      omega
theorem lwrite_waits {L : LM} (ok : L.Ok) (D : DM) : (L.write D).2.waits.length ≤ D.waits.length + 128 := by
  have h1 := ok.len
  have h2 := ok.n
  unfold LM.write
  split
  · have := logWrite_waits (start := L.start) (b := L.b) (nblk L.b.length - L.sealed / 256) (L.sealed / 256) D
    have h3 : nblk L.b.length ≤ 128 := by unfold nblk; omega
    omega
  · show D.waits.length ≤ _
    omega
theorem crash_waits (D : DM) (keep : List Int) : (D.crash keep).2.waits.length ≤ D.waits.length := by
  unfold DM.crash
  split
  · exact Nat.le_refl _
  · exact Nat.zero_le _
theorem start_waits (D : DM) : D.start.2.waits.length ≤ D.waits.length := by
  unfold DM.start
  split <;> exact Nat.le_refl _
theorem set_waits (D : DM) (a : Int) (c : Bool) (keep : List Int) : (D.set a c keep).2.waits.length ≤ D.waits.length := by
  unfold DM.set
  split
  · exact Nat.le_refl _
  · split <;> exact Nat.le_refl _

theorem box100 (s : Step29) (A : Option Addr) (n c : Nat) (w : World) : (Instr.box 100 (.agg (step29C s (.slice A n c)).toArray)).run Try.prog w =
    .ok (.pointer (some ⟨w.heap.size, 0, none⟩)) (w.alloc (.cells (step29C s (.slice A n c)).toArray 100 (0, 0))) := by kernel_rfl

section
variable {w : World} {K : Value → World → Prop} {N gp p q gl gr : Nat} {fp fq fr : Nat → Prop} {D : DM} {L : LM} {R : RM}

/-- A new log and a new one of the reference's. -/
theorem PairAt.renew {w w' : World} {gl' gr' : Nat} {L' : LM} {R' : RM} {fr' : Nat → Prop} (h : PairAt w N gp p q gl gr fp fq fr D D L R) (hN : N ≤ w.heap.size) (u : Upd w w' (· = gp))
    (hc : Blk w' gp 98 [dptr p, dptr q, dptr gl', dptr gr']) (hl : Blk w' gl' 159 (logC p L')) (hm : IsRL w' gr' fr' R') (h1 : N ≤ gl') (h2 : ∀ k, fr' k → N ≤ k) (h3 : ∀ k, fp k → ¬ fr' k) (h4 : ∀ k, fq k → ¬ fr' k) (h5 : ¬ fp gl') (h6 : ¬ fq gl') (h7 : ¬ fr' gp) (h8 : ¬ fr' gl') (h9 : gp ≠ gl') :
    PairAt w' N gp p q gl' gr' fp fq fr' D D L' R' :=
  { h with
    cell := hc
    d := h.d.stay u fun k hk e => h.pg (e ▸ hk)
    r := h.r.stay u (fun k hk e => h.qg (e ▸ hk)) fun k hk e => by have := h.ygp; omega
    l := hl
    m := hm
    yr := h2
    ygl := h1
    pr := h3
    qr := h4
    pl := h5
    ql := h6
    rg := h7
    rl := h8
    gne := h9 }

/-- What is done behind two opened logs. -/
def tail58 (a0 t7 t117 t118 t140 : Value) (w : World) (K : Value → World → Prop) : Prop :=
 mN Try.prog (uS (Instr.storeAt 62 t7 t140)) w fun _ w =>
 mN Try.prog (vS (Instr.fieldAt 62 t7 1)) w fun t142 w =>
 mN Try.prog (vS (Instr.loadAt 3 t142)) w fun t143 w =>
 mN Try.prog (vS (eqS .neq 3 false false t118 t143)) w fun t144 w =>
 mIf t144
 (K (.bool false) w)
 (mN Try.prog (vS (eqS .eql 57 false true t117 (.pointer none))) w fun t147 w =>
 mN Try.prog (vS (Instr.fieldAt 62 t7 0)) w fun t148 w =>
 mN Try.prog (vS (Instr.loadAt 60 t148)) w fun t149 w =>
 mN Try.prog (vS (eqS .eql 60 false true t149 (.pointer none))) w fun t150 w =>
 mN Try.prog (vS (eqS .neq 4 false false t147 t150)) w fun t151 w =>
 mIf t151
 (K (.bool false) w)
 (mN Try.prog (vS (eqS .neq 57 false true t117 (.pointer none))) w fun t154 w =>
 mIf t154
 (mN Try.prog (nilS a0) w fun t157 w =>
 mN Try.prog (vS (Instr.fieldAt 98 t157 2)) w fun t158 w =>
 mN Try.prog (uS (Instr.storeAt 57 t158 t117)) w fun _ w =>
 mN Try.prog (vS (Instr.fieldAt 62 t7 0)) w fun t160 w =>
 mN Try.prog (vS (Instr.loadAt 60 t160)) w fun t161 w =>
 mN Try.prog (nilS a0) w fun t162 w =>
 mN Try.prog (vS (Instr.fieldAt 98 t162 3)) w fun t163 w =>
 mN Try.prog (uS (Instr.storeAt 60 t163 t161)) w fun _ w =>
 K (.bool true) w)
 (K (.bool true) w)))

theorem tail58_fail {a0 : Value} {g : Nat} {e : Int} {cs : List Value} (hb : Blk w g 62 cs) (hl : cs.length = 2) (k : ∀ w', Upd w w' (· = g) → K (.bool true) w') :
    tail58 a0 (.pointer (some ⟨g, 0, none⟩)) (.pointer none) (.int .i64 e) (.agg #[.pointer none, .int .i64 e]) w K := by
  unfold tail58
  refine mN_storeN (vs := [.pointer none, .int .i64 e]) (by kernel_rfl) hb (by simp [hl]) (by intro v hv; simp at hv; rcases hv with rfl | rfl <;> rfl) fun w6 h6 u6 s6 => ?_
  rw [splice_all _ _ (by simp [hl])] at h6
  try simp only [push_cast]
  refine mN_v (r_loadB _ (by kernel_rfl) h6 rfl) ?_
  try simp only [push_cast]
  refine mIf_neI (fun h => absurd rfl h) fun _ => ?_
  try simp only [push_cast, Option.isNone_none]
  refine mN_v (r_loadB _ (by kernel_rfl) h6 rfl) ?_
  try simp only [push_cast, Option.isNone_none, bne_self_eq_false, Bool.not_true]
  exact k w6 u6
theorem tail58_ok {g gl' gr' : Nat} {cs : List Value} {x0 x1 x2 x3 : Value} (hb : Blk w g 62 cs) (hl : cs.length = 2) (hc : Blk w gp 98 [x0, x1, x2, x3]) (hne : g ≠ gp)
    (k : ∀ w', Upd w w' (fun i => i = g ∨ i = gp) → Blk w' gp 98 [x0, x1, dptr gl', dptr gr'] → K (.bool true) w') :
    tail58 (dptr gp) (.pointer (some ⟨g, 0, none⟩)) (dptr gl') (.int .i64 0) (.agg #[.pointer (some ⟨gr', 0, none⟩), .int .i64 0]) w K := by
  unfold tail58
  refine mN_storeN (vs := [.pointer (some ⟨gr', 0, none⟩), .int .i64 0]) (by kernel_rfl) hb (by simp [hl]) (by intro v hv; simp at hv; rcases hv with rfl | rfl <;> rfl) fun w6 h6 u6 s6 => ?_
  rw [splice_all _ _ (by simp [hl])] at h6
  have c6 := hc.keep u6 fun e => hne e.symm
  try simp only [push_cast, dptr]
  refine mN_v (r_loadB _ (by kernel_rfl) h6 rfl) ?_
  try simp only [push_cast]
  refine mIf_neI (fun h => absurd rfl h) fun _ => ?_
  try simp only [push_cast, Option.isNone_some]
  refine mN_v (r_loadB _ (by kernel_rfl) h6 rfl) ?_
  try simp only [push_cast, Option.isNone_some, bne_self_eq_false, Bool.not_false]
  refine mN_store1 (by kernel_rfl) c6 (by simp) rfl fun w7 h7 u7 s7 => ?_
  try simp only [push_cast]
  refine mN_v (r_loadB _ (by kernel_rfl) (h6.keep u7 hne) rfl) ?_
  try simp only [push_cast]
  refine mN_store1 (by kernel_rfl) h7 (by simp) rfl fun w8 h8 u8 s8 => ?_
  exact k w8 (((u6.mono fun _ _ e => .inl e).then (u7.mono fun _ _ e => .inr e)).then (u8.mono fun _ _ e => .inr e)) h8

theorem build65' (a b c : Int) (w : World) : (Instr.build 65 #[(0, .int .i64 a), (1, .int .i64 b), (2, .int .i64 c)]).run Try.prog w = .ok (.agg #[.int .i64 a, .int .i64 b, .int .i64 c]) w := by kernel_rfl
theorem build42' (a : Int) (A : Option Addr) (n c : Nat) (w : World) : (Instr.build 42 #[(0, .int .i64 a), (2, .slice A n c)]).run Try.prog w = .ok (.agg #[.int .i64 a, .bool false, .slice A n c]) w := by kernel_rfl
theorem build104' (a : Int) (A : Option Addr) (n c : Nat) (w : World) : (Instr.build 104 #[(0, .int .i64 a), (2, .slice A n c)]).run Try.prog w = .ok (.agg #[.int .i64 a, .bool false, .slice A n c]) w := by kernel_rfl
theorem zero104 (w : World) : (Instr.alloc 104 true (.tuple #[])).run Try.prog w = .ok (.pointer (some ⟨w.heap.size, 0, none⟩)) (w.alloc (.cells #[.int .i64 0, .bool false, .slice none 0 0] 104 (0, 0))) := by kernel_rfl

theorem does29_c (h : PairAt w N gp p q gl gr fp fq fr D D L R) (sm : Same L R) (hN : N ≤ w.heap.size) (hwn : D.waits.length ≤ 1000000) {s : Step29} {cs : Array Value} (hs : isStep29 (· < N) w cs.toList s) (hkl : s.keep.length ≤ 1000000) (hsl : s.s.length ≤ 70000)
    (k : ∀ w' gl' gr' fp' fq' fr' D' L' R', PairAt w' N gp p q gl' gr' fp' fq' fr' D' D' L' R' → Same L' R' → L'.start = L.start → L'.blocks = L.blocks → D'.waits.length ≤ D.waits.length + 128 → Upd w w' (N ≤ ·) → K (.bool true) w') :
    mCall Try.prog 58 #[dptr gp, .agg cs] w K := by
  obtain ⟨v, e, hA, hv⟩ := hs
  have e2 : cs = List.toArray _ := congrArg List.toArray e
  subst e2
  obtain ⟨A, c, rfl⟩ := Arr.slice hv
  have hlen := sm.ok.len
  have hbn := sm.ok.n
  have hsn := sm.ok.s
  have hrl : (recsL R.recs).length ≤ 256 * 128 := by rw [← sm.b]; omega
  refine ⟨ok58 ?_⟩
  unfold sh58
  refine mN_new (box100 s A _ c w) fun w1 b1 u1 s1 => ?_
  simp only [step29C] at b1
  have h1 := h.ext u1
  have hv1 := hv.keep u1 fun _ _ => id
  have hN1 : N ≤ w1.heap.size := by omega
  have hlg : gl < w.heap.size := h.l.lt
  have hlgp : gp < w.heap.size := h.cell.lt
  have nfp : ¬ fp w.heap.size := fun hf => by have := h.d.lt hf; omega
  have nfq : ¬ fq w.heap.size := fun hf => by have := h.r.lt hf; omega
  have nfr : ¬ fr w.heap.size := fun hf => by have := h.m.lt hf; omega
  have uN : ∀ {w2 : World}, Ext w w2 → Upd w w2 (N ≤ ·) := fun u => u.mono fun _ _ => False.elim
  try simp only [push_cast]
  refine mN_v (r_loadB _ (by kernel_rfl) b1 rfl) ?_
  try simp only [push_cast]
  refine mJ1_intro (fun x w' => x = .bool (decide (s.what = 0 ∨ s.what = 1 ∨ s.what = 2)) ∧ w' = w1) (fun J hJ => ?_) ?_
  · refine mIf_eqI (fun h0 => hJ _ _ ⟨by simp [h0], rfl⟩) fun h0 => ?_
    refine mIf_eqI (fun h1 => hJ _ _ ⟨by simp [h1], rfl⟩) fun h1 => ?_
    refine hJ _ _ ⟨?_, rfl⟩
    congr 1
    by_cases h2 : s.what = 2 <;> simp [h0, h1, h2]
  rintro x w' ⟨rfl, rfl⟩
  refine mIf_dec (fun hw => ?_) fun hw => ?_
  · unfold mDrew
    have h2 := h1.ext (Upd.drew w' _)
    have b2 : Blk w'.drew w.heap.size 100 _ := b1.drew
    have u2 : Ext w w'.drew := u1.drewn
    generalize w'.drew = w2 at h2 b2 u2
    try simp only [dptr, push_cast, Option.isNone_some]
    refine mR_v (r_loadB _ (by kernel_rfl) h2.cell rfl) ?_
    refine mR_v (r_loadB _ (by kernel_rfl) b2 rfl) ?_
    refine mR_v (r_loadB _ (by kernel_rfl) h2.cell rfl) ?_
    refine mR_v (r_loadB _ (by kernel_rfl) b2 rfl) ?_
    refine add_c (by omega) h2.l sm.ok fun w3 h3 u3 => ?_
    obtain ⟨h3', u3'⟩ := h2.log (Nat.le_trans hN u2.size) h3 u3
    have b3 := b2.keep u3 (by omega)
    refine ⟨rdN_v (r_loadB _ (by kernel_rfl) b3 rfl), rdN_v (r_loadB _ (by kernel_rfl) h3'.cell rfl), ?_⟩
    refine radd_c (by omega) h3'.m (by omega) (by rw [← sm.blocks]; exact hbn) fun w4 a4 => ?_
    obtain ⟨fr4, h4, u4⟩ := h3'.recs (Nat.le_trans hN (Nat.le_trans u2.size u3'.size)) a4
    obtain ⟨e1, e2⟩ := sm.add s.s
    rw [e1]
    simp only [push_cast, beq_self_eq_true]
    have hst : (L.add s.s).2.start = L.start ∧ (L.add s.s).2.blocks = L.blocks := by
      unfold LM.add
      split
      · exact ⟨rfl, rfl⟩
      · split <;> exact ⟨rfl, rfl⟩
    exact k w4 _ _ _ _ _ _ _ _ h4 e2 hst.1 hst.2 (by omega) (((uN u2).then u3').then u4)
  refine mIf_eqI (fun hw3 => ?_) fun hw3 => ?_
  · unfold mDrew
    have h2 := h1.ext (Upd.drew w' _)
    have u2 : Ext w w'.drew := u1.drewn
    generalize w'.drew = w2 at h2 u2
    try simp only [dptr, push_cast, Option.isNone_some]
    refine mR_v (r_loadB _ (by kernel_rfl) h2.cell rfl) ?_
    try simp only [push_cast]
    refine mR_v (r_loadB _ (by kernel_rfl) h2.cell rfl) ?_
    try simp only [push_cast]
    refine mR_v (r_loadB _ (by kernel_rfl) h2.cell rfl) ?_
    refine lwrite_c h2.l sm.ok h2.d h.pl (by omega) fun w3 a3 => ?_
    obtain ⟨fp3, h3, u3⟩ := h2.left (Nat.le_trans hN u2.size) a3
    refine ⟨rdN_v (r_loadB _ (by kernel_rfl) h3.cell rfl), rdN_v (r_loadB _ (by kernel_rfl) h3.cell rfl), ?_⟩
    refine rlwrite_c h3.m sm h3.r (Nat.le_trans hN (Nat.le_trans u2.size u3.size)) h3.yr (fun k hk hf => h3.qr k hf hk) (by omega) fun w4 a4 => ?_
    obtain ⟨fq4, h4, u4⟩ := h3.right (Nat.le_trans hN (Nat.le_trans u2.size u3.size)) a4
    simp only [push_cast, beq_self_eq_true]
    exact k w4 _ _ _ _ _ _ _ _ h4 sm rfl rfl (lwrite_waits sm.ok D) (((uN u2).then u3).then u4)
  refine mIf_eqI (fun hw4 => ?_) fun hw4 => ?_
  · unfold mDrew
    have h2 := h1.ext (Upd.drew w' _)
    have u2 : Ext w w'.drew := u1.drewn
    generalize w'.drew = w2 at h2 u2
    try simp only [dptr, push_cast, Option.isNone_some]
    refine mR_v (r_loadB _ (by kernel_rfl) h2.cell rfl) ?_
    try simp only [push_cast]
    refine mR_v (r_loadB _ (by kernel_rfl) h2.cell rfl) ?_
    refine isdisk_flush h2.d fun w3 a3 => ?_
    obtain ⟨fp3, h3, u3⟩ := h2.left (Nat.le_trans hN u2.size) a3
    refine ⟨rdN_v (r_loadB _ (by kernel_rfl) h3.cell rfl), ?_⟩
    refine isref_flush h3.r fun w4 a4 => ?_
    obtain ⟨fq4, h4, u4⟩ := h3.right (Nat.le_trans hN (Nat.le_trans u2.size u3.size)) a4
    simp only [push_cast, beq_self_eq_true]
    exact k w4 _ _ _ _ _ _ _ _ h4 sm rfl rfl (by have := flush_waits D; omega) (((uN u2).then u3).then u4)
  refine mIf_eqI (fun hw5 => ?_) fun hw5 => ?_
  · simp only [dptr, push_cast, Option.isNone_some]
    refine mN_v (r_loadB _ (by kernel_rfl) h1.cell rfl) ?_
    refine seal_c h1.l fun w2 hb2 u2 => ?_
    obtain ⟨h2, u2'⟩ := h1.log hN1 hb2 u2
    try unfold mDrew
    have h3 := h2.ext (Upd.drew w2 _)
    have u3 : Upd w w2.drew (N ≤ ·) := ((uN u1).then u2').drewn
    generalize w2.drew = w3 at h3 u3
    try simp only [dptr, push_cast, Option.isNone_some]
    refine mR_v (r_loadB _ (by kernel_rfl) h3.cell rfl) ?_
    try simp only [push_cast]
    refine mR_v (r_loadB _ (by kernel_rfl) h3.cell rfl) ?_
    try simp only [dptr, push_cast, Option.isNone_some]
    obtain ⟨vv, m1, m2, m3, m4, m5⟩ := h3.m
    obtain ⟨AA, cc, rfl⟩ := m2.slice
    refine mR_v (r_loadB _ (by kernel_rfl) m1 rfl) ?_
    try simp only [push_cast]
    refine mN_store1 (by kernel_rfl) m1 (by simp [rlC]) rfl fun w4 h4 u4 s4 => ?_
    have hne := rl_ne m2 m1
    obtain ⟨fr5, h5, u5⟩ := h3.recs (R' := { R with sealed := R.recs.length }) (Nat.le_trans hN u3.size) ⟨fr, ⟨_, h4, m2.keep u4 fun k hk e => hne (e ▸ hk), m3, m4, fun k hk => by have := m5 k hk; omega⟩, u4.mono fun i _ e => by rw [e]; exact m3, fun _ x => .inl x⟩
    exact k w4 _ _ _ _ _ _ _ _ h5 sm.seal rfl rfl (by omega) (u3.then u5)
  refine mIf_eqI (fun hw6 => ?_) fun hw6 => ?_
  · simp only [dptr, push_cast, Option.isNone_some]
    refine mN_v (r_loadB _ (by kernel_rfl) h1.cell rfl) ?_
    refine drop_c h1.l sm.ok fun w2 hb2 u2 => ?_
    obtain ⟨h2, u2'⟩ := h1.log hN1 hb2 u2
    refine mN_v (r_loadB _ (by kernel_rfl) h2.cell rfl) ?_
    have hrn := recsL_len R.recs
    refine rdrop_c h2.m sm.sle (by omega) fun w3 a3 => ?_
    obtain ⟨fr3, h3, u3⟩ := h2.recs (Nat.le_trans hN1 u2'.size) a3
    exact k w3 _ _ _ _ _ _ _ _ h3 sm.drop rfl rfl (by omega) (((uN u1).then u2').then u3)
  refine mIf_eqI (fun hw7 => ?_) fun hw7 => ?_
  · unfold mDrew
    have h2 := h1.ext (Upd.drew w' _)
    have b2 : Blk w'.drew w.heap.size 100 _ := b1.drew
    have u2 : Ext w w'.drew := u1.drewn
    generalize w'.drew = w2 at h2 b2 u2
    obtain ⟨vv, m1, _⟩ := h2.m
    try simp only [dptr, push_cast, Option.isNone_some]
    refine mR_v (r_loadB _ (by kernel_rfl) h2.cell rfl) ?_
    try simp only [push_cast]
    refine mR_v (r_loadB _ (by kernel_rfl) h2.cell rfl) ?_
    try simp only [dptr, push_cast, Option.isNone_some]
    refine mR_v (r_loadB _ (by kernel_rfl) m1 rfl) ?_
    try simp only [push_cast]
    refine mR_v (r_loadB _ (by kernel_rfl) h2.cell rfl) ?_
    try simp only [dptr, push_cast, Option.isNone_some]
    refine mR_v (r_loadB _ (by kernel_rfl) m1 rfl) ?_
    try simp only [push_cast]
    refine mR_v (r_loadB _ (by kernel_rfl) b2 rfl) ?_
    have hs2 := u2.size
    refine open_c h2.d R.start R.blocks s.n (fun e he hne w3 u3 => ?_) fun L' he ok w3 gl' hl3 u3 hgl => ?_
    · have h3 := h2.ext u3
      refine ⟨rdN_v (r_loadB _ (by kernel_rfl) h3.cell rfl), rdN_v (r_loadB _ (by kernel_rfl) h3.cell rfl), ?_⟩
      try simp only [push_cast]
      try unfold mDrew
      have h4 := h3.ext (Upd.drew w3 _)
      have b4 : Blk w3.drew w.heap.size 100 _ := (b2.keep u3 id).drew
      have u4 : Ext w w3.drew := (u2.ext u3).drewn
      generalize w3.drew = w4 at h4 b4 u4
      obtain ⟨v4, m4, _⟩ := h4.m
      try simp only [dptr, push_cast, Option.isNone_some]
      refine mR_v (r_loadB _ (by kernel_rfl) h4.cell rfl) ?_
      try simp only [push_cast]
      refine mR_v (r_loadB _ (by kernel_rfl) h4.cell rfl) ?_
      try simp only [dptr, push_cast, Option.isNone_some]
      refine mR_v (r_loadB _ (by kernel_rfl) m4 rfl) ?_
      try simp only [push_cast]
      refine mR_v (r_loadB _ (by kernel_rfl) h4.cell rfl) ?_
      try simp only [dptr, push_cast, Option.isNone_some]
      refine mR_v (r_loadB _ (by kernel_rfl) m4 rfl) ?_
      try simp only [push_cast]
      refine mR_v (r_loadB _ (by kernel_rfl) b4 rfl) ?_
      refine mP_v (build65' _ _ _) ?_
      have rds : ∀ {w5 : World}, Ext w4 w5 → rdN Try.prog (vS (Instr.loadAt 3 (.pointer (some ⟨w.heap.size, 1, none⟩)))) (.int .i64 s.n) w5 ∧ rdN Try.prog (vS (Instr.loadAt 3 (.pointer (some ⟨gr, 1, none⟩)))) (.int .i64 R.blocks) w5 ∧
          rdN Try.prog (vS (Instr.loadAt 60 (.pointer (some ⟨gp, 3, none⟩)))) (dptr gr) w5 ∧ rdN Try.prog (vS (Instr.loadAt 3 (.pointer (some ⟨gr, 0, none⟩)))) (.int .i64 R.start) w5 ∧ rdN Try.prog (vS (Instr.loadAt 33 (.pointer (some ⟨gp, 1, none⟩)))) (dptr q) w5 := fun u =>
        ⟨rdN_v (r_loadB _ (by kernel_rfl) (b4.keep u id) rfl), rdN_v (r_loadB _ (by kernel_rfl) (m4.keep u id) rfl), rdN_v (r_loadB _ (by kernel_rfl) (h4.cell.keep u id) rfl), rdN_v (r_loadB _ (by kernel_rfl) (m4.keep u id) rfl), rdN_v (r_loadB _ (by kernel_rfl) (h4.cell.keep u id) rfl)⟩
      have fin : ∀ {w5 w6 : World} {g : Nat}, Ext w4 w5 → w4.heap.size ≤ g → Upd w5 w6 (· = g) → K (.bool true) w6 := fun {w5 w6 g} u5 hg u6 => by
        have u56 : Ext w4 w6 := u5.trans u6 (fun _ _ x => x) fun i hi e => by omega
        exact k w6 _ _ _ _ _ _ _ _ (h4.ext u56) sm rfl rfl (by omega) (uN (u4.ext u56))
      refine ⟨?_, ?_⟩
      · refine ropen_c h4.r R.start R.blocks s.n (fun e' he' _ w5 u5 => ?_) fun L' he' => by rw [he] at he'; cases he'
        obtain rfl : e = e' := by rw [he] at he'; injection he'
        obtain ⟨r1, r2, r3, r4, r5⟩ := rds u5
        refine ⟨r1, r2, r3, r4, r3, ?_⟩
        refine mN_new (zero62 w5) fun w6 g6 u6 s6 => ?_
        obtain ⟨r1, r2, r3, r4, r5⟩ := rds (u5.ext u6)
        refine ⟨r1, r2, r3, r4, r3, ?_⟩
        have hT := tail58_fail (a0 := dptr gp) (e := e) (K := K) g6 rfl fun w7 u7 => fin (u5.ext u6) u5.size u7
        unfold tail58 at hT
        simp only [dptr, push_cast, Option.isNone_some] at hT
        simp only [dptr, push_cast, Option.isNone_some]
        exact hT
      · refine mN_new (zero62 w4) fun w6 g6 u6 s6 => ?_
        obtain ⟨r1, r2, r3, r4, r5⟩ := rds u6
        refine ⟨r1, r2, r3, r4, r3, r5, ?_⟩
        refine ropen_c (h4.ext u6).r R.start R.blocks s.n (fun e' he' _ w5 u5 => ?_) fun L' he' => by rw [he] at he'; cases he'
        obtain rfl : e = e' := by rw [he] at he'; injection he'
        obtain ⟨r1, r2, r3, r4, r5⟩ := rds (u6.ext u5)
        refine ⟨r1, r2, r3, r4, r3, ?_⟩
        have hT := tail58_fail (a0 := dptr gp) (e := e) (K := K) (g6.keep u5 id) rfl fun w7 u7 => fin (u6.ext u5) (Nat.le_refl _) u7
        unfold tail58 at hT
        simp only [dptr, push_cast, Option.isNone_some] at hT
        simp only [dptr, push_cast, Option.isNone_some]
        exact hT
    · have h3 := h2.ext u3
      refine ⟨rdN_v (r_loadB _ (by kernel_rfl) h3.cell rfl), rdN_v (r_loadB _ (by kernel_rfl) h3.cell rfl), ?_⟩
      try simp only [push_cast]
      try unfold mDrew
      have h4 := h3.ext (Upd.drew w3 _)
      have b4 : Blk w3.drew w.heap.size 100 _ := (b2.keep u3 id).drew
      have l4 : Blk w3.drew gl' 159 _ := hl3.drew
      have u4 : Ext w w3.drew := (u2.ext u3).drewn
      have hgl4 : gl' < w3.drew.heap.size := l4.lt
      generalize w3.drew = w4 at h4 b4 u4 l4 hgl4
      obtain ⟨v4, m4, _⟩ := h4.m
      try simp only [dptr, push_cast, Option.isNone_some]
      refine mR_v (r_loadB _ (by kernel_rfl) h4.cell rfl) ?_
      try simp only [push_cast]
      refine mR_v (r_loadB _ (by kernel_rfl) h4.cell rfl) ?_
      try simp only [dptr, push_cast, Option.isNone_some]
      refine mR_v (r_loadB _ (by kernel_rfl) m4 rfl) ?_
      try simp only [push_cast]
      refine mR_v (r_loadB _ (by kernel_rfl) h4.cell rfl) ?_
      try simp only [dptr, push_cast, Option.isNone_some]
      refine mR_v (r_loadB _ (by kernel_rfl) m4 rfl) ?_
      try simp only [push_cast]
      refine mR_v (r_loadB _ (by kernel_rfl) b4 rfl) ?_
      refine mP_v (build65' _ _ _) ?_
      have rds : ∀ {w5 : World}, Ext w4 w5 → rdN Try.prog (vS (Instr.loadAt 3 (.pointer (some ⟨w.heap.size, 1, none⟩)))) (.int .i64 s.n) w5 ∧ rdN Try.prog (vS (Instr.loadAt 3 (.pointer (some ⟨gr, 1, none⟩)))) (.int .i64 R.blocks) w5 ∧
          rdN Try.prog (vS (Instr.loadAt 60 (.pointer (some ⟨gp, 3, none⟩)))) (dptr gr) w5 ∧ rdN Try.prog (vS (Instr.loadAt 3 (.pointer (some ⟨gr, 0, none⟩)))) (.int .i64 R.start) w5 ∧ rdN Try.prog (vS (Instr.loadAt 33 (.pointer (some ⟨gp, 1, none⟩)))) (dptr q) w5 := fun u =>
        ⟨rdN_v (r_loadB _ (by kernel_rfl) (b4.keep u id) rfl), rdN_v (r_loadB _ (by kernel_rfl) (m4.keep u id) rfl), rdN_v (r_loadB _ (by kernel_rfl) (h4.cell.keep u id) rfl), rdN_v (r_loadB _ (by kernel_rfl) (m4.keep u id) rfl), rdN_v (r_loadB _ (by kernel_rfl) (h4.cell.keep u id) rfl)⟩
      have hlp : ∀ k, fp k → k < w.heap.size := fun k hk => h.d.lt hk
      have hlq : ∀ k, fq k → k < w.heap.size := fun k hk => h.r.lt hk
      obtain ⟨_, _, _, eS, eB, _⟩ := openL_some he
      have fin : ∀ {w5 w7 : World} {g gr' : Nat} {fr' : Nat → Prop}, L'.b.length = L'.sealed → Ext w4 w5 → w4.heap.size ≤ g → IsRL w5 gr' fr' L'.ref → (∀ k, fr' k → w4.heap.size ≤ k) → ¬ fr' g → Upd w5 w7 (fun i => i = g ∨ i = gp) → Blk w7 gp 98 [dptr p, dptr q, dptr gl', dptr gr'] → K (.bool true) w7 := fun {w5 w7 g gr' fr'} hbl u5 hg hm hf hfg u7 hc => by
        have h5 := h4.ext u5
        have hs5 := u5.size
        have hs4 := u4.size
        have hm7 := hm.keep u7 fun k hk e => by
          rcases e with rfl | rfl
          · exact hfg hk
          · have := hf _ hk
            omega
        have l7 := (l4.keep u5 id).keep u7 fun e => by omega
        have hp7 : PairAt w7 N gp p q gl' gr' fp fq fr' D D L' L'.ref :=
          { h5 with
            cell := hc
            d := h5.d.stay u7 fun k hk e => by
              rcases e with rfl | rfl
              · have := hlp _ hk; omega
              · exact h.pg hk
            r := h5.r.stay u7 (fun k hk e => by
              rcases e with rfl | rfl
              · have := hlq _ hk; omega
              · exact h.qg hk) fun k hk e => by have := h.ygp; omega
            l := l7
            m := hm7
            yr := fun k hk => by have := hf k hk; omega
            ygl := by omega
            pr := fun k hk hf' => by have := hlp k hk; have := hf k hf'; omega
            qr := fun k hk hf' => by have := hlq k hk; have := hf k hf'; omega
            pl := fun hk => by have := hlp _ hk; omega
            ql := fun hk => by have := hlq _ hk; omega
            rg := fun hk => by have := hf _ hk; omega
            rl := fun hk => by have := hf _ hk; omega
            gne := by omega }
        exact k w7 _ _ _ _ _ _ _ _ hp7 (Same.open_ he ok hbl) (by rw [eS, sm.start]; omega) (by rw [eB, sm.blocks]; omega) (by omega) ((uN (u4.ext u5)).then (u7.mono fun i _ e => by have := h.ygp; omega))
      refine ⟨?_, ?_⟩
      · refine ropen_c h4.r R.start R.blocks s.n (fun e' he' => by rw [he] at he'; cases he') fun L2 he' _ hbl w5 gr' hm u5 => ?_
        obtain rfl : L' = L2 := by
          rw [he] at he'
          injection he' with _ he'
          injection he'
        obtain ⟨r1, r2, r3, r4, r5⟩ := rds u5
        refine ⟨r1, r2, r3, r4, r3, ?_⟩
        refine mN_new (zero62 w5) fun w6 g6 u6 s6 => ?_
        obtain ⟨r1, r2, r3, r4, r5⟩ := rds (u5.ext u6)
        refine ⟨r1, r2, r3, r4, r3, ?_⟩
        have hlt := h4.cell.lt
        have hs5 := u5.size
        have hT := tail58_ok (gl' := gl') (gr' := gr') (K := K) g6 rfl ((h4.cell.keep u5 id).keep u6 id) (by omega) fun w7 u7 hc7 => fin hbl (u5.ext u6) hs5 (hm.keep u6 fun _ _ => id) (fun k hk => hk.1) (fun hk => by have := hk.2; omega) u7 hc7
        unfold tail58 at hT
        simp only [dptr, push_cast, Option.isNone_some] at hT
        simp only [dptr, push_cast, Option.isNone_some]
        exact hT
      · refine mN_new (zero62 w4) fun w6 g6 u6 s6 => ?_
        obtain ⟨r1, r2, r3, r4, r5⟩ := rds u6
        refine ⟨r1, r2, r3, r4, r3, r5, ?_⟩
        refine ropen_c (h4.ext u6).r R.start R.blocks s.n (fun e' he' => by rw [he] at he'; cases he') fun L2 he' _ hbl w5 gr' hm u5 => ?_
        obtain rfl : L' = L2 := by
          rw [he] at he'
          injection he' with _ he'
          injection he'
        obtain ⟨r1, r2, r3, r4, r5⟩ := rds (u6.ext u5)
        refine ⟨r1, r2, r3, r4, r3, ?_⟩
        have hlt := h4.cell.lt
        have hT := tail58_ok (gl' := gl') (gr' := gr') (K := K) (g6.keep u5 id) rfl ((h4.cell.keep u6 id).keep u5 id) (by omega) fun w7 u7 hc7 => fin hbl (u6.ext u5) (Nat.le_refl _) hm (fun k hk => by have := hk.1; omega) (fun hk => by have := hk.1; omega) u7 hc7
        unfold tail58 at hT
        simp only [dptr, push_cast, Option.isNone_some] at hT
        simp only [dptr, push_cast, Option.isNone_some]
        exact hT
  refine mIf_eqI (fun hw8 => ?_) fun hw8 => ?_
  · unfold mDrew
    have h2 := h1.ext (Upd.drew w' _)
    have b2 : Blk w'.drew w.heap.size 100 _ := b1.drew
    have u2 : Ext w w'.drew := u1.drewn
    have hv2 := hv.keep u2 fun _ _ => id
    generalize w'.drew = w2 at h2 b2 u2 hv2
    try simp only [dptr, push_cast, Option.isNone_some]
    refine mR_v (r_loadB _ (by kernel_rfl) h2.cell rfl) ?_
    refine mR_v (r_loadB _ (by kernel_rfl) b2 rfl) ?_
    try simp only [push_cast]
    refine mR_v (r_loadB _ (by kernel_rfl) h2.cell rfl) ?_
    refine mR_v (r_loadB _ (by kernel_rfl) b2 rfl) ?_
    refine isdisk_crash h2.d hv2 (fun k hk hf => by have := h.yp k hf; omega) fun w3 a3 => ?_
    have b3 := b2.keep a3.choose_spec.2.1 nfp
    obtain ⟨fp3, h3, u3⟩ := h2.left (Nat.le_trans hN u2.size) a3
    refine ⟨rdN_v (r_loadB _ (by kernel_rfl) b3 rfl), rdN_v (r_loadB _ (by kernel_rfl) h3.cell rfl), ?_⟩
    refine isref_crash h3.r (hv2.keep u3 fun k hk hf => by omega) fun w4 a4 => ?_
    obtain ⟨fq4, h4, u4⟩ := h3.right (Nat.le_trans hN (Nat.le_trans u2.size u3.size)) a4
    simp only [push_cast, beq_self_eq_true]
    refine mR_v (r_loadB _ (by kernel_rfl) h4.cell rfl) ?_
    try simp only [push_cast]
    refine mR_v (r_loadB _ (by kernel_rfl) h4.cell rfl) ?_
    have hN4 : N ≤ w4.heap.size := Nat.le_trans hN (Nat.le_trans u2.size (Nat.le_trans u3.size u4.size))
    refine isdisk_start h4.d fun w5 a5 => ?_
    obtain ⟨fp5, h5, u5⟩ := h4.left hN4 a5
    refine ⟨rdN_v (r_loadB _ (by kernel_rfl) h5.cell rfl), ?_⟩
    refine isref_start h5.r fun w6 a6 => ?_
    obtain ⟨fq6, h6, u6⟩ := h5.right (Nat.le_trans hN4 u5.size) a6
    simp only [push_cast, beq_self_eq_true]
    exact k w6 _ _ _ _ _ _ _ _ h6 sm rfl rfl (by have := start_waits (D.crash s.keep).2; have := crash_waits D s.keep; omega) (((((uN u2).then u3).then u4).then u5).then u6)
  refine mIf_eqI (fun hw9 => ?_) fun hw9 => ?_
  · refine mN_v (r_loadB _ (by kernel_rfl) b1 rfl) ?_
    try simp only [push_cast]
    refine mN_v (r_loadB _ (by kernel_rfl) b1 rfl) ?_
    refine mN_v (build104' _ _ _ _ _) ?_
    refine mN_new (zero104 w') fun w2 g2 u2 s2 => ?_
    refine mN_storeN (vs := [.int .i64 s.n, .bool false, .slice A s.keep.length c]) (by kernel_rfl) g2 (by simp) (by intro v hv; simp at hv; rcases hv with rfl | rfl | rfl <;> rfl) fun w3 g3 u3 s3 => ?_
    rw [splice_all _ _ (by simp)] at g3
    have u13 : Ext w' w3 := u2.trans u3 (fun _ _ x => x) fun i hi e => by omega
    try unfold mDrew
    have h4 := (h1.ext u13).ext (Upd.drew w3 _)
    have b4 : Blk w3.drew w.heap.size 100 _ := (b1.keep u13 id).drew
    have g4 := g3.drew
    have u4 : Ext w w3.drew := (u1.ext u13).drewn
    have hv4 := hv.keep u4 fun _ _ => id
    have hgs : w'.heap.size < w3.drew.heap.size := g4.lt
    generalize w3.drew = w4 at h4 b4 g4 u4 hv4 hgs
    try simp only [dptr, push_cast, Option.isNone_some]
    refine mR_v (r_loadB _ (by kernel_rfl) h4.cell rfl) ?_
    try simp only [push_cast]
    refine mR_v (r_loadB _ (by kernel_rfl) b4 rfl) ?_
    refine mR_v (r_loadB _ (by kernel_rfl) b4 rfl) ?_
    refine mP_v (build42' _ _ _ _) ?_
    try simp only [push_cast]
    refine mR_v (r_loadB _ (by kernel_rfl) h4.cell rfl) ?_
    refine mR_v (r_loadN w4 (T := 104) (n := 3) (by kernel_rfl) (by kernel_rfl) g4 (o := 0) (by simp)) ?_
    refine isdisk_set h4.d s.n hA false hv4 hkl fun w5 a5 => ?_
    have nf5 : ¬ fp w'.heap.size := fun hf => by have := h1.d.lt hf; omega
    have b5 := b4.keep a5.choose_spec.2.1 nfp
    have g5 := g4.keep a5.choose_spec.2.1 nf5
    obtain ⟨fp5, h5, u5⟩ := h4.left (Nat.le_trans hN u4.size) a5
    refine ⟨rdN_v (r_loadN w5 (T := 104) (n := 3) (by kernel_rfl) (by kernel_rfl) g5 (o := 0) (by simp)), rdN_v (r_loadB _ (by kernel_rfl) h5.cell rfl), rdN_v (r_loadB _ (by kernel_rfl) b5 rfl), rdN_v (r_loadB _ (by kernel_rfl) b5 rfl), ?_⟩
    refine isref_set h5.r s.n hA false (hv4.keep u5 fun k hk hf => by omega) (Nat.le_trans hN (Nat.le_trans u4.size u5.size)) fun w6 a6 => ?_
    have b6 := b5.keep a6.choose_spec.2.1 nfq
    obtain ⟨fq6, h6, u6⟩ := h5.right (Nat.le_trans hN (Nat.le_trans u4.size u5.size)) a6
    refine ⟨rdN_v (r_loadB _ (by kernel_rfl) b6 rfl), rdN_v (r_loadB _ (by kernel_rfl) b6 rfl), ?_⟩
    simp only [push_cast, beq_self_eq_true]
    exact k w6 _ _ _ _ _ _ _ _ h6 sm rfl rfl (by have := set_waits D s.n false s.keep; omega) (((uN u4).then u5).then u6)
  · exact k w' _ _ _ _ _ _ _ _ h1 sm rfl rfl (by omega) (uN u1)
end
end Go.Proofs.Ythgopkppmppdoaa
