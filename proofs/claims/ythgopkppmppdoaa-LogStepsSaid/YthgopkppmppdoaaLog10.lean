/-
  Layer 29's steps: arguments, and a log and the reference's, each with its disk.
-/
import Derived.Test.YthgopkppmppdoaaLogR
import Derived.Test.YthgopkppmppdoaaDoes28
import Derived.Test.YthgopkppmppdoaaSlotSteps
set_option linter.unusedVariables false
set_option linter.unusedSimpArgs false
set_option maxRecDepth 20000
namespace Go.Proofs.Ythgopkppmppdoaa
open Go Go.Proofs Go.Vc
open Go.RowKit (Below intOf)

theorem fa98_0 : isFieldAt Try.prog 98 0 0 = true := by kernel_rfl
theorem n_fa98_0 (b o : Nat) (w : World) (K : Value → World → Prop) : mN Try.prog (vS (Instr.fieldAt 98 (.pointer (some ⟨b, o, none⟩)) 0)) w K = K (.pointer (some ⟨b, o, none⟩)) w := mN_eq (vS_run (r_fieldAt w fa98_0 b o))
theorem p_fa98_0 (b o : Nat) (K : Value → Prop) : mP Try.prog (vS (Instr.fieldAt 98 (.pointer (some ⟨b, o, none⟩)) 0)) K = K (.pointer (some ⟨b, o, none⟩)) := mP_eq (fun w => vS_run (r_fieldAt w fa98_0 b o))
theorem fa98_1 : isFieldAt Try.prog 98 1 1 = true := by kernel_rfl
theorem n_fa98_1 (b o : Nat) (w : World) (K : Value → World → Prop) : mN Try.prog (vS (Instr.fieldAt 98 (.pointer (some ⟨b, o, none⟩)) 1)) w K = K (.pointer (some ⟨b, o + 1, none⟩)) w := mN_eq (vS_run (r_fieldAt w fa98_1 b o))
theorem p_fa98_1 (b o : Nat) (K : Value → Prop) : mP Try.prog (vS (Instr.fieldAt 98 (.pointer (some ⟨b, o, none⟩)) 1)) K = K (.pointer (some ⟨b, o + 1, none⟩)) := mP_eq (fun w => vS_run (r_fieldAt w fa98_1 b o))
theorem fa100_0 : isFieldAt Try.prog 100 0 0 = true := by kernel_rfl
theorem n_fa100_0 (b o : Nat) (w : World) (K : Value → World → Prop) : mN Try.prog (vS (Instr.fieldAt 100 (.pointer (some ⟨b, o, none⟩)) 0)) w K = K (.pointer (some ⟨b, o, none⟩)) w := mN_eq (vS_run (r_fieldAt w fa100_0 b o))
theorem p_fa100_0 (b o : Nat) (K : Value → Prop) : mP Try.prog (vS (Instr.fieldAt 100 (.pointer (some ⟨b, o, none⟩)) 0)) K = K (.pointer (some ⟨b, o, none⟩)) := mP_eq (fun w => vS_run (r_fieldAt w fa100_0 b o))
theorem fa100_1 : isFieldAt Try.prog 100 1 1 = true := by kernel_rfl
theorem n_fa100_1 (b o : Nat) (w : World) (K : Value → World → Prop) : mN Try.prog (vS (Instr.fieldAt 100 (.pointer (some ⟨b, o, none⟩)) 1)) w K = K (.pointer (some ⟨b, o + 1, none⟩)) w := mN_eq (vS_run (r_fieldAt w fa100_1 b o))
theorem p_fa100_1 (b o : Nat) (K : Value → Prop) : mP Try.prog (vS (Instr.fieldAt 100 (.pointer (some ⟨b, o, none⟩)) 1)) K = K (.pointer (some ⟨b, o + 1, none⟩)) := mP_eq (fun w => vS_run (r_fieldAt w fa100_1 b o))
attribute [push_cast] n_fa98_0 p_fa98_0 n_fa98_1 p_fa98_1 n_fa100_0 p_fa100_0 n_fa100_1 p_fa100_1

structure Step29 where
  what : Int
  n : Int
  s : List UInt8
  keep : List Int
def step29C (s : Step29) (v : Value) : List Value := [.int .i64 s.what, .int .i64 s.n, .string (ofL s.s), v]
def isStep29 (fp : Nat → Prop) (w : World) (cs : List Value) (s : Step29) : Prop :=
  ∃ v, cs = step29C s v ∧ s.n ≤ 9223372036854775807 ∧ Ints w v s.keep fp
theorem isStep29_stable (fp : Nat → Prop) : Stable fp (isStep29 fp) := fun w w' F cs x u hn h => by
  obtain ⟨v, e, ha, hk⟩ := h
  exact ⟨v, e, ha, hk.keep u hn⟩

section
variable {H : Type} {enc : TypeId × Value → H} {w : World} {spare : Nat → Bool} {held : Bool}
theorem open_step29 : ∀ n cs y, DataW.trod enc Try.prog w 0 spare held n 100 cs = some y → ∃ s, isStep29 (· < w.heap.size) w cs s := fun n cs y h => by
  obtain ⟨xs, m, _, _, hl, hxl, hf⟩ := DataW.trod_struct Try.underlying100 h
  have hl4 : cs.length = 4 := hl.trans (by kernel_rfl)
  match cs, hl4 with
  | [c0, c1, c2, c3], _ =>
    have e (i : Nat) (hi : i < 4) : ∃ z, xs[i]? = some z := ⟨_, List.getElem?_eq_getElem (by rw [hxl]; exact hi)⟩
    obtain ⟨z0, e0⟩ := e 0 (by omega)
    obtain ⟨z1, e1⟩ := e 1 (by omega)
    obtain ⟨z2, e2⟩ := e 2 (by omega)
    obtain ⟨z3, e3⟩ := e 3 (by omega)
    have f0 : DataW.trod enc Try.prog w 0 spare held m 3 (([c0, c1, c2, c3].drop 0).take (Try.prog.cellsOf 3)) = xs[0]? := hf 0 _ rfl
    have f1 : DataW.trod enc Try.prog w 0 spare held m 3 (([c0, c1, c2, c3].drop 1).take (Try.prog.cellsOf 3)) = xs[1]? := hf 1 _ rfl
    have f2 : DataW.trod enc Try.prog w 0 spare held m 9 (([c0, c1, c2, c3].drop 2).take (Try.prog.cellsOf 9)) = xs[2]? := hf 2 _ rfl
    have f3 : DataW.trod enc Try.prog w 0 spare held m 35 (([c0, c1, c2, c3].drop 3).take (Try.prog.cellsOf 35)) = xs[3]? := hf 3 _ rfl
    rw [show Try.prog.cellsOf 3 = 1 from by kernel_rfl] at f0 f1
    rw [show Try.prog.cellsOf 9 = 1 from by kernel_rfl] at f2
    rw [show Try.prog.cellsOf 35 = 1 from by kernel_rfl] at f3
    rw [e0] at f0
    rw [e1] at f1
    rw [e2] at f2
    rw [e3] at f3
    obtain ⟨a0, g0, _, w0⟩ := DataW.trod_int Try.underlying3 f0
    obtain ⟨a1, g1, _, w1⟩ := DataW.trod_int Try.underlying3 f1
    obtain ⟨s2, g2, _⟩ := DataW.trod_string Try.underlying9 f2
    obtain ⟨v, l, g3, hv⟩ := open_arr (sz := 1) Try.underlying35 (by kernel_rfl) (by decide) (open_isInt Try.underlying3) f3
    obtain ⟨b, rfl⟩ := ofL_of s2
    injection g0 with g0
    injection g1 with g1
    injection g2 with g2
    injection g3 with g3
    subst g0 g1 g2 g3
    exact ⟨⟨a0, a1, b, l⟩, _, rfl, i64_le w1, hv⟩
end

theorem zero100 (w : World) : (Instr.alloc 100 true (.tuple #[])).run Try.prog w = .ok (.pointer (some ⟨w.heap.size, 0, none⟩)) (w.alloc (.cells #[.int .i64 0, .int .i64 0, .string ⟨#[]⟩, .slice none 0 0] 100 (0, 0))) := by kernel_rfl

/-- A step in a block of its own. -/
theorem step29_new {w : World} {cs : List Value} {s : Step29} {fp : Nat → Prop} (h : isStep29 fp w cs s) {K : Value → World → Prop}
    (k : ∀ w' v, isStep29 fp w' cs s → cs = step29C s v → Ints w' v s.keep fp → Blk w' w.heap.size 100 cs → Ext w w' → K (.pointer (some ⟨w.heap.size, 0, none⟩)) w') :
    mN Try.prog (vS (Instr.alloc 100 true (.tuple #[]))) w fun t w => mN Try.prog (uS (Instr.storeAt 100 t (.agg cs.toArray))) w fun _ w => K t w := by
  refine mN_new (zero100 w) fun w1 h1 u1 s1 => ?_
  obtain ⟨v, rfl, ha, hk⟩ := h
  have ho : v.oneCell' = true := by
    obtain ⟨A, c, rfl⟩ := Arr.slice hk
    rfl
  refine mN_storeN (by kernel_rfl) h1 (by simp [step29C]) (fun u hu => ?_) fun w2 h2 u2 s2 => ?_
  · simp only [step29C, List.mem_cons, List.not_mem_nil, or_false] at hu
    rcases hu with rfl | rfl | rfl | rfl <;> first | rfl | exact ho
  · rw [splice_all _ _ (by simp [step29C])] at h2
    have u12 : Ext w w2 := u1.trans u2 (fun _ _ x => x) fun i hi e => by omega
    exact k w2 v ⟨v, rfl, ha, hk.keep u12 fun _ _ => id⟩ rfl (hk.keep u12 fun _ _ => id) h2 u12

section
variable {w : World} {K : Value → World → Prop} {v : Value} {l : List Step29} {N : Nat}

theorem long29_c (hl : Arr w v 4 (· < N) l (isStep29 (· < N))) (k0 : ∀ w', Ext w w' → K (.bool true) w') (k1 : l.length ≤ 41 → (∀ s ∈ l, s.keep.length ≤ 40 ∧ s.s.length ≤ 70000) → ∀ w', Ext w w' → K (.bool false) w') : mCall Try.prog 57 #[v] w K := by
  have hsm := Arr.small hl
  refine ⟨ok57 ?_⟩
  unfold sh57
  obtain ⟨A, c, rfl⟩ := Arr.slice hl
  try simp only [push_cast]
  refine mLoop2.mk (fun x y wr => ∃ (j m : Nat), x = .int .i64 m ∧ y = .int .i64 j ∧ m ≤ 140000 ∧ j ≤ l.length ∧ j ≤ 41 ∧ Ext w wr ∧ ∀ s ∈ l.take j, s.keep.length ≤ 40 ∧ s.s.length ≤ 70000) (fun _ y _ => l.length - (intOf y).toNat) ?_ ?_
  · exact ⟨0, 0, rfl, rfl, by omega, Nat.zero_le _, Nat.zero_le _, Upd.refl _ _, fun s hs => by simp at hs⟩
  rintro x y wr ⟨j, m, rfl, rfl, hm, hj, hj61, ur, hk⟩
  try simp only [push_cast]
  refine mIf_dec (fun hlt => ?_) fun hlt => ?_
  · obtain ⟨s, hs⟩ : ∃ s, l[j]? = some s := ⟨_, List.getElem?_eq_getElem (by omega)⟩
    have hlr := hl.keep (isStep29_stable _) ur fun _ _ => id
    obtain ⟨_, b, o, rfl, _, cs, hcl, hc, hst⟩ := Arr.at_ hlr hs
    refine mN_v (r_indexAt wr (sz := 4) Try.underlying94 (by kernel_rfl) b o l.length c j (by omega) (by omega)) ?_
    rw [Int.toNat_natCast]
    refine mN_v (r_loadNs wr (n := 4) (by kernel_rfl) (by kernel_rfl) hcl hc) ?_
    refine step29_new hst fun w2 vk hst2 e2 hk2 h2 u2 => ?_
    subst e2
    try simp only [push_cast]
    refine mIf_dec (fun h60 => k0 w2 (ur.ext u2)) fun h60 => ?_
    refine mN_v (r_loadB _ (by kernel_rfl) h2 rfl) ?_
    obtain ⟨A2, c2, rfl⟩ := Arr.slice hk2
    try simp only [push_cast]
    refine mIf_dec (fun h60 => k0 w2 (ur.ext u2)) fun h60 => ?_
    refine mN_v (r_loadB _ (by kernel_rfl) h2 rfl) ?_
    try simp only [push_cast, ofL_size]
    refine mIf_dec (fun h60 => k0 w2 (ur.ext u2)) fun h60 => ?_
    refine mN_v (r_loadB _ (by kernel_rfl) h2 rfl) ?_
    try simp only [push_cast, ofL_size]
    rw [i64w ((m : Int) + s.s.length) (by omega) (by omega)]
    refine mIf_dec (fun h60 => k0 w2 (ur.ext u2)) fun h60 => ?_
    rw [i64w ((j : Int) + 1) (by omega) (by omega)]
    exact ⟨⟨j + 1, m + s.s.length, congrArg (Value.int .i64) (by omega), congrArg (Value.int .i64) (by omega), by omega, by omega, by omega, ur.ext u2, take_snoc_mem hs hk ⟨by omega, by omega⟩⟩, by simp only [intOf]; omega⟩
  · obtain rfl : j = l.length := by omega
    rw [List.take_of_length_le (Nat.le_refl _)] at hk
    exact k1 hj61 hk wr ur
end

/-- A log and the reference's, each with its disk, in blocks of their own behind N. -/
structure PairAt (w : World) (N gp p q gl gr : Nat) (fp fq fr : Nat → Prop) (D E : DM) (L : LM) (R : RM) : Prop where
  cell : Blk w gp 98 [dptr p, dptr q, dptr gl, dptr gr]
  d : IsDisk w p fp D
  r : IsRef w q fq N E
  l : Blk w gl 159 (logC p L)
  m : IsRL w gr fr R
  yp : ∀ k, fp k → N ≤ k
  yr : ∀ k, fr k → N ≤ k
  ygp : N ≤ gp
  ygl : N ≤ gl
  pq : ∀ k, fp k → ¬ fq k
  pr : ∀ k, fp k → ¬ fr k
  qr : ∀ k, fq k → ¬ fr k
  pg : ¬ fp gp
  pl : ¬ fp gl
  qg : ¬ fq gp
  ql : ¬ fq gl
  rg : ¬ fr gp
  rl : ¬ fr gl
  gne : gp ≠ gl

section
variable {w w' : World} {N gp p q gl gr : Nat} {fp fq fr : Nat → Prop} {D E : DM} {L : LM} {R : RM}

theorem PairAt.ext (h : PairAt w N gp p q gl gr fp fq fr D E L R) (u : Ext w w') : PairAt w' N gp p q gl gr fp fq fr D E L R :=
  { h with cell := h.cell.keep u id, d := h.d.ext u, r := h.r.ext u, l := h.l.keep u id, m := h.m.keep u fun _ _ => id }
theorem PairAt.left {D' : DM} (h : PairAt w N gp p q gl gr fp fq fr D E L R) (hN : N ≤ w.heap.size) (a : DAfter w p fp D' w') : ∃ fp', PairAt w' N gp p q gl gr fp' fq fr D' E L R ∧ Upd w w' (N ≤ ·) := by
  obtain ⟨fp', h1, u, y⟩ := a
  have hg := h.cell.lt
  have hl := h.l.lt
  have hq : ∀ k, fq k → k < w.heap.size := fun k hk => h.r.lt hk
  have hr : ∀ k, fr k → k < w.heap.size := fun k hk => h.m.lt hk
  refine ⟨fp', { h with
    cell := h.cell.keep u h.pg
    d := h1
    r := h.r.stay u (fun k hk hf => h.pq k hf hk) fun k hk hf => by have := h.yp k hf; omega
    l := h.l.keep u h.pl
    m := h.m.keep u fun k hk hf => h.pr k hf hk
    yp := fun k hk => (y k hk).elim (h.yp k) fun e => by omega
    pq := fun k hk hf => (y k hk).elim (fun e => h.pq k e hf) fun e => by have := hq k hf; omega
    pr := fun k hk hf => (y k hk).elim (fun e => h.pr k e hf) fun e => by have := hr k hf; omega
    pg := fun hk => (y _ hk).elim h.pg fun e => by omega
    pl := fun hk => (y _ hk).elim h.pl fun e => by omega }, u.mono fun i _ hf => h.yp i hf⟩
theorem PairAt.right {E' : DM} (h : PairAt w N gp p q gl gr fp fq fr D E L R) (hN : N ≤ w.heap.size) (a : RAfter w q fq N E' w') : ∃ fq', PairAt w' N gp p q gl gr fp fq' fr D E' L R ∧ Upd w w' (N ≤ ·) := by
  obtain ⟨fq', h1, u, y⟩ := a
  have hg := h.cell.lt
  have hl := h.l.lt
  have hp : ∀ k, fp k → k < w.heap.size := fun k hk => h.d.lt hk
  have hr : ∀ k, fr k → k < w.heap.size := fun k hk => h.m.lt hk
  refine ⟨fq', { h with
    cell := h.cell.keep u h.qg
    d := h.d.stay u fun k hk hf => h.pq k hk hf
    r := h1
    l := h.l.keep u h.ql
    m := h.m.keep u fun k hk hf => h.qr k hf hk
    pq := fun k hk hf => (y k hf).elim (h.pq k hk) fun e => by have := hp k hk; omega
    qr := fun k hk hf => (y k hk).elim (fun e => h.qr k e hf) fun e => by have := hr k hf; omega
    qg := fun hk => (y _ hk).elim h.qg fun e => by omega
    ql := fun hk => (y _ hk).elim h.ql fun e => by omega }, u.mono fun i _ hf => h.r.young hf⟩
theorem PairAt.log {L' : LM} (h : PairAt w N gp p q gl gr fp fq fr D E L R) (hN : N ≤ w.heap.size) (hb : Blk w' gl 159 (logC p L')) (u : Upd w w' (· = gl)) : PairAt w' N gp p q gl gr fp fq fr D E L' R ∧ Upd w w' (N ≤ ·) := by
  refine ⟨{ h with
    cell := h.cell.keep u h.gne
    d := h.d.stay u fun k hk e => h.pl (e ▸ hk)
    r := h.r.stay u (fun k hk e => h.ql (e ▸ hk)) fun k hk e => by have := h.ygl; omega
    l := hb
    m := h.m.keep u fun k hk e => h.rl (e ▸ hk) }, u.mono fun i _ e => by have := h.ygl; omega⟩
theorem PairAt.recs {R' : RM} (h : PairAt w N gp p q gl gr fp fq fr D E L R) (hN : N ≤ w.heap.size) (a : RLAfter w gr fr R' w') : ∃ fr', PairAt w' N gp p q gl gr fp fq fr' D E L R' ∧ Upd w w' (N ≤ ·) := by
  obtain ⟨fr', h1, u, y⟩ := a
  have hg := h.cell.lt
  have hl := h.l.lt
  have hp : ∀ k, fp k → k < w.heap.size := fun k hk => h.d.lt hk
  have hq : ∀ k, fq k → k < w.heap.size := fun k hk => h.r.lt hk
  refine ⟨fr', { h with
    cell := h.cell.keep u h.rg
    d := h.d.stay u fun k hk hf => h.pr k hk hf
    r := h.r.stay u (fun k hk hf => h.qr k hk hf) fun k hk hf => by have := h.yr k hf; omega
    l := h.l.keep u h.rl
    m := h1
    yr := fun k hk => (y k hk).elim (h.yr k) fun e => by omega
    pr := fun k hk hf => (y k hf).elim (h.pr k hk) fun e => by have := hp k hk; omega
    qr := fun k hk hf => (y k hf).elim (h.qr k hk) fun e => by have := hq k hk; omega
    rg := fun hk => (y _ hk).elim h.rg fun e => by omega
    rl := fun hk => (y _ hk).elim h.rl fun e => by omega }, u.mono fun i _ hf => h.yr i hf⟩
end
end Go.Proofs.Ythgopkppmppdoaa
