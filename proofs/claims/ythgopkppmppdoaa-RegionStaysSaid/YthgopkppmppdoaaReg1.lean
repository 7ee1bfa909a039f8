/-
  Package region: a journal, as it lies in memory; Commit, Rewrite, Open, Format.
-/
import Derived.Test.YthgopkppmppdoaaReg0
set_option linter.unusedVariables false
set_option linter.unusedSimpArgs false
set_option maxRecDepth 20000
namespace Go.Proofs.Ythgopkppmppdoaa
open Go Go.Proofs Go.Vc
open Go.RowKit (Below intOf)

/-- A journal: its disk, its log, its region; in blocks of their own behind N. -/
structure JAt (w : World) (N j gl p : Nat) (fp : Nat → Prop) (D : DM) (L : LM) (r : Int) : Prop where
  cell : Blk w j 184 (jC p gl r)
  d : IsDisk w p fp D
  l : Blk w gl 159 (logC p L)
  ok : L.Ok
  y : ∀ k, fp k → N ≤ k
  yj : N ≤ j
  yl : N ≤ gl
  nj : ¬ fp j
  nl : ¬ fp gl
  ne : j ≠ gl

section
variable {w w' : World} {K : Value → World → Prop} {N p gl j : Nat} {fp : Nat → Prop} {D : DM} {L : LM} {r : Int}

theorem JAt.ext (h : JAt w N j gl p fp D L r) (u : Ext w w') : JAt w' N j gl p fp D L r :=
  { h with cell := h.cell.keep u id, d := h.d.ext u, l := h.l.keep u id }
theorem JAt.disk {D' : DM} (h : JAt w N j gl p fp D L r) (hN : N ≤ w.heap.size) (a : DAfter w p fp D' w') : ∃ fp', JAt w' N j gl p fp' D' L r ∧ Upd w w' (N ≤ ·) := by
  obtain ⟨fp', h1, u, y⟩ := a
  have hg := h.cell.lt
  have hl := h.l.lt
  refine ⟨fp', { h with
    cell := h.cell.keep u h.nj
    d := h1
    l := h.l.keep u h.nl
    y := fun k hk => (y k hk).elim (h.y k) fun e => by omega
    nj := fun hk => (y _ hk).elim h.nj fun e => by omega
    nl := fun hk => (y _ hk).elim h.nl fun e => by omega }, u.mono fun i _ hf => h.y i hf⟩
theorem JAt.log {L' : LM} (h : JAt w N j gl p fp D L r) (hb : Blk w' gl 159 (logC p L')) (ok : L'.Ok) (u : Upd w w' (· = gl)) : JAt w' N j gl p fp D L' r ∧ Upd w w' (N ≤ ·) :=
  ⟨{ h with
    cell := h.cell.keep u h.ne
    d := h.d.stay u fun k hk e => h.nl (e ▸ hk)
    l := hb
    ok := ok }, u.mono fun i _ e => by have := h.yl; omega⟩

theorem dropped_ok (o : L.Ok) : L.dropped.Ok := by
  have h1 := o.len
  have h2 := o.sl
  refine ⟨o.s, o.n, ?_, ?_⟩
  · show (L.b.take L.sealed).length ≤ 256 * L.blocks
    rw [List.length_take]
    omega
  · show L.sealed ≤ (L.b.take L.sealed).length
    rw [List.length_take]
    omega
theorem whole_ok (o : L.Ok) : L.whole.Ok := ⟨o.s, o.n, o.len, Nat.le_refl _⟩

/-- (*region.Journal).Records, Bytes, Room, Region -/
theorem recordsR_c (h : JAt w N j gl p fp D L r) (k : ∀ v w', Strs w' v ((parseL L.b).1.map ofL) (w.heap.size ≤ ·) → Ext w w' → K v w') : mCall Try.prog 68 #[dptr j] w K := by
  have hl := h.ok.len
  have hn := h.ok.n
  have hc := h.cell
  unfold jC at hc
  refine ⟨ok68 ?_⟩
  unfold sh68 dptr
  try simp only [push_cast, Option.isNone_some]
  refine mN_v (r_loadB _ (by kernel_rfl) hc rfl) ?_
  exact records_c (by omega) h.l k
theorem bytesR_c (h : JAt w N j gl p fp D L r) (k : K (.int .i64 L.b.length) w) : mCall Try.prog 69 #[dptr j] w K := by
  have hc := h.cell
  unfold jC at hc
  refine ⟨ok69 ?_⟩
  unfold sh69 dptr
  try simp only [push_cast, Option.isNone_some]
  refine mN_v (r_loadB _ (by kernel_rfl) hc rfl) ?_
  exact bytes_c h.l k
theorem roomR_c (h : JAt w N j gl p fp D L r) (k : ∀ w', Ext w w' → K (.int .i64 ((256 * L.blocks - L.b.length : Nat) : Int)) w') : mCall Try.prog 66 #[dptr j] w K := by
  have hc := h.cell
  unfold jC at hc
  refine ⟨ok66 ?_⟩
  unfold sh66 dptr
  try simp only [push_cast, Option.isNone_some]
  refine mN_v (r_loadB _ (by kernel_rfl) hc rfl) ?_
  exact room_c h.l h.ok k
theorem regionR_c (h : JAt w N j gl p fp D L r) (k : K (.int .i64 r) w) : mCall Try.prog 70 #[dptr j] w K := by
  have hc := h.cell
  unfold jC at hc
  refine ⟨ok70 ?_⟩
  unfold sh70 dptr
  try simp only [push_cast, Option.isNone_some]
  refine mN_v (r_loadB _ (by kernel_rfl) hc rfl) ?_
  exact k

/-- (*region.Journal).Commit -/
theorem commit_c {v : Value} {ss : List (List UInt8)} {fv : Nat → Prop} (h : JAt w N j gl p fp D L r) (hN : N ≤ w.heap.size) (hwn : D.waits.length ≤ 1000000) (hv : Strs w v (ss.map ofL) fv) (hs : ∀ s ∈ ss, s.length ≤ 9223372036854775807) (hne : ¬ fv gl)
    (k : ∀ w' fp', JAt w' N j gl p fp' (D.commit L r ss).2.1 (D.commit L r ss).2.2 r → Upd w w' (N ≤ ·) → (∀ k, fp' k → fp k ∨ w.heap.size ≤ k) → Upd w w' (fun i => i = gl ∨ fp i) → K (.int .i64 (D.commit L r ss).1) w') : mCall Try.prog 65 #[dptr j, v] w K := by
  have hc := h.cell
  unfold jC at hc
  unfold DM.commit at k
  refine ⟨ok65 ?_⟩
  unfold sh65 dptr
  try simp only [push_cast, Option.isNone_some]
  refine mN_v (r_loadB _ (by kernel_rfl) hc rfl) ?_
  refine fillR_c hv hs h.l h.ok hne fun w1 h1 u1 => ?_
  obtain ⟨j1, u1'⟩ := h.log h1 (LM.fill_ok h.ok ss) u1
  have c1 := j1.cell
  unfold jC at c1
  try simp only [push_cast]
  generalize hf : L.fill ss = f at k j1 c1 ⊢
  have hN1 : N ≤ w1.heap.size := Nat.le_trans hN u1'.size
  have u1x : Upd w w1 (fun i => i = gl ∨ fp i) := u1.mono fun _ _ e => .inl e
  have hrest : ∀ (e : Int) (D2 : DM) (w2 : World) (fp2 : Nat → Prop), e ≠ 0 → JAt w2 N j gl p fp2 D2 f.2 r → Upd w w2 (N ≤ ·) → (∀ k, fp2 k → fp k ∨ w.heap.size ≤ k) → Upd w w2 (fun i => i = gl ∨ fp i) →
      (∀ w' fp', JAt w' N j gl p fp' D2 f.2.dropped r → Upd w w' (N ≤ ·) → (∀ k, fp' k → fp k ∨ w.heap.size ≤ k) → Upd w w' (fun i => i = gl ∨ fp i) → K (.int .i64 e) w') →
      mN Try.prog (vS (Instr.loadAt 57 (.pointer (some ⟨j, 1, none⟩)))) w2 fun t34 w => mCall Try.prog 55 #[t34] w fun t35 w => K (.int .i64 e) w := by
    intro e D2 w2 fp2 he j2 u2 y2 ux k
    have c2 := j2.cell
    unfold jC at c2
    refine mN_v (r_loadB _ (by kernel_rfl) c2 rfl) ?_
    refine drop_c j2.l j2.ok fun w3 h3 u3 => ?_
    obtain ⟨j3, u3'⟩ := j2.log (L' := f.2.dropped) h3 (dropped_ok j2.ok) u3
    exact k w3 fp2 j3 (u2.then u3') y2 (ux.then (u3.mono fun _ _ e => .inl e))
  refine mJ1_intro (fun x w2 => (x = .int .i64 f.1 ∧ w2 = w1 ∧ f.1 ≠ 0) ∨ (f.1 = 0 ∧ x = .int .i64 (D.last f.2 r).1 ∧ ∃ fp2, JAt w2 N j gl p fp2 (D.last f.2 r).2 f.2 r ∧ Upd w w2 (N ≤ ·) ∧ (∀ k, fp2 k → fp k ∨ w.heap.size ≤ k) ∧ Upd w w2 (fun i => i = gl ∨ fp i))) (fun J hJ => ?_) ?_
  · refine mIf_eqI (fun he => ?_) fun he => hJ _ _ (.inl ⟨rfl, rfl, he⟩)
    unfold mDrew
    have j2 := j1.ext (Upd.drew w1 _)
    have u2 : Upd w w1.drew (N ≤ ·) := u1'.drewn
    have ux2 : Upd w w1.drew (fun i => i = gl ∨ fp i) := u1x.drewn
    generalize w1.drew = w2 at j2 u2 ux2
    have c2 := j2.cell
    unfold jC at c2
    try simp only [push_cast, Option.isNone_some]
    refine mR_v (r_loadB _ (by kernel_rfl) c2 rfl) ?_
    try simp only [push_cast]
    refine mR_v (r_loadB _ (by kernel_rfl) c2 rfl) ?_
    refine last_c c2 j2.l j2.ok j2.d j2.nl j2.nj hwn r fun w3 a3 => ?_
    obtain ⟨fp3, j3, u3⟩ := j2.disk (Nat.le_trans hN u2.size) a3
    obtain ⟨fp3', d3', u3', y3'⟩ := a3
    have hs2 := u2.size
    refine hJ _ _ (.inr ⟨he, rfl, fp3', ?_, u2.then u3, fun k hk => (y3' k hk).imp id fun h => by omega, ux2.then (u3'.mono fun _ _ e => .inr e)⟩)
    have hg := j2.cell.lt
    have hl := j2.l.lt
    exact { j3 with
      d := d3'
      y := fun k hk => (y3' k hk).elim (j2.y k) fun e => by omega
      nj := fun hk => (y3' _ hk).elim j2.nj fun e => by omega
      nl := fun hk => (y3' _ hk).elim j2.nl fun e => by omega }
  rintro x w2 (⟨rfl, rfl, he⟩ | ⟨he, rfl, fp2, j2, u2, y2, ux2⟩)
  · try simp only [push_cast]
    rw [if_pos he] at k
    refine mIf_neI (fun _ => ?_) fun h => absurd h he
    exact hrest _ D w2 fp he j1 u1' (fun _ x => .inl x) u1x k
  · try simp only [push_cast]
    rw [if_neg (by simp [he])] at k
    refine mIf_neI (fun he2 => ?_) fun he2 => ?_
    · rw [if_pos he2] at k
      exact hrest _ _ w2 fp2 he2 j2 u2 y2 ux2 k
    · rw [if_neg (by simp [he2])] at k
      have c2 := j2.cell
      unfold jC at c2
      refine mN_v (r_loadB _ (by kernel_rfl) c2 rfl) ?_
      refine seal_c j2.l fun w3 h3 u3 => ?_
      obtain ⟨j3, u3'⟩ := j2.log (L' := f.2.whole) h3 (whole_ok j2.ok) u3
      exact k w3 fp2 j3 (u2.then u3') y2 (ux2.then (u3.mono fun _ _ e => .inl e))
end
end Go.Proofs.Ythgopkppmppdoaa
