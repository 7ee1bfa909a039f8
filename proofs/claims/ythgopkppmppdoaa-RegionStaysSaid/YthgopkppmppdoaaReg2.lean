/-
  Package region: Open, Format, Rewrite where they succeed; Need; the laws' helpers.
-/
import Derived.Test.YthgopkppmppdoaaReg1
set_option linter.unusedVariables false
set_option linter.unusedSimpArgs false
set_option maxRecDepth 20000
namespace Go.Proofs.Ythgopkppmppdoaa
open Go Go.Proofs Go.Vc
open Go.RowKit (Below intOf)

section
variable {w w' : World} {K : Value → World → Prop} {N p gl j : Nat} {fp : Nat → Prop} {D : DM} {L : LM} {r : Int}

theorem zero180 (w : World) : (Instr.alloc 180 true (.tuple #[])).run Try.prog w = .ok (.pointer (some ⟨w.heap.size, 0, none⟩)) (w.alloc (.cells #[.pointer none] 180 (0, 0))) := by kernel_rfl
theorem build180 (p : Nat) (w : World) : (Instr.build 180 #[(0, .pointer (some ⟨p, 0, none⟩))]).run Try.prog w = .ok (.agg #[.pointer (some ⟨p, 0, none⟩)]) w := by kernel_rfl
theorem build182 (p : Nat) (w : World) : (Instr.build 182 #[(0, .pointer (some ⟨p, 0, none⟩))]).run Try.prog w = .ok (.agg #[.pointer (some ⟨p, 0, none⟩)]) w := by kernel_rfl
theorem build184 (p g : Nat) (r : Int) (w : World) : (Instr.build 184 #[(0, .agg #[.pointer (some ⟨p, 0, none⟩)]), (1, .agg #[.pointer (some ⟨g, 0, none⟩)]), (2, .int .i64 r)]).run Try.prog w = .ok (.agg #[.pointer (some ⟨p, 0, none⟩), .pointer (some ⟨g, 0, none⟩), .int .i64 r]) w := by kernel_rfl
theorem box184 (p g : Nat) (r : Int) (w : World) : (Instr.box 184 (.agg #[.pointer (some ⟨p, 0, none⟩), .pointer (some ⟨g, 0, none⟩), .int .i64 r])).run Try.prog w =
    .ok (.pointer (some ⟨w.heap.size, 0, none⟩)) (w.alloc (.cells #[.pointer (some ⟨p, 0, none⟩), .pointer (some ⟨g, 0, none⟩), .int .i64 r] 184 (0, 0))) := by kernel_rfl

/-- region.Open, where it finds a journal. -/
theorem openJ_c (h : IsDisk w p fp D) (hN : N ≤ w.heap.size) (hy : ∀ k, fp k → N ≤ k) {a : SM} {at_ : Int} (hc : D.choose = (a, at_, 0)) (har : a.right = true) (ho : D.openR a.region a.bytes = (0, some L)) (hr : ((parseL L.b).1.length : Int) = a.records)
    (k : ∀ w' j gl, JAt w' N j gl p fp D L a.region → Ext w w' → w.heap.size ≤ j → w.heap.size ≤ gl → K (.tuple #[dptr j, .int .i64 0]) w') : mCall Try.prog 72 #[dptr p] w K := by
  have hreg := (SM.right_iff.1 har).2.2.1
  refine ⟨ok72 ?_⟩
  unfold sh72
  refine choose_c h fun w1 u1 => ?_
  rw [hc]
  try simp only [push_cast]
  refine mN_new (zero50 w1) fun w2 h2 u2 s2 => ?_
  refine mN_storeN (vs := slotC a) (by kernel_rfl) h2 (by simp [slotC]) (slotC_one _) fun w3 h3 u3 s3 => ?_
  rw [splice_all _ _ (by simp [slotC])] at h3
  have a3 : Ext w w3 := (u1.ext u2).trans u3 (fun _ _ x => x) fun i hi e => by have := u1.size; omega
  simp only [slotC] at h3
  try simp only [push_cast]
  refine mIf_neI (fun h => absurd rfl h) fun _ => ?_
  unfold dptr
  refine mN_v (build180 p w3) ?_
  refine mN_new (zero180 w3) fun w4 h4 u4 s4 => ?_
  refine mN_storeN (vs := [.pointer (some ⟨p, 0, none⟩)]) (by kernel_rfl) h4 (by simp) (by intro v hv; simp at hv; subst hv; rfl) fun w5 h5 u5 s5 => ?_
  rw [splice_all _ _ (by simp)] at h5
  have u35 : Ext w3 w5 := u4.trans u5 (fun _ _ x => x) fun i hi e => by omega
  have a5 : Ext w w5 := a3.ext u35
  have h35 := h3.keep u35 id
  refine mN_v (r_loadN w5 (T := 180) (n := 1) (by kernel_rfl) (by kernel_rfl) h5 (o := 0) (by simp)) ?_
  try simp only [push_cast]
  refine mN_v (r_loadB _ (by kernel_rfl) h35 rfl) ?_
  try simp only [push_cast]
  refine mN_v (r_loadB _ (by kernel_rfl) h35 rfl) ?_
  refine openR_c (h.ext a5) a.region a.bytes (by omega) (fun e he => by rw [ho] at he; cases he) fun L' he ok w6 q h6 u6 hq => ?_
  obtain rfl : L = L' := by
    rw [ho] at he
    injection he with _ he
    injection he
  have a6 := a5.ext u6
  have hl := ok.len
  have hn := ok.n
  try simp only [push_cast]
  refine mIf_eqI (fun h => absurd h (by decide)) fun _ => ?_
  refine mIf_neI (fun h => absurd rfl h) fun _ => ?_
  unfold mDrew
  have u7 := Upd.drew w6 fun _ => False
  have h57 := (h5.keep u6 id).drew
  have h37 := (h35.keep u6 id).drew
  have l7 := h6.drew
  have a7 := a6.drewn
  generalize w6.drew = w7 at u7 h57 h37 l7 a7
  try simp only [push_cast]
  refine mR_v (r_loadB _ (by kernel_rfl) h37 rfl) ?_
  refine records_c (b := L.b) (by omega) l7 fun v w8 hv u8 => ?_
  obtain ⟨A, c, rfl⟩ := Arr.slice hv
  have h38 := h37.keep u8 id
  refine ⟨rdN_v (r_loadB _ (by kernel_rfl) h38 rfl), ?_⟩
  try simp only [push_cast, List.length_map]
  refine mIf_neI (fun h => absurd hr h) fun _ => ?_
  refine mN_v (r_loadN w8 (T := 180) (n := 1) (by kernel_rfl) (by kernel_rfl) (h57.keep u8 id) (o := 0) (by simp)) ?_
  unfold dptr
  refine mN_v (build182 q w8) ?_
  try simp only [push_cast]
  refine mN_v (r_loadB _ (by kernel_rfl) h38 rfl) ?_
  refine mN_v (build184 p q a.region w8) ?_
  refine mN_new (box184 p q a.region w8) fun w9 h9 u9 s9 => ?_
  have a8 := a7.ext u8
  have a9 := a8.ext u9
  have l9 := (l7.keep u8 id).keep u9 id
  have hs5 := a5.size
  have hs8 := a8.size
  have hlt : ∀ k, fp k → k < w.heap.size := fun k hk => h.lt hk
  have hq7 := (l7.keep u8 id).lt
  exact k w9 w8.heap.size q ⟨h9, h.ext a9, l9, ok, hy, by omega, by omega, fun hf => by have := hlt _ hf; omega, fun hf => by have := hlt _ hf; omega, by omega⟩ a9 (by omega) (by omega)

/-- region.Format, where it succeeds. -/
theorem formatJ_c {D1 : DM} (h : IsDisk w p fp D) (hN : N ≤ w.heap.size) (hy : ∀ k, fp k → N ≤ k) (hwn : D.waits.length ≤ 1000000) (hf : D.format = (0, D1)) {a : SM} {at_ : Int} (hc : D1.choose = (a, at_, 0)) (har : a.right = true) (ho : D1.openR a.region a.bytes = (0, some L)) (hr : ((parseL L.b).1.length : Int) = a.records)
    (k : ∀ w' j gl fp', JAt w' N j gl p fp' D1 L a.region → Upd w w' (N ≤ ·) → w.heap.size ≤ j → w.heap.size ≤ gl → K (.tuple #[dptr j, .int .i64 0]) w') : mCall Try.prog 64 #[dptr p] w K := by
  refine ⟨ok64 ?_⟩
  unfold sh64
  refine format_c h hwn fun w1 a1 => ?_
  rw [hf] at a1 ⊢
  obtain ⟨fp1, d1, u1, y1⟩ := a1
  try simp only [push_cast]
  refine mIf_neI (fun h => absurd rfl h) fun _ => ?_
  have hs1 := u1.size
  refine openJ_c d1 (N := N) (by omega) (fun k hk => (y1 k hk).elim (hy k) fun e => by omega) hc har ho hr fun w2 j gl hj u2 h1 h2 => ?_
  try simp only [push_cast]
  exact k w2 j gl fp1 hj ((u1.mono fun i _ hf => hy i hf).then (u2.mono fun _ _ => False.elim)) (by omega) (by omega)

/-- (*region.Journal).Rewrite, where it succeeds. -/
theorem rewrite_c {v : Value} {ss : List (List UInt8)} {fv : Nat → Prop} {L0 : LM} (h : JAt w N j gl p fp D L r) (hr : r = 0 ∨ r = 1) (hN : N ≤ w.heap.size) (hwn : D.waits.length ≤ 1000000) (hv : Strs w v (ss.map ofL) fv) (hs : ∀ s ∈ ss, s.length ≤ 9223372036854775807) (hfv : ∀ k, fv k → k < w.heap.size)
    (ho : D.openR (1 - r) 0 = (0, some L0)) (hf : (L0.fill ss).1 = 0) (hl : (D.last (L0.fill ss).2 (1 - r)).1 = 0)
    (k : ∀ w' fp' gl', JAt w' N j gl' p fp' (D.last (L0.fill ss).2 (1 - r)).2 (L0.fill ss).2.whole (1 - r) → Upd w w' (N ≤ ·) → Upd w w' (fun i => i = j ∨ fp i) → K (.int .i64 0) w') : mCall Try.prog 67 #[dptr j, v] w K := by
  have hc := h.cell
  unfold jC at hc
  refine ⟨ok67 ?_⟩
  unfold sh67 dptr
  try simp only [push_cast, Option.isNone_some]
  unfold mDrew
  have u1 : Ext w w.drew := Upd.drew w _
  have j1 := h.ext u1
  have c1 := hc.drew
  generalize w.drew = w1 at u1 j1 c1
  try simp only [push_cast, Option.isNone_some]
  refine mR_v (r_loadN w1 (T := 180) (n := 1) (by kernel_rfl) (by kernel_rfl) c1 (o := 0) (by simp)) ?_
  try simp only [push_cast]
  refine mR_v (r_loadB _ (by kernel_rfl) c1 rfl) ?_
  try simp only [push_cast]
  have ew : IntKind.wrap .i64 (1 - r) = 1 - r := i64w _ (by omega) (by omega)
  rw [ew]
  refine openR_c j1.d (1 - r) 0 (by omega) (fun e he => by rw [ho] at he; cases he) fun L' he ok w2 q h2 u2 hq => ?_
  obtain rfl : L0 = L' := by
    rw [ho] at he
    injection he with _ he
    injection he
  have j2 := j1.ext u2
  have a2 := u1.ext u2
  have c2 := c1.keep u2 id
  refine ⟨rdN_v (r_loadB _ (by kernel_rfl) c2 rfl), ?_⟩
  try simp only [push_cast]
  refine mIf_neI (fun h => absurd rfl h) fun _ => ?_
  have hs1 := u1.size
  have hs2 := u2.size
  refine fillR_c (hv.keep a2 fun _ _ => id) hs h2 ok (fun hf => by have := hfv _ hf; omega) fun w3 h3 u3 => ?_
  have ok3 := LM.fill_ok ok ss
  rw [hf]
  try simp only [push_cast]
  refine mIf_neI (fun h => absurd rfl h) fun _ => ?_
  have hjlt := h.cell.lt
  have hglt := h.l.lt
  have hplt : ∀ k, fp k → k < w.heap.size := fun k hk => h.d.lt hk
  have c3 := c2.keep u3 (by omega)
  have d3 := j2.d.stay u3 fun k hk e => by have := hplt k hk; omega
  try simp only [push_cast, Option.isNone_some]
  refine mN_v (r_loadB _ (by kernel_rfl) c3 rfl) ?_
  try simp only [push_cast]
  rw [ew]
  refine last_c c3 h3 ok3 d3 (fun hf => by have := hplt _ hf; omega) h.nj hwn (1 - r) fun w4 a4 => ?_
  rw [hl]
  obtain ⟨fp4, d4, u4, y4⟩ := a4
  try simp only [push_cast]
  refine mIf_neI (fun h => absurd rfl h) fun _ => ?_
  have hq2 := h2.lt
  have hs3 := u3.size
  have nq : ¬ fp q := fun hf => by have := hplt _ hf; omega
  have g4 := h3.keep u4 nq
  have c4 := c3.keep u4 h.nj
  have n4j : ¬ fp4 j := fun hf => (y4 _ hf).elim h.nj fun e => by omega
  have n4q : ¬ fp4 q := fun hf => (y4 _ hf).elim nq fun e => by omega
  refine seal_c g4 fun w5 h5 u5 => ?_
  have c5 := c4.keep u5 (by omega)
  have d5 := d4.stay u5 fun k hk e => n4q (e ▸ hk)
  unfold dptr
  refine mN_v (build182 q w5) ?_
  try simp only [push_cast, Option.isNone_some]
  refine mN_v (r_loadB _ (by kernel_rfl) c5 rfl) ?_
  try simp only [push_cast, Option.isNone_some]
  rw [ew]
  refine mN_storeN (vs := [.pointer (some ⟨q, 0, none⟩)]) (by kernel_rfl) c5 (by simp) (by intro v hv; simp at hv; subst hv; rfl) fun w6 h6 u6 s6 => ?_
  have e6 : splice [dptr p, dptr gl, Value.int IntKind.i64 r] 1 [Value.pointer (some ⟨q, 0, none⟩)] = [dptr p, dptr q, .int .i64 r] := rfl
  rw [e6] at h6
  try simp only [push_cast, Option.isNone_some]
  refine mN_store1 (by kernel_rfl) h6 (by simp) rfl fun w7 h7 u7 s7 => ?_
  have hN4 : ∀ k, fp4 k → N ≤ k := fun k hk => (y4 k hk).elim (h.y k) fun e => by omega
  refine k w7 fp4 q ⟨h7, (d5.stay u6 fun k hk e => n4j (e ▸ hk)).stay u7 fun k hk e => n4j (e ▸ hk), (h5.keep u6 (by omega)).keep u7 (by omega), whole_ok ok3, hN4, h.yj, by omega, n4j, n4q, by omega⟩ ?_ ?_
  · have hyj := h.yj
    exact ((((a2.mono fun _ _ => False.elim).then (u3.mono fun i _ e => by omega)).then (u4.mono fun i _ hf => h.y i hf)).then (u5.mono fun i _ e => by omega)).then ((u6.mono fun i _ e => by omega).then (u7.mono fun i _ e => by omega))
  have x1 : Upd w w2 (fun i => i = j ∨ fp i) := a2.mono fun _ _ => False.elim
  have x3 : Upd w w3 (fun i => i = j ∨ fp i) := x1.trans u3 (fun _ _ x => x) fun i hi e => by omega
  have x4 : Upd w w4 (fun i => i = j ∨ fp i) := x3.then (u4.mono fun _ _ e => .inr e)
  have x5 : Upd w w5 (fun i => i = j ∨ fp i) := x4.trans u5 (fun _ _ x => x) fun i hi e => by omega
  exact (x5.then (u6.mono fun _ _ e => .inl e)).then (u7.mono fun _ _ e => .inl e)
end
end Go.Proofs.Ythgopkppmppdoaa
