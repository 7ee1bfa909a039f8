/-
  Records' bytes: the plain law; the iterator of package log.
-/
import Derived.Test.YthgopkppmppdoaaNum4
import Derived.Test.YthgopkppmppdoaaRangeF
set_option linter.unusedVariables false
set_option linter.unusedSimpArgs false
set_option maxRecDepth 20000
namespace Go.Vc
open Go

theorem takeT_len {l s r : List UInt8} (h : takeT l = some (s, r)) : r.length < l.length := by
  rw [(takeT_some h).2, List.length_append, textL_len]
  omega
/-- The records that stand at a text's beginning, and what is left. -/
def parseL (l : List UInt8) : List (List UInt8) × List UInt8 :=
  match h : takeT l with
  | none => ([], l)
  | some (s, r) => (s :: (parseL r).1, (parseL r).2)
termination_by l.length
decreasing_by all_goals exact takeT_len h
theorem parseL_none {l : List UInt8} (h : takeT l = none) : parseL l = ([], l) := by
  rw [parseL]
  split
  · rfl
  · rename_i s r h'
    rw [h] at h'
    cases h'
theorem parseL_some {l s r : List UInt8} (h : takeT l = some (s, r)) : parseL l = (s :: (parseL r).1, (parseL r).2) := by
  rw [parseL]
  split
  · rename_i h'
    rw [h] at h'
    cases h'
  · rename_i s' r' h'
    rw [h] at h'
    injection h' with h'
    injection h' with h1 h2
    subst h1 h2
    rfl
theorem takeT_nil : takeT [] = none := rfl
def recsL (ss : List (List UInt8)) : List UInt8 := ss.flatMap textL
theorem parseL_recs {ss : List (List UInt8)} (h : ∀ s ∈ ss, s.length ≤ 65536) : parseL (recsL ss) = (ss, []) := by
  induction ss with
  | nil => exact parseL_none rfl
  | cons s ss ih =>
    have : recsL (s :: ss) = textL s ++ recsL ss := by simp [recsL]
    rw [this, parseL_some (takeT_text (h s (List.mem_cons_self ..)) _), ih fun t ht => h t (List.mem_cons_of_mem _ ht)]
theorem parseL_spec (l : List UInt8) : l = recsL (parseL l).1 ++ (parseL l).2 ∧ ∀ s ∈ (parseL l).1, s.length ≤ 65536 := by
  induction hn : l.length using Nat.strongRecOn generalizing l with
  | _ n ih =>
    cases h : takeT l with
    | none =>
      rw [parseL_none h]
      exact ⟨rfl, fun s hs => by cases hs⟩
    | some p =>
      obtain ⟨s, r⟩ := p
      have hl := takeT_len h
      obtain ⟨h1, h2⟩ := ih r.length (by omega) r rfl
      obtain ⟨h3, h4⟩ := takeT_some h
      rw [parseL_some h]
      refine ⟨?_, fun t ht => ?_⟩
      · show l = recsL (s :: (parseL r).1) ++ (parseL r).2
        have : recsL (s :: (parseL r).1) = textL s ++ recsL (parseL r).1 := by simp [recsL]
        rw [this, List.append_assoc, ← h1]
        exact h4
      · rcases List.mem_cons.1 ht with rfl | ht
        · exact h3
        · exact h2 t ht
theorem parseL_whole {l : List UInt8} (h : (parseL l).2 = []) : l = recsL (parseL l).1 := by
  have := (parseL_spec l).1
  rwa [h, List.append_nil] at this

def Code.l : Code → Code
  | .seq a _ => a
  | .cond _ a _ => a
  | .block _ a => a
  | .rangeFunc _ _ a _ => a
  | c => c
def Code.r : Code → Code
  | .seq _ b => b
  | .cond _ _ b => b
  | .rangeFunc _ _ _ b => b
  | c => c
def Code.ops : Code → Array Oper
  | .region _ o _ => o
  | _ => #[]
end Go.Vc
namespace Go.Proofs.Ythgopkppmppdoaa
open Go Go.Proofs Go.Vc
open Go.RowKit (Below intOf)

section
variable {w : World} {K : Value → World → Prop}

theorem makeEach (c : Value) (w : World) : (Instr.makeFunc (Go.Fn.func 124) #[] #[c]).run Try.prog w = .ok (.func (.func 124) #[] #[c]) w := by kernel_rfl

/-- log.each -/
theorem each_c {b : List UInt8} (k : ∀ w', Blk w' w.heap.size 9 [.string (ofL b)] → Ext w w' → w'.heap.size = w.heap.size + 1 → K (.func (.func 124) #[] #[.pointer (some ⟨w.heap.size, 0, none⟩)]) w') : mCall Try.prog 98 #[.string (ofL b)] w K := by
  refine ⟨ok98 ?_⟩
  unfold sh98
  have hbox : (Instr.box 9 (.string (ofL b))).run Try.prog w = .ok (.pointer (some ⟨w.heap.size, 0, none⟩)) (w.alloc (.cells #[.string (ofL b)] 9 (0, 0))) := by kernel_rfl
  refine mN_new hbox fun w1 h1 u1 s1 => ?_
  refine mN_v (makeEach _ _) ?_
  exact k w1 h1 u1 s1

/-- log.each$1: what it hands on. -/
theorem each1_c {c : Nat} {Y : Value} (Inv : List (List UInt8) → List UInt8 → World → Prop) (hs : ∀ pre r w w', Inv pre r w → Upd w w' (· = c) → Inv pre r w')
    (hY : ∀ (pre : List (List UInt8)) (r0 s r : List UInt8) (w : World) (K : Value → World → Prop), Inv pre r0 w → Blk w c 9 [.string (ofL r0)] → s.length + r.length < r0.length → (∀ w', Inv (pre ++ [s]) r w' → Blk w' c 9 [.string (ofL r0)] → K (.bool true) w') → mY Try.prog (callVS Y #[.string (ofL s), .string (ofL r)]) w K)
    {b : List UInt8} (hl : b.length ≤ 9223372036854775807) (hb : Blk w c 9 [.string (ofL b)]) (hi : Inv [] b w) (k : ∀ w', Inv (parseL b).1 (parseL b).2 w' → K (.tuple #[]) w') : mCall Try.prog 124 #[Y, .pointer (some ⟨c, 0, none⟩)] w K := by
  refine ⟨ok124 ?_⟩
  unfold sh124
  refine mLoop0.mk (fun wr => ∃ pre r, Blk wr c 9 [.string (ofL r)] ∧ Inv pre r wr ∧ r.length ≤ b.length ∧ parseL b = (pre ++ (parseL r).1, (parseL r).2)) (fun wr => match wr.cell? ⟨c, 0, none⟩ with
    | some (.string s) => s.size
    | _ => 0) ?_ ?_
  · exact ⟨[], b, hb, hi, Nat.le_refl _, by simp⟩
  rintro wr ⟨pre, r, hc, hI, hrl, hp⟩
  refine mN_v (r_loadB _ (by kernel_rfl) hc rfl) ?_
  try simp only [push_cast]
  have hdone : takeT r = none → K (.tuple #[]) wr := fun h => by
    rw [parseL_none h, List.append_nil] at hp
    rw [hp] at k
    exact k wr hI
  refine mIf_neS (fun hne => ?_) fun he => ?_
  · refine mN_v (r_loadB _ (by kernel_rfl) hc rfl) ?_
    have hstay : ∀ {w'}, Ext wr w' → Inv pre r w' := fun u => hs _ _ _ _ hI (u.mono fun _ _ => False.elim)
    refine taket_c (by omega) fun w2 u2 => ?_
    unfold takenTV
    cases ht : takeT r with
    | none =>
      try simp only [push_cast]
      refine mIf_neI (fun _ => ?_) fun h => absurd h (by decide)
      have hp' := hp
      rw [parseL_none ht, List.append_nil] at hp'
      rw [hp'] at k
      exact k w2 (hstay u2)
    | some p =>
      obtain ⟨s, t⟩ := p
      have hlt := takeT_len ht
      have hst : s.length + t.length < r.length := by
        rw [(takeT_some ht).2, List.length_append, textL_len]
        omega
      try simp only [push_cast, bne_self_eq_false]
      refine hY pre r s t w2 _ (hstay u2) (hc.keep u2 id) hst fun w3 hI3 hc3 => ?_
      try simp only [push_cast, Bool.not_true]
      refine mN_store1 (by kernel_rfl) hc3 (by simp) rfl fun w4 h4 u4 s4 => ?_
      refine ⟨⟨pre ++ [s], t, h4, hs _ _ _ _ hI3 u4, by omega, ?_⟩, ?_⟩
      · rw [hp, parseL_some ht]
        simp
      · have e1 : w4.cell? ⟨c, 0, none⟩ = some (.string (ofL t)) := h4.cell rfl
        have e2 : wr.cell? ⟨c, 0, none⟩ = some (.string (ofL r)) := hc.cell rfl
        rw [e1, e2]
        exact hlt
  · have : r = [] := by
      have := congrArg ByteArray.size he
      exact List.eq_nil_of_length_eq_zero this
    subst this
    exact hdone takeT_nil
end

/-! ### log.whole -/
def bodyOf (f : Func) : Code := f.body.getD .skip
def c95a (f : Func) : Code := Code.l (bodyOf f)
def c95b (f : Func) : Code := Code.l (Code.r (bodyOf f))
def c95c (f : Func) : Code := Code.l (Code.l (Code.r (Code.r (bodyOf f))))
def c95g (f : Func) : Code := Code.l (Code.r (Code.l (Code.r (Code.r (bodyOf f)))))
def c95s (f : Func) : Array Oper := Code.ops (Code.l (c95g f))
def c95d (f : Func) : Array Oper := Code.ops (Code.l (Code.r (c95g f)))
def c95e (f : Func) : Code := Code.l (Code.r (Code.r (Code.r (bodyOf f))))
theorem body95 : Try.f95.body = some (.seq (c95a Try.f95) (.seq (c95b Try.f95) (.seq (.seq (c95c Try.f95) (.block 0 (.rangeFunc (.tmp 8) #[9, 10] (.region 3 (c95s Try.f95) false) (.block 1 (.region 4 (c95d Try.f95) false))))) (.seq (c95e Try.f95) .ret)))) := by kernel_rfl
theorem vc95a (L : Env) (w : World) (K : Exit → Env → World → Prop) : vcC Try.prog cOk 14 (c95a Try.f95) .z L w K = K .normal ((2, .bool false) :: L) w := by kernel_rfl
theorem vc95b (x y : Value) (w : World) (K : Exit → Env → World → Prop) : vcC Try.prog cOk 14 (c95b Try.f95) .z [(2, y), (0, x)] w K =
    mN Try.prog (vS (Instr.alloc 9 true (.tuple #[]))) w fun t3 w => mN Try.prog (uS (Instr.storeAt 9 t3 x)) w fun _ w => K .normal [(3, t3), (6, x), (2, y), (0, x)] w := by kernel_rfl
theorem vc95c (x y z u : Value) (w : World) (K : Exit → Env → World → Prop) : vcC Try.prog cOk 14 (c95c Try.f95) .z [(3, z), (6, u), (2, y), (0, x)] w K =
    mCall Try.prog 98 #[x] w fun t8 w => K .normal [(8, t8), (7, x), (3, z), (6, u), (2, y), (0, x)] w := by kernel_rfl
theorem vc95s (a b f x y z u v : Value) (w : World) (K : Env → World → Prop) : vcOps Try.prog cOk 14 (c95s Try.f95).toList (c95s Try.f95).toList [(10, b), (9, a), (8, f), (7, v), (3, z), (6, u), (2, y), (0, x)] w K =
    K [(5, b), (10, b), (9, a), (8, f), (7, v), (3, z), (6, u), (2, y), (0, x)] w := by kernel_rfl
theorem vc95d (a b f x y z u v : Value) (w : World) (K : Env → World → Prop) : vcOps Try.prog cOk 14 (c95d Try.f95).toList (c95d Try.f95).toList [(5, b), (10, b), (9, a), (8, f), (7, v), (3, z), (6, u), (2, y), (0, x)] w K =
    mN Try.prog (uS (Instr.storeAt 9 z b)) w fun _ w => K [(11, b), (5, b), (10, b), (9, a), (8, f), (7, v), (3, z), (6, u), (2, y), (0, x)] w := by kernel_rfl
theorem vc95e (f x y z u v : Value) (w : World) (K : Exit → Env → World → Prop) : vcC Try.prog cOk 14 (c95e Try.f95) .z [(8, f), (7, v), (3, z), (6, u), (2, y), (0, x)] w K =
    mN Try.prog (vS (Instr.loadAt 9 z)) w fun t12 w => mN Try.prog (vS (eqS .eql 9 false true t12 (.string ⟨#[]⟩))) w fun t13 w => K .normal [(2, t13), (13, t13), (12, t12), (8, f), (7, v), (3, z), (6, u), (2, y), (0, x)] w := by kernel_rfl

theorem zero9 (w : World) : (Instr.alloc 9 true (.tuple #[])).run Try.prog w = .ok (.pointer (some ⟨w.heap.size, 0, none⟩)) (w.alloc (.cells #[.string ⟨#[]⟩] 9 (0, 0))) := by kernel_rfl

theorem res_one {fn : Func} {t : Nat} (h : fn.results = #[.tmp t]) (tmps : Array Value) (w : World) : (results fn tmps).run Try.prog w = .ok (tmps.getD t undef) w := by
  unfold results
  rw [h]
  simp

/-- A function that holds a range over a function, at its end. -/
theorem leaves_one {fn : Func} {t n : Nat} (h : fn.results = #[.tmp t]) {a : Act} {L : Env} {d : Nat} {w : World} {K : Value → World → Prop} (hL : Has [{ target := .collected d, args := #[] }] n a L) (ht : ehas L t = true) (hO : Opened w d)
    (k : ∀ w', Upd w w' (· = d) → K (eget L t) w') : LeavesInM Fence.wide 0 Try.prog fn a.tmps (retK K) a.defers .returning w := by
  rw [hL.defers]
  refine ⟨by simp, .inl ⟨d, _, rfl, run_takeDeferred hO, ?_⟩⟩
  refine ⟨_, res_one h _ _, ?_⟩
  rw [hL.get t ht]
  exact k _ (putObj_upd _ _ _)

theorem has_arg1 {fn : Func} {n : Nat} (hn : fn.ntmps = n) (h0 : 0 < n) (x : Value) : Has [] n { tmps := #[x] ++ Array.replicate (fn.ntmps - (#[x] : Array Value).size) undef, defers := [] } [(0, x)] := by
  refine ⟨rfl, ?_, fun t ht => ?_⟩
  · simp
    omega
  · obtain rfl : t = 0 := by
      cases t with
      | zero => rfl
      | succ t => exact absurd ht (show ¬ (false = true) from by decide)
    generalize fn.ntmps - (#[x] : Array Value).size = m
    show ((#[x] ++ Array.replicate m undef).getD 0 undef) = x
    rw [Array.getD_eq_getD_getElem?, Array.getElem?_append_left (by simp)]
    rfl

theorem whole_c {b : List UInt8} {w : World} {K : Value → World → Prop} (hl : b.length ≤ 9223372036854775807) (k : ∀ w', Ext w w' → K (.bool (decide ((parseL b).2 = []))) w') : mCall Try.prog 95 #[.string (ofL b)] w K := by
  refine ⟨(callsIn_wide (n := 0)).1 (callsIn_of_wp_marks Try.func95 body95 trivial ?_)⟩
  have hL0 := has_arg1 (fn := Try.f95) (n := 14) (by kernel_rfl) (by decide) (.string (ofL b))
  refine wpIn_seq (wpIn_vc callsOk mixed (k := .z) hL0 ?_ (K := fun e L w' => e = .normal ∧ L = [(2, .bool false), (0, .string (ofL b))] ∧ w' = w) fun e a L w' hL hK => ?_)
  · rw [vc95a]
    exact ⟨rfl, rfl, rfl⟩
  obtain ⟨rfl, rfl, rfl⟩ := hK
  refine wpIn_seq (wpIn_vc callsOk mixed (k := .z) hL ?_ (K := fun e L w'' => e = .normal ∧ L = [(3, .pointer (some ⟨w'.heap.size, 0, none⟩)), (6, .string (ofL b)), (2, .bool false), (0, .string (ofL b))] ∧ Blk w'' w'.heap.size 9 [.string (ofL b)] ∧ Ext w' w'') fun e a L w1 hL hK => ?_)
  · rw [vc95b]
    refine mN_new (zero9 w') fun w1 h1 u1 s1 => ?_
    refine mN_store1 (by kernel_rfl) h1 (by simp) rfl fun w2 h2 u2 s2 => ?_
    exact ⟨rfl, rfl, h2, u1.trans u2 (fun _ _ x => x) fun i hi e => by omega⟩
  obtain ⟨rfl, rfl, h1, u1⟩ := hK
  refine wpIn_seq (wpIn_seq (wpIn_vc callsOk mixed (k := .z) hL ?_ (K := fun e L w'' => e = .normal ∧ L = [(8, .func (.func 124) #[] #[.pointer (some ⟨w1.heap.size, 0, none⟩)]), (7, .string (ofL b)), (3, .pointer (some ⟨w'.heap.size, 0, none⟩)), (6, .string (ofL b)), (2, .bool false), (0, .string (ofL b))] ∧
    Blk w'' w1.heap.size 9 [.string (ofL b)] ∧ Ext w1 w'') fun e a L w2 hL hK => ?_))
  · rw [vc95c]
    exact each_c fun w2 h2 u2 s2 => ⟨rfl, rfl, h2, u2⟩
  obtain ⟨rfl, rfl, h2, u2⟩ := hK
  have hlt1 : w'.heap.size < w1.heap.size := h1.lt
  have h1 := h1.keep u2 id
  refine wpIn_block (wpIn_range callsOk hL rfl rfl rfl rfl rfl fun r w3 hR hO u3 s3 hY => ?_)
  have hlt2 := h2.lt
  refine each1_c (b := b) (Inv := fun _ rest wi => Ready wi (w2.heap.size + 1) r ∧ Opened wi w2.heap.size ∧ Blk wi w'.heap.size 9 [.string (ofL rest)] ∧ Ext w' wi) ?_ ?_ hl (h2.keep u3 id) ⟨hR, hO, h1.keep u3 id, (u1.ext u2).ext u3⟩ ?_
  · rintro _ rest wa wb ⟨i1, i2, i3, i4⟩ u
    exact ⟨i1.keep u (by omega), i2.keep u (by omega), i3.keep u (by omega), i4.trans u (fun _ _ x => x) fun i hi e => by omega⟩
  · rintro _ r0 s rest wa K' ⟨i1, i2, i3, i4⟩ hc _ hk
    refine hY _ _ wa K' i1 ?_
    rw [vc95s]
    refine ⟨i1, fun wb hB ub sb => ?_⟩
    rw [vc95d]
    refine mN_store1 (by kernel_rfl) (i3.keep ub (by omega)) (by simp) rfl fun wc hc' uc sc => ?_
    refine ⟨hB.keep uc (by omega), fun wd hRd ud sd => ?_⟩
    refine hk wd ⟨hRd, ((i2.keep ub (by omega)).keep uc (by omega)).keep ud (by omega), hc'.keep ud (by omega), ?_⟩ (((hc.keep ub (by omega)).keep uc (by omega)).keep ud (by omega))
    exact ((i4.trans ub (fun _ _ x => x) fun i hi e => by omega).trans uc (fun _ _ x => x) fun i hi e => by omega).trans ud (fun _ _ x => x) fun i hi e => by omega
  · rintro w4 ⟨i1, i2, i3, i4⟩
    refine ⟨i1, fun w5 u5 s5 a' hL' => ?_⟩
    have i2 := i2.keep u5 (by omega)
    have i3 := i3.keep u5 (by omega)
    have i5 : Ext w' w5 := i4.trans u5 (fun _ _ x => x) fun i hi e => by omega
    refine wpIn_seq (wpIn_vc callsOk mixed (k := .z) hL' ?_ (K := fun e L w'' => e = .normal ∧ ehas L 2 = true ∧ eget L 2 = .bool (decide ((parseL b).2 = [])) ∧ w'' = w5) fun e a6 L w6 hL6 hK => ?_)
    · rw [vc95e]
      refine mN_v (r_loadB _ (by kernel_rfl) i3 rfl) ?_
      try simp only [push_cast]
      refine ⟨by first | rfl | trivial, by first | rfl | trivial, ?_, by first | rfl | trivial⟩
      show Value.bool _ = _
      rw [show (⟨#[]⟩ : ByteArray) = ofL [] from rfl, ofL_beq]
      cases (parseL b).2 <;> rfl
    obtain ⟨rfl, hh, hg, rfl⟩ := hK
    refine wpIn_ret ?_
    refine leaves_one (by kernel_rfl) hL6 hh i2 fun w7 u7 => ?_
    rw [hg]
    exact k w7 (i5.trans u7 (fun _ _ x => x) fun i hi e => by omega)
end Go.Proofs.Ythgopkppmppdoaa
