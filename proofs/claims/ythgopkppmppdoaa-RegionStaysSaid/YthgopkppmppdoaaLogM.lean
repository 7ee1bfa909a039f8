/-
  Records' bytes: the plain law; the iterator of package log.
-/
import Derived.Test.YthgopkppmppdoaaNumM
import Derived.Test.YthgopkppmppdoaaRangeF
import Derived.Test.YthgopkppmppdoaaSlotM
set_option linter.unusedVariables false
set_option linter.unusedSimpArgs false
set_option maxRecDepth 20000
namespace Go.Vc
open Go

theorem takeT_len {l s r : List UInt8} (h : takeT l = some (s, r)) : r.length < l.length := by
  rw [(takeT_some h).2, List.length_append, textL_len]
  omega
/-- The records that stand at a text's beginning, and what is left. -/
def parseL (l : List UInt8) : List (List UInt8) × List UInt8 :=
  match h : takeT l with
  | none => ([], l)
  | some (s, r) => (s :: (parseL r).1, (parseL r).2)
termination_by l.length
decreasing_by all_goals exact takeT_len h
theorem parseL_none {l : List UInt8} (h : takeT l = none) : parseL l = ([], l) := by
  rw [parseL]
  split
  · rfl
  · rename_i s r h'
    rw [h] at h'
    cases h'
theorem parseL_some {l s r : List UInt8} (h : takeT l = some (s, r)) : parseL l = (s :: (parseL r).1, (parseL r).2) := by
  rw [parseL]
  split
  · rename_i h'
    rw [h] at h'
    cases h'
  · rename_i s' r' h'
    rw [h] at h'
    injection h' with h'
    injection h' with h1 h2
    subst h1 h2
    rfl
theorem takeT_nil : takeT [] = none := rfl
def recsL (ss : List (List UInt8)) : List UInt8 := ss.flatMap textL
theorem parseL_recs {ss : List (List UInt8)} (h : ∀ s ∈ ss, s.length ≤ 65536) : parseL (recsL ss) = (ss, []) := by
  induction ss with
  | nil => exact parseL_none rfl
  | cons s ss ih =>
    have : recsL (s :: ss) = textL s ++ recsL ss := by simp [recsL]
    rw [this, parseL_some (takeT_text (h s (List.mem_cons_self ..)) _), ih fun t ht => h t (List.mem_cons_of_mem _ ht)]
theorem parseL_spec (l : List UInt8) : l = recsL (parseL l).1 ++ (parseL l).2 ∧ ∀ s ∈ (parseL l).1, s.length ≤ 65536 := by
  induction hn : l.length using Nat.strongRecOn generalizing l with
  | _ n ih =>
    cases h : takeT l with
    | none =>
      rw [parseL_none h]
      exact ⟨rfl, fun s hs => by cases hs⟩
    | some p =>
      obtain ⟨s, r⟩ := p
      have hl := takeT_len h
      obtain ⟨h1, h2⟩ := ih r.length (by omega) r rfl
      obtain ⟨h3, h4⟩ := takeT_some h
      rw [parseL_some h]
      refine ⟨?_, fun t ht => ?_⟩
      · show l = recsL (s :: (parseL r).1) ++ (parseL r).2
        have : recsL (s :: (parseL r).1) = textL s ++ recsL (parseL r).1 := by simp [recsL]
        rw [this, List.append_assoc, ← h1]
        exact h4
      · rcases List.mem_cons.1 ht with rfl | ht
        · exact h3
        · exact h2 t ht
theorem parseL_whole {l : List UInt8} (h : (parseL l).2 = []) : l = recsL (parseL l).1 := by
  have := (parseL_spec l).1
  rwa [h, List.append_nil] at this

def Code.l : Code → Code
  | .seq a _ => a
  | .cond _ a _ => a
  | .block _ a => a
  | .rangeFunc _ _ a _ => a
  | c => c
def Code.r : Code → Code
  | .seq _ b => b
  | .cond _ _ b => b
  | .rangeFunc _ _ _ b => b
  | c => c
def Code.ops : Code → Array Oper
  | .region _ o _ => o
  | _ => #[]
end Go.Vc
namespace Go.Proofs.Ythgopkppmppdoaa
open Go Go.Proofs Go.Vc
open Go.RowKit (Below intOf)

section
variable {w : World} {K : Value → World → Prop}

theorem makeEach (c : Value) (w : World) : (Instr.makeFunc (Go.Fn.func 124) #[] #[c]).run Try.prog w = .ok (.func (.func 124) #[] #[c]) w := by kernel_rfl

/-- log.each -/
theorem each_c {b : List UInt8} (k : ∀ w', Blk w' w.heap.size 9 [.string (ofL b)] → Ext w w' → w'.heap.size = w.heap.size + 1 → K (.func (.func 124) #[] #[.pointer (some ⟨w.heap.size, 0, none⟩)]) w') : mCall Try.prog 98 #[.string (ofL b)] w K := by
  refine ⟨ok98 ?_⟩
  unfold sh98
  have hbox : (Instr.box 9 (.string (ofL b))).run Try.prog w = .ok (.pointer (some ⟨w.heap.size, 0, none⟩)) (w.alloc (.cells #[.string (ofL b)] 9 (0, 0))) := by kernel_rfl
  refine mN_new hbox fun w1 h1 u1 s1 => ?_
  refine mN_v (makeEach _ _) ?_
  exact k w1 h1 u1 s1

/-- log.each$1: what it hands on. -/
theorem each1_c {c : Nat} {Y : Value} (Inv : List (List UInt8) → List UInt8 → World → Prop) (hs : ∀ pre r w w', Inv pre r w → Upd w w' (· = c) → Inv pre r w')
    (hY : ∀ (pre : List (List UInt8)) (r0 s r : List UInt8) (w : World) (K : Value → World → Prop), Inv pre r0 w → Blk w c 9 [.string (ofL r0)] → s.length + r.length < r0.length → (∀ w', Inv (pre ++ [s]) r w' → Blk w' c 9 [.string (ofL r0)] → K (.bool true) w') → mY Try.prog (callVS Y #[.string (ofL s), .string (ofL r)]) w K)
    {b : List UInt8} (hl : b.length ≤ 9223372036854775807) (hb : Blk w c 9 [.string (ofL b)]) (hi : Inv [] b w) (k : ∀ w', Inv (parseL b).1 (parseL b).2 w' → K (.tuple #[]) w') : mCall Try.prog 124 #[Y, .pointer (some ⟨c, 0, none⟩)] w K := by
  refine ⟨ok124 ?_⟩
  unfold sh124
  refine mLoop0.mk (fun wr => ∃ pre r, Blk wr c 9 [.string (ofL r)] ∧ Inv pre r wr ∧ r.length ≤ b.length ∧ parseL b = (pre ++ (parseL r).1, (parseL r).2)) (fun wr => match wr.cell? ⟨c, 0, none⟩ with
    | some (.string s) => s.size
    | _ => 0) ?_ ?_
  · exact ⟨[], b, hb, hi, Nat.le_refl _, by simp⟩
  rintro wr ⟨pre, r, hc, hI, hrl, hp⟩
  refine mN_v (r_loadB _ (by kernel_rfl) hc rfl) ?_
  try simp only [push_cast]
  have hdone : takeT r = none → K (.tuple #[]) wr := fun h => by
    rw [parseL_none h, List.append_nil] at hp
    rw [hp] at k
    exact k wr hI
  refine mIf_neS (fun hne => ?_) fun he => ?_
  · refine mN_v (r_loadB _ (by kernel_rfl) hc rfl) ?_
    have hstay : ∀ {w'}, Ext wr w' → Inv pre r w' := fun u => hs _ _ _ _ hI (u.mono fun _ _ => False.elim)
    refine taket_c (by omega) fun w2 u2 => ?_
    unfold takenTV
    cases ht : takeT r with
    | none =>
      try simp only [push_cast]
      refine mIf_neI (fun _ => ?_) fun h => absurd h (by decide)
      have hp' := hp
      rw [parseL_none ht, List.append_nil] at hp'
      rw [hp'] at k
      exact k w2 (hstay u2)
    | some p =>
      obtain ⟨s, t⟩ := p
      have hlt := takeT_len ht
      have hst : s.length + t.length < r.length := by
        rw [(takeT_some ht).2, List.length_append, textL_len]
        omega
      try simp only [push_cast, bne_self_eq_false]
      refine hY pre r s t w2 _ (hstay u2) (hc.keep u2 id) hst fun w3 hI3 hc3 => ?_
      try simp only [push_cast, Bool.not_true]
      refine mN_store1 (by kernel_rfl) hc3 (by simp) rfl fun w4 h4 u4 s4 => ?_
      refine ⟨⟨pre ++ [s], t, h4, hs _ _ _ _ hI3 u4, by omega, ?_⟩, ?_⟩
      · rw [hp, parseL_some ht]
        simp
      · have e1 : w4.cell? ⟨c, 0, none⟩ = some (.string (ofL t)) := h4.cell rfl
        have e2 : wr.cell? ⟨c, 0, none⟩ = some (.string (ofL r)) := hc.cell rfl
        rw [e1, e2]
        exact hlt
  · have : r = [] := by
      have := congrArg ByteArray.size he
      exact List.eq_nil_of_length_eq_zero this
    subst this
    exact hdone takeT_nil
end

/-! ### log.whole -/
def bodyOf (f : Func) : Code := f.body.getD .skip
def c95a (f : Func) : Code := Code.l (bodyOf f)
def c95b (f : Func) : Code := Code.l (Code.r (bodyOf f))
def c95c (f : Func) : Code := Code.l (Code.l (Code.r (Code.r (bodyOf f))))
def c95g (f : Func) : Code := Code.l (Code.r (Code.l (Code.r (Code.r (bodyOf f)))))
def c95s (f : Func) : Array Oper := Code.ops (Code.l (c95g f))
def c95d (f : Func) : Array Oper := Code.ops (Code.l (Code.r (c95g f)))
def c95e (f : Func) : Code := Code.l (Code.r (Code.r (Code.r (bodyOf f))))
theorem body95 : Try.f95.body = some (.seq (c95a Try.f95) (.seq (c95b Try.f95) (.seq (.seq (c95c Try.f95) (.block 0 (.rangeFunc (.tmp 8) #[9, 10] (.region 3 (c95s Try.f95) false) (.block 1 (.region 4 (c95d Try.f95) false))))) (.seq (c95e Try.f95) .ret)))) := by kernel_rfl
theorem vc95a (L : Env) (w : World) (K : Exit → Env → World → Prop) : vcC Try.prog cOk 14 (c95a Try.f95) .z L w K = K .normal ((2, .bool false) :: L) w := by kernel_rfl
theorem vc95b (x y : Value) (w : World) (K : Exit → Env → World → Prop) : vcC Try.prog cOk 14 (c95b Try.f95) .z [(2, y), (0, x)] w K =
    mN Try.prog (vS (Instr.alloc 9 true (.tuple #[]))) w fun t3 w => mN Try.prog (uS (Instr.storeAt 9 t3 x)) w fun _ w => K .normal [(3, t3), (6, x), (2, y), (0, x)] w := by kernel_rfl
theorem vc95c (x y z u : Value) (w : World) (K : Exit → Env → World → Prop) : vcC Try.prog cOk 14 (c95c Try.f95) .z [(3, z), (6, u), (2, y), (0, x)] w K =
    mCall Try.prog 98 #[x] w fun t8 w => K .normal [(8, t8), (7, x), (3, z), (6, u), (2, y), (0, x)] w := by kernel_rfl
theorem vc95s (a b f x y z u v : Value) (w : World) (K : Env → World → Prop) : vcOps Try.prog cOk 14 (c95s Try.f95).toList (c95s Try.f95).toList [(10, b), (9, a), (8, f), (7, v), (3, z), (6, u), (2, y), (0, x)] w K =
    K [(5, b), (10, b), (9, a), (8, f), (7, v), (3, z), (6, u), (2, y), (0, x)] w := by kernel_rfl
theorem vc95d (a b f x y z u v : Value) (w : World) (K : Env → World → Prop) : vcOps Try.prog cOk 14 (c95d Try.f95).toList (c95d Try.f95).toList [(5, b), (10, b), (9, a), (8, f), (7, v), (3, z), (6, u), (2, y), (0, x)] w K =
    mN Try.prog (uS (Instr.storeAt 9 z b)) w fun _ w => K [(11, b), (5, b), (10, b), (9, a), (8, f), (7, v), (3, z), (6, u), (2, y), (0, x)] w := by kernel_rfl
theorem vc95e (f x y z u v : Value) (w : World) (K : Exit → Env → World → Prop) : vcC Try.prog cOk 14 (c95e Try.f95) .z [(8, f), (7, v), (3, z), (6, u), (2, y), (0, x)] w K =
    mN Try.prog (vS (Instr.loadAt 9 z)) w fun t12 w => mN Try.prog (vS (eqS .eql 9 false true t12 (.string ⟨#[]⟩))) w fun t13 w => K .normal [(2, t13), (13, t13), (12, t12), (8, f), (7, v), (3, z), (6, u), (2, y), (0, x)] w := by kernel_rfl

theorem zero9 (w : World) : (Instr.alloc 9 true (.tuple #[])).run Try.prog w = .ok (.pointer (some ⟨w.heap.size, 0, none⟩)) (w.alloc (.cells #[.string ⟨#[]⟩] 9 (0, 0))) := by kernel_rfl

theorem res_one {fn : Func} {t : Nat} (h : fn.results = #[.tmp t]) (tmps : Array Value) (w : World) : (results fn tmps).run Try.prog w = .ok (tmps.getD t undef) w := by
  unfold results
  rw [h]
  simp

/-- A function that holds a range over a function, at its end. -/
theorem leaves_one {fn : Func} {t n : Nat} (h : fn.results = #[.tmp t]) {a : Act} {L : Env} {d : Nat} {w : World} {K : Value → World → Prop} (hL : Has [{ target := .collected d, args := #[] }] n a L) (ht : ehas L t = true) (hO : Opened w d)
    (k : ∀ w', Upd w w' (· = d) → K (eget L t) w') : LeavesInM Fence.wide 0 Try.prog fn a.tmps (retK K) a.defers .returning w := by
  rw [hL.defers]
  refine ⟨by simp, .inl ⟨d, _, rfl, run_takeDeferred hO, ?_⟩⟩
  refine ⟨_, res_one h _ _, ?_⟩
  rw [hL.get t ht]
  exact k _ (putObj_upd _ _ _)

theorem has_arg1 {fn : Func} {n : Nat} (hn : fn.ntmps = n) (h0 : 0 < n) (x : Value) : Has [] n { tmps := #[x] ++ Array.replicate (fn.ntmps - (#[x] : Array Value).size) undef, defers := [] } [(0, x)] := by
  refine ⟨rfl, ?_, fun t ht => ?_⟩
  · simp
    omega
  · obtain rfl : t = 0 := by
      cases t with
      | zero => rfl
      | succ t => exact absurd ht (show ¬ (false = true) from by decide)
    generalize fn.ntmps - (#[x] : Array Value).size = m
    show ((#[x] ++ Array.replicate m undef).getD 0 undef) = x
    rw [Array.getD_eq_getD_getElem?, Array.getElem?_append_left (by simp)]
    rfl

theorem whole_c {b : List UInt8} {w : World} {K : Value → World → Prop} (hl : b.length ≤ 9223372036854775807) (k : ∀ w', Ext w w' → K (.bool (decide ((parseL b).2 = []))) w') : mCall Try.prog 95 #[.string (ofL b)] w K := by
  refine ⟨(callsIn_wide (n := 0)).1 (callsIn_of_wp_marks Try.func95 body95 trivial ?_)⟩
  have hL0 := has_arg1 (fn := Try.f95) (n := 14) (by kernel_rfl) (by decide) (.string (ofL b))
  refine wpIn_seq (wpIn_vc callsOk mixed (k := .z) hL0 ?_ (K := fun e L w' => e = .normal ∧ L = [(2, .bool false), (0, .string (ofL b))] ∧ w' = w) fun e a L w' hL hK => ?_)
  · rw [vc95a]
    exact ⟨rfl, rfl, rfl⟩
  obtain ⟨rfl, rfl, rfl⟩ := hK
  refine wpIn_seq (wpIn_vc callsOk mixed (k := .z) hL ?_ (K := fun e L w'' => e = .normal ∧ L = [(3, .pointer (some ⟨w'.heap.size, 0, none⟩)), (6, .string (ofL b)), (2, .bool false), (0, .string (ofL b))] ∧ Blk w'' w'.heap.size 9 [.string (ofL b)] ∧ Ext w' w'') fun e a L w1 hL hK => ?_)
  · rw [vc95b]
    refine mN_new (zero9 w') fun w1 h1 u1 s1 => ?_
    refine mN_store1 (by kernel_rfl) h1 (by simp) rfl fun w2 h2 u2 s2 => ?_
    exact ⟨rfl, rfl, h2, u1.trans u2 (fun _ _ x => x) fun i hi e => by omega⟩
  obtain ⟨rfl, rfl, h1, u1⟩ := hK
  refine wpIn_seq (wpIn_seq (wpIn_vc callsOk mixed (k := .z) hL ?_ (K := fun e L w'' => e = .normal ∧ L = [(8, .func (.func 124) #[] #[.pointer (some ⟨w1.heap.size, 0, none⟩)]), (7, .string (ofL b)), (3, .pointer (some ⟨w'.heap.size, 0, none⟩)), (6, .string (ofL b)), (2, .bool false), (0, .string (ofL b))] ∧
    Blk w'' w1.heap.size 9 [.string (ofL b)] ∧ Ext w1 w'') fun e a L w2 hL hK => ?_))
  · rw [vc95c]
    exact each_c fun w2 h2 u2 s2 => ⟨rfl, rfl, h2, u2⟩
  obtain ⟨rfl, rfl, h2, u2⟩ := hK
  have hlt1 : w'.heap.size < w1.heap.size := h1.lt
  have h1 := h1.keep u2 id
  refine wpIn_block (wpIn_range callsOk hL rfl rfl rfl rfl rfl fun r w3 hR hO u3 s3 hY => ?_)
  have hlt2 := h2.lt
  refine each1_c (b := b) (Inv := fun _ rest wi => Ready wi (w2.heap.size + 1) r ∧ Opened wi w2.heap.size ∧ Blk wi w'.heap.size 9 [.string (ofL rest)] ∧ Ext w' wi) ?_ ?_ hl (h2.keep u3 id) ⟨hR, hO, h1.keep u3 id, (u1.ext u2).ext u3⟩ ?_
  · rintro _ rest wa wb ⟨i1, i2, i3, i4⟩ u
    exact ⟨i1.keep u (by omega), i2.keep u (by omega), i3.keep u (by omega), i4.trans u (fun _ _ x => x) fun i hi e => by omega⟩
  · rintro _ r0 s rest wa K' ⟨i1, i2, i3, i4⟩ hc _ hk
    refine hY _ _ wa K' i1 ?_
    rw [vc95s]
    refine ⟨i1, fun wb hB ub sb => ?_⟩
    rw [vc95d]
    refine mN_store1 (by kernel_rfl) (i3.keep ub (by omega)) (by simp) rfl fun wc hc' uc sc => ?_
    refine ⟨hB.keep uc (by omega), fun wd hRd ud sd => ?_⟩
    refine hk wd ⟨hRd, ((i2.keep ub (by omega)).keep uc (by omega)).keep ud (by omega), hc'.keep ud (by omega), ?_⟩ (((hc.keep ub (by omega)).keep uc (by omega)).keep ud (by omega))
    exact ((i4.trans ub (fun _ _ x => x) fun i hi e => by omega).trans uc (fun _ _ x => x) fun i hi e => by omega).trans ud (fun _ _ x => x) fun i hi e => by omega
  · rintro w4 ⟨i1, i2, i3, i4⟩
    refine ⟨i1, fun w5 u5 s5 a' hL' => ?_⟩
    have i2 := i2.keep u5 (by omega)
    have i3 := i3.keep u5 (by omega)
    have i5 : Ext w' w5 := i4.trans u5 (fun _ _ x => x) fun i hi e => by omega
    refine wpIn_seq (wpIn_vc callsOk mixed (k := .z) hL' ?_ (K := fun e L w'' => e = .normal ∧ ehas L 2 = true ∧ eget L 2 = .bool (decide ((parseL b).2 = [])) ∧ w'' = w5) fun e a6 L w6 hL6 hK => ?_)
    · rw [vc95e]
      refine mN_v (r_loadB _ (by kernel_rfl) i3 rfl) ?_
      try simp only [push_cast]
      refine ⟨by first | rfl | trivial, by first | rfl | trivial, ?_, by first | rfl | trivial⟩
      show Value.bool _ = _
      rw [show (⟨#[]⟩ : ByteArray) = ofL [] from rfl, ofL_beq]
      cases (parseL b).2 <;> rfl
    obtain ⟨rfl, hh, hg, rfl⟩ := hK
    refine wpIn_ret ?_
    refine leaves_one (by kernel_rfl) hL6 hh i2 fun w7 u7 => ?_
    rw [hg]
    exact k w7 (i5.trans u7 (fun _ _ x => x) fun i hi e => by omega)
end Go.Proofs.Ythgopkppmppdoaa

/-
  Package log: all records.
-/
set_option linter.unusedVariables false
set_option linter.unusedSimpArgs false
set_option maxRecDepth 20000
namespace Go.Proofs.Ythgopkppmppdoaa
open Go Go.Proofs Go.Vc
open Go.RowKit (Below intOf)

/-! ### (*log.Log).Records -/
def c41a (f : Func) : Code := Code.l (bodyOf f)
def c41b (f : Func) : Code := Code.l (Code.r (bodyOf f))
def c41n (f : Func) : Code := Code.l (Code.l (Code.r (c41b f)))
def c41m (f : Func) : Code := Code.l (c41b f)
def c41c (f : Func) : Code := Code.l (Code.r (Code.r (bodyOf f)))
def c41d (f : Func) : Code := Code.l (Code.l (Code.r (Code.r (Code.r (bodyOf f)))))
def c41g (f : Func) : Code := Code.l (Code.r (Code.l (Code.r (Code.r (Code.r (bodyOf f))))))
def c41s (f : Func) : Array Oper := Code.ops (Code.l (c41g f))
def c41t (f : Func) : Array Oper := Code.ops (Code.l (Code.r (c41g f)))
def c41e (f : Func) : Code := Code.l (Code.r (Code.r (Code.r (Code.r (bodyOf f)))))
theorem body41 : Try.f41.body = some (.seq (c41a Try.f41) (.seq (c41b Try.f41) (.seq (c41c Try.f41) (.seq (.seq (c41d Try.f41) (.block 0 (.rangeFunc (.tmp 11) #[12, 13] (.region 5 (c41s Try.f41) false) (.block 1 (.region 6 (c41t Try.f41) false))))) (.seq (c41e Try.f41) .ret))))) := by kernel_rfl
theorem vc41a (L : Env) (w : World) (K : Exit → Env → World → Prop) : vcC Try.prog cOk 20 (c41a Try.f41) .z L w K = K .normal ((2, .slice none 0 0) :: L) w := by kernel_rfl
theorem vc41b (x y : Value) (w : World) (K : Exit → Env → World → Prop) : vcC Try.prog cOk 20 (c41b Try.f41) .z [(2, y), (0, x)] w K =
    mN Try.prog (vS (eqS .eql 57 false true x (.pointer none))) w fun t6 w => mIf t6 (K .ret [(2, .slice none 0 0), (6, t6), (5, x), (2, y), (0, x)] w) (K .normal [(6, t6), (5, x), (2, y), (0, x)] w) := by kernel_rfl
theorem vc41c (L : Env) (w : World) (K : Exit → Env → World → Prop) : vcC Try.prog cOk 20 (c41c Try.f41) .z L w K = mN Try.prog (vS (Instr.alloc 67 true (.tuple #[]))) w fun t3 w => K .normal ((3, t3) :: L) w := by kernel_rfl
theorem vc41d (x y z u v : Value) (w : World) (K : Exit → Env → World → Prop) : vcC Try.prog cOk 20 (c41d Try.f41) .z [(3, z), (6, u), (5, v), (2, y), (0, x)] w K =
    mN Try.prog (nilS x) w fun t8 w => mN Try.prog (vS (Instr.fieldAt 159 t8 3)) w fun t9 w => mN Try.prog (vS (Instr.loadAt 9 t9)) w fun t10 w =>
    mCall Try.prog 98 #[t10] w fun t11 w => K .normal [(11, t11), (10, t10), (9, t9), (8, t8), (7, x), (3, z), (6, u), (5, v), (2, y), (0, x)] w := by kernel_rfl
theorem vc41s (a b f g h i x y z u v j : Value) (w : World) (K : Env → World → Prop) : vcOps Try.prog cOk 20 (c41s Try.f41).toList (c41s Try.f41).toList [(13, b), (12, a), (11, f), (10, g), (9, h), (8, i), (7, j), (3, z), (6, u), (5, v), (2, y), (0, x)] w K =
    K [(4, a), (13, b), (12, a), (11, f), (10, g), (9, h), (8, i), (7, j), (3, z), (6, u), (5, v), (2, y), (0, x)] w := by kernel_rfl
theorem vc41t (a b f g h i x y z u v j : Value) (w : World) (K : Env → World → Prop) : vcOps Try.prog cOk 20 (c41t Try.f41).toList (c41t Try.f41).toList [(4, a), (13, b), (12, a), (11, f), (10, g), (9, h), (8, i), (7, j), (3, z), (6, u), (5, v), (2, y), (0, x)] w K =
    mN Try.prog (vS (Instr.loadAt 67 z)) w fun t14 w => mN Try.prog (vS (Instr.buildSlice 67 1 #[(0, a)])) w fun t16 w =>
    mN Try.prog (builtin .append #[67, 67] 67 #[false, false] #[t14, t16]) w fun t17 w => mN Try.prog (uS (Instr.storeAt 67 z t17)) w fun _ w =>
      K [(17, t17), (16, t16), (15, a), (14, t14), (4, a), (13, b), (12, a), (11, f), (10, g), (9, h), (8, i), (7, j), (3, z), (6, u), (5, v), (2, y), (0, x)] w := by kernel_rfl
theorem vc41e (f g h i x y z u v j : Value) (w : World) (K : Exit → Env → World → Prop) : vcC Try.prog cOk 20 (c41e Try.f41) .z [(11, f), (10, g), (9, h), (8, i), (7, j), (3, z), (6, u), (5, v), (2, y), (0, x)] w K =
    mN Try.prog (vS (Instr.loadAt 67 z)) w fun t18 w => mCall Try.prog 99 #[t18] w fun t19 w =>
      K .normal [(2, t19), (19, t19), (18, t18), (11, f), (10, g), (9, h), (8, i), (7, j), (3, z), (6, u), (5, v), (2, y), (0, x)] w := by kernel_rfl

section
variable {w : World} {K : Value → World → Prop}
def encT (ss : List (List UInt8)) : List Value := ss.map fun s => Value.string (ofL s)
theorem encT_len (ss : List (List UInt8)) : (encT ss).length = ss.length := by simp [encT]

/-- A row of texts, as a slice that is read. -/
theorem Strs.of_row {v : Value} {ss : List (List UInt8)} {fp : Nat → Prop} (h : Row w 9 1 v ss.length (encT ss)) (hf : ∀ k, Fp v k → fp k) : Strs w v (ss.map ofL) fp := by
  obtain ⟨A, c, rfl⟩ := h.slice
  refine ⟨A, c, by rw [List.length_map], by rw [List.length_map]; exact Row.small' h, fun h0 => ?_⟩
  rw [List.length_map] at h0
  obtain ⟨g, cap, cs, e, hb, h1, h2, h3, h4⟩ := h.at_ h0
  injection e with e1 _ e2
  subst e1 e2
  refine ⟨g, 0, rfl, hf g rfl, fun i x hx => ⟨[.string x], rfl, fun j u hu => ?_, rfl⟩⟩
  have hi := (List.getElem?_eq_some_iff.1 hx).1
  rw [List.length_map] at hi
  obtain ⟨rfl, rfl⟩ : j = 0 ∧ u = .string x := by
    cases j with
    | zero => simp at hu; exact ⟨rfl, hu.symm⟩
    | succ j => simp at hu
  refine hb.cell ?_
  rw [Nat.zero_add, Nat.mul_one, Nat.add_zero, h4 i (by omega)]
  rw [List.getElem?_map, Option.map_eq_some_iff] at hx
  obtain ⟨s, hs, rfl⟩ := hx
  simp [encT, hs]

theorem r_slice3 {P : Program} (w : World) {T E sz : Nat} (hT : P.underlying T = some (.slice E)) (hs : szOf P E = some sz) (A : Option Addr) (n c : Nat) (h1 : n ≤ c) :
    (Instr.sliceAt T (.slice A n c) none (some (.int .i64 n)) (some (.int .i64 n))).run P w = .ok (.slice A n n) w := by
  have e1 := r_bound (P := P) w .i64 n c .slice3Acap (by omega) (by omega)
  have e2 := r_bound (P := P) w .i64 n n .slice3B (by omega) (by omega)
  rw [Int.toNat_natCast] at e1 e2
  have ha : A.map (·.add 0) = A := by
    cases A with
    | none => rfl
    | some a =>
      show some (a.add 0) = some a
      unfold Addr.add
      split <;> simp_all
  simp only [Instr.sliceAt, Instr.slice, Instr.sliceBounds, Sem.run_bind, Sem.run_pure, Result.andThen_ok, underlying_run w hT, sizeOf_run w hs, e1, e2, Nat.zero_mul, Nat.sub_zero, if_true]
  simp only [ha, ite_self]

/-- slices.Clip -/
theorem clip_c {v : Value} {ss : List (List UInt8)} {fp : Nat → Prop} (h : Row w 9 1 v ss.length (encT ss)) (hf : ∀ k, Fp v k → fp k) (k : ∀ v', Strs w v' (ss.map ofL) fp → K v' w) : mCall Try.prog 99 #[v] w K := by
  have hS := Strs.of_row h hf
  have hcap : ∃ A c, v = .slice A ss.length c ∧ ss.length ≤ c := by
    rcases h.form with ⟨rfl, h0, _⟩ | ⟨g, cap, cs, rfl, _, h1, _⟩
    · exact ⟨none, 0, by rw [h0], by omega⟩
    · exact ⟨_, cap, rfl, h1⟩
  obtain ⟨A, c, rfl, hc⟩ := hcap
  refine ⟨ok99 ?_⟩
  unfold sh99
  try simp only [push_cast]
  refine mN_v (r_slice3 w Try.underlying67 (by kernel_rfl) (sz := 1) A _ c hc) ?_
  refine k _ ?_
  obtain ⟨A', c', e, hm, hh⟩ := hS
  injection e with e1 e2 e3
  subst e1
  exact ⟨A, ss.length, by rw [List.length_map], hm, hh⟩

theorem zero67 (w : World) : (Instr.alloc 67 true (.tuple #[])).run Try.prog w = .ok (.pointer (some ⟨w.heap.size, 0, none⟩)) (w.alloc (.cells #[.slice none 0 0] 67 (0, 0))) := by kernel_rfl
theorem str_new (s : ByteArray) (w : World) : (Instr.buildSlice 67 1 #[(0, .string s)]).run Try.prog w = .ok (.slice (some ⟨w.heap.size, 0, none⟩) 1 1) (w.alloc (.cells #[.string s] 9 (0, 0))) := by kernel_rfl

/-- (*log.Log).Records, of a log. -/
theorem records_c {p : Nat} {x0 x1 x2 x4 : Value} {b : List UInt8} (hl : b.length ≤ 1000000000) (hp : Blk w p 159 [x0, x1, x2, .string (ofL b), x4])
    (k : ∀ v w', Strs w' v ((parseL b).1.map ofL) (w.heap.size ≤ ·) → Ext w w' → K v w') : mCall Try.prog 41 #[.pointer (some ⟨p, 0, none⟩)] w K := by
  refine ⟨(callsIn_wide (n := 0)).1 (callsIn_of_wp_marks Try.func41 body41 trivial ?_)⟩
  have hL0 := has_arg1 (fn := Try.f41) (n := 20) (by kernel_rfl) (by decide) (.pointer (some ⟨p, 0, none⟩))
  refine wpIn_seq (wpIn_vc callsOk mixed (k := .z) hL0 ?_ (K := fun e L w' => e = .normal ∧ L = [(2, .slice none 0 0), (0, .pointer (some ⟨p, 0, none⟩))] ∧ w' = w) fun e a L w' hL hK => ?_)
  · rw [vc41a]
    exact ⟨rfl, rfl, rfl⟩
  obtain ⟨rfl, rfl, rfl⟩ := hK
  refine wpIn_seq (wpIn_vc callsOk mixed (k := .z) hL ?_ (K := fun e L w'' => e = .normal ∧ L = [(6, .bool false), (5, .pointer (some ⟨p, 0, none⟩)), (2, .slice none 0 0), (0, .pointer (some ⟨p, 0, none⟩))] ∧ w'' = w') fun e a L w1 hL hK => ?_)
  · rw [vc41b]
    try simp only [push_cast, Option.isNone_some]
    exact ⟨by first | rfl | trivial, by first | rfl | trivial, by first | rfl | trivial⟩
  obtain ⟨rfl, rfl, rfl⟩ := hK
  refine wpIn_seq (wpIn_vc callsOk mixed (k := .z) hL ?_ (K := fun e L w'' => e = .normal ∧ L = [(3, .pointer (some ⟨w1.heap.size, 0, none⟩)), (6, .bool false), (5, .pointer (some ⟨p, 0, none⟩)), (2, .slice none 0 0), (0, .pointer (some ⟨p, 0, none⟩))] ∧
    Blk w'' w1.heap.size 67 [.slice none 0 0] ∧ Ext w1 w'') fun e a L w2 hL hK => ?_)
  · rw [vc41c]
    exact mN_new (zero67 w1) fun w2 h2 u2 s2 => ⟨rfl, rfl, h2, u2⟩
  obtain ⟨rfl, rfl, h2, u2⟩ := hK
  have hp2 := hp.keep u2 id
  refine wpIn_seq (wpIn_seq (wpIn_vc callsOk mixed (k := .z) hL ?_ (K := fun e L w'' => e = .normal ∧ (∃ t9 t8, L = [(11, .func (.func 124) #[] #[.pointer (some ⟨w2.heap.size, 0, none⟩)]), (10, .string (ofL b)), (9, t9), (8, t8), (7, .pointer (some ⟨p, 0, none⟩)), (3, .pointer (some ⟨w1.heap.size, 0, none⟩)), (6, .bool false), (5, .pointer (some ⟨p, 0, none⟩)), (2, .slice none 0 0), (0, .pointer (some ⟨p, 0, none⟩))]) ∧
    Blk w'' w2.heap.size 9 [.string (ofL b)] ∧ Ext w2 w'') fun e a L w3 hL hK => ?_))
  · rw [vc41d]
    try simp only [push_cast]
    refine mN_v (r_loadB _ (by kernel_rfl) hp2 rfl) ?_
    exact each_c fun w3 h3 u3 s3 => ⟨by first | rfl | trivial, ⟨_, _, rfl⟩, h3, u3⟩
  obtain ⟨rfl, ⟨t9, t8, rfl⟩, h3, u3⟩ := hK
  have hlt2 : w1.heap.size < w2.heap.size := h2.lt
  have hlt3 : w2.heap.size < w3.heap.size := h3.lt
  have h2 := h2.keep u3 id
  refine wpIn_block (wpIn_range callsOk hL rfl rfl rfl rfl rfl fun r w4 hR hO u4 s4 hY => ?_)
  refine each1_c (b := b) (Inv := fun pre rest wi => Ready wi (w3.heap.size + 1) r ∧ Opened wi w3.heap.size ∧ pre.length + rest.length ≤ b.length ∧ w4.heap.size ≤ wi.heap.size ∧ (∃ v, Blk wi w1.heap.size 67 [v] ∧ Row wi 9 1 v pre.length (encT pre) ∧ ∀ k, Fp v k → w4.heap.size ≤ k) ∧ Ext w1 wi) ?_ ?_ (by omega) (h3.keep u4 id)
    ⟨hR, hO, by simp, Nat.le_refl _, ⟨_, h2.keep u4 id, Row.nil _ _ _, fun k hk => by cases hk⟩, (u2.ext u3).ext u4⟩ ?_
  · rintro pre rest wa wb ⟨i1, i2, i3, i4, ⟨v, i5, i6, i7⟩, i8⟩ u
    exact ⟨i1.keep u (by omega), i2.keep u (by omega), i3, Nat.le_trans i4 u.size, ⟨v, i5.keep u (by omega), i6.keep u fun k hk e => by have := i7 k hk; omega, i7⟩, i8.trans u (fun _ _ x => x) fun i hi e => by omega⟩
  · rintro pre r0 s rest wa K' ⟨i1, i2, i3, i4, ⟨v, i5, i6, i7⟩, i8⟩ hc hlen hk
    refine hY _ _ wa K' i1 ?_
    rw [vc41s]
    refine ⟨i1, fun wb hB ub sb => ?_⟩
    rw [vc41t]
    have j5 := i5.keep ub (by omega)
    have j6 := i6.keep ub fun k hk e => by have := i7 k hk; omega
    refine mN_v (r_loadB _ (by kernel_rfl) j5 rfl) ?_
    refine mN_new (str_new _ _) fun wc hc' uc sc => ?_
    have j6 := j6.keep uc fun _ _ => id
    refine mN_append (z := .string ⟨#[]⟩) (sz := 1) (bytes := 16) Try.underlying67 (by kernel_rfl) (by kernel_rfl) (by omega) j6 (m := 1) (ys := [.string (ofL s)]) (by simp) (fun j u hu => hc'.cell (by simpa using hu)) (fun u hu => by rw [List.mem_singleton] at hu; subst hu; rfl)
      (by omega) (by omega) fun v4 wd hr4 ud y4 => ?_
    have hvo : ¬ Fp v w1.heap.size := fun hf => by have := i7 _ hf; omega
    have j5d := (j5.keep uc id).keep ud hvo
    have ho : v4.oneCell' = true := by
      obtain ⟨A, c, rfl⟩ := hr4.slice
      rfl
    have hszb : w4.heap.size ≤ wb.heap.size := by rw [sb]; exact i4
    have y4' : ∀ k, Fp v4 k → w4.heap.size ≤ k := fun k hk => (y4 k hk).elim (i7 k) fun h => by have := uc.size; omega
    refine mN_store1 (by kernel_rfl) j5d (by simp) ho fun we he ue se => ?_
    have hBd := ((hB.keep uc id).keep ud fun hf => by have := i7 _ hf; omega).keep ue (by omega)
    refine ⟨hBd, fun wf hRf uf sf => ?_⟩
    have e1 : pre.length + 1 = (pre ++ [s]).length := by simp
    have e2 : encT pre ++ [.string (ofL s)] = encT (pre ++ [s]) := by simp [encT]
    rw [e1, e2] at hr4
    have hkeep : ∀ {g T cs}, g < w4.heap.size → g ≠ w3.heap.size + 1 → g ≠ w1.heap.size → Blk wa g T cs → Blk wf g T cs := fun hg n1 n2 hb =>
      ((((hb.keep ub (by omega)).keep uc id).keep ud fun hf => by have := i7 _ hf; omega).keep ue (by omega)).keep uf (by omega)
    have e8 : Ext w1 wf := ((((i8.trans ub (fun _ _ x => x) fun i hi e => by omega).ext uc).trans ud (fun _ _ x => x) fun i hi hf => by have := i7 _ hf; omega).trans ue (fun _ _ x => x) fun i hi e => by omega).trans uf (fun _ _ x => x) fun i hi e => by omega
    refine hk wf ⟨hRf, ?_, by simp; omega, ?_, ⟨v4, he.keep uf (by omega), (hr4.keep ue fun k hk e => by have := y4' k hk; omega).keep uf fun k hk e => by have := y4' k hk; omega, y4'⟩, e8⟩ (hkeep (by omega) (by omega) (by omega) hc)
    · exact ((((i2.keep ub (by omega)).keep uc id).keep ud fun hf => by have := i7 _ hf; omega).keep ue (by omega)).keep uf (by omega)
    · have := uc.size
      have := ud.size
      have := ue.size
      have := uf.size
      omega
  · rintro w5 ⟨i1, i2, i3, i4, ⟨v, i5, i6, i7⟩, i8⟩
    refine ⟨i1, fun w6 u6 s6 a' hL' => ?_⟩
    have i2 := i2.keep u6 (by omega)
    have i5 := i5.keep u6 (by omega)
    have i6 := i6.keep u6 fun k hk e => by have := i7 k hk; omega
    have e6 : Ext w1 w6 := i8.trans u6 (fun _ _ x => x) fun i hi e => by omega
    refine wpIn_seq (wpIn_vc callsOk mixed (k := .z) hL' ?_ (K := fun e L w'' => e = .normal ∧ ehas L 2 = true ∧ Strs w'' (eget L 2) ((parseL b).1.map ofL) (w4.heap.size ≤ ·) ∧ w'' = w6) fun e a6 L w7 hL6 hK => ?_)
    · rw [vc41e]
      refine mN_v (r_loadB _ (by kernel_rfl) i5 rfl) ?_
      exact clip_c i6 i7 fun v' hv' => ⟨by first | rfl | trivial, by first | rfl | trivial, hv', by first | rfl | trivial⟩
    obtain ⟨rfl, hh, hg, rfl⟩ := hK
    refine wpIn_ret ?_
    refine leaves_one (by kernel_rfl) hL6 hh i2 fun w8 u8 => ?_
    refine k _ w8 ((hg.keep u8 fun k hk e => by omega).mono fun k hk => by have := u2.size; have := u3.size; omega) ?_
    exact e6.trans u8 (fun _ _ x => x) fun i hi e => by omega
end
end Go.Proofs.Ythgopkppmppdoaa

/-
  Package log: what a log is in memory; the small functions.
-/
set_option linter.unusedVariables false
set_option linter.unusedSimpArgs false
set_option maxRecDepth 20000
namespace Go.Proofs.Ythgopkppmppdoaa
open Go Go.Proofs Go.Vc
open Go.RowKit (Below intOf)

/-- A log: its row of blocks, its bytes, how many are sealed. -/
structure LM where
  start : Nat
  blocks : Nat
  b : List UInt8
  sealed : Nat

def logC (dp : Nat) (L : LM) : List Value := [dptr dp, .int .i64 L.start, .int .i64 L.blocks, .string (ofL L.b), .int .i64 L.sealed]
/-- What holds of a log. -/
structure LM.Ok (L : LM) : Prop where
  s : L.start ≤ 128
  n : L.blocks ≤ 128
  len : L.b.length ≤ 256 * L.blocks
  sl : L.sealed ≤ L.b.length

def nblk (n : Nat) : Nat := (n + 255) / 256
def blkAt (b : List UInt8) (i : Nat) : List UInt8 := padL ((b.drop (256 * i)).take 256)
theorem blkAt_len (b : List UInt8) (i : Nat) : (blkAt b i).length = 256 := padL_len (by simp; omega)
theorem blkAt_size (b : List UInt8) (i : Nat) : (ofL (blkAt b i)).size = 256 := blkAt_len b i

/-- n blocks of a log are written, from the i-th on. -/
def DM.logWrite (D : DM) (start : Nat) (b : List UInt8) : Nat → Nat → Int × DM
  | _, 0 => (0, D)
  | i, n + 1 => if (D.write ((start : Int) + i) (ofL (blkAt b i))).1 ≠ 0 then D.write ((start : Int) + i) (ofL (blkAt b i)) else (D.write ((start : Int) + i) (ofL (blkAt b i))).2.logWrite start b (i + 1) n
def LM.write (L : LM) (D : DM) : Int × DM :=
  if L.sealed < L.b.length then D.logWrite L.start L.b (L.sealed / 256) (nblk L.b.length - L.sealed / 256) else (0, D)

section
variable {w : World} {K : Value → World → Prop} {p dp : Nat} {fp : Nat → Prop} {D : DM} {L : LM}

theorem blocksOf_c (n : Nat) (hn : n ≤ 1000000000) (k : K (.int .i64 (nblk n)) w) : mCall Try.prog 92 #[.int .i64 n] w K := by
  refine ⟨ok92 ?_⟩
  unfold sh92
  try simp only [push_cast]
  rw [i64w ((n : Int) + 256) (by omega) (by omega), i64w _ (by omega) (by omega)]
  refine mN_v (r_quo _ _ _ _ _ (by decide)) ?_
  have e : ((n : Int) + 256 - 1).tdiv 256 = ((nblk n : Nat) : Int) := by
    rw [Int.tdiv_eq_ediv_of_nonneg (by omega)]
    unfold nblk
    omega
  rw [e, i64w _ (by omega) (by unfold nblk; omega)]
  exact k

theorem sealed_c (h : Blk w p 159 (logC dp L)) (k : K (.int .i64 L.sealed) w) : mCall Try.prog 42 #[dptr p] w K := by
  refine ⟨ok42 ?_⟩
  unfold sh42 dptr
  try simp only [push_cast, Option.isNone_some]
  refine mN_v (r_loadB _ (by kernel_rfl) h rfl) ?_
  exact k
theorem bytes_c (h : Blk w p 159 (logC dp L)) (k : K (.int .i64 L.b.length) w) : mCall Try.prog 43 #[dptr p] w K := by
  refine ⟨ok43 ?_⟩
  unfold sh43 dptr
  try simp only [push_cast, Option.isNone_some]
  refine mN_v (r_loadB _ (by kernel_rfl) h rfl) ?_
  try simp only [push_cast, ofL_size]
  exact k
theorem room_c (h : Blk w p 159 (logC dp L)) (o : L.Ok) (k : ∀ w', Ext w w' → K (.int .i64 ((256 * L.blocks - L.b.length : Nat) : Int)) w') : mCall Try.prog 44 #[dptr p] w K := by
  have hl := o.len
  have hn := o.n
  refine ⟨ok44 ?_⟩
  unfold sh44 dptr
  try simp only [push_cast, Option.isNone_some]
  unfold mDrew
  have u1 : Ext w w.drew := Upd.drew w _
  have h := h.keep u1 id
  generalize w.drew = w1 at u1 h
  try simp only [push_cast]
  refine mR_v (r_loadB _ (by kernel_rfl) h rfl) ?_
  try simp only [push_cast]
  rw [i64w _ (by omega) (by omega)]
  refine mR_v (r_loadB _ (by kernel_rfl) h rfl) ?_
  try simp only [push_cast, ofL_size]
  rw [i64w _ (by omega) (by omega)]
  rw [show (L.blocks : Int) * 256 - L.b.length = ((256 * L.blocks - L.b.length : Nat) : Int) from by omega]
  exact k w1 u1

/-- What Add answers, and the log behind it. -/
def LM.add (L : LM) (s : List UInt8) : Int × LM :=
  if 65536 < s.length then (2, L) else if 256 * L.blocks < L.b.length + (textL s).length then (5, L) else (0, { L with b := L.b ++ textL s })
theorem LM.add_ok {s : List UInt8} (o : L.Ok) : (L.add s).2.Ok := by
  unfold LM.add
  split
  · exact o
  · split
    · exact o
    · have := o.sl
      exact ⟨o.s, o.n, by simp; omega, by simp; omega⟩

theorem add_c {s : List UInt8} (hs : s.length ≤ 9223372036854775807) (h : Blk w p 159 (logC dp L)) (o : L.Ok) (k : ∀ w', Blk w' p 159 (logC dp (L.add s).2) → Upd w w' (· = p) → K (.int .i64 (L.add s).1) w') :
    mCall Try.prog 46 #[dptr p, .string (ofL s)] w K := by
  have hl := o.len
  have hn := o.n
  unfold LM.add at k
  refine ⟨ok46 ?_⟩
  unfold sh46
  try simp only [push_cast, dptr, Option.isNone_some]
  refine qtext_c hs (fun hlong w1 u1 => ?_) fun hlong w1 u1 => ?_
  · rw [if_pos hlong] at k
    try simp only [push_cast]
    refine mIf_neI (fun _ => ?_) fun h => absurd h (by decide)
    exact k w1 (h.keep u1 id) (u1.mono fun _ _ => False.elim)
  rw [if_neg (by omega)] at k
  try simp only [push_cast, bne_self_eq_false, ofL_size]
  refine room_c (h.keep u1 id) o fun w2 u2 => ?_
  have a2 : Ext w w2 := u1.ext u2
  have h2 := h.keep a2 id
  have ht : (textL s).length ≤ 70000 := by
    rw [textL_len]
    have := digL_len6 (n := s.length) (by omega)
    omega
  try simp only [push_cast]
  refine mIf_dec (fun hlt => ?_) fun hlt => ?_
  · rw [if_pos (by omega)] at k
    exact k w2 h2 (a2.mono fun _ _ => False.elim)
  rw [if_neg (by omega)] at k
  refine mN_v (r_loadB _ (by kernel_rfl) h2 rfl) ?_
  refine mN_v (r_addS _ _ _ _ (by rw [ofL_size, ofL_size]; omega)) ?_
  rw [ofL_append]
  try simp only [push_cast]
  refine mN_store1 (by kernel_rfl) h2 (by simp [logC]) rfl fun w3 h3 u3 s3 => ?_
  exact k w3 h3 (a2.trans u3 (fun _ _ x => x.elim) fun _ _ e => e)

theorem seal_c (h : Blk w p 159 (logC dp L)) (k : ∀ w', Blk w' p 159 (logC dp { L with sealed := L.b.length }) → Upd w w' (· = p) → K (.tuple #[]) w') : mCall Try.prog 54 #[dptr p] w K := by
  refine ⟨ok54 ?_⟩
  unfold sh54
  try simp only [push_cast, dptr, Option.isNone_some, Bool.not_false]
  refine mN_v (r_loadB _ (by kernel_rfl) h rfl) ?_
  try simp only [push_cast, ofL_size]
  refine mN_store1 (by kernel_rfl) h (by simp [logC]) rfl fun w3 h3 u3 s3 => ?_
  exact k w3 h3 u3

theorem drop_c (h : Blk w p 159 (logC dp L)) (o : L.Ok) (k : ∀ w', Blk w' p 159 (logC dp { L with b := L.b.take L.sealed }) → Upd w w' (· = p) → K (.tuple #[]) w') : mCall Try.prog 55 #[dptr p] w K := by
  have hl := o.len
  have hn := o.n
  have hse := o.sl
  refine ⟨ok55 ?_⟩
  unfold sh55
  try simp only [push_cast, dptr, Option.isNone_some, Bool.not_false]
  unfold mDrew
  have u1 : Ext w w.drew := Upd.drew w _
  have h := h.keep u1 id
  generalize w.drew = w1 at u1 h
  try simp only [push_cast]
  refine mR_v (r_loadB _ (by kernel_rfl) h rfl) ?_
  try simp only [push_cast]
  refine mR_v (r_loadB _ (by kernel_rfl) h rfl) ?_
  refine mP_v (fun w => r_sliceSh w Try.underlying9 _ _ (by omega) (by rw [ofL_size]; omega)) ?_
  rw [ofL_extract, List.drop_zero, Int.toNat_natCast, Nat.sub_zero]
  try simp only [push_cast]
  refine mN_store1 (by kernel_rfl) h (by simp [logC]) rfl fun w3 h3 u3 s3 => ?_
  exact k w3 h3 (u1.trans u3 (fun _ _ x => x.elim) fun _ _ e => e)

theorem p_min2 (t : TypeId) (c : Array Bool) (ts : Array TypeId) (k k' : IntKind) (x y : Int) (K : Value → Prop) : mP Try.prog (builtin .min ts t c #[.int k x, .int k' y]) K = K (.int k (if y < x then y else x)) :=
  mP_eq fun w => by simp [builtin, run_min_int2]

/-- (*log.Log).Write -/
theorem lwrite_c (h : Blk w p 159 (logC dp L)) (o : L.Ok) (hd : IsDisk w dp fp D) (hne : ¬ fp p) (hwn : D.waits.length ≤ 100000000)
    (k : ∀ w', DAfter w dp fp (L.write D).2 w' → K (.int .i64 (L.write D).1) w') : mCall Try.prog 56 #[dptr p] w K := by
  have hl := o.len
  have hn := o.n
  have hse := o.sl
  have hst := o.s
  refine ⟨ok56 ?_⟩
  unfold sh56
  try simp only [push_cast, dptr, Option.isNone_some]
  refine mN_v (r_loadB _ (by kernel_rfl) h rfl) ?_
  refine mN_v (r_quo _ _ _ _ _ (by decide)) ?_
  rw [show (L.sealed : Int).tdiv 256 = ((L.sealed / 256 : Nat) : Int) from by rw [Int.tdiv_eq_ediv_of_nonneg (by omega)]; omega, i64w _ (by omega) (by omega)]
  have hnb : nblk L.b.length ≤ 128 := by unfold nblk; omega
  have hlt : ∀ k, fp k → k < w.heap.size := fun k hk => hd.lt hk
  refine mLoop1.mk (fun x wr => ∃ (i n : Nat) (D' : DM), x = .int .i64 i ∧ i + n = nblk L.b.length ∧ DAfter w dp fp D' wr ∧ D'.waits.length ≤ D.waits.length + i ∧ (L.sealed < L.b.length → D'.logWrite L.start L.b i n = L.write D) ∧ (¬ L.sealed < L.b.length → L.write D = (0, D')))
    (fun x _ => 200 - (intOf x).toNat) ?_ ?_
  · refine ⟨L.sealed / 256, nblk L.b.length - L.sealed / 256, D, rfl, by unfold nblk; omega, hd.after (Upd.refl _ _), by omega, fun h => by rw [LM.write, if_pos h], fun h => by rw [LM.write, if_neg h]⟩
  rintro x wr ⟨i, n, D', rfl, hin, ⟨fp', hd', u', y'⟩, hwl, hr, hr0⟩
  have hne' : ¬ fp' p := fun hf => (y' p hf).elim hne fun hx => by have := h.lt; omega
  have h' := h.keep u' hne
  unfold mDrew
  have u1 : Ext wr wr.drew := Upd.drew wr _
  have h1 := h'.keep u1 id
  have hd1 := hd'.ext u1
  generalize wr.drew = w1 at u1 h1 hd1
  try simp only [push_cast]
  refine mR_v (r_loadB _ (by kernel_rfl) h1 rfl) ?_
  try simp only [push_cast, ofL_size]
  refine blocksOf_c _ (by omega) ?_
  refine ⟨rdN_v (r_loadB _ (by kernel_rfl) h1 rfl), ?_⟩
  try simp only [push_cast]
  have hfin : ∀ w', Ext wr w' → (L.write D = (0, D')) → K (.int .i64 0) w' := fun w' u e => by
    rw [e] at k
    exact k w' ⟨fp', hd'.ext u, u'.ext u, y'⟩
  refine mIf_dec (fun hlt1 => ?_) fun hlt1 => ?_
  rotate_left
  · refine hfin w1 u1 ?_
    obtain rfl : n = 0 := by omega
    rcases Decidable.em (L.sealed < L.b.length) with h | h
    · rw [← hr h]; rfl
    · exact hr0 h
  try simp only [push_cast]
  refine mR_v (r_loadB _ (by kernel_rfl) h1 rfl) ?_
  try simp only [push_cast]
  refine mR_v (r_loadB _ (by kernel_rfl) h1 rfl) ?_
  try simp only [push_cast, ofL_size]
  refine mIf_dec (fun hlt2 => ?_) fun hlt2 => ?_
  rotate_left
  · exact hfin w1 u1 (hr0 (by omega))
  have hr := hr (by omega)
  obtain ⟨n, rfl⟩ : ∃ m, n = m + 1 := ⟨n - 1, by omega⟩
  have u2 : Ext w1 w1.drew := Upd.drew w1 _
  have h2 := h1.keep u2 id
  have hd2 := hd1.ext u2
  generalize w1.drew = w2 at u2 h2 hd2
  have hib : 256 * i < L.b.length := by unfold nblk at hin; omega
  try simp only [push_cast]
  refine mR_v (r_loadB _ (by kernel_rfl) h2 rfl) ?_
  rw [i64w ((i : Int) * 256) (by omega) (by omega)]
  try simp only [push_cast]
  refine mR_v (r_loadB _ (by kernel_rfl) h2 rfl) ?_
  try simp only [push_cast, ofL_size]
  rw [i64w ((i : Int) + 1) (by omega) (by omega), i64w (((i : Int) + 1) * 256) (by omega) (by omega)]
  rw [p_min2]
  have hmin : (if ((i : Int) + 1) * 256 < L.b.length then ((i : Int) + 1) * 256 else (L.b.length : Int)) = ((min (256 * i + 256) L.b.length : Nat) : Int) := by
    split <;> omega
  rw [hmin]
  refine mP_v (fun w => r_sliceS w Try.underlying9 _ _ _ (by omega) (by omega) (by rw [ofL_size]; omega)) ?_
  have u3 : Ext w2 w2.drew := Upd.drew w2 _
  have h3 := h2.keep u3 id
  have hd3 := hd2.ext u3
  generalize w2.drew = w3 at u3 h3 hd3
  have hcut : (ofL L.b).extract ((i : Int) * 256).toNat ((min (256 * i + 256) L.b.length : Nat) : Int).toNat = ofL ((L.b.drop (256 * i)).take 256) := by
    rw [ofL_extract]
    congr 1
    rw [show ((i : Int) * 256).toNat = 256 * i from by omega, Int.toNat_natCast]
    rcases Nat.le_total (256 * i + 256) L.b.length with hx | hx
    · rw [Nat.min_eq_left hx]
      congr 1
      omega
    · rw [Nat.min_eq_right hx, List.take_of_length_le (by simp), List.take_of_length_le (by simp; omega)]
  rw [hcut]
  try simp only [push_cast]
  refine mR_v (r_loadB _ (by kernel_rfl) h3 rfl) ?_
  try simp only [push_cast]
  refine mR_v (r_loadB _ (by kernel_rfl) h3 rfl) ?_
  try simp only [push_cast, ofL_size]
  have hcl : ((L.b.drop (256 * i)).take 256).length ≤ 256 := by simp; omega
  generalize hc : (L.b.drop (256 * i)).take 256 = c at hcl ⊢
  rw [i64w ((L.start : Int) + i) (by omega) (by omega), i64w _ (by omega) (by omega), show (256 : Int) - c.length = ((256 - c.length : Nat) : Int) from by omega]
  have hrep := Try.strings_Repeat ⟨#[0]⟩ (256 - c.length) w3 (by omega) (by show 1 * _ ≤ _; omega)
  refine mCall_kit hrep fun w4 hb4 => ?_
  have e : (⟨(Lib.repeatL (⟨#[0]⟩ : ByteArray).data.toList (256 - c.length)).toArray⟩ : ByteArray) = ofL (List.replicate (256 - c.length) 0) := repeat_zero' _
  rw [e]
  have u4 := ext_of_below hb4
  have h4 := h3.keep u4 id
  have hd4 := hd3.ext u4
  refine ⟨rdN_v (r_loadB _ (by kernel_rfl) h4 rfl), rdN_v (r_loadB _ (by kernel_rfl) h4 rfl), ?_⟩
  refine mP_v (fun w => r_addS _ _ _ _ (by rw [ofL_size, ofL_size]; simp; omega)) ?_
  rw [ofL_append]
  have ebl : c ++ List.replicate (256 - c.length) 0 = blkAt L.b i := by rw [blkAt, hc]; rfl
  rw [ebl]
  have a4 : Ext wr w4 := ((u1.ext u2).ext u3).ext u4
  refine isdisk_write hd4 (by omega) _ _ fun w5 d5 => ?_
  have d5 : DAfter w dp fp (D'.write ((L.start : Int) + i) (ofL (blkAt L.b i))).2 w5 := DAfter.then u' y' (d5.pre (fun k hk => hd'.lt hk) a4)
  have hww := write_waits D' ((L.start : Int) + i) (ofL (blkAt L.b i))
  refine ⟨rdN_v (r_loadB _ (by kernel_rfl) (h.keep d5.choose_spec.2.1 hne) rfl), ?_⟩
  try simp only [push_cast]
  unfold DM.logWrite at hr
  refine mIf_neI (fun he => ?_) fun he => ?_
  · rw [if_pos he] at hr
    rw [← hr] at k
    exact k w5 d5
  rw [if_neg (by simp [he])] at hr
  refine ⟨⟨i + 1, n, _, congrArg (Value.int .i64) (by omega), by omega, d5, by omega, fun _ => hr, fun h => absurd (by omega) h⟩, ?_⟩
  simp only [intOf]
  omega
end
end Go.Proofs.Ythgopkppmppdoaa

/-
  Package log: Open; rectoplain.Texts.
-/
set_option linter.unusedVariables false
set_option linter.unusedSimpArgs false
set_option maxRecDepth 20000
namespace Go.Proofs.Ythgopkppmppdoaa
open Go Go.Proofs Go.Vc
open Go.Lib (BuilderAt IsBuilder byteCells)
open Go.RowKit (Below intOf)

/-- The text of a row of blocks. -/
def DM.text (D : DM) (start : Nat) : Nat → List UInt8
  | 0 => []
  | n + 1 => D.text start n ++ (D.read ((start : Int) + n)).1.data.toList
def DM.openL (D : DM) (start blocks sealed : Int) : Int × Option LM :=
  if start < 0 ∨ blocks < 1 ∨ D.blocks.length < blocks ∨ D.blocks.length - blocks < start ∨ sealed < 0 ∨ 256 * blocks < sealed then (1, none)
  else if 0 < sealed ∧ D.down = true then (271, none)
  else if (parseL ((D.text start.toNat (nblk sealed.toNat)).take sealed.toNat)).2 = [] then (0, some ⟨start.toNat, blocks.toNat, (D.text start.toNat (nblk sealed.toNat)).take sealed.toNat, sealed.toNat⟩)
  else (290, none)

theorem bld_keep {w w' : World} {B b : Nat} {bs : List Value} {F : Nat → Prop} (h : IsBuilder 153 5 B b bs w) (u : Upd w w' F) (hF : ∀ k, B ≤ k → ¬ F k) : IsBuilder 153 5 B b bs w' := by
  have hrow : ∀ {v : Value} {n : Nat} {xs : List Value}, w.ownsRow B 5 1 v n xs → ∀ g, Fp v g → B ≤ g := by
    intro v n xs h g hg
    rcases h with ⟨hv, ⟨rfl, rfl⟩ | ⟨g', c, cs, rfl, hB, hrest⟩⟩
    · cases hg
    · have : g' = g := by simpa [Fp, Value.ownBlock] using hg
      omega
  rcases h with h | h
  · have hB := h.1
    obtain ⟨v, hb, hr, hne⟩ := bld_blk h
    exact .inl ⟨hB, v, hb.keep u (hF b hB), own_keep hr u fun g hg => hF g (hrow hr g hg), hne⟩
  · have hB := h.1
    obtain ⟨v, hb, hr, hne⟩ := bld_blk h
    exact .inr ⟨hB, v, hb.keep u (hF b hB), own_keep hr u fun g hg => hF g (hrow hr g hg), hne⟩

section
variable {w : World} {K : Value → World → Prop} {p dp : Nat} {fp : Nat → Prop} {D : DM} {L : LM}

theorem isdisk_bn (h : IsDisk w p fp D) : D.blocks.length ≤ 128 := by
  obtain ⟨⟨vb, vw, vk, h⟩, _⟩ := h
  exact h.bn
theorem isdisk_read_in (h : IsDisk w p fp D) {i : Int} (h0 : 0 ≤ i) (h1 : i < D.blocks.length) (hd : D.down = false) : (D.read i).2 = 0 ∧ (D.read i).1.size = 256 := by
  obtain ⟨⟨vb, vw, vk, h⟩, _⟩ := h
  unfold DM.read
  rw [if_neg (by simp; omega), if_neg (by simp [hd])]
  refine ⟨rfl, ?_⟩
  obtain ⟨b, hb⟩ : ∃ b, D.blocks[i.toNat]? = some b := ⟨_, List.getElem?_eq_getElem (by omega)⟩
  have : Sec (lastW i (D.blocks.getD i.toNat []) D.waits) := lastW_sec (by
    rw [List.getD_eq_getElem?_getD, hb]
    exact h.b4 b (List.mem_of_getElem? hb)) fun x hx => (h.w4 x hx).1
  exact joined_size this
theorem read_down {D : DM} {i : Int} (h0 : 0 ≤ i) (h1 : i < D.blocks.length) (hd : D.down = true) : D.read i = (⟨#[]⟩, 271) := by
  unfold DM.read
  rw [if_neg (by simp; omega), if_pos hd]
theorem text_len (h : IsDisk w p fp D) (hd : D.down = false) {s : Nat} : ∀ n, s + n ≤ D.blocks.length → (D.text s n).length = 256 * n
  | 0, _ => rfl
  | n + 1, hn => by
    show (D.text s n ++ _).length = _
    have := (isdisk_read_in (i := (s : Int) + n) h (by omega) (by omega) hd).2
    have e : (D.read ((s : Int) + n)).1.data.toList.length = 256 := this
    rw [List.length_append, text_len h hd n (by omega), e]
    omega

theorem build_log (dp : Nat) (a b : Int) (s : ByteArray) (n : Int) (w : World) : (Instr.build 159 #[(0, dptr dp), (1, .int .i64 a), (2, .int .i64 b), (3, .string s), (4, .int .i64 n)]).run Try.prog w = .ok (.agg #[dptr dp, .int .i64 a, .int .i64 b, .string s, .int .i64 n]) w := by kernel_rfl
theorem box_log (dp : Nat) (a b : Int) (s : ByteArray) (n : Int) (w : World) : (Instr.box 159 (.agg #[dptr dp, .int .i64 a, .int .i64 b, .string s, .int .i64 n])).run Try.prog w = .ok (.pointer (some ⟨w.heap.size, 0, none⟩)) (w.alloc (.cells #[dptr dp, .int .i64 a, .int .i64 b, .string s, .int .i64 n] 159 (0, 0))) := by kernel_rfl

/-- log.Open -/
theorem open_c (h : IsDisk w dp fp D) (start blocks sealed : Int) (k0 : ∀ e, D.openL start blocks sealed = (e, none) → e ≠ 0 → ∀ w', Ext w w' → K (.tuple #[.pointer none, .int .i64 e]) w')
    (k1 : ∀ L, D.openL start blocks sealed = (0, some L) → L.Ok → ∀ w' q, Blk w' q 159 (logC dp L) → Ext w w' → w.heap.size ≤ q → K (.tuple #[dptr q, .int .i64 0]) w') : mCall Try.prog 38 #[dptr dp, .int .i64 start, .int .i64 blocks, .int .i64 sealed] w K := by
  have hbn := isdisk_bn h
  have hbad : (start < 0 ∨ blocks < 1 ∨ D.blocks.length < blocks ∨ D.blocks.length - blocks < start ∨ sealed < 0 ∨ 256 * blocks < sealed) → K (.tuple #[.pointer none, .int .i64 1]) w := fun hb =>
    k0 1 (if_pos hb) (by decide) w (Upd.refl _ _)
  refine ⟨ok38 ?_⟩
  unfold sh38
  try simp only [push_cast]
  refine mIf_dec (fun h1 => hbad (by omega)) fun h1 => ?_
  refine mIf_dec (fun h2 => hbad (by omega)) fun h2 => ?_
  refine isdisk_blocks h ?_
  try simp only [push_cast]
  refine mIf_dec (fun h3 => hbad (by omega)) fun h3 => ?_
  refine isdisk_blocks h ?_
  try simp only [push_cast]
  rw [i64w _ (by omega) (by omega)]
  refine mIf_dec (fun h4 => hbad (by omega)) fun h4 => ?_
  refine mIf_dec (fun h5 => hbad (by omega)) fun h5 => ?_
  rw [i64w _ (by omega) (by omega)]
  refine mIf_dec (fun h6 => hbad (by omega)) fun h6 => ?_
  clear hbad
  obtain ⟨s, rfl⟩ : ∃ n : Nat, start = n := ⟨start.toNat, by omega⟩
  obtain ⟨bl, rfl⟩ : ∃ n : Nat, blocks = n := ⟨blocks.toNat, by omega⟩
  obtain ⟨m, rfl⟩ : ∃ n : Nat, sealed = n := ⟨sealed.toNat, by omega⟩
  unfold DM.openL at k0 k1
  rw [if_neg (by omega)] at k0 k1
  rw [Int.toNat_natCast, Int.toNat_natCast, Int.toNat_natCast] at k0 k1
  refine mN_new (zero153 w) fun w1 g1 u1 s1 => ?_
  refine blocksOf_c m (by omega) ?_
  have hnb : nblk m ≤ bl := by unfold nblk; omega
  refine mLoop1.mk (fun x wr => ∃ j : Nat, x = .int .i64 j ∧ j ≤ nblk m ∧ IsBuilder 153 5 w.heap.size w.heap.size (byteCells (D.text s j)) wr ∧ Ext w wr ∧ (0 < j → D.down = false)) (fun x _ => nblk m - (intOf x).toNat) ?_ ?_
  · exact ⟨0, rfl, Nat.zero_le _, builder_new g1, u1, fun h => absurd h (by decide)⟩
  rintro x wr ⟨j, rfl, hj, hb, ur, hdn⟩
  try simp only [push_cast]
  refine mIf_dec (fun hlt => ?_) fun hlt => ?_
  · rw [i64w ((s : Int) + j) (by omega) (by omega)]
    have hdr := h.ext ur
    refine isdisk_read hdr _ fun w2 u2 => ?_
    try simp only [push_cast]
    have hb2 := bld_keep hb u2 fun _ _ => id
    have a2 : Ext w w2 := ur.ext u2
    cases hd : D.down with
    | true =>
      rw [read_down (by omega) (by omega) hd]
      refine mIf_neI (fun _ => ?_) fun h => absurd h (by decide)
      refine k0 271 ?_ (by decide) w2 a2
      rw [if_pos ⟨by unfold nblk at hlt; omega, hd⟩]
    | false =>
      obtain ⟨e0, e1⟩ := isdisk_read_in (i := (s : Int) + j) h (by omega) (by omega) hd
      rw [e0]
      refine mIf_neI (fun h => absurd rfl h) fun _ => ?_
      have htl := text_len h hd (s := s) j (by omega)
      refine write_c (l := D.text s j) (s := (D.read ((s : Int) + j)).1) hb2 a2.size (by omega) fun w3 hb3 bel3 => ?_
      try simp only [push_cast]
      rw [i64w ((j : Int) + 1) (by omega) (by omega)]
      refine ⟨⟨j + 1, congrArg (Value.int .i64) (by omega), by omega, hb3, ?_, fun _ => by first | trivial | exact hd⟩, ?_⟩
      · exact ⟨bel3.os.trans a2.os, bel3.tape.trans a2.tape, by rw [bel3.output, a2.output], Nat.le_trans a2.size bel3.size, fun i hi _ => by rw [bel3.block i hi, a2.old i hi id]⟩
      · simp only [intOf]
        omega
  · obtain rfl : j = nblk m := by omega
    have hsz := ur.size
    refine mCall_kit (Try.Builder_String_any w.heap.size w.heap.size (D.text s (nblk m)) wr hb (by omega)) fun w2 b2 => ?_
    have a2 : Ext w w2 := ⟨b2.os.trans ur.os, b2.tape.trans ur.tape, by rw [b2.output, ur.output], Nat.le_trans ur.size b2.size, fun i hi _ => by rw [b2.block i hi, ur.old i hi id]⟩
    have htm : m ≤ (D.text s (nblk m)).length := by
      rcases Nat.eq_zero_or_pos m with h0 | h0
      · omega
      · rw [text_len h (hdn (by unfold nblk; omega)) _ (by omega)]
        unfold nblk
        omega
    refine mN_v (r_sliceSh w2 Try.underlying9 _ _ (by omega) (by show (m : Int) ≤ ((ofL _).size : Int); rw [ofL_size]; omega)) ?_
    rw [show (⟨(D.text s (nblk m)).toArray⟩ : ByteArray) = ofL (D.text s (nblk m)) from rfl, ofL_extract, List.drop_zero, Int.toNat_natCast, Nat.sub_zero]
    have htl : ((D.text s (nblk m)).take m).length = m := by rw [List.length_take]; omega
    rw [if_neg (by
      rintro ⟨h7, h8⟩
      rw [hdn (by unfold nblk; omega)] at h8
      cases h8)] at k0 k1
    generalize (D.text s (nblk m)).take m = t at htl k0 k1 ⊢
    refine whole_c (by omega) fun w3 u3 => ?_
    have a3 := a2.ext u3
    try simp only [push_cast]
    by_cases hw : (parseL t).2 = []
    · simp only [hw, decide_true, Bool.not_true]
      rw [if_pos hw] at k1
      try simp only [push_cast]
      refine mN_v (build_log _ _ _ _ _ _) ?_
      refine mN_new (box_log _ _ _ _ _ _) fun w4 h4 u4 s4 => ?_
      exact k1 ⟨s, bl, t, m⟩ rfl ⟨by show s ≤ 128; omega, by show bl ≤ 128; omega, by show t.length ≤ 256 * bl; omega, by show m ≤ t.length; omega⟩ w4 _ h4 (a3.ext u4) a3.size
    · simp only [hw, decide_false, Bool.not_false]
      rw [if_neg hw] at k0
      exact k0 290 rfl (by decide) w3 a3
end
end Go.Proofs.Ythgopkppmppdoaa

/-
  rectoplain.Texts; a record that is written and opened again; a nil log; LogRoom.
-/
set_option linter.unusedVariables false
set_option linter.unusedSimpArgs false
set_option maxRecDepth 20000
namespace Go.Proofs.Ythgopkppmppdoaa
open Go Go.Proofs Go.Vc
open Go.RowKit (Below intOf)

section
variable {w : World} {K : Value → World → Prop} {p dp : Nat} {fp : Nat → Prop} {D : DM} {L : LM}

/-- Reading of a row of texts. -/
theorem strs_ix {A : Option Addr} {n c : Nat} {l : List ByteArray} (h : Strs w (.slice A n c) l fp) {i : Nat} {x : ByteArray} (hx : l[i]? = some x) :
    ∃ a, (∀ w, (Instr.indexAt 67 (.slice A n c) (.int .i64 i)).run Try.prog w = .ok (.pointer (some a)) w) ∧ (Instr.loadAt 9 (.pointer (some a))).run Try.prog w = .ok (.string x) w ∧ fp a.block := by
  obtain ⟨rfl, b, o, rfl, hb, cs, _, hc, rfl⟩ := Arr.at_ h hx
  have hi := (List.getElem?_eq_some_iff.1 hx).1
  refine ⟨⟨b, o + i, none⟩, fun w => ?_, r_load1 w ag9 ?_, hb⟩
  · have := r_indexAt (P := Try.prog) w (sz := 1) Try.underlying67 (by kernel_rfl) b o l.length c i (by omega) (by omega)
    rw [this]
    simp
  · have := hc 0 _ rfl
    simpa using this

theorem texts_c {v1 v2 : Value} {l1 l2 : List ByteArray} {f1 f2 : Nat → Prop} (h1 : Strs w v1 l1 f1) (h2 : Strs w v2 l2 f2) (k : ∀ w', Ext w w' → K (.bool (decide (l1 = l2))) w') : mCall Try.prog 40 #[v1, v2] w K := by
  obtain ⟨A1, c1, rfl⟩ := Arr.slice h1
  obtain ⟨A2, c2, rfl⟩ := Arr.slice h2
  have hs1 := Arr.small h1
  refine ⟨ok40 ?_⟩
  unfold sh40
  try simp only [push_cast]
  refine mLoop1.mk (fun x wr => ∃ j : Nat, x = .int .i64 j ∧ j ≤ l1.length ∧ Ext w wr ∧ j ≤ l2.length ∧ l1.take j = l2.take j) (fun x _ => l1.length - (intOf x).toNat) ⟨0, rfl, Nat.zero_le _, Upd.refl _ _, Nat.zero_le _, rfl⟩ ?_
  rintro x wr ⟨j, rfl, hj, ur, hj2, he⟩
  try simp only [push_cast]
  refine mIf_dec (fun hlt => ?_) fun hlt => ?_
  · unfold mDrew
    have u2 : Ext wr wr.drew := Upd.drew wr _
    have a2 := ur.ext u2
    generalize wr.drew = w2 at u2 a2
    try simp only [push_cast]
    refine mIf_dec (fun hge => ?_) fun hge => ?_
    · rw [show false = decide (l1 = l2) from by
        symm
        rw [decide_eq_false_iff_not]
        intro e
        rw [e] at hlt
        omega] 
      exact k w2 a2
    obtain ⟨x1, hx1⟩ : ∃ x, l1[j]? = some x := ⟨_, List.getElem?_eq_getElem (by omega)⟩
    obtain ⟨x2, hx2⟩ : ∃ x, l2[j]? = some x := ⟨_, List.getElem?_eq_getElem (by omega)⟩
    obtain ⟨p1, i1, r1, _⟩ := strs_ix (h1.keep a2 fun _ _ => id) hx1
    obtain ⟨p2, i2, r2, _⟩ := strs_ix (h2.keep a2 fun _ _ => id) hx2
    refine mP_v i1 ?_
    refine mR_v r1 ?_
    refine mP_v i2 ?_
    refine mR_v r2 ?_
    try simp only [push_cast]
    refine mIf_neS (fun hne => ?_) fun heq => ?_
    · rw [show false = decide (l1 = l2) from by
        symm
        rw [decide_eq_false_iff_not]
        rintro rfl
        rw [hx1] at hx2
        exact hne (Option.some.inj hx2)]
      exact k w2 a2
    · rw [i64w ((j : Int) + 1) (by omega) (by omega)]
      refine ⟨⟨j + 1, congrArg (Value.int .i64) (by omega), by omega, a2, by omega, ?_⟩, by simp only [intOf]; omega⟩
      rw [List.take_add_one, List.take_add_one, he, hx1, hx2, heq]
  · try simp only [push_cast]
    have e : ((l1.length : Int) == (l2.length : Int)) = decide (l1 = l2) := by
      obtain rfl : j = l1.length := by omega
      by_cases hl : l1.length = l2.length
      · rw [List.take_of_length_le (Nat.le_refl _), List.take_of_length_le (by omega)] at he
        simp [he]
      · have h0 : ¬ l1 = l2 := fun e => hl (by rw [e])
        rw [decide_eq_false h0]
        simp
        omega
    rw [e]
    exact k wr ur

/-! ### ab -/
def abL : List UInt8 := [97, 98]
def abB : List ByteArray := cutS (ofL (blkAt (textL abL) 0))
def abD : DM := { DM.new 4 with blocks := [zeroB, zeroB, abB, zeroB] }
theorem textL_ab : textL abL = [1, 2, 97, 98] := by
  unfold textL plainL
  have : digL abL.length = [2] := by
    show digL 2 = [2]
    rw [digL_pos (by decide), show 2 / 256 = 0 from rfl, digL_zero]
    rfl
  rw [this]
  rfl
theorem ab_open0 : (DM.new 4).openL 2 2 0 = (0, some ⟨2, 2, [], 0⟩) := by
  unfold DM.openL
  rw [if_neg (by decide), if_neg (by decide)]
  have : ((DM.new 4).text (2 : Int).toNat (nblk (0 : Int).toNat)).take (0 : Int).toNat = [] := rfl
  rw [this, parseL_none takeT_nil]
  rfl
theorem ab_add : (⟨2, 2, [], 0⟩ : LM).add abL = (0, ⟨2, 2, textL abL, 0⟩) := by
  unfold LM.add
  rw [if_neg (by decide), if_neg (by rw [textL_ab]; decide)]
  rfl
theorem ab_write : (⟨2, 2, textL abL, 0⟩ : LM).write (DM.new 4) = (0, { DM.new 4 with waits := [(2, abB)] }) := by
  have hl : (textL abL).length = 4 := by rw [textL_ab]; rfl
  unfold LM.write
  simp only [hl]
  rw [if_pos (by decide), show (nblk 4 - 0 / 256) = 1 from rfl, show 0 / 256 = 0 from rfl]
  have hw : (DM.new 4).write 2 (ofL (blkAt (textL abL) 0)) = (0, { DM.new 4 with waits := [(2, abB)] }) := write_free rfl rfl (by decide) (by decide) (blkAt_size _ _)
  unfold DM.logWrite
  rw [show ((2 : Nat) : Int) + ((0 : Nat) : Int) = 2 from rfl, hw]
  rfl
theorem ab_flush : ({ DM.new 4 with waits := [(2, abB)] } : DM).flush = (0, abD) := flush_free rfl rfl
theorem ab_open4 : abD.openL 2 2 4 = (0, some ⟨2, 2, textL abL, 4⟩) := by
  unfold DM.openL
  rw [if_neg (by decide), if_neg (by decide)]
  have hr : abD.read 2 = (ofL (blkAt (textL abL) 0), 0) := by
    have : abD.read 2 = (joined abB, 0) := rfl
    rw [this]
    unfold abB
    rw [joined_cutS (blkAt_size _ _)]
  have ht : (abD.text (2 : Int).toNat (nblk (4 : Int).toNat)).take (4 : Int).toNat = textL abL := by
    show (([] : List UInt8) ++ (abD.read 2).1.data.toList).take 4 = _
    rw [hr]
    show (blkAt (textL abL) 0).take 4 = _
    unfold blkAt padL
    rw [textL_ab]
    rfl
  rw [ht]
  have hp : parseL (textL abL) = ([abL], []) := by
    have := parseL_recs (ss := [abL]) (by simp [abL])
    simpa [recsL] using this
  rw [hp]
  rfl
theorem ab_parse : (parseL (textL abL)).1 = [abL] := by
  have := parseL_recs (ss := [abL]) (by simp [abL])
  rw [show recsL [abL] = textL abL from by simp [recsL]] at this
  rw [this]

theorem strs_one {w : World} {g : Nat} {s : ByteArray} (h : Blk w g 9 [.string s]) : Strs w (.slice (some ⟨g, 0, none⟩) 1 1) [s] (· = g) := by
  refine ⟨some ⟨g, 0, none⟩, 1, rfl, by show 1 ≤ maxLen; decide, fun _ => ⟨g, 0, rfl, rfl, fun i x hx => ?_⟩⟩
  obtain ⟨rfl, rfl⟩ : i = 0 ∧ s = x := by
    cases i with
    | zero => simpa using hx
    | succ i => simp at hx
  refine ⟨[.string s], rfl, fun j u hu => ?_, rfl⟩
  have := (List.getElem?_eq_some_iff.1 hu).1
  obtain rfl : j = 0 := by simpa using this
  exact h.cell hu

/-- rectolaw29.ab -/
theorem ab_c (k : ∀ w', Ext w w' → K (.bool true) w') : mCall Try.prog 36 #[] w K := by
  refine ⟨ok36 ?_⟩
  unfold sh36
  refine new_c 4 (fun h => by omega) fun _ _ w1 dp fp d1 u1 y1 => ?_
  rw [show (DM.new (4 : Int).toNat) = DM.new 4 from rfl] at d1
  try simp only [push_cast, dptr, Option.isNone_some, bne_self_eq_false]
  refine open_c d1 2 2 0 (fun e he => by rw [ab_open0] at he; cases he) fun L he ok w2 q h2 u2 hq => ?_
  rw [ab_open0] at he
  obtain rfl : (⟨2, 2, [], 0⟩ : LM) = L := by injection he with _ he; injection he
  have hql := h2.lt
  have hfq : ∀ k, fp k → k < w1.heap.size := fun k hk => d1.lt hk
  try simp only [push_cast, dptr, Option.isNone_some, bne_self_eq_false]
  rw [show (⟨#[97, 98]⟩ : ByteArray) = ofL abL from rfl]
  refine add_c (by decide) h2 ok fun w3 h3 u3 => ?_
  have ok3 := LM.add_ok (s := abL) ok
  rw [ab_add] at h3 ok3 ⊢
  refine sealed_c h3 ?_
  have d3 := (d1.ext u2).stay u3 fun k hk e => by have := hfq k hk; omega
  refine lwrite_c h3 ok3 d3 (fun hf => by have := hfq _ hf; omega) (by decide) fun w4 a4 => ?_
  rw [ab_write] at a4 ⊢
  obtain ⟨fp4, d4, u4, y4⟩ := a4
  have hs2 := u2.size
  have hs3 := u3.size
  have hs4 := u4.size
  have h4 := h3.keep u4 fun hf => by have := hfq _ hf; omega
  refine isdisk_flush d4 fun w5 a5 => ?_
  rw [ab_flush] at a5 ⊢
  obtain ⟨fp5, d5, u5, y5⟩ := a5
  have hs5 := u5.size
  have n4 : ¬ fp4 q := fun hf => (y4 _ hf).elim (fun hf => by have := hfq _ hf; omega) fun h => by omega
  have n5 : ¬ fp5 q := fun hf => (y5 _ hf).elim n4 fun h => by omega
  have h5 := h4.keep u5 n4
  refine seal_c h5 fun w6 h6 u6 => ?_
  have hs6 := u6.size
  have d6 := d5.stay u6 fun k hk e => n5 (e ▸ hk)
  have e6 : Ext w w6 := by
    have hf : ∀ k, fp k → w.heap.size ≤ k := y1
    have a2 := u1.ext u2
    have hs1 := u1.size
    have a3 : Ext w w3 := a2.trans u3 (fun _ _ x => x) fun i hi e => by omega
    have a4 : Ext w w4 := a3.trans u4 (fun _ _ x => x) fun i hi hfi => by have := hf _ hfi; omega
    have a5 : Ext w w5 := a4.trans u5 (fun _ _ x => x) fun i hi hfi => (y4 _ hfi).elim (fun h => by have := hf _ h; omega) fun h => by omega
    exact a5.trans u6 (fun _ _ x => x) fun i hi e => by omega
  refine open_c d6 2 2 4 (fun e he => by rw [ab_open4] at he; cases he) fun L7 he7 ok7 w7 q7 h7 u7 hq7 => ?_
  rw [ab_open4] at he7
  obtain rfl : (⟨2, 2, textL abL, 4⟩ : LM) = L7 := by injection he7 with _ he7; injection he7
  have h6' := h6.keep u7 id
  have hl : (textL abL).length = 4 := by rw [textL_ab]; rfl
  try simp only [push_cast, beq_self_eq_true]
  refine bytes_c h6' ?_
  simp only [hl]
  try simp only [push_cast]
  refine mIf_eqI (fun _ => ?_) fun h => absurd rfl h
  refine sealed_c h6' ?_
  simp only [hl]
  try simp only [push_cast]
  refine mIf_eqI (fun _ => ?_) fun h => absurd rfl h
  refine room_c h6' ⟨by decide, by decide, by show (textL abL).length ≤ _; rw [hl]; decide, by show (textL abL).length ≤ (textL abL).length; exact Nat.le_refl _⟩ fun w8 u8 => ?_
  simp only [hl]
  try simp only [push_cast]
  refine mIf_eqI (fun _ => ?_) fun h => absurd rfl h
  refine records_c (b := textL abL) (by rw [hl]; decide) (h7.keep u8 id) fun v w9 hv u9 => ?_
  rw [ab_parse] at hv
  refine mN_new (str_new _ _) fun w10 h10 u10 s10 => ?_
  refine texts_c (hv.keep u10 fun _ _ => id) (strs_one h10) fun w11 u11 => ?_
  rw [show decide (([abL] : List (List UInt8)).map ofL = [ofL abL]) = true from by simp]
  exact k w11 (((((e6.ext u7).ext u8).ext u9).ext u10).ext u11)
end
end Go.Proofs.Ythgopkppmppdoaa

/-
  LogNil, LogRoom: the walks.
-/
set_option linter.unusedVariables false
set_option linter.unusedSimpArgs false
set_option maxRecDepth 20000
namespace Go.Proofs.Ythgopkppmppdoaa
open Go Go.Proofs Go.Vc
open Go.RowKit (Below intOf)

section
variable {w : World} {K : Value → World → Prop} {p dp : Nat} {fp : Nat → Prop} {D : DM} {L : LM}

theorem seal_nil (k : K (.tuple #[]) w) : mCall Try.prog 54 #[.pointer none] w K := by
  refine ⟨ok54 ?_⟩
  unfold sh54
  simp only [push_cast, Option.isNone_none, Bool.not_true]
  exact k
theorem drop_nil (k : K (.tuple #[]) w) : mCall Try.prog 55 #[.pointer none] w K := by
  refine ⟨ok55 ?_⟩
  unfold sh55
  simp only [push_cast, Option.isNone_none, Bool.not_true]
  exact k
theorem add_nil {s : Value} (k : K (.int .i64 7) w) : mCall Try.prog 46 #[.pointer none, s] w K := by
  refine ⟨ok46 ?_⟩
  unfold sh46
  simp only [push_cast, Option.isNone_none, Bool.not_true]
  exact k
theorem lwrite_nil (k : K (.int .i64 7) w) : mCall Try.prog 56 #[.pointer none] w K := by
  refine ⟨ok56 ?_⟩
  unfold sh56
  simp only [push_cast, Option.isNone_none, Bool.not_true]
  exact k
theorem bytes_nil (k : K (.int .i64 0) w) : mCall Try.prog 43 #[.pointer none] w K := by
  refine ⟨ok43 ?_⟩
  unfold sh43
  simp only [push_cast, Option.isNone_none, Bool.not_true]
  exact k
theorem sealed_nil (k : K (.int .i64 0) w) : mCall Try.prog 42 #[.pointer none] w K := by
  refine ⟨ok42 ?_⟩
  unfold sh42
  simp only [push_cast, Option.isNone_none, Bool.not_true]
  exact k
theorem room_nil (k : K (.int .i64 0) w) : mCall Try.prog 44 #[.pointer none] w K := by
  refine ⟨ok44 ?_⟩
  unfold sh44
  simp only [push_cast, Option.isNone_none, Bool.not_true]
  exact k
theorem open_nil (n : Int) (hn : 1 ≤ n) (s m : Int) (hs : 0 ≤ s) (k : K (.tuple #[.pointer none, .int .i64 1]) w) : mCall Try.prog 38 #[.pointer none, .int .i64 s, .int .i64 n, .int .i64 m] w K := by
  refine ⟨ok38 ?_⟩
  unfold sh38
  try simp only [push_cast]
  refine mIf_dec (fun h => by omega) fun _ => ?_
  refine mIf_dec (fun h => by omega) fun _ => ?_
  refine blocks_nil ?_
  try simp only [push_cast]
  refine mIf_dec (fun h => k) fun h => by omega

theorem records_nil (k : ∀ w', Ext w w' → K (.slice none 0 0) w') : mCall Try.prog 41 #[.pointer none] w K := by
  refine ⟨(callsIn_wide (n := 0)).1 (callsIn_of_wp_marks Try.func41 body41 trivial ?_)⟩
  have hL0 := has_arg1 (fn := Try.f41) (n := 20) (by kernel_rfl) (by decide) (.pointer none)
  refine wpIn_seq (wpIn_vc callsOk mixed (k := .z) hL0 ?_ (K := fun e L w' => e = .normal ∧ L = [(2, .slice none 0 0), (0, .pointer none)] ∧ w' = w) fun e a L w' hL hK => ?_)
  · rw [vc41a]
    exact ⟨rfl, rfl, rfl⟩
  obtain ⟨rfl, rfl, rfl⟩ := hK
  refine wpIn_seq (wpIn_vc callsOk mixed (k := .z) hL ?_ (K := fun e L w'' => e = .ret ∧ L = [(2, .slice none 0 0), (6, .bool true), (5, .pointer none), (2, .slice none 0 0), (0, .pointer none)] ∧ w'' = w') fun e a L w1 hL hK => ?_)
  · rw [vc41b]
    try simp only [push_cast, Option.isNone_none]
    exact ⟨by first | rfl | trivial, by first | rfl | trivial, by first | rfl | trivial⟩
  obtain ⟨rfl, rfl, rfl⟩ := hK
  show LeavesInM _ _ _ _ _ _ _ _ _
  rw [hL.defers]
  refine ⟨_, res_one (t := 2) (by kernel_rfl) _ _, ?_⟩
  have hg := hL.get 2 (by rfl)
  rw [hg]
  exact k _ (Upd.refl _ _)

theorem logNil_c {s : Value} (k : ∀ w', Ext w w' → K (.bool true) w') : mCall Try.prog 11 #[s] w K := by
  refine ⟨ok11 ?_⟩
  unfold sh11
  refine seal_nil ?_
  refine drop_nil ?_
  refine open_nil 1 (by decide) 0 0 (by decide) ?_
  try simp only [push_cast]
  refine mIf_eqI (fun _ => ?_) fun h => absurd rfl h
  refine add_nil ?_
  try simp only [push_cast]
  refine mIf_eqI (fun _ => ?_) fun h => absurd rfl h
  refine lwrite_nil ?_
  try simp only [push_cast]
  refine mIf_eqI (fun _ => ?_) fun h => absurd rfl h
  refine records_nil fun w1 u1 => ?_
  try simp only [push_cast]
  refine mIf_eqI (fun _ => ?_) fun h => absurd rfl h
  refine bytes_nil ?_
  try simp only [push_cast]
  refine mIf_eqI (fun _ => ?_) fun h => absurd rfl h
  refine sealed_nil ?_
  try simp only [push_cast]
  refine mIf_eqI (fun _ => ?_) fun h => absurd rfl h
  refine room_nil ?_
  try simp only [push_cast]
  refine mIf_eqI (fun _ => ?_) fun h => absurd rfl h
  exact ab_c fun w2 u2 => k w2 (u1.ext u2)

theorem new_openL {n : Nat} (hn : n ≤ 8) {s b : Int} (h0 : 0 ≤ s) (h1 : 1 ≤ b) (h2 : s + b ≤ n) : (DM.new n).openL s b 0 = (0, some ⟨s.toNat, b.toNat, [], 0⟩) := by
  have hl : (DM.new n).blocks.length = n := by simp [DM.new]
  unfold DM.openL
  rw [hl, if_neg (by omega), if_neg (by simp)]
  have : ((DM.new n).text s.toNat (nblk (0 : Int).toNat)).take (0 : Int).toNat = [] := rfl
  rw [this, parseL_none takeT_nil, if_pos rfl]
  rfl

/-- rectolaw29.LogRoom -/
theorem logRoom_c (blocks : Int) {v : Value} {l : List ByteArray} (hv : Strs w v l (· < w.heap.size)) (k : ∀ w', Ext w w' → K (.bool true) w') : mCall Try.prog 8 #[.int .i64 blocks, v] w K := by
  obtain ⟨A, c, rfl⟩ := Arr.slice hv
  refine ⟨ok8 ?_⟩
  unfold sh8
  refine new_c 8 (fun h => by omega) fun _ _ w1 dp fp d1 u1 y1 => ?_
  rw [show (DM.new (8 : Int).toNat) = DM.new 8 from rfl] at d1
  try simp only [push_cast, dptr, Option.isNone_some, bne_self_eq_false, beq_self_eq_true, Bool.not_false]
  have hab : mCall Try.prog 36 #[] w1 K := ab_c fun w2 u2 => k w2 (u1.ext u2)
  refine mIf_dec (fun _ => hab) fun hb1 => ?_
  refine mIf_dec (fun _ => hab) fun hb2 => ?_
  refine mIf_dec (fun _ => hab) fun hb3 => ?_
  clear hab
  have ho := new_openL (n := 8) (by decide) (s := 2) (b := blocks) (by decide) (by omega) (by omega)
  refine open_c d1 2 blocks 0 (fun e he => by rw [ho] at he; cases he) fun L he ok w2 q h2 u2 hq => ?_
  rw [ho] at he
  obtain rfl : (⟨2, blocks.toNat, [], 0⟩ : LM) = L := by injection he with _ he; injection he
  try simp only [push_cast, dptr, Option.isNone_some, bne_self_eq_false, beq_self_eq_true, Bool.not_false]
  have a2 : Ext w w2 := u1.ext u2
  have hqw : w.heap.size ≤ q := Nat.le_trans u1.size hq
  refine mLoop1.mk (fun x wr => ∃ (j : Nat) (b : List UInt8), x = .int .i64 j ∧ j ≤ l.length ∧ Ext w wr ∧ Blk wr q 159 (logC dp ⟨2, blocks.toNat, b, 0⟩) ∧ (⟨2, blocks.toNat, b, 0⟩ : LM).Ok) (fun x _ => l.length - (intOf x).toNat)
    ⟨0, [], rfl, Nat.zero_le _, a2, h2, ok⟩ ?_
  rintro x wr ⟨j, b, rfl, hj, ur, hb, okb⟩
  try simp only [push_cast]
  refine mIf_dec (fun hlt => ?_) fun hlt => ?_
  rotate_left
  · exact ab_c fun w3 u3 => k w3 (ur.ext u3)
  obtain ⟨s, hs⟩ : ∃ x, l[j]? = some x := ⟨_, List.getElem?_eq_getElem (by omega)⟩
  obtain ⟨pa, i1, r1, _⟩ := strs_ix (hv.keep ur fun _ _ => id) hs
  refine mN_v (i1 wr) ?_
  refine mN_v r1 ?_
  obtain ⟨s, rfl⟩ := ofL_of s
  try simp only [push_cast, ofL_size]
  refine mIf_dec (fun hlong => ?_) fun hlong => ?_
  · exact ab_c fun w3 u3 => k w3 (ur.ext u3)
  refine bytes_c hb ?_
  refine room_c hb okb fun w3 u3 => ?_
  have a3 := ur.ext u3
  have hb3 := hb.keep u3 id
  have hlen : b.length ≤ 256 * blocks.toNat := okb.len
  try simp only [push_cast, ofL_size]
  rw [i64w ((s.length : Int) + 1) (by omega) (by omega)]
  have hdl := digL_len6 (n := s.length) (by omega)
  refine size_c _ (by omega) ?_
  rw [Int.toNat_natCast]
  try simp only [push_cast]
  have ht := textL_len s
  rw [show (s.length : Int) + 1 + (digL s.length).length = ((textL s).length : Int) from by rw [ht]; omega]
  have ew1 : IntKind.wrap .i64 ((textL s).length : Int) = (textL s).length := i64w _ (by omega) (by omega)
  have ew2 : IntKind.wrap .i64 ((b.length : Int) + (textL s).length) = (b.length : Int) + (textL s).length := i64w _ (by omega) (by omega)
  have ew3 : IntKind.wrap .i64 (256 * blocks) = 256 * blocks := i64w _ (by omega) (by omega)
  have ew4 : IntKind.wrap .i64 ((b.length : Int) + ((256 * blocks.toNat - b.length : Nat) : Int)) = (b.length : Int) + ((256 * blocks.toNat - b.length : Nat) : Int) := i64w _ (by omega) (by omega)
  try simp only [ew1]
  refine add_c (by omega) hb3 okb fun w4 h4 u4 => ?_
  have ok4 := LM.add_ok (s := s) okb
  have a4 : Ext w w4 := a3.trans u4 (fun _ _ x => x) fun i hi e => by omega
  try simp only
  try simp only [push_cast, ew1, ew2, ew3, ew4]
  refine mIf_neI (fun h => absurd (by omega) h) fun _ => ?_
  have hnext : ∀ b', Blk w4 q 159 (logC dp ⟨2, blocks.toNat, b', 0⟩) → (⟨2, blocks.toNat, b', 0⟩ : LM).Ok → (∃ (j' : Nat) (b : List UInt8), Value.int IntKind.i64 ((j : Int) + 1) = .int .i64 j' ∧ j' ≤ l.length ∧ Ext w w4 ∧ Blk w4 q 159 (logC dp ⟨2, blocks.toNat, b, 0⟩) ∧ (⟨2, blocks.toNat, b, 0⟩ : LM).Ok) ∧
      l.length - (intOf (.int .i64 ((j : Int) + 1))).toNat < l.length - (intOf (.int .i64 (j : Int))).toNat := fun b' hb' okb' =>
    ⟨⟨j + 1, b', congrArg (Value.int .i64) (by omega), by omega, a4, hb', okb'⟩, by simp only [intOf]; omega⟩
  have hsm := Arr.small hv
  rw [i64w ((j : Int) + 1) (by omega) (by omega)]
  unfold LM.add at h4 ok4 ⊢
  simp only at h4 ok4 ⊢
  by_cases hlg : 65536 < s.length
  · rw [if_pos hlg] at h4 ok4 ⊢
    refine mIf_dec (fun _ => ?_) fun h => by omega
    try simp only [push_cast]
    refine mIf_neI (fun h => absurd rfl h) fun _ => ?_
    refine mIf_dec (fun h => by omega) fun _ => ?_
    refine mIf_eqI (fun h => absurd h (by decide)) fun _ => ?_
    refine mIf_neI (fun _ => ?_) fun h => absurd h (by decide)
    refine bytes_c h4 ?_
    try simp only [push_cast]
    refine mIf_neI (fun h => absurd rfl h) fun _ => ?_
    exact hnext b h4 okb
  rw [if_neg hlg] at h4 ok4 ⊢
  refine mIf_dec (fun h => by omega) fun _ => ?_
  refine mIf_dec (fun _ => ?_) fun h => by omega
  by_cases hf : 256 * blocks.toNat < b.length + (textL s).length
  · rw [if_pos hf] at h4 ok4 ⊢
    have e1 : ((5 : Int) == 0) = false := rfl
    have e2 : decide (((textL s).length : Int) ≤ ((256 * blocks.toNat - b.length : Nat) : Int)) = false := by simp; omega
    try simp only [push_cast, e1, e2, bne_self_eq_false]
    refine bytes_c h4 ?_
    try simp only [push_cast]
    refine mIf_neI (fun h => absurd rfl h) fun _ => ?_
    exact hnext b h4 okb
  · rw [if_neg hf] at h4 ok4 ⊢
    have e1 : ((0 : Int) == 0) = true := rfl
    have e2 : decide (((textL s).length : Int) ≤ ((256 * blocks.toNat - b.length : Nat) : Int)) = true := by simp; omega
    try simp only [push_cast, e1, e2, bne_self_eq_false]
    refine bytes_c h4 ?_
    try simp only [push_cast, ew2]
    refine mIf_neI (fun h => absurd (by rw [List.length_append]; omega) h) fun _ => ?_
    exact hnext _ h4 ok4
end
end Go.Proofs.Ythgopkppmppdoaa
