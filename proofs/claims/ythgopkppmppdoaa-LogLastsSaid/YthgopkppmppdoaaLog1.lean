/-
  Package log: all records.
-/
import Derived.Test.YthgopkppmppdoaaLog0
set_option linter.unusedVariables false
set_option linter.unusedSimpArgs false
set_option maxRecDepth 20000
namespace Go.Proofs.Ythgopkppmppdoaa
open Go Go.Proofs Go.Vc
open Go.RowKit (Below intOf)

/-! ### (*log.Log).Records -/
def c41a (f : Func) : Code := Code.l (bodyOf f)
def c41b (f : Func) : Code := Code.l (Code.r (bodyOf f))
def c41n (f : Func) : Code := Code.l (Code.l (Code.r (c41b f)))
def c41m (f : Func) : Code := Code.l (c41b f)
def c41c (f : Func) : Code := Code.l (Code.r (Code.r (bodyOf f)))
def c41d (f : Func) : Code := Code.l (Code.l (Code.r (Code.r (Code.r (bodyOf f)))))
def c41g (f : Func) : Code := Code.l (Code.r (Code.l (Code.r (Code.r (Code.r (bodyOf f))))))
def c41s (f : Func) : Array Oper := Code.ops (Code.l (c41g f))
def c41t (f : Func) : Array Oper := Code.ops (Code.l (Code.r (c41g f)))
def c41e (f : Func) : Code := Code.l (Code.r (Code.r (Code.r (Code.r (bodyOf f)))))
theorem body41 : Try.f41.body = some (.seq (c41a Try.f41) (.seq (c41b Try.f41) (.seq (c41c Try.f41) (.seq (.seq (c41d Try.f41) (.block 0 (.rangeFunc (.tmp 11) #[12, 13] (.region 5 (c41s Try.f41) false) (.block 1 (.region 6 (c41t Try.f41) false))))) (.seq (c41e Try.f41) .ret))))) := by kernel_rfl
theorem vc41a (L : Env) (w : World) (K : Exit → Env → World → Prop) : vcC Try.prog cOk 20 (c41a Try.f41) .z L w K = K .normal ((2, .slice none 0 0) :: L) w := by kernel_rfl
theorem vc41b (x y : Value) (w : World) (K : Exit → Env → World → Prop) : vcC Try.prog cOk 20 (c41b Try.f41) .z [(2, y), (0, x)] w K =
    mN Try.prog (vS (eqS .eql 57 false true x (.pointer none))) w fun t6 w => mIf t6 (K .ret [(2, .slice none 0 0), (6, t6), (5, x), (2, y), (0, x)] w) (K .normal [(6, t6), (5, x), (2, y), (0, x)] w) := by kernel_rfl
theorem vc41c (L : Env) (w : World) (K : Exit → Env → World → Prop) : vcC Try.prog cOk 20 (c41c Try.f41) .z L w K = mN Try.prog (vS (Instr.alloc 67 true (.tuple #[]))) w fun t3 w => K .normal ((3, t3) :: L) w := by kernel_rfl
theorem vc41d (x y z u v : Value) (w : World) (K : Exit → Env → World → Prop) : vcC Try.prog cOk 20 (c41d Try.f41) .z [(3, z), (6, u), (5, v), (2, y), (0, x)] w K =
    mN Try.prog (nilS x) w fun t8 w => mN Try.prog (vS (Instr.fieldAt 159 t8 3)) w fun t9 w => mN Try.prog (vS (Instr.loadAt 9 t9)) w fun t10 w =>
    mCall Try.prog 98 #[t10] w fun t11 w => K .normal [(11, t11), (10, t10), (9, t9), (8, t8), (7, x), (3, z), (6, u), (5, v), (2, y), (0, x)] w := by kernel_rfl
theorem vc41s (a b f g h i x y z u v j : Value) (w : World) (K : Env → World → Prop) : vcOps Try.prog cOk 20 (c41s Try.f41).toList (c41s Try.f41).toList [(13, b), (12, a), (11, f), (10, g), (9, h), (8, i), (7, j), (3, z), (6, u), (5, v), (2, y), (0, x)] w K =
    K [(4, a), (13, b), (12, a), (11, f), (10, g), (9, h), (8, i), (7, j), (3, z), (6, u), (5, v), (2, y), (0, x)] w := by kernel_rfl
theorem vc41t (a b f g h i x y z u v j : Value) (w : World) (K : Env → World → Prop) : vcOps Try.prog cOk 20 (c41t Try.f41).toList (c41t Try.f41).toList [(4, a), (13, b), (12, a), (11, f), (10, g), (9, h), (8, i), (7, j), (3, z), (6, u), (5, v), (2, y), (0, x)] w K =
    mN Try.prog (vS (Instr.loadAt 67 z)) w fun t14 w => mN Try.prog (vS (Instr.buildSlice 67 1 #[(0, a)])) w fun t16 w =>
    mN Try.prog (builtin .append #[67, 67] 67 #[false, false] #[t14, t16]) w fun t17 w => mN Try.prog (uS (Instr.storeAt 67 z t17)) w fun _ w =>
      K [(17, t17), (16, t16), (15, a), (14, t14), (4, a), (13, b), (12, a), (11, f), (10, g), (9, h), (8, i), (7, j), (3, z), (6, u), (5, v), (2, y), (0, x)] w := by kernel_rfl
theorem vc41e (f g h i x y z u v j : Value) (w : World) (K : Exit → Env → World → Prop) : vcC Try.prog cOk 20 (c41e Try.f41) .z [(11, f), (10, g), (9, h), (8, i), (7, j), (3, z), (6, u), (5, v), (2, y), (0, x)] w K =
    mN Try.prog (vS (Instr.loadAt 67 z)) w fun t18 w => mCall Try.prog 99 #[t18] w fun t19 w =>
      K .normal [(2, t19), (19, t19), (18, t18), (11, f), (10, g), (9, h), (8, i), (7, j), (3, z), (6, u), (5, v), (2, y), (0, x)] w := by kernel_rfl

section
variable {w : World} {K : Value → World → Prop}
def encT (ss : List (List UInt8)) : List Value := ss.map fun s => Value.string (ofL s)
theorem encT_len (ss : List (List UInt8)) : (encT ss).length = ss.length := by simp [encT]

/-- A row of texts, as a slice that is read. -/
theorem Strs.of_row {v : Value} {ss : List (List UInt8)} {fp : Nat → Prop} (h : Row w 9 1 v ss.length (encT ss)) (hf : ∀ k, Fp v k → fp k) : Strs w v (ss.map ofL) fp := by
  obtain ⟨A, c, rfl⟩ := h.slice
  refine ⟨A, c, by rw [List.length_map], by rw [List.length_map]; exact Row.small' h, fun h0 => ?_⟩
  rw [List.length_map] at h0
  obtain ⟨g, cap, cs, e, hb, h1, h2, h3, h4⟩ := h.at_ h0
  injection e with e1 _ e2
  subst e1 e2
  refine ⟨g, 0, rfl, hf g rfl, fun i x hx => ⟨[.string x], rfl, fun j u hu => ?_, rfl⟩⟩
  have hi := (List.getElem?_eq_some_iff.1 hx).1
  rw [List.length_map] at hi
  obtain ⟨rfl, rfl⟩ : j = 0 ∧ u = .string x := by
    cases j with
    | zero => simp at hu; exact ⟨rfl, hu.symm⟩
    | succ j => simp at hu
  refine hb.cell ?_
  rw [Nat.zero_add, Nat.mul_one, Nat.add_zero, h4 i (by omega)]
  rw [List.getElem?_map, Option.map_eq_some_iff] at hx
  obtain ⟨s, hs, rfl⟩ := hx
  simp [encT, hs]

theorem r_slice3 {P : Program} (w : World) {T E sz : Nat} (hT : P.underlying T = some (.slice E)) (hs : szOf P E = some sz) (A : Option Addr) (n c : Nat) (h1 : n ≤ c) :
    (Instr.sliceAt T (.slice A n c) none (some (.int .i64 n)) (some (.int .i64 n))).run P w = .ok (.slice A n n) w := by
  have e1 := r_bound (P := P) w .i64 n c .slice3Acap (by omega) (by omega)
  have e2 := r_bound (P := P) w .i64 n n .slice3B (by omega) (by omega)
  rw [Int.toNat_natCast] at e1 e2
  have ha : A.map (·.add 0) = A := by
    cases A with
    | none => rfl
    | some a =>
      show some (a.add 0) = some a
      unfold Addr.add
      split <;> simp_all
  simp only [Instr.sliceAt, Instr.slice, Instr.sliceBounds, Sem.run_bind, Sem.run_pure, Result.andThen_ok, underlying_run w hT, sizeOf_run w hs, e1, e2, Nat.zero_mul, Nat.sub_zero, if_true]
  simp only [ha, ite_self]

/-- slices.Clip -/
theorem clip_c {v : Value} {ss : List (List UInt8)} {fp : Nat → Prop} (h : Row w 9 1 v ss.length (encT ss)) (hf : ∀ k, Fp v k → fp k) (k : ∀ v', Strs w v' (ss.map ofL) fp → K v' w) : mCall Try.prog 99 #[v] w K := by
  have hS := Strs.of_row h hf
  have hcap : ∃ A c, v = .slice A ss.length c ∧ ss.length ≤ c := by
    rcases h.form with ⟨rfl, h0, _⟩ | ⟨g, cap, cs, rfl, _, h1, _⟩
    · exact ⟨none, 0, by rw [h0], by omega⟩
    · exact ⟨_, cap, rfl, h1⟩
  obtain ⟨A, c, rfl, hc⟩ := hcap
  refine ⟨ok99 ?_⟩
  unfold sh99
  try simp only [push_cast]
  refine mN_v (r_slice3 w Try.underlying67 (by kernel_rfl) (sz := 1) A _ c hc) ?_
  refine k _ ?_
  obtain ⟨A', c', e, hm, hh⟩ := hS
  injection e with e1 e2 e3
  subst e1
  exact ⟨A, ss.length, by rw [List.length_map], hm, hh⟩

theorem zero67 (w : World) : (Instr.alloc 67 true (.tuple #[])).run Try.prog w = .ok (.pointer (some ⟨w.heap.size, 0, none⟩)) (w.alloc (.cells #[.slice none 0 0] 67 (0, 0))) := by kernel_rfl
theorem str_new (s : ByteArray) (w : World) : (Instr.buildSlice 67 1 #[(0, .string s)]).run Try.prog w = .ok (.slice (some ⟨w.heap.size, 0, none⟩) 1 1) (w.alloc (.cells #[.string s] 9 (0, 0))) := by kernel_rfl

/-- (*log.Log).Records, of a log. -/
theorem records_c {p : Nat} {x0 x1 x2 x4 : Value} {b : List UInt8} (hl : b.length ≤ 1000000000) (hp : Blk w p 159 [x0, x1, x2, .string (ofL b), x4])
    (k : ∀ v w', Strs w' v ((parseL b).1.map ofL) (w.heap.size ≤ ·) → Ext w w' → K v w') : mCall Try.prog 41 #[.pointer (some ⟨p, 0, none⟩)] w K := by
  refine ⟨(callsIn_wide (n := 0)).1 (callsIn_of_wp_marks Try.func41 body41 trivial ?_)⟩
  have hL0 := has_arg1 (fn := Try.f41) (n := 20) (by kernel_rfl) (by decide) (.pointer (some ⟨p, 0, none⟩))
  refine wpIn_seq (wpIn_vc callsOk mixed (k := .z) hL0 ?_ (K := fun e L w' => e = .normal ∧ L = [(2, .slice none 0 0), (0, .pointer (some ⟨p, 0, none⟩))] ∧ w' = w) fun e a L w' hL hK => ?_)
  · rw [vc41a]
    exact ⟨rfl, rfl, rfl⟩
  obtain ⟨rfl, rfl, rfl⟩ := hK
  refine wpIn_seq (wpIn_vc callsOk mixed (k := .z) hL ?_ (K := fun e L w'' => e = .normal ∧ L = [(6, .bool false), (5, .pointer (some ⟨p, 0, none⟩)), (2, .slice none 0 0), (0, .pointer (some ⟨p, 0, none⟩))] ∧ w'' = w') fun e a L w1 hL hK => ?_)
  · rw [vc41b]
    try simp only [push_cast, Option.isNone_some]
    exact ⟨by first | rfl | trivial, by first | rfl | trivial, by first | rfl | trivial⟩
  obtain ⟨rfl, rfl, rfl⟩ := hK
  refine wpIn_seq (wpIn_vc callsOk mixed (k := .z) hL ?_ (K := fun e L w'' => e = .normal ∧ L = [(3, .pointer (some ⟨w1.heap.size, 0, none⟩)), (6, .bool false), (5, .pointer (some ⟨p, 0, none⟩)), (2, .slice none 0 0), (0, .pointer (some ⟨p, 0, none⟩))] ∧
    Blk w'' w1.heap.size 67 [.slice none 0 0] ∧ Ext w1 w'') fun e a L w2 hL hK => ?_)
  · rw [vc41c]
    exact mN_new (zero67 w1) fun w2 h2 u2 s2 => ⟨rfl, rfl, h2, u2⟩
  obtain ⟨rfl, rfl, h2, u2⟩ := hK
  have hp2 := hp.keep u2 id
  refine wpIn_seq (wpIn_seq (wpIn_vc callsOk mixed (k := .z) hL ?_ (K := fun e L w'' => e = .normal ∧ (∃ t9 t8, L = [(11, .func (.func 124) #[] #[.pointer (some ⟨w2.heap.size, 0, none⟩)]), (10, .string (ofL b)), (9, t9), (8, t8), (7, .pointer (some ⟨p, 0, none⟩)), (3, .pointer (some ⟨w1.heap.size, 0, none⟩)), (6, .bool false), (5, .pointer (some ⟨p, 0, none⟩)), (2, .slice none 0 0), (0, .pointer (some ⟨p, 0, none⟩))]) ∧
    Blk w'' w2.heap.size 9 [.string (ofL b)] ∧ Ext w2 w'') fun e a L w3 hL hK => ?_))
  · rw [vc41d]
    try simp only [push_cast]
    refine mN_v (r_loadB _ (by kernel_rfl) hp2 rfl) ?_
    exact each_c fun w3 h3 u3 s3 => ⟨by first | rfl | trivial, ⟨_, _, rfl⟩, h3, u3⟩
  obtain ⟨rfl, ⟨t9, t8, rfl⟩, h3, u3⟩ := hK
  have hlt2 : w1.heap.size < w2.heap.size := h2.lt
  have hlt3 : w2.heap.size < w3.heap.size := h3.lt
  have h2 := h2.keep u3 id
  refine wpIn_block (wpIn_range callsOk hL rfl rfl rfl rfl rfl fun r w4 hR hO u4 s4 hY => ?_)
  refine each1_c (b := b) (Inv := fun pre rest wi => Ready wi (w3.heap.size + 1) r ∧ Opened wi w3.heap.size ∧ pre.length + rest.length ≤ b.length ∧ w4.heap.size ≤ wi.heap.size ∧ (∃ v, Blk wi w1.heap.size 67 [v] ∧ Row wi 9 1 v pre.length (encT pre) ∧ ∀ k, Fp v k → w4.heap.size ≤ k) ∧ Ext w1 wi) ?_ ?_ (by omega) (h3.keep u4 id)
    ⟨hR, hO, by simp, Nat.le_refl _, ⟨_, h2.keep u4 id, Row.nil _ _ _, fun k hk => by cases hk⟩, (u2.ext u3).ext u4⟩ ?_
  · rintro pre rest wa wb ⟨i1, i2, i3, i4, ⟨v, i5, i6, i7⟩, i8⟩ u
    exact ⟨i1.keep u (by omega), i2.keep u (by omega), i3, Nat.le_trans i4 u.size, ⟨v, i5.keep u (by omega), i6.keep u fun k hk e => by have := i7 k hk; omega, i7⟩, i8.trans u (fun _ _ x => x) fun i hi e => by omega⟩
  · rintro pre r0 s rest wa K' ⟨i1, i2, i3, i4, ⟨v, i5, i6, i7⟩, i8⟩ hc hlen hk
    refine hY _ _ wa K' i1 ?_
    rw [vc41s]
    refine ⟨i1, fun wb hB ub sb => ?_⟩
    rw [vc41t]
    have j5 := i5.keep ub (by omega)
    have j6 := i6.keep ub fun k hk e => by have := i7 k hk; omega
    refine mN_v (r_loadB _ (by kernel_rfl) j5 rfl) ?_
    refine mN_new (str_new _ _) fun wc hc' uc sc => ?_
    have j6 := j6.keep uc fun _ _ => id
    refine mN_append (z := .string ⟨#[]⟩) (sz := 1) (bytes := 16) Try.underlying67 (by kernel_rfl) (by kernel_rfl) (by omega) j6 (m := 1) (ys := [.string (ofL s)]) (by simp) (fun j u hu => hc'.cell (by simpa using hu)) (fun u hu => by rw [List.mem_singleton] at hu; subst hu; rfl)
      (by omega) (by omega) fun v4 wd hr4 ud y4 => ?_
    have hvo : ¬ Fp v w1.heap.size := fun hf => by have := i7 _ hf; omega
    have j5d := (j5.keep uc id).keep ud hvo
    have ho : v4.oneCell' = true := by
      obtain ⟨A, c, rfl⟩ := hr4.slice
      rfl
    have hszb : w4.heap.size ≤ wb.heap.size := by rw [sb]; exact i4
    have y4' : ∀ k, Fp v4 k → w4.heap.size ≤ k := fun k hk => (y4 k hk).elim (i7 k) fun h => by have := uc.size; omega
    refine mN_store1 (by kernel_rfl) j5d (by simp) ho fun we he ue se => ?_
    have hBd := ((hB.keep uc id).keep ud fun hf => by have := i7 _ hf; omega).keep ue (by omega)
    refine ⟨hBd, fun wf hRf uf sf => ?_⟩
    have e1 : pre.length + 1 = (pre ++ [s]).length := by simp
    have e2 : encT pre ++ [.string (ofL s)] = encT (pre ++ [s]) := by simp [encT]
    rw [e1, e2] at hr4
    have hkeep : ∀ {g T cs}, g < w4.heap.size → g ≠ w3.heap.size + 1 → g ≠ w1.heap.size → Blk wa g T cs → Blk wf g T cs := fun hg n1 n2 hb =>
      ((((hb.keep ub (by omega)).keep uc id).keep ud fun hf => by have := i7 _ hf; omega).keep ue (by omega)).keep uf (by omega)
    have e8 : Ext w1 wf := ((((i8.trans ub (fun _ _ x => x) fun i hi e => by omega).ext uc).trans ud (fun _ _ x => x) fun i hi hf => by have := i7 _ hf; omega).trans ue (fun _ _ x => x) fun i hi e => by omega).trans uf (fun _ _ x => x) fun i hi e => by omega
    refine hk wf ⟨hRf, ?_, by simp; omega, ?_, ⟨v4, he.keep uf (by omega), (hr4.keep ue fun k hk e => by have := y4' k hk; omega).keep uf fun k hk e => by have := y4' k hk; omega, y4'⟩, e8⟩ (hkeep (by omega) (by omega) (by omega) hc)
    · exact ((((i2.keep ub (by omega)).keep uc id).keep ud fun hf => by have := i7 _ hf; omega).keep ue (by omega)).keep uf (by omega)
    · have := uc.size
      have := ud.size
      have := ue.size
      have := uf.size
      omega
  · rintro w5 ⟨i1, i2, i3, i4, ⟨v, i5, i6, i7⟩, i8⟩
    refine ⟨i1, fun w6 u6 s6 a' hL' => ?_⟩
    have i2 := i2.keep u6 (by omega)
    have i5 := i5.keep u6 (by omega)
    have i6 := i6.keep u6 fun k hk e => by have := i7 k hk; omega
    have e6 : Ext w1 w6 := i8.trans u6 (fun _ _ x => x) fun i hi e => by omega
    refine wpIn_seq (wpIn_vc callsOk mixed (k := .z) hL' ?_ (K := fun e L w'' => e = .normal ∧ ehas L 2 = true ∧ Strs w'' (eget L 2) ((parseL b).1.map ofL) (w4.heap.size ≤ ·) ∧ w'' = w6) fun e a6 L w7 hL6 hK => ?_)
    · rw [vc41e]
      refine mN_v (r_loadB _ (by kernel_rfl) i5 rfl) ?_
      exact clip_c i6 i7 fun v' hv' => ⟨by first | rfl | trivial, by first | rfl | trivial, hv', by first | rfl | trivial⟩
    obtain ⟨rfl, hh, hg, rfl⟩ := hK
    refine wpIn_ret ?_
    refine leaves_one (by kernel_rfl) hL6 hh i2 fun w8 u8 => ?_
    refine k _ w8 ((hg.keep u8 fun k hk e => by omega).mono fun k hk => by have := u2.size; have := u3.size; omega) ?_
    exact e6.trans u8 (fun _ _ x => x) fun i hi e => by omega
end
end Go.Proofs.Ythgopkppmppdoaa
