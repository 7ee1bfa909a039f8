/-
  The reference's logs: records, as they lie in memory; Of, Plain, Open.
-/
import Derived.Test.YthgopkppmppdoaaLog4
import Derived.Test.YthgopkppmppdoaaSlot6
set_option linter.unusedVariables false
set_option linter.unusedSimpArgs false
set_option maxRecDepth 20000
namespace Go.Proofs.Ythgopkppmppdoaa
open Go Go.Proofs Go.Vc
open Go.RowKit (Below intOf)

/-- The reference's log: records, and how many are sealed. -/
structure RM where
  start : Nat
  blocks : Nat
  recs : List (List UInt8)
  sealed : Nat

def rlC (R : RM) (v : Value) : List Value := [.int .i64 R.start, .int .i64 R.blocks, v, .int .i64 R.sealed]
def IsRL (w : World) (g : Nat) (fp : Nat → Prop) (R : RM) : Prop :=
  ∃ v, Blk w g 70 (rlC R v) ∧ Row w 9 1 v R.recs.length (encT R.recs) ∧ fp g ∧ (∀ k, Fp v k → fp k) ∧ ∀ k, fp k → k < w.heap.size

theorem IsRL.keep {w w' : World} {g : Nat} {fp F : Nat → Prop} {R : RM} (h : IsRL w g fp R) (u : Upd w w' F) (hn : ∀ k, fp k → ¬ F k) : IsRL w' g fp R := by
  obtain ⟨v, h1, h2, h3, h4, h5⟩ := h
  exact ⟨v, h1.keep u (hn g h3), h2.keep u fun k hk => hn k (h4 k hk), h3, h4, fun k hk => Nat.lt_of_lt_of_le (h5 k hk) u.size⟩
theorem IsRL.lt {w : World} {g : Nat} {fp : Nat → Prop} {R : RM} (h : IsRL w g fp R) {k : Nat} (hk : fp k) : k < w.heap.size := by
  obtain ⟨v, h1, h2, h3, h4, h5⟩ := h
  exact h5 k hk

theorem encT_append (a b : List (List UInt8)) : encT a ++ encT b = encT (a ++ b) := by simp [encT]

theorem Arr.upto {α : Type} {w : World} {A : Option Addr} {n c sz : Nat} {fp : Nat → Prop} {l : List α} {R : World → List Value → α → Prop} (h : Arr w (.slice A n c) sz fp l R) {m : Nat} (hm : m ≤ n) : Arr w (.slice A m c) sz fp (l.take m) R := by
  obtain ⟨A', c', e, hs, h⟩ := h
  injection e with e1 e2 e3
  subst e1 e2 e3
  refine ⟨A, c, by rw [List.length_take, Nat.min_eq_left hm], by rw [List.length_take]; omega, fun h0 => ?_⟩
  obtain ⟨b, o, rfl, hb, h⟩ := h (by rw [List.length_take] at h0; omega)
  refine ⟨b, o, rfl, hb, fun i x hx => h i x ?_⟩
  rw [List.getElem?_take] at hx
  split at hx
  · exact hx
  · cases hx

theorem recsL_cons (s : List UInt8) (ss : List (List UInt8)) : recsL (s :: ss) = textL s ++ recsL ss := by simp [recsL]
theorem recsL_append (a b : List (List UInt8)) : recsL (a ++ b) = recsL a ++ recsL b := by simp [recsL]
theorem recsL_one (s : List UInt8) : recsL [s] = textL s := by simp [recsL]

section
variable {w : World} {K : Value → World → Prop} {p q g N : Nat} {fp fq fr : Nat → Prop} {D : DM} {L : LM} {R : RM}

/-- rectoref29.Plain -/
theorem rplainA_c {v : Value} {ss : List (List UInt8)} (h : Strs w v (ss.map ofL) fr) (hl : (recsL ss).length ≤ 1000000000) (k : ∀ w', Ext w w' → K (.string (ofL (recsL ss))) w') : mCall Try.prog 59 #[v] w K := by
  obtain ⟨A, c, rfl⟩ := Arr.slice h
  have hsm := Arr.small h
  rw [List.length_map] at hsm
  refine ⟨ok59 ?_⟩
  unfold sh59
  try simp only [push_cast, List.length_map]
  refine mLoop2.mk (fun x y wr => ∃ j : Nat, x = .string (ofL (recsL (ss.take j))) ∧ y = .int .i64 j ∧ j ≤ ss.length ∧ Ext w wr) (fun _ y _ => ss.length - (intOf y).toNat) ⟨0, rfl, rfl, Nat.zero_le _, Upd.refl _ _⟩ ?_
  rintro x y wr ⟨j, rfl, rfl, hj, ur⟩
  try simp only [push_cast]
  refine mIf_dec (fun hlt => ?_) fun hlt => ?_
  · obtain ⟨s, hs⟩ : ∃ x, ss[j]? = some x := ⟨_, List.getElem?_eq_getElem (by omega)⟩
    obtain ⟨pa, i1, r1, _⟩ := strs_ix (h.keep ur fun _ _ => id) (show (ss.map ofL)[j]? = some (ofL s) by rw [List.getElem?_map, hs]; rfl)
    rw [List.length_map] at i1
    refine mN_v (i1 wr) ?_
    refine mN_v r1 ?_
    try simp only [push_cast, ofL_size]
    have hsplit : recsL ss = recsL (ss.take j) ++ (textL s ++ recsL (ss.drop (j + 1))) := by
      have e1 : ss = ss.take j ++ (s :: ss.drop (j + 1)) := by
        have := List.getElem?_eq_some_iff.1 hs
        obtain ⟨h1, h2⟩ := this
        rw [← h2, List.getElem_cons_drop, List.take_append_drop]
      conv => lhs; rw [e1]
      rw [recsL_append, recsL_cons]
    have hlen := congrArg List.length hsplit
    rw [List.length_append, List.length_append, textL_len] at hlen
    refine rplain_c s.length (by omega) fun w2 u2 => ?_
    have hp : (plainL s.length).length = (digL s.length).length + 1 := rfl
    refine mN_v (r_addS _ _ _ _ (by rw [ofL_size, ofL_size]; omega)) ?_
    rw [ofL_append]
    refine mN_v (r_addS _ _ _ _ (by rw [ofL_size, ofL_size, List.length_append]; omega)) ?_
    rw [ofL_append]
    try simp only [push_cast]
    rw [i64w ((j : Int) + 1) (by omega) (by omega)]
    refine ⟨⟨j + 1, ?_, congrArg (Value.int .i64) (by omega), by omega, ur.ext u2⟩, by simp only [intOf]; omega⟩
    rw [List.take_add_one, hs, recsL_append, show recsL (some s).toList = textL s from recsL_one s, List.append_assoc]
    rfl
  · obtain rfl : j = ss.length := by omega
    rw [List.take_of_length_le (Nat.le_refl _)]
    exact k wr ur

theorem zero163 (w : World) : (Instr.alloc 163 true (.tuple #[])).run Try.prog w = .ok (.pointer (some ⟨w.heap.size, 0, none⟩)) (w.alloc (.cells #[.slice none 0 0, .bool false] 163 (0, 0))) := by kernel_rfl
theorem build163t (w : World) : (Instr.build 163 #[(1, .bool true)]).run Try.prog w = .ok (.agg #[.slice none 0 0, .bool true]) w := by kernel_rfl
theorem build163 (w : World) : (Instr.build 163 #[]).run Try.prog w = .ok (.agg #[.slice none 0 0, .bool false]) w := by kernel_rfl

theorem row_one {v : Value} {ss : List (List UInt8)} (h : Row w 9 1 v ss.length (encT ss)) : v.oneCell' = true := by
  obtain ⟨A, c, rfl⟩ := h.slice
  rfl

theorem ret_aggU {T n E g : Nat} (hA : aggOf Try.prog T = some true) {vs : List Value} (hn : vs.length = n) (hs : szOf Try.prog T = some n) {w : World} {cs : List Value} (h : Blk w g E cs) (hl : cs.length = n) (h1 : ∀ v ∈ vs, v.oneCell' = true)
    {K : Value → World → Prop} (k : ∀ w', Upd w w' (· = g) → w'.heap.size = w.heap.size → K (.agg vs.toArray) w') :
    mN Try.prog (uS (Instr.storeAt T (.pointer (some ⟨g, 0, none⟩)) (.agg vs.toArray))) w fun _ w => mRes Try.prog (cellS T (.pointer (some ⟨g, 0, none⟩))) w fun r0 => K r0 w := by
  subst hn
  refine mN_storeN hs h (by omega) h1 fun w2 h2 u2 s2 => ?_
  rw [splice_all _ _ (by omega)] at h2
  refine mRes.mk (.agg vs.toArray) ?_ (k w2 u2 s2)
  have := rdV_N (P := Try.prog) (w := w2) (T := T) (n := vs.length) hA hs h2 (o := 0) (by omega)
  rw [List.drop_zero, List.take_of_length_le (Nat.le_refl _)] at this
  exact this

/-- rectoref29.Of -/
theorem of_c {b : List UInt8} (hl : b.length ≤ 1000000000) (k0 : (parseL b).2 ≠ [] → ∀ w', Ext w w' → K (.agg #[.slice none 0 0, .bool false]) w')
    (k1 : (parseL b).2 = [] → ∀ v w', Row w' 9 1 v (parseL b).1.length (encT (parseL b).1) → (∀ k, Fp v k → w.heap.size ≤ k) → Ext w w' → K (.agg #[v, .bool true]) w') : mCall Try.prog 97 #[.string (ofL b)] w K := by
  refine ⟨ok97 ?_⟩
  unfold sh97
  refine mN_new (zero163 w) fun w1 h1 u1 s1 => ?_
  refine mN_v (build163t w1) ?_
  refine mN_new (zero163 w1) fun w2 h2 u2 s2 => ?_
  refine mN_storeN (vs := [.slice none 0 0, .bool true]) (by kernel_rfl) h2 (by simp) (by intro v hv; simp at hv; rcases hv with rfl | rfl <;> rfl) fun w3 h3 u3 s3 => ?_
  rw [splice_all _ _ (by simp)] at h3
  have u13 : Ext w1 w3 := u2.trans u3 (fun _ _ x => x) fun i hi e => by omega
  have h1 := h1.keep u13 id
  have a3 : Ext w w3 := u1.ext u13
  refine mLoop1.mk (fun x wr => ∃ (pre : List (List UInt8)) (r : List UInt8) (v : Value), x = .string (ofL r) ∧ Blk wr w.heap.size 163 [.slice none 0 0, .bool false] ∧ Blk wr w1.heap.size 163 [v, .bool true] ∧ Row wr 9 1 v pre.length (encT pre) ∧
      (∀ k, Fp v k → w3.heap.size ≤ k) ∧ Ext w wr ∧ w3.heap.size ≤ wr.heap.size ∧ parseL b = (pre ++ (parseL r).1, (parseL r).2) ∧ pre.length + r.length ≤ b.length) (fun x _ => match x with
    | .string s => s.size
    | _ => 0) ?_ ?_
  · exact ⟨[], b, _, rfl, h1, h3, Row.nil _ _ _, fun k hk => (by cases hk), a3, Nat.le_refl _, by simp, by simp⟩
  rintro x wr ⟨pre, r, v, rfl, g1, g2, hr, hv, ur, hsz, hp, hln⟩
  have hvo := row_one hr
  try simp only [push_cast]
  refine mIf_neS (fun hne => ?_) fun he => ?_
  rotate_left
  · obtain rfl : r = [] := by
      have := congrArg ByteArray.size he
      exact List.eq_nil_of_length_eq_zero this
    rw [parseL_none takeT_nil, List.append_nil] at hp
    have hl2 := r_loadN (P := Try.prog) wr (T := 163) (n := 2) (by kernel_rfl) (by kernel_rfl) g2 (o := 0) (by simp)
    refine mN_v hl2 ?_
    rw [hp] at k1
    refine ret_aggU (vs := [v, .bool true]) (by kernel_rfl) (n := 2) rfl (by kernel_rfl) g1 rfl (by intro u hu; simp at hu; rcases hu with rfl | rfl <;> first | rfl | exact hvo) fun w5 u5 s5 => ?_
    refine k1 rfl v w5 (hr.keep u5 fun k hk e => by have := hv k hk; have := g1.lt; omega) (fun k hk => by have := hv k hk; have := a3.size; omega) (ur.trans u5 (fun _ _ x => x) fun i hi e => by omega)
  · refine rtaket_c (by omega) fun w4 u4 => ?_
    have a4 := ur.ext u4
    refine mN_new (zero195 w4) fun w5 h5 u5 s5 => ?_
    unfold rtakeTV
    cases ht : takeT r with
    | none =>
      rw [parseL_none ht] at hp
      have hne' : (parseL b).2 ≠ [] := fun e => by
        rw [hp] at e
        obtain rfl : r = [] := e
        exact hne rfl
      refine mN_storeN (vs := [.int .i64 0, .string ⟨#[]⟩, .slice none 0 0, .string ⟨#[]⟩, .int .i64 4]) (by kernel_rfl) h5 (by simp) (by intro v hv; simp at hv; rcases hv with rfl | rfl | rfl | rfl | rfl <;> rfl) fun w6 h6 u6 s6 => ?_
      rw [splice_all _ _ (by simp)] at h6
      have a6 : Ext w w6 := (a4.ext u5).trans u6 (fun _ _ x => x) fun i hi e => by have := a4.size; omega
      try simp only [push_cast]
      refine mN_v (r_loadB _ (by kernel_rfl) h6 rfl) ?_
      try simp only [push_cast]
      refine mIf_neI (fun _ => ?_) fun h => absurd h (by decide)
      refine mN_v (build163 w6) ?_
      have g1' := ((g1.keep u4 id).keep u5 id).keep u6 fun e => by have := (g1.keep u4 id).lt; omega
      refine ret_agg (vs := [.slice none 0 0, .bool false]) (by kernel_rfl) (n := 2) rfl (by kernel_rfl) g1' rfl (by intro u hu; simp at hu; rcases hu with rfl | rfl <;> rfl) a6 (Nat.le_refl _) fun w7 u7 => k0 hne' w7 u7
    | some pr =>
      obtain ⟨s, t⟩ := pr
      have hlt := takeT_len ht
      rw [parseL_some ht] at hp
      refine mN_storeN (vs := [.int .i64 0, .string (ofL s), .slice none 0 0, .string (ofL t), .int .i64 0]) (by kernel_rfl) h5 (by simp) (by intro v hv; simp at hv; rcases hv with rfl | rfl | rfl | rfl | rfl <;> rfl) fun w6 h6 u6 s6 => ?_
      rw [splice_all _ _ (by simp)] at h6
      have a6 : Ext w w6 := (a4.ext u5).trans u6 (fun _ _ x => x) fun i hi e => by have := a4.size; omega
      have hs4 := u4.size
      have hs5 := u5.size
      have hs6 := u6.size
      have hke : ∀ {g T cs}, Blk wr g T cs → Blk w6 g T cs := fun hb => ((hb.keep u4 id).keep u5 id).keep u6 fun e => by have := (hb.keep u4 id).lt; omega
      have hr6 := ((hr.keep u4 fun _ _ => id).keep u5 fun _ _ => id).keep u6 fun k hk e => by have := (hr.keep u4 fun _ _ => id).lt hk; omega
      try simp only [push_cast]
      refine mN_v (r_loadB _ (by kernel_rfl) h6 rfl) ?_
      try simp only [push_cast]
      refine mIf_neI (fun h => absurd rfl h) fun _ => ?_
      refine mN_v (r_loadB _ (by kernel_rfl) (hke g2) rfl) ?_
      try simp only [push_cast]
      refine mN_v (r_loadB _ (by kernel_rfl) h6 rfl) ?_
      refine mN_new (str_new _ _) fun w7 h7 u7 s7 => ?_
      have hr7 := hr6.keep u7 fun _ _ => id
      refine mN_append (z := .string ⟨#[]⟩) (sz := 1) (bytes := 16) Try.underlying67 (by kernel_rfl) (by kernel_rfl) (by omega) hr7 (m := 1) (ys := [.string (ofL s)]) (by simp) (fun j u hu => h7.cell (by simpa using hu)) (fun u hu => by rw [List.mem_singleton] at hu; subst hu; rfl)
        (by omega) (by omega) fun v8 w8 hr8 u8 y8 => ?_
      have e1 : pre.length + 1 = (pre ++ [s]).length := by simp
      have e2 : encT pre ++ [.string (ofL s)] = encT (pre ++ [s]) := by simp [encT]
      rw [e1, e2] at hr8
      have hs7 := u7.size
      have hs8 := u8.size
      have hlt1 := g1.lt
      have hlt2 := g2.lt
      have hlw1 : w1.heap.size ≤ w3.heap.size := u13.size
      have hlw : w.heap.size ≤ w1.heap.size := u1.size
      have hw1 : w1.heap.size < w3.heap.size := h3.lt
      have g28 := ((hke g2).keep u7 id).keep u8 fun hf => by have := hv _ hf; omega
      have g18 := ((hke g1).keep u7 id).keep u8 fun hf => by have := hv _ hf; omega
      have h68 := (h6.keep u7 id).keep u8 fun hf => by have := hr6.lt hf; have := (hr.lt hf); omega
      try simp only [push_cast]
      refine mN_store1 (by kernel_rfl) g28 (by simp) (row_one hr8) fun w9 h9 u9 s9 => ?_
      have h69 := h68.keep u9 (by omega)
      refine mN_v (r_loadB _ (by kernel_rfl) h69 rfl) ?_
      have hv8 : ∀ k, Fp v8 k → w3.heap.size ≤ k := fun k hk => (y8 k hk).elim (hv k) fun h => by omega
      have a8 : Ext w w8 := (a6.ext u7).trans u8 (fun _ _ x => x) fun i hi hf => by have := hv _ hf; omega
      refine ⟨⟨pre ++ [s], t, v8, rfl, g18.keep u9 (by omega), h9, hr8.keep u9 fun k hk e => by have := hv8 k hk; omega, hv8, a8.trans u9 (fun _ _ x => x) fun i hi e => by omega, by omega, by rw [hp]; simp, by simp; omega⟩, ?_⟩
      show (ofL t).size < (ofL r).size
      exact hlt
end
end Go.Proofs.Ythgopkppmppdoaa
