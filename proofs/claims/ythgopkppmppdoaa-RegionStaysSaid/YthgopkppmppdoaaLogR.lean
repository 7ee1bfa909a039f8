/-
  The reference's logs: records, as they lie in memory; Of, Plain, Open.
-/
import Derived.Test.YthgopkppmppdoaaLogM
import Derived.Test.YthgopkppmppdoaaSlotR
set_option linter.unusedVariables false
set_option linter.unusedSimpArgs false
set_option maxRecDepth 20000
namespace Go.Proofs.Ythgopkppmppdoaa
open Go Go.Proofs Go.Vc
open Go.RowKit (Below intOf)

/-- The reference's log: records, and how many are sealed. -/
structure RM where
  start : Nat
  blocks : Nat
  recs : List (List UInt8)
  sealed : Nat

def rlC (R : RM) (v : Value) : List Value := [.int .i64 R.start, .int .i64 R.blocks, v, .int .i64 R.sealed]
def IsRL (w : World) (g : Nat) (fp : Nat → Prop) (R : RM) : Prop :=
  ∃ v, Blk w g 70 (rlC R v) ∧ Row w 9 1 v R.recs.length (encT R.recs) ∧ fp g ∧ (∀ k, Fp v k → fp k) ∧ ∀ k, fp k → k < w.heap.size

theorem IsRL.keep {w w' : World} {g : Nat} {fp F : Nat → Prop} {R : RM} (h : IsRL w g fp R) (u : Upd w w' F) (hn : ∀ k, fp k → ¬ F k) : IsRL w' g fp R := by
  obtain ⟨v, h1, h2, h3, h4, h5⟩ := h
  exact ⟨v, h1.keep u (hn g h3), h2.keep u fun k hk => hn k (h4 k hk), h3, h4, fun k hk => Nat.lt_of_lt_of_le (h5 k hk) u.size⟩
theorem IsRL.lt {w : World} {g : Nat} {fp : Nat → Prop} {R : RM} (h : IsRL w g fp R) {k : Nat} (hk : fp k) : k < w.heap.size := by
  obtain ⟨v, h1, h2, h3, h4, h5⟩ := h
  exact h5 k hk

theorem encT_append (a b : List (List UInt8)) : encT a ++ encT b = encT (a ++ b) := by simp [encT]

theorem Arr.upto {α : Type} {w : World} {A : Option Addr} {n c sz : Nat} {fp : Nat → Prop} {l : List α} {R : World → List Value → α → Prop} (h : Arr w (.slice A n c) sz fp l R) {m : Nat} (hm : m ≤ n) : Arr w (.slice A m c) sz fp (l.take m) R := by
  obtain ⟨A', c', e, hs, h⟩ := h
  injection e with e1 e2 e3
  subst e1 e2 e3
  refine ⟨A, c, by rw [List.length_take, Nat.min_eq_left hm], by rw [List.length_take]; omega, fun h0 => ?_⟩
  obtain ⟨b, o, rfl, hb, h⟩ := h (by rw [List.length_take] at h0; omega)
  refine ⟨b, o, rfl, hb, fun i x hx => h i x ?_⟩
  rw [List.getElem?_take] at hx
  split at hx
  · exact hx
  · cases hx

theorem recsL_cons (s : List UInt8) (ss : List (List UInt8)) : recsL (s :: ss) = textL s ++ recsL ss := by simp [recsL]
theorem recsL_append (a b : List (List UInt8)) : recsL (a ++ b) = recsL a ++ recsL b := by simp [recsL]
theorem recsL_one (s : List UInt8) : recsL [s] = textL s := by simp [recsL]

section
variable {w : World} {K : Value → World → Prop} {p q g N : Nat} {fp fq fr : Nat → Prop} {D : DM} {L : LM} {R : RM}

/-- rectoref29.Plain -/
theorem rplainA_c {v : Value} {ss : List (List UInt8)} (h : Strs w v (ss.map ofL) fr) (hl : (recsL ss).length ≤ 1000000000) (k : ∀ w', Ext w w' → K (.string (ofL (recsL ss))) w') : mCall Try.prog 59 #[v] w K := by
  obtain ⟨A, c, rfl⟩ := Arr.slice h
  have hsm := Arr.small h
  rw [List.length_map] at hsm
  refine ⟨ok59 ?_⟩
  unfold sh59
  try simp only [push_cast, List.length_map]
  refine mLoop2.mk (fun x y wr => ∃ j : Nat, x = .string (ofL (recsL (ss.take j))) ∧ y = .int .i64 j ∧ j ≤ ss.length ∧ Ext w wr) (fun _ y _ => ss.length - (intOf y).toNat) ⟨0, rfl, rfl, Nat.zero_le _, Upd.refl _ _⟩ ?_
  rintro x y wr ⟨j, rfl, rfl, hj, ur⟩
  try simp only [push_cast]
  refine mIf_dec (fun hlt => ?_) fun hlt => ?_
  · obtain ⟨s, hs⟩ : ∃ x, ss[j]? = some x := ⟨_, List.getElem?_eq_getElem (by omega)⟩
    obtain ⟨pa, i1, r1, _⟩ := strs_ix (h.keep ur fun _ _ => id) (show (ss.map ofL)[j]? = some (ofL s) by rw [List.getElem?_map, hs]; rfl)
    rw [List.length_map] at i1
    refine mN_v (i1 wr) ?_
    refine mN_v r1 ?_
    try simp only [push_cast, ofL_size]
    have hsplit : recsL ss = recsL (ss.take j) ++ (textL s ++ recsL (ss.drop (j + 1))) := by
      have e1 : ss = ss.take j ++ (s :: ss.drop (j + 1)) := by
        have := List.getElem?_eq_some_iff.1 hs
        obtain ⟨h1, h2⟩ := this
        rw [← h2, List.getElem_cons_drop, List.take_append_drop]
      conv => lhs; rw [e1]
      rw [recsL_append, recsL_cons]
    have hlen := congrArg List.length hsplit
    rw [List.length_append, List.length_append, textL_len] at hlen
    refine rplain_c s.length (by omega) fun w2 u2 => ?_
    have hp : (plainL s.length).length = (digL s.length).length + 1 := rfl
    refine mN_v (r_addS _ _ _ _ (by rw [ofL_size, ofL_size]; omega)) ?_
    rw [ofL_append]
    refine mN_v (r_addS _ _ _ _ (by rw [ofL_size, ofL_size, List.length_append]; omega)) ?_
    rw [ofL_append]
    try simp only [push_cast]
    rw [i64w ((j : Int) + 1) (by omega) (by omega)]
    refine ⟨⟨j + 1, ?_, congrArg (Value.int .i64) (by omega), by omega, ur.ext u2⟩, by simp only [intOf]; omega⟩
    rw [List.take_add_one, hs, recsL_append, show recsL (some s).toList = textL s from recsL_one s, List.append_assoc]
    rfl
  · obtain rfl : j = ss.length := by omega
    rw [List.take_of_length_le (Nat.le_refl _)]
    exact k wr ur

theorem zero163 (w : World) : (Instr.alloc 163 true (.tuple #[])).run Try.prog w = .ok (.pointer (some ⟨w.heap.size, 0, none⟩)) (w.alloc (.cells #[.slice none 0 0, .bool false] 163 (0, 0))) := by kernel_rfl
theorem build163t (w : World) : (Instr.build 163 #[(1, .bool true)]).run Try.prog w = .ok (.agg #[.slice none 0 0, .bool true]) w := by kernel_rfl
theorem build163 (w : World) : (Instr.build 163 #[]).run Try.prog w = .ok (.agg #[.slice none 0 0, .bool false]) w := by kernel_rfl

theorem row_one {v : Value} {ss : List (List UInt8)} (h : Row w 9 1 v ss.length (encT ss)) : v.oneCell' = true := by
  obtain ⟨A, c, rfl⟩ := h.slice
  rfl

theorem ret_aggU {T n E g : Nat} (hA : aggOf Try.prog T = some true) {vs : List Value} (hn : vs.length = n) (hs : szOf Try.prog T = some n) {w : World} {cs : List Value} (h : Blk w g E cs) (hl : cs.length = n) (h1 : ∀ v ∈ vs, v.oneCell' = true)
    {K : Value → World → Prop} (k : ∀ w', Upd w w' (· = g) → w'.heap.size = w.heap.size → K (.agg vs.toArray) w') :
    mN Try.prog (uS (Instr.storeAt T (.pointer (some ⟨g, 0, none⟩)) (.agg vs.toArray))) w fun _ w => mRes Try.prog (cellS T (.pointer (some ⟨g, 0, none⟩))) w fun r0 => K r0 w := by
  subst hn
  refine mN_storeN hs h (by omega) h1 fun w2 h2 u2 s2 => ?_
  rw [splice_all _ _ (by omega)] at h2
  refine mRes.mk (.agg vs.toArray) ?_ (k w2 u2 s2)
  have := rdV_N (P := Try.prog) (w := w2) (T := T) (n := vs.length) hA hs h2 (o := 0) (by omega)
  rw [List.drop_zero, List.take_of_length_le (Nat.le_refl _)] at this
  exact this

/-- rectoref29.Of -/
theorem of_c {b : List UInt8} (hl : b.length ≤ 1000000000) (k0 : (parseL b).2 ≠ [] → ∀ w', Ext w w' → K (.agg #[.slice none 0 0, .bool false]) w')
    (k1 : (parseL b).2 = [] → ∀ v w', Row w' 9 1 v (parseL b).1.length (encT (parseL b).1) → (∀ k, Fp v k → w.heap.size ≤ k) → Ext w w' → K (.agg #[v, .bool true]) w') : mCall Try.prog 97 #[.string (ofL b)] w K := by
  refine ⟨ok97 ?_⟩
  unfold sh97
  refine mN_new (zero163 w) fun w1 h1 u1 s1 => ?_
  refine mN_v (build163t w1) ?_
  refine mN_new (zero163 w1) fun w2 h2 u2 s2 => ?_
  refine mN_storeN (vs := [.slice none 0 0, .bool true]) (by kernel_rfl) h2 (by simp) (by intro v hv; simp at hv; rcases hv with rfl | rfl <;> rfl) fun w3 h3 u3 s3 => ?_
  rw [splice_all _ _ (by simp)] at h3
  have u13 : Ext w1 w3 := u2.trans u3 (fun _ _ x => x) fun i hi e => by omega
  have h1 := h1.keep u13 id
  have a3 : Ext w w3 := u1.ext u13
  refine mLoop1.mk (fun x wr => ∃ (pre : List (List UInt8)) (r : List UInt8) (v : Value), x = .string (ofL r) ∧ Blk wr w.heap.size 163 [.slice none 0 0, .bool false] ∧ Blk wr w1.heap.size 163 [v, .bool true] ∧ Row wr 9 1 v pre.length (encT pre) ∧
      (∀ k, Fp v k → w3.heap.size ≤ k) ∧ Ext w wr ∧ w3.heap.size ≤ wr.heap.size ∧ parseL b = (pre ++ (parseL r).1, (parseL r).2) ∧ pre.length + r.length ≤ b.length) (fun x _ => match x with
    | .string s => s.size
    | _ => 0) ?_ ?_
  · exact ⟨[], b, _, rfl, h1, h3, Row.nil _ _ _, fun k hk => (by cases hk), a3, Nat.le_refl _, by simp, by simp⟩
  rintro x wr ⟨pre, r, v, rfl, g1, g2, hr, hv, ur, hsz, hp, hln⟩
  have hvo := row_one hr
  try simp only [push_cast]
  refine mIf_neS (fun hne => ?_) fun he => ?_
  rotate_left
  · obtain rfl : r = [] := by
      have := congrArg ByteArray.size he
      exact List.eq_nil_of_length_eq_zero this
    rw [parseL_none takeT_nil, List.append_nil] at hp
    have hl2 := r_loadN (P := Try.prog) wr (T := 163) (n := 2) (by kernel_rfl) (by kernel_rfl) g2 (o := 0) (by simp)
    refine mN_v hl2 ?_
    rw [hp] at k1
    refine ret_aggU (vs := [v, .bool true]) (by kernel_rfl) (n := 2) rfl (by kernel_rfl) g1 rfl (by intro u hu; simp at hu; rcases hu with rfl | rfl <;> first | rfl | exact hvo) fun w5 u5 s5 => ?_
    refine k1 rfl v w5 (hr.keep u5 fun k hk e => by have := hv k hk; have := g1.lt; omega) (fun k hk => by have := hv k hk; have := a3.size; omega) (ur.trans u5 (fun _ _ x => x) fun i hi e => by omega)
  · refine rtaket_c (by omega) fun w4 u4 => ?_
    have a4 := ur.ext u4
    refine mN_new (zero195 w4) fun w5 h5 u5 s5 => ?_
    unfold rtakeTV
    cases ht : takeT r with
    | none =>
      rw [parseL_none ht] at hp
      have hne' : (parseL b).2 ≠ [] := fun e => by
        rw [hp] at e
        obtain rfl : r = [] := e
        exact hne rfl
      refine mN_storeN (vs := [.int .i64 0, .string ⟨#[]⟩, .slice none 0 0, .string ⟨#[]⟩, .int .i64 4]) (by kernel_rfl) h5 (by simp) (by intro v hv; simp at hv; rcases hv with rfl | rfl | rfl | rfl | rfl <;> rfl) fun w6 h6 u6 s6 => ?_
      rw [splice_all _ _ (by simp)] at h6
      have a6 : Ext w w6 := (a4.ext u5).trans u6 (fun _ _ x => x) fun i hi e => by have := a4.size; omega
      try simp only [push_cast]
      refine mN_v (r_loadB _ (by kernel_rfl) h6 rfl) ?_
      try simp only [push_cast]
      refine mIf_neI (fun _ => ?_) fun h => absurd h (by decide)
      refine mN_v (build163 w6) ?_
      have g1' := ((g1.keep u4 id).keep u5 id).keep u6 fun e => by have := (g1.keep u4 id).lt; omega
      refine ret_agg (vs := [.slice none 0 0, .bool false]) (by kernel_rfl) (n := 2) rfl (by kernel_rfl) g1' rfl (by intro u hu; simp at hu; rcases hu with rfl | rfl <;> rfl) a6 (Nat.le_refl _) fun w7 u7 => k0 hne' w7 u7
    | some pr =>
      obtain ⟨s, t⟩ := pr
      have hlt := takeT_len ht
      rw [parseL_some ht] at hp
      refine mN_storeN (vs := [.int .i64 0, .string (ofL s), .slice none 0 0, .string (ofL t), .int .i64 0]) (by kernel_rfl) h5 (by simp) (by intro v hv; simp at hv; rcases hv with rfl | rfl | rfl | rfl | rfl <;> rfl) fun w6 h6 u6 s6 => ?_
      rw [splice_all _ _ (by simp)] at h6
      have a6 : Ext w w6 := (a4.ext u5).trans u6 (fun _ _ x => x) fun i hi e => by have := a4.size; omega
      have hs4 := u4.size
      have hs5 := u5.size
      have hs6 := u6.size
      have hke : ∀ {g T cs}, Blk wr g T cs → Blk w6 g T cs := fun hb => ((hb.keep u4 id).keep u5 id).keep u6 fun e => by have := (hb.keep u4 id).lt; omega
      have hr6 := ((hr.keep u4 fun _ _ => id).keep u5 fun _ _ => id).keep u6 fun k hk e => by have := (hr.keep u4 fun _ _ => id).lt hk; omega
      try simp only [push_cast]
      refine mN_v (r_loadB _ (by kernel_rfl) h6 rfl) ?_
      try simp only [push_cast]
      refine mIf_neI (fun h => absurd rfl h) fun _ => ?_
      refine mN_v (r_loadB _ (by kernel_rfl) (hke g2) rfl) ?_
      try simp only [push_cast]
      refine mN_v (r_loadB _ (by kernel_rfl) h6 rfl) ?_
      refine mN_new (str_new _ _) fun w7 h7 u7 s7 => ?_
      have hr7 := hr6.keep u7 fun _ _ => id
      refine mN_append (z := .string ⟨#[]⟩) (sz := 1) (bytes := 16) Try.underlying67 (by kernel_rfl) (by kernel_rfl) (by omega) hr7 (m := 1) (ys := [.string (ofL s)]) (by simp) (fun j u hu => h7.cell (by simpa using hu)) (fun u hu => by rw [List.mem_singleton] at hu; subst hu; rfl)
        (by omega) (by omega) fun v8 w8 hr8 u8 y8 => ?_
      have e1 : pre.length + 1 = (pre ++ [s]).length := by simp
      have e2 : encT pre ++ [.string (ofL s)] = encT (pre ++ [s]) := by simp [encT]
      rw [e1, e2] at hr8
      have hs7 := u7.size
      have hs8 := u8.size
      have hlt1 := g1.lt
      have hlt2 := g2.lt
      have hlw1 : w1.heap.size ≤ w3.heap.size := u13.size
      have hlw : w.heap.size ≤ w1.heap.size := u1.size
      have hw1 : w1.heap.size < w3.heap.size := h3.lt
      have g28 := ((hke g2).keep u7 id).keep u8 fun hf => by have := hv _ hf; omega
      have g18 := ((hke g1).keep u7 id).keep u8 fun hf => by have := hv _ hf; omega
      have h68 := (h6.keep u7 id).keep u8 fun hf => by have := hr6.lt hf; have := (hr.lt hf); omega
      try simp only [push_cast]
      refine mN_store1 (by kernel_rfl) g28 (by simp) (row_one hr8) fun w9 h9 u9 s9 => ?_
      have h69 := h68.keep u9 (by omega)
      refine mN_v (r_loadB _ (by kernel_rfl) h69 rfl) ?_
      have hv8 : ∀ k, Fp v8 k → w3.heap.size ≤ k := fun k hk => (y8 k hk).elim (hv k) fun h => by omega
      have a8 : Ext w w8 := (a6.ext u7).trans u8 (fun _ _ x => x) fun i hi hf => by have := hv _ hf; omega
      refine ⟨⟨pre ++ [s], t, v8, rfl, g18.keep u9 (by omega), h9, hr8.keep u9 fun k hk e => by have := hv8 k hk; omega, hv8, a8.trans u9 (fun _ _ x => x) fun i hi e => by omega, by omega, by rw [hp]; simp, by simp; omega⟩, ?_⟩
      show (ofL t).size < (ofL r).size
      exact hlt
end
end Go.Proofs.Ythgopkppmppdoaa

/-
  The reference's logs: Open, Add, Drop, Write.
-/
set_option linter.unusedVariables false
set_option linter.unusedSimpArgs false
set_option maxRecDepth 20000
namespace Go.Proofs.Ythgopkppmppdoaa
open Go Go.Proofs Go.Vc
open Go.RowKit (Below intOf)

theorem openL_some {D : DM} {s b m : Int} {L : LM} {e : Int} (h : D.openL s b m = (e, some L)) :
    ¬ (s < 0 ∨ b < 1 ∨ D.blocks.length < b ∨ D.blocks.length - b < s ∨ m < 0 ∨ 256 * b < m) ∧ ¬ (0 < m ∧ D.down = true) ∧ (parseL L.b).2 = [] ∧ L.start = s.toNat ∧ L.blocks = b.toNat ∧ L.sealed = m.toNat ∧ L.b = (D.text s.toNat (nblk m.toNat)).take m.toNat ∧ e = 0 := by
  unfold DM.openL at h
  split at h
  · cases h
  rename_i h1
  split at h
  · cases h
  rename_i h2
  split at h
  · rename_i h3
    injection h with h4 h5
    injection h5 with h5
    subst h5
    exact ⟨h1, h2, h3, rfl, rfl, rfl, rfl, h4.symm⟩
  · cases h

/-- The reference's log of a log. -/
def LM.ref (L : LM) : RM := ⟨L.start, L.blocks, (parseL L.b).1, (parseL L.b).1.length⟩

/-- A log and the reference's. -/
structure Same (L : LM) (R : RM) : Prop where
  start : L.start = R.start
  blocks : L.blocks = R.blocks
  b : L.b = recsL R.recs
  sd : L.sealed = (recsL (R.recs.take R.sealed)).length
  short : ∀ s ∈ R.recs, s.length ≤ 65536
  sle : R.sealed ≤ R.recs.length
  ok : L.Ok

theorem recsL_split (l : List (List UInt8)) (n : Nat) : recsL l = recsL (l.take n) ++ recsL (l.drop n) := by rw [← recsL_append, List.take_append_drop]
theorem recsL_len (l : List (List UInt8)) : l.length ≤ (recsL l).length := by
  induction l with
  | nil => exact Nat.le_refl _
  | cons s l ih =>
    rw [recsL_cons, List.length_append, textL_len]
    simp
    omega

def RM.add (R : RM) (s : List UInt8) : Int × RM :=
  if 65536 < s.length then (2, R) else if 256 * R.blocks < (recsL R.recs).length + (textL s).length then (5, R) else (0, { R with recs := R.recs ++ [s] })
theorem Same.add {L : LM} {R : RM} (h : Same L R) (s : List UInt8) : (R.add s).1 = (L.add s).1 ∧ Same (L.add s).2 (R.add s).2 := by
  have ok := LM.add_ok (s := s) h.ok
  unfold LM.add at *
  unfold RM.add
  rw [← h.b, ← h.blocks]
  split
  · exact ⟨rfl, h⟩
  rename_i h1
  rw [if_neg h1] at ok
  split
  · exact ⟨rfl, h⟩
  rename_i h2
  rw [if_neg h2] at ok
  refine ⟨rfl, ⟨h.start, rfl, ?_, ?_, ?_, ?_, ok⟩⟩
  · show L.b ++ textL s = recsL (R.recs ++ [s])
    rw [recsL_append, recsL_one, h.b]
  · show L.sealed = (recsL ((R.recs ++ [s]).take R.sealed)).length
    rw [List.take_append_of_le_length h.sle]
    exact h.sd
  · intro t ht
    rcases List.mem_append.1 ht with ht | ht
    · exact h.short t ht
    · rw [List.mem_singleton] at ht
      subst ht
      omega
  · show R.sealed ≤ (R.recs ++ [s]).length
    have := h.sle
    simp
    omega
theorem Same.seal {L : LM} {R : RM} (h : Same L R) : Same { L with sealed := L.b.length } { R with sealed := R.recs.length } := by
  refine ⟨h.start, h.blocks, h.b, ?_, h.short, Nat.le_refl _, ⟨h.ok.s, h.ok.n, h.ok.len, Nat.le_refl _⟩⟩
  show L.b.length = (recsL (R.recs.take R.recs.length)).length
  rw [List.take_of_length_le (Nat.le_refl _), h.b]
theorem Same.drop {L : LM} {R : RM} (h : Same L R) : Same { L with b := L.b.take L.sealed } { R with recs := R.recs.take R.sealed } := by
  have hb : L.b.take L.sealed = recsL (R.recs.take R.sealed) := by
    rw [h.b, h.sd]
    conv => lhs; rw [recsL_split R.recs R.sealed]
    rw [List.take_append_of_le_length (Nat.le_refl _), List.take_of_length_le (Nat.le_refl _)]
  have hl := congrArg List.length hb
  have h2 := h.ok.sl
  have h3 := h.ok.len
  rw [List.length_take] at hl
  refine ⟨h.start, h.blocks, hb, ?_, fun s hs => h.short s (List.mem_of_mem_take hs), ?_, ⟨h.ok.s, h.ok.n, ?_, ?_⟩⟩
  · show L.sealed = (recsL ((R.recs.take R.sealed).take R.sealed)).length
    rw [List.take_take, Nat.min_self]
    exact h.sd
  · show R.sealed ≤ (R.recs.take R.sealed).length
    rw [List.length_take]
    have := h.sle
    omega
  · show (L.b.take L.sealed).length ≤ 256 * L.blocks
    rw [List.length_take]
    omega
  · show L.sealed ≤ (L.b.take L.sealed).length
    rw [List.length_take]
    omega
theorem Same.open_ {D : DM} {s b m : Int} {L : LM} (h : D.openL s b m = (0, some L)) (ok : L.Ok) (hl : L.b.length = L.sealed) : Same L L.ref := by
  obtain ⟨_, _, h3, _⟩ := openL_some h
  have hw := parseL_whole h3
  refine ⟨rfl, rfl, hw, ?_, (parseL_spec L.b).2, Nat.le_refl _, ok⟩
  show L.sealed = (recsL ((parseL L.b).1.take (parseL L.b).1.length)).length
  rw [List.take_of_length_le (Nat.le_refl _), ← hw, hl]

section
variable {w : World} {K : Value → World → Prop} {p q g N : Nat} {fp fq fr : Nat → Prop} {D : DM} {L : LM} {R : RM}

theorem isref_read_in (h : IsRef w q fq N D) {i : Int} (h0 : 0 ≤ i) (h1 : i < D.blocks.length) (hd : D.down = false) : (D.read i).2 = 0 ∧ (D.read i).1.size = 256 := by
  obtain ⟨⟨vb, vw, vk, h⟩, _⟩ := h
  unfold DM.read
  rw [if_neg (by simp; omega), if_neg (by simp [hd])]
  refine ⟨rfl, ?_⟩
  obtain ⟨b, hb⟩ : ∃ b, D.blocks[i.toNat]? = some b := ⟨_, List.getElem?_eq_getElem (by omega)⟩
  have : Sec (lastW i (D.blocks.getD i.toNat []) D.waits) := lastW_sec (by
    rw [List.getD_eq_getElem?_getD, hb]
    exact h.b4 b (List.mem_of_getElem? hb)) fun x hx => (h.w4 x hx).1
  exact joined_size this
theorem rtext_len (h : IsRef w q fq N D) (hd : D.down = false) {s : Nat} : ∀ n, s + n ≤ D.blocks.length → (D.text s n).length = 256 * n
  | 0, _ => rfl
  | n + 1, hn => by
    show (D.text s n ++ _).length = _
    have := (isref_read_in (i := (s : Int) + n) h (by omega) (by omega) hd).2
    have e : (D.read ((s : Int) + n)).1.data.toList.length = 256 := this
    rw [List.length_append, rtext_len h hd n (by omega), e]
    omega
theorem isref_bn (h : IsRef w q fq N D) : D.blocks.length ≤ 128 := by
  obtain ⟨⟨vb, vw, vk, h⟩, _⟩ := h
  exact h.bn
theorem isref_cells (h : IsRef w q fq N D) : ∃ A c vw vk, Blk w q 106 [.slice A D.blocks.length c, vw, .bool D.down, .bool D.armed, .int .i64 D.after, .bool D.cut, vk] := by
  obtain ⟨⟨vb, vw, vk, h⟩, _⟩ := h
  obtain ⟨A, c, rfl⟩ := h.blocks.slice
  exact ⟨A, c, vw, vk, h.cells⟩

theorem zero62 (w : World) : (Instr.alloc 62 true (.tuple #[])).run Try.prog w = .ok (.pointer (some ⟨w.heap.size, 0, none⟩)) (w.alloc (.cells #[.pointer none, .int .i64 0] 62 (0, 0))) := by kernel_rfl
theorem build62e (e : Int) (w : World) : (Instr.build 62 #[(1, .int .i64 e)]).run Try.prog w = .ok (.agg #[.pointer none, .int .i64 e]) w := by kernel_rfl
theorem build62p (g : Nat) (w : World) : (Instr.build 62 #[(0, .pointer (some ⟨g, 0, none⟩))]).run Try.prog w = .ok (.agg #[.pointer (some ⟨g, 0, none⟩), .int .i64 0]) w := by kernel_rfl
theorem box65 (a b c : Int) (w : World) : (Instr.box 65 (.agg #[.int .i64 a, .int .i64 b, .int .i64 c])).run Try.prog w = .ok (.pointer (some ⟨w.heap.size, 0, none⟩)) (w.alloc (.cells #[.int .i64 a, .int .i64 b, .int .i64 c] 65 (0, 0))) := by kernel_rfl
theorem build70 (a b : Int) (A : Option Addr) (n c : Nat) (m : Int) (w : World) : (Instr.build 70 #[(0, .int .i64 a), (1, .int .i64 b), (2, .slice A n c), (3, .int .i64 m)]).run Try.prog w = .ok (.agg #[.int .i64 a, .int .i64 b, .slice A n c, .int .i64 m]) w := by kernel_rfl
theorem box70 (a b : Int) (A : Option Addr) (n c : Nat) (m : Int) (w : World) : (Instr.box 70 (.agg #[.int .i64 a, .int .i64 b, .slice A n c, .int .i64 m])).run Try.prog w = .ok (.pointer (some ⟨w.heap.size, 0, none⟩)) (w.alloc (.cells #[.int .i64 a, .int .i64 b, .slice A n c, .int .i64 m] 70 (0, 0))) := by kernel_rfl

theorem r62_fail {g : Nat} {cs : List Value} (e : Int) (h : Blk w g 62 cs) (hl : cs.length = 2) {w0 : World} (u : Ext w0 w) (hg : w0.heap.size ≤ g) (k : ∀ w', Ext w0 w' → K (.agg #[.pointer none, .int .i64 e]) w') :
    mN Try.prog (vS (Instr.build 62 #[(1, .int .i64 e)])) w fun t w => mN Try.prog (uS (Instr.storeAt 62 (.pointer (some ⟨g, 0, none⟩)) t)) w fun _ w => mRes Try.prog (cellS 62 (.pointer (some ⟨g, 0, none⟩))) w fun r0 => K r0 w := by
  refine mN_v (build62e e w) ?_
  exact ret_agg (vs := [.pointer none, .int .i64 e]) (by kernel_rfl) (n := 2) rfl (by kernel_rfl) h hl (by intro u hu; simp at hu; rcases hu with rfl | rfl <;> rfl) u hg k

/-- rectoref29.Open -/
theorem ropen_c (h : IsRef w q fq N D) (start blocks sealed : Int) (k0 : ∀ e, D.openL start blocks sealed = (e, none) → e ≠ 0 → ∀ w', Ext w w' → K (.agg #[.pointer none, .int .i64 e]) w')
    (k1 : ∀ L, D.openL start blocks sealed = (0, some L) → L.Ok → L.b.length = L.sealed → ∀ w' g, IsRL w' g (fun k => w.heap.size ≤ k ∧ k < w'.heap.size) L.ref → Ext w w' → K (.agg #[.pointer (some ⟨g, 0, none⟩), .int .i64 0]) w') :
    mCall Try.prog 39 #[dptr q, .agg #[.int .i64 start, .int .i64 blocks, .int .i64 sealed]] w K := by
  have hbn := isref_bn h
  refine ⟨ok39 ?_⟩
  unfold sh39
  refine mN_new (box65 _ _ _ w) fun w1 h1 u1 s1 => ?_
  refine mN_new (zero62 w1) fun w2 h2 u2 s2 => ?_
  unfold mDrew
  have u3 : Ext w2 w2.drew := Upd.drew w2 _
  have g1 := (h1.keep u2 id).keep u3 id
  have g2 := h2.keep u3 id
  have a3 : Ext w w2.drew := (u1.ext u2).ext u3
  generalize w2.drew = w3 at u3 g1 g2 a3
  have hsz1 : w.heap.size ≤ w1.heap.size := u1.size
  have h3 := h.ext a3
  obtain ⟨A, c, vw, vk, hc⟩ := isref_cells h3
  have hbad : (start < 0 ∨ blocks < 1 ∨ D.blocks.length < blocks ∨ D.blocks.length - blocks < start ∨ sealed < 0 ∨ 256 * blocks < sealed) →
      mN Try.prog (vS (Instr.build 62 #[(1, .int .i64 1)])) w3 fun t w => mN Try.prog (uS (Instr.storeAt 62 (.pointer (some ⟨w1.heap.size, 0, none⟩)) t)) w fun _ w => mRes Try.prog (cellS 62 (.pointer (some ⟨w1.heap.size, 0, none⟩))) w fun r0 => K r0 w := fun hb =>
    r62_fail 1 g2 rfl a3 hsz1 (k0 1 (if_pos hb) (by decide))
  unfold dptr
  try simp only [push_cast]
  refine mR_v (r_loadB _ (by kernel_rfl) g1 rfl) ?_
  try simp only [push_cast]
  refine mIf_dec (fun h1 => hbad (by omega)) fun n1 => ?_
  refine mR_v (r_loadB _ (by kernel_rfl) g1 rfl) ?_
  try simp only [push_cast]
  refine mIf_dec (fun h1 => hbad (by omega)) fun n2 => ?_
  refine mR_v (r_loadB _ (by kernel_rfl) g1 rfl) ?_
  try simp only [push_cast]
  refine mR_v (r_loadB _ (by kernel_rfl) hc rfl) ?_
  try simp only [push_cast]
  refine mIf_dec (fun h1 => hbad (by omega)) fun n3 => ?_
  refine mR_v (r_loadB _ (by kernel_rfl) g1 rfl) ?_
  try simp only [push_cast]
  refine mR_v (r_loadB _ (by kernel_rfl) hc rfl) ?_
  try simp only [push_cast]
  refine mR_v (r_loadB _ (by kernel_rfl) g1 rfl) ?_
  try simp only [push_cast]
  rw [i64w _ (by omega) (by omega)]
  refine mIf_dec (fun h1 => hbad (by omega)) fun n4 => ?_
  refine mR_v (r_loadB _ (by kernel_rfl) g1 rfl) ?_
  try simp only [push_cast]
  refine mIf_dec (fun h1 => hbad (by omega)) fun n5 => ?_
  refine mR_v (r_loadB _ (by kernel_rfl) g1 rfl) ?_
  try simp only [push_cast]
  refine mR_v (r_loadB _ (by kernel_rfl) g1 rfl) ?_
  try simp only [push_cast]
  rw [i64w _ (by omega) (by omega)]
  refine mIf_dec (fun h1 => hbad (by omega)) fun n6 => ?_
  clear hbad
  obtain ⟨s, rfl⟩ : ∃ n : Nat, start = n := ⟨start.toNat, by omega⟩
  obtain ⟨bl, rfl⟩ : ∃ n : Nat, blocks = n := ⟨blocks.toNat, by omega⟩
  obtain ⟨m, rfl⟩ : ∃ n : Nat, sealed = n := ⟨sealed.toNat, by omega⟩
  unfold DM.openL at k0 k1
  rw [if_neg (by omega)] at k0 k1
  rw [Int.toNat_natCast, Int.toNat_natCast, Int.toNat_natCast] at k0 k1
  refine mN_v (r_loadB _ (by kernel_rfl) g1 rfl) ?_
  have hnb : nblk m ≤ bl := by unfold nblk; omega
  refine mLoop2.mk (fun x y wr => ∃ j : Nat, x = .string (ofL (D.text s j)) ∧ y = .int .i64 ((s : Int) + j) ∧ j ≤ nblk m ∧ Ext w3 wr ∧ (0 < j → D.down = false)) (fun _ y _ => s + nblk m - (intOf y).toNat) ?_ ?_
  · exact ⟨0, rfl, congrArg (Value.int .i64) (by omega), Nat.zero_le _, Upd.refl _ _, fun h => absurd h (by decide)⟩
  rintro x y wr ⟨j, rfl, rfl, hj, ur, hdn⟩
  have g1' := g1.keep ur id
  have g2' := g2.keep ur id
  have a4 : Ext w wr := a3.ext ur
  have htl : (D.text s j).length = 256 * j := by
    rcases Nat.eq_zero_or_pos j with rfl | h0
    · rfl
    · exact rtext_len h (hdn h0) j (by omega)
  try simp only [push_cast, ofL_size]
  refine mN_v (r_loadB _ (by kernel_rfl) g1' rfl) ?_
  try simp only [push_cast]
  rw [htl]
  refine mIf_dec (fun hlt => ?_) fun hlt => ?_
  · have hjn : j < nblk m := by unfold nblk; omega
    refine isref_read (h3.ext ur) _ fun w5 u5 => ?_
    try simp only [push_cast]
    cases hd : D.down with
    | true =>
      rw [read_down (by omega) (by omega) hd]
      refine mIf_neI (fun _ => ?_) fun h => absurd h (by decide)
      exact r62_fail 271 (g2'.keep u5 id) rfl (a4.ext u5) hsz1 (k0 271 (by rw [if_pos ⟨by omega, hd⟩]) (by decide))
    | false =>
      obtain ⟨e0, e1⟩ := isref_read_in (i := (s : Int) + j) h (by omega) (by omega) hd
      rw [e0]
      refine mIf_neI (fun h => absurd rfl h) fun _ => ?_
      obtain ⟨x, hx⟩ := ofL_of (D.read ((s : Int) + j)).1
      have hxl : x.length = 256 := by rw [hx] at e1; exact e1
      rw [hx]
      refine mN_v (r_addS _ _ _ _ (by rw [ofL_size, ofL_size]; omega)) ?_
      rw [ofL_append]
      try simp only [push_cast]
      rw [i64w _ (by omega) (by omega)]
      refine ⟨⟨j + 1, ?_, congrArg (Value.int .i64) (by omega), hjn, ur.ext u5, fun _ => by first | trivial | exact hd⟩, ?_⟩
      · show _ = Value.string (ofL (D.text s j ++ (D.read ((s : Int) + j)).1.data.toList))
        rw [hx]
        rfl
      · simp only [intOf]
        omega
  · have hjn : j = nblk m := by unfold nblk at *; omega
    subst hjn
    rw [if_neg (by
      rintro ⟨h7, h8⟩
      rw [hdn (by unfold nblk; omega)] at h8
      cases h8)] at k0 k1
    refine mN_v (r_loadB _ (by kernel_rfl) g1' rfl) ?_
    refine mN_v (r_sliceSh wr Try.underlying9 _ _ (by omega) (by rw [ofL_size]; omega)) ?_
    rw [ofL_extract, List.drop_zero, Int.toNat_natCast, Nat.sub_zero]
    have htm : ((D.text s (nblk m)).take m).length = m := by rw [List.length_take]; omega
    generalize (D.text s (nblk m)).take m = t at htm k0 k1 ⊢
    refine of_c (by omega) (fun hne w5 u5 => ?_) fun he v w5 hv fv u5 => ?_
    · refine mN_new (zero163 w5) fun w6 h6 u6 s6 => ?_
      refine mN_storeN (vs := [.slice none 0 0, .bool false]) (by kernel_rfl) h6 (by simp) (by intro v hv; simp at hv; rcases hv with rfl | rfl <;> rfl) fun w7 h7 u7 s7 => ?_
      rw [splice_all _ _ (by simp)] at h7
      have a7 : Ext wr w7 := (u5.ext u6).trans u7 (fun _ _ x => x) fun i hi e => by have := u5.size; omega
      try simp only [push_cast]
      refine mN_v (r_loadB _ (by kernel_rfl) h7 rfl) ?_
      try simp only [push_cast, Bool.not_false]
      rw [if_neg hne] at k0
      exact r62_fail 290 (g2'.keep a7 id) rfl (a4.ext a7) hsz1 (k0 290 rfl (by decide))
    · refine mN_new (zero163 w5) fun w6 h6 u6 s6 => ?_
      refine mN_storeN (vs := [v, .bool true]) (by kernel_rfl) h6 (by simp) (by intro u hu; simp at hu; rcases hu with rfl | rfl <;> first | rfl | exact row_one hv) fun w7 h7 u7 s7 => ?_
      rw [splice_all _ _ (by simp)] at h7
      have hs5 := u5.size
      have a7 : Ext wr w7 := (u5.ext u6).trans u7 (fun _ _ x => x) fun i hi e => by omega
      have g17 := g1'.keep a7 id
      have hv7 := (hv.keep u6 fun _ _ => id).keep u7 fun k hk e => by have := hv.lt hk; omega
      obtain ⟨A9, c9, rfl⟩ := hv7.slice
      try simp only [push_cast]
      refine mN_v (r_loadB _ (by kernel_rfl) h7 rfl) ?_
      try simp only [push_cast, Bool.not_true]
      refine mN_v (r_loadB _ (by kernel_rfl) g17 rfl) ?_
      try simp only [push_cast]
      refine mN_v (r_loadB _ (by kernel_rfl) g17 rfl) ?_
      try simp only [push_cast]
      refine mN_v (r_loadB _ (by kernel_rfl) h7 rfl) ?_
      try simp only [push_cast]
      refine mN_v (r_loadB _ (by kernel_rfl) h7 rfl) ?_
      try simp only [push_cast]
      refine mN_v (build70 _ _ _ _ _ _ _) ?_
      refine mN_new (box70 _ _ _ _ _ _ _) fun w8 h8 u8 s8 => ?_
      refine mN_v (build62p _ _) ?_
      have a8 : Ext w w8 := (a4.ext a7).ext u8
      have hs7 := a7.size
      have hs4 := a4.size
      have g28 := (g2'.keep a7 id).keep u8 id
      have hg28 := g2'.lt
      refine ret_aggU (vs := [.pointer (some ⟨w7.heap.size, 0, none⟩), .int .i64 0]) (by kernel_rfl) (n := 2) rfl (by kernel_rfl) g28 rfl (by intro u hu; simp at hu; rcases hu with rfl | rfl <;> rfl) fun w9 u9 s9 => ?_
      rw [if_pos he] at k1
      refine k1 ⟨s, bl, t, m⟩ rfl ⟨by show s ≤ 128; omega, by show bl ≤ 128; omega, by show t.length ≤ 256 * bl; omega, by show m ≤ t.length; omega⟩ htm w9 w7.heap.size ⟨_, h8.keep u9 (by omega), (hv7.keep u8 fun _ _ => id).keep u9 fun k hk e => by have := fv k hk; omega, ⟨by omega, by omega⟩, fun k hk => ⟨by have := fv k hk; omega, by have := hv7.lt hk; omega⟩, fun k hk => hk.2⟩
        (a8.trans u9 (fun _ _ x => x) fun i hi e => by omega)
end
end Go.Proofs.Ythgopkppmppdoaa

/-
  The reference's logs: Add, Drop, Write.
-/
set_option linter.unusedVariables false
set_option linter.unusedSimpArgs false
set_option maxRecDepth 20000
namespace Go.Proofs.Ythgopkppmppdoaa
open Go Go.Proofs Go.Vc
open Go.RowKit (Below intOf)

section
variable {w : World} {K : Value → World → Prop} {p q g N : Nat} {fp fq fr : Nat → Prop} {D : DM} {L : LM} {R : RM}

/-- What a function that changes the reference's log leaves. -/
def RLAfter (w : World) (g : Nat) (fp : Nat → Prop) (R' : RM) (w' : World) : Prop := ∃ fp', IsRL w' g fp' R' ∧ Upd w w' fp ∧ ∀ k, fp' k → fp k ∨ w.heap.size ≤ k

theorem rl_ne {v : Value} {cs : List Value} (h : Row w 9 1 v R.recs.length (encT R.recs)) (hb : Blk w g 70 cs) : ¬ Fp v g := row_ne h hb (by decide)

theorem radd_c {s : List UInt8} (hs : s.length ≤ 9223372036854775807) (h : IsRL w g fp R) (hl : (recsL R.recs).length ≤ 1000000) (hb : R.blocks ≤ 128) (k : ∀ w', RLAfter w g fp (R.add s).2 w' → K (.int .i64 (R.add s).1) w') :
    mCall Try.prog 105 #[.pointer (some ⟨g, 0, none⟩), .string (ofL s)] w K := by
  have hrn := recsL_len R.recs
  unfold RM.add at k
  refine ⟨ok105 ?_⟩
  unfold sh105
  refine rtext_c hs (fun hlong => ?_) fun hlong w1 u1 => ?_
  · rw [if_pos hlong] at k
    try simp only [push_cast]
    refine mIf_neI (fun _ => ?_) fun h => absurd h (by decide)
    exact k w ⟨fp, h, Upd.refl _ _, fun _ x => .inl x⟩
  rw [if_neg (by omega)] at k
  try simp only [push_cast, bne_self_eq_false, ofL_size]
  unfold mDrew
  have u2 := Upd.drew w1 fun _ => False
  have a2 : Ext w w1.drew := u1.ext u2
  have h2 := h.keep a2 fun _ _ => id
  generalize w1.drew = w2 at u2 a2 h2
  obtain ⟨v, b1, b2, b3, b4, b5⟩ := h2
  have ht : (textL s).length ≤ 70000 := by
    rw [textL_len]
    have := digL_len6 (n := s.length) (by omega)
    omega
  try simp only [push_cast]
  refine mR_v (r_loadB _ (by kernel_rfl) b1 rfl) ?_
  try simp only [push_cast, ofL_size]
  refine mR_v (r_loadB _ (by kernel_rfl) b1 rfl) ?_
  try simp only [push_cast]
  refine rplainA_c (Strs.of_row b2 (fp := fp) b4) (by omega) fun w3 u3 => ?_
  have b13 := b1.keep u3 id
  have b23 := b2.keep u3 fun _ _ => id
  have a3 := a2.ext u3
  refine ⟨rdN_v (r_loadB _ (by kernel_rfl) b13 rfl), ?_⟩
  try simp only [push_cast, ofL_size]
  rw [i64w (256 * (R.blocks : Int)) (by omega) (by omega), i64w _ (by omega) (by omega)]
  refine mIf_dec (fun hlt => ?_) fun hlt => ?_
  · rw [if_pos (by omega)] at k
    exact k w3 ⟨fp, h.keep a3 fun _ _ => id, a3.mono fun _ _ => False.elim, fun _ x => .inl x⟩
  rw [if_neg (by omega)] at k
  refine mN_v (r_loadB _ (by kernel_rfl) b13 rfl) ?_
  refine mN_new (str_new _ _) fun w4 h4 u4 s4 => ?_
  have b14 := b13.keep u4 id
  have b24 := b23.keep u4 fun _ _ => id
  have hne := rl_ne b24 b14
  refine mN_append (z := .string ⟨#[]⟩) (sz := 1) (bytes := 16) Try.underlying67 (by kernel_rfl) (by kernel_rfl) (by omega) b24 (m := 1) (ys := [.string (ofL s)]) (by simp) (fun j u hu => h4.cell (by simpa using hu)) (fun u hu => by rw [List.mem_singleton] at hu; subst hu; rfl)
    (by omega) (by omega) fun v5 w5 hr5 u5 y5 => ?_
  have e1 : R.recs.length + 1 = (R.recs ++ [s]).length := by simp
  have e2 : encT R.recs ++ [.string (ofL s)] = encT (R.recs ++ [s]) := by simp [encT]
  rw [e1, e2] at hr5
  try simp only [push_cast]
  have b15 := b14.keep u5 hne
  refine mN_store1 (by kernel_rfl) b15 (by simp [rlC]) (row_one hr5) fun w6 h6 u6 s6 => ?_
  have hs4 := u4.size
  have hs5 := u5.size
  have hs6 := u6.size
  have hs3 := a3.size
  have hfp : ∀ k, fp k → k < w.heap.size := fun k hk => h.lt hk
  have hne5 : ¬ Fp v5 g := row_ne hr5 b15 (by decide)
  refine k w6 ⟨fun k => fp k ∨ (w.heap.size ≤ k ∧ k < w6.heap.size), ⟨v5, h6, hr5.keep u6 fun k hk e => hne5 (e ▸ hk), .inl b3, fun k hk => ?_, fun k hk => ?_⟩, ?_, fun k hk => hk.imp id fun h => h.1⟩
  · rcases y5 k hk with h | h
    · exact .inl (b4 k h)
    · exact .inr ⟨by omega, by have := hr5.lt hk; omega⟩
  · rcases hk with hk | hk
    · have := hfp k hk
      omega
    · exact hk.2
  · exact ((a3.ext u4).trans u5 (F := fun _ => False) (G := Fp v) (H := fp) (fun _ _ x => x.elim) fun i hi hf => b4 i hf).trans u6 (fun _ _ x => x) fun i hi e => by rw [e]; exact b3

theorem append_nil67 (w : World) (K : Value → World → Prop) (k : K (.slice none 0 0) w) : mN Try.prog (builtin .append #[67, 67] 67 #[false, false] #[.slice none 0 0, .slice none 0 0]) w K := by
  refine mN_ok ?_ k
  kernel_rfl

theorem rdrop_c (h : IsRL w g fp R) (hs : R.sealed ≤ R.recs.length) (hl : R.recs.length ≤ 1000000) (k : ∀ w', RLAfter w g fp { R with recs := R.recs.take R.sealed } w' → K (.tuple #[]) w') : mCall Try.prog 107 #[.pointer (some ⟨g, 0, none⟩)] w K := by
  refine ⟨ok107 ?_⟩
  unfold sh107
  unfold mDrew
  have u1 := Upd.drew w fun _ => False
  have h1 := h.keep u1 fun _ _ => id
  generalize w.drew = w1 at u1 h1
  obtain ⟨v, b1, b2, b3, b4, b5⟩ := h1
  have hne := rl_ne b2 b1
  try simp only [push_cast]
  refine mR_v (r_loadB _ (by kernel_rfl) b1 rfl) ?_
  try simp only [push_cast]
  refine mR_v (r_loadB _ (by kernel_rfl) b1 rfl) ?_
  have hfp : ∀ k, fp k → k < w.heap.size := fun k hk => h.lt hk
  have hs1 := u1.size
  have key : ∀ (v' : Value) (w2 : World), Row w2 9 1 v' (R.recs.take R.sealed).length (encT (R.recs.take R.sealed)) → Ext w1 w2 → (∀ k, Fp v' k → w1.heap.size ≤ k) →
      rdN Try.prog (vS (Instr.loadAt 3 (.pointer (some ⟨g, 3, none⟩)))) (.int .i64 R.sealed) w2 ∧ rdN Try.prog (vS (Instr.loadAt 67 (.pointer (some ⟨g, 2, none⟩)))) v w2 ∧
      (mN Try.prog (uS (Instr.storeAt 67 (.pointer (some ⟨g, 2, none⟩)) v')) w2 fun _ w => K (.tuple #[]) w) := by
    intro v' w2 hr u2 y2
    have b12 := b1.keep u2 id
    refine ⟨rdN_v (r_loadB _ (by kernel_rfl) b12 rfl), rdN_v (r_loadB _ (by kernel_rfl) b12 rfl), ?_⟩
    refine mN_store1 (by kernel_rfl) b12 (by simp [rlC]) (row_one hr) fun w3 h3 u3 s3 => ?_
    have hs2 := u2.size
    have hlt := b1.lt
    refine k w3 ⟨fun k => fp k ∨ (w.heap.size ≤ k ∧ k < w3.heap.size), ⟨v', h3, hr.keep u3 fun k hk e => by have := y2 k hk; omega, .inl b3, fun k hk => .inr ⟨by have := y2 k hk; omega, by have := hr.lt hk; omega⟩, fun k hk => ?_⟩, ?_, fun k hk => hk.imp id fun h => h.1⟩
    · rcases hk with hk | hk
      · have := hfp k hk
        omega
      · exact hk.2
    · exact (u1.ext u2).trans u3 (fun _ _ x => x.elim) fun i hi e => by rw [e]; exact b3
  rcases b2.form with ⟨rfl, h0, _⟩ | ⟨gv, cap, cs, rfl, hb, hc1, hc2, hc3⟩
  · have hz : R.sealed = 0 := by omega
    have hsl : (∀ w, (Instr.sliceAt 67 (.slice none 0 0) none (some (.int .i64 R.sealed)) none).run Try.prog w = .ok (.slice none 0 0) w) := fun w => by
      rw [hz]
      have := r_sliceLh (P := Try.prog) w Try.underlying67 (by kernel_rfl) (sz := 1) none 0 0 0 (by decide) (by decide)
      exact this
    refine mP_v hsl ?_
    refine append_nil67 _ _ ?_
    try simp only [push_cast]
    have er : R.recs.take R.sealed = [] := by rw [hz]; rfl
    exact key _ w1 (by rw [er]; exact Row.nil _ _ _) (Upd.refl _ _) fun k hk => by cases hk
  · refine mP_v (fun w => r_sliceLh w Try.underlying67 (by kernel_rfl) (sz := 1) _ _ _ _ (by omega) (by omega)) ?_
    rw [Int.toNat_natCast]
    refine mN_append (z := .string ⟨#[]⟩) (sz := 1) (bytes := 16) Try.underlying67 (by kernel_rfl) (by kernel_rfl) (by omega) (Row.nil w1 9 1) (m := R.sealed) (ys := encT (R.recs.take R.sealed)) (by rw [encT_len, List.length_take]; omega) (fun j u hu => ?_) (fun u hu => ?_)
      (by omega) (by omega) fun v5 w5 hr5 u5 y5 => ?_
    · have hj := (List.getElem?_eq_some_iff.1 hu).1
      rw [encT_len, List.length_take] at hj
      refine hb.cell ?_
      have hc4 : cs[j]? = (encT R.recs)[j]? := by rw [← hc3, List.getElem?_take_of_lt (by omega)]
      rw [Nat.zero_add, hc4]
      unfold encT at hu ⊢
      rw [List.map_take, List.getElem?_take_of_lt (by omega)] at hu
      exact hu
    · obtain ⟨s, _, rfl⟩ := List.mem_map.1 hu
      rfl
    · try simp only [push_cast]
      have e1 : 0 + R.sealed = (R.recs.take R.sealed).length := by rw [List.length_take]; omega
      rw [e1, List.nil_append] at hr5
      exact key v5 w5 hr5 (u5.mono fun _ _ hf => by cases hf) fun k hk => (y5 k hk).elim (fun hf => by cases hf) id

theorem nblk_le {n m : Nat} (h : n ≤ 256 * m) : nblk n ≤ m := by unfold nblk; omega

/-- rectoref29.Write -/
theorem rlwrite_c (h : IsRL w g fr R) (s : Same L R) (hd : IsRef w q fq N D) (hN : N ≤ w.heap.size) (hNr : ∀ k, fr k → N ≤ k) (hne : ∀ k, fr k → ¬ fq k) (hwn : D.waits.length ≤ 100000000)
    (k : ∀ w', RAfter w q fq N (L.write D).2 w' → K (.int .i64 (L.write D).1) w') : mCall Try.prog 106 #[.pointer (some ⟨g, 0, none⟩), dptr q] w K := by
  have hl := s.ok.len
  have hn := s.ok.n
  have hse := s.ok.sl
  have hst := s.ok.s
  have hb := s.b
  have hrb : (recsL R.recs).length ≤ 256 * R.blocks := by rw [← hb, ← s.blocks]; exact hl
  have hRb : R.blocks ≤ 128 := by rw [← s.blocks]; exact hn
  have hRs : R.start ≤ 128 := by rw [← s.start]; exact hst
  have hsle := s.sle
  refine ⟨ok106 ?_⟩
  unfold sh106 dptr
  obtain ⟨v, b1, b2, b3, b4, b5⟩ := h
  try simp only [push_cast]
  refine mN_v (r_loadB _ (by kernel_rfl) b1 rfl) ?_
  refine rplainA_c (Strs.of_row b2 (fp := fr) b4) (by omega) fun w1 u1 => ?_
  rw [← hb]
  unfold mDrew
  have u2 := Upd.drew w1 fun _ => False
  have a2 : Ext w w1.drew := u1.ext u2
  generalize w1.drew = w2 at u2 a2
  have c1 := b1.keep a2 id
  have c2 := b2.keep a2 fun _ _ => id
  try simp only [push_cast]
  refine mR_v (r_loadB _ (by kernel_rfl) c1 rfl) ?_
  try simp only [push_cast]
  refine mR_v (r_loadB _ (by kernel_rfl) c1 rfl) ?_
  obtain ⟨A, c, rfl, hrow⟩ : ∃ A c, v = .slice A R.recs.length c ∧ R.recs.length ≤ c := by
    rcases c2.form with ⟨rfl, h0, _⟩ | ⟨gv, cap, cs, rfl, _, h1, _⟩
    · exact ⟨none, 0, by rw [h0], by omega⟩
    · exact ⟨_, cap, rfl, h1⟩
  refine mP_v (fun w => r_sliceLh w Try.underlying67 (by kernel_rfl) (sz := 1) _ _ _ _ (by omega) (by omega)) ?_
  rw [Int.toNat_natCast]
  have hpre := Arr.upto (Strs.of_row c2 (fp := fr) b4) hsle
  rw [← List.map_take] at hpre
  have hpl : (recsL (R.recs.take R.sealed)).length ≤ 1000000000 := by rw [← s.sd]; omega
  refine rplainA_c hpre hpl fun w3 u3 => ?_
  have d1 := c1.keep u3 id
  have a3 : Ext w w3 := a2.ext u3
  refine ⟨rdN_v (r_loadB _ (by kernel_rfl) d1 rfl), rdN_v (r_loadB _ (by kernel_rfl) d1 rfl), ?_⟩
  try simp only [push_cast, ofL_size]
  rw [← s.sd]
  have hnb := nblk_le hl
  refine mLoop1.mk (fun x wr => ∃ (i : Nat) (D' : DM), x = .int .i64 i ∧ i ≤ L.blocks ∧ RAfter w q fq N D' wr ∧ D'.waits.length ≤ D.waits.length + i ∧
      (L.sealed < L.b.length → D'.logWrite L.start L.b (max i (L.sealed / 256)) (nblk L.b.length - max i (L.sealed / 256)) = L.write D) ∧ (¬ L.sealed < L.b.length → L.write D = (0, D'))) (fun x _ => 200 - (intOf x).toNat) ?_ ?_
  · exact ⟨0, D, rfl, Nat.zero_le _, hd.after a3, by omega, fun h => by rw [Nat.zero_max, LM.write, if_pos h], fun h => by rw [LM.write, if_neg h]⟩
  rintro x wr ⟨i, D', rfl, hi, ⟨fq', hd', u', y'⟩, hwl, hr, hr0⟩
  have e1 := b1.keep u' (hne _ b3)
  try simp only [push_cast]
  refine mN_v (r_loadB _ (by kernel_rfl) e1 rfl) ?_
  try simp only [push_cast]
  rw [← s.blocks]
  have hnext : ∀ D'' w', RAfter w q fq N D'' w' → D''.waits.length ≤ D.waits.length + (i + 1) → i < L.blocks → (L.sealed < L.b.length → D''.logWrite L.start L.b (max (i + 1) (L.sealed / 256)) (nblk L.b.length - max (i + 1) (L.sealed / 256)) = L.write D) →
      (¬ L.sealed < L.b.length → L.write D = (0, D'')) →
      (∃ (i' : Nat) (D' : DM), Value.int IntKind.i64 ((i : Int) + 1) = .int .i64 i' ∧ i' ≤ L.blocks ∧ RAfter w q fq N D' w' ∧ D'.waits.length ≤ D.waits.length + i' ∧
      (L.sealed < L.b.length → D'.logWrite L.start L.b (max i' (L.sealed / 256)) (nblk L.b.length - max i' (L.sealed / 256)) = L.write D) ∧ (¬ L.sealed < L.b.length → L.write D = (0, D'))) ∧
      200 - (intOf (.int .i64 ((i : Int) + 1))).toNat < 200 - (intOf (.int .i64 (i : Int))).toNat := fun D'' w' h1 h2 h3 h4 h5 =>
    ⟨⟨i + 1, D'', congrArg (Value.int .i64) (by omega), by omega, h1, h2, h4, h5⟩, by simp only [intOf]; omega⟩
  refine mIf_dec (fun hlt => ?_) fun hlt => ?_
  rotate_left
  · have hif : L.write D = (0, D') := by
      rcases Decidable.em (L.sealed < L.b.length) with h | h
      · have := hr h
        rw [show nblk L.b.length - max i (L.sealed / 256) = 0 by omega] at this
        exact this.symm
      · exact hr0 h
    rw [hif] at k
    exact k wr ⟨fq', hd', u', y'⟩
  try simp only [push_cast]
  rw [i64w (256 * (i : Int)) (by omega) (by omega), i64w (256 * (i : Int) + 256) (by omega) (by omega)]
  have ew : IntKind.wrap .i64 ((i : Int) + 1) = (i : Int) + 1 := i64w _ (by omega) (by omega)
  refine mIf_dec (fun h1 => ?_) fun h1 => ?_
  · rw [ew]
    refine hnext D' wr ⟨fq', hd', u', y'⟩ (by omega) (by omega) (fun hs => ?_) hr0
    rw [show max (i + 1) (L.sealed / 256) = max i (L.sealed / 256) by omega]
    exact hr hs
  try simp only [push_cast, ofL_size]
  refine mIf_dec (fun h2 => ?_) fun h2 => ?_
  · rw [ew]
    refine hnext D' wr ⟨fq', hd', u', y'⟩ (by omega) (by omega) (fun hs => ?_) hr0
    have := hr hs
    rw [show nblk L.b.length - max i (L.sealed / 256) = 0 by unfold nblk; omega] at this
    rw [show nblk L.b.length - max (i + 1) (L.sealed / 256) = 0 by unfold nblk; omega]
    exact this
  refine mIf_eqI (fun h3 => ?_) fun h3 => ?_
  · rw [ew]
    exact hnext D' wr ⟨fq', hd', u', y'⟩ (by omega) (by omega) (fun hs => by omega) hr0
  have hs : L.sealed < L.b.length := by omega
  have hr := hr hs
  rw [show max i (L.sealed / 256) = i by omega, show nblk L.b.length - i = (nblk L.b.length - (i + 1)) + 1 by unfold nblk; omega] at hr
  refine mN_v (r_sliceSl wr Try.underlying9 _ _ (by omega) (by rw [ofL_size]; omega)) ?_
  rw [ofL_extract, show (256 * (i : Int)).toNat = 256 * i from by omega, ofL_size, List.take_of_length_le (by simp)]
  try simp only [push_cast, ofL_size]
  refine mJ1_intro (fun x w' => x = .string (ofL ((L.b.drop (256 * i)).take 256)) ∧ w' = wr) (fun J hJ => ?_) ?_
  · refine mIf_dec (fun hgt => ?_) fun hgt => ?_
    · refine mN_v (r_sliceSh wr Try.underlying9 _ _ (by omega) (by rw [ofL_size]; omega)) ?_
      rw [ofL_extract, List.drop_zero]
      exact hJ _ _ ⟨rfl, rfl⟩
    · refine hJ _ _ ⟨?_, rfl⟩
      rw [List.take_of_length_le (show (L.b.drop (256 * i)).length ≤ 256 by omega)]
  rintro x w' ⟨rfl, rfl⟩
  refine padloop_c (l := (L.b.drop (256 * i)).take 256) (by simp; omega) ?_ rfl
  rw [show padL ((L.b.drop (256 * i)).take 256) = blkAt L.b i from rfl]
  try simp only [push_cast]
  refine mN_v (r_loadB _ (by kernel_rfl) e1 rfl) ?_
  try simp only [push_cast]
  rw [← s.start, i64w ((L.start : Int) + i) (by omega) (by omega)]
  refine isref_write hd' (by omega) (Nat.le_trans hN u'.size) _ _ fun w5 d5 => ?_
  have d5 : RAfter w q fq N (D'.write ((L.start : Int) + i) (ofL (blkAt L.b i))).2 w5 := RAfter.then u' y' d5
  have hww := write_waits D' ((L.start : Int) + i) (ofL (blkAt L.b i))
  try simp only [push_cast]
  unfold DM.logWrite at hr
  refine mIf_neI (fun he => ?_) fun he => ?_
  · rw [if_pos he] at hr
    rw [← hr] at k
    exact k w5 d5
  rw [if_neg (by simp [he])] at hr
  rw [ew]
  refine hnext _ w5 d5 (by omega) (by omega) (fun _ => ?_) fun h => absurd hs h
  rw [show max (i + 1) (L.sealed / 256) = i + 1 by omega]
  exact hr
end
end Go.Proofs.Ythgopkppmppdoaa
