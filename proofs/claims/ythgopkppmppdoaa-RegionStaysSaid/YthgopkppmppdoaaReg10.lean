/-
  RegionStays: the walk.
-/
import Derived.Test.YthgopkppmppdoaaReg9
set_option linter.unusedVariables false
set_option linter.unusedSimpArgs false
set_option maxRecDepth 20000
namespace Go.Proofs.Ythgopkppmppdoaa
open Go Go.Proofs Go.Vc
open Go.RowKit (Below intOf)

theorem put_waits' (D : DM) (s : SM) : (D.put s).2.waits.length ≤ D.waits.length + 1 := by
  have h1 := write_waits D (1 - D.choose.2.1) (ofL (blockL (D.choose.1.next s)))
  have h2 := flush_waits' (D.write (1 - D.choose.2.1) (ofL (blockL (D.choose.1.next s)))).2
  unfold DM.put
  repeat' split
  all_goals first
    | omega
    | (show D.waits.length ≤ _; omega)
theorem commit_waits {L : LM} (o : L.Ok) (D : DM) (r : Int) (ss : List (List UInt8)) : (D.commit L r ss).2.1.waits.length ≤ D.waits.length + 129 := by
  have hl : (D.last (L.fill ss).2 r).2.waits.length ≤ D.waits.length + 129 := by
    have h1 := lwrite_waits' (LM.fill_ok o ss) D
    have h2 := flush_waits' ((L.fill ss).2.write D).2
    have h3 := put_waits' ((L.fill ss).2.write D).2.flush.2 ((L.fill ss).2.slot r)
    unfold DM.last
    repeat' split
    all_goals omega
  unfold DM.commit
  repeat' split
  all_goals first
    | exact hl
    | (show D.waits.length ≤ _; omega)

section
variable {w w' : World} {K : Value → World → Prop} {N p gl j : Nat} {fp : Nat → Prop} {D : DM} {L : LM} {r : Int}

theorem JAt.disk2 {D' : DM} (h : JAt w N j gl p fp D L r) (hN : N ≤ w.heap.size) (a : DAfter w p fp D' w') : ∃ fp', JAt w' N j gl p fp' D' L r ∧ Upd w w' fp ∧ (∀ k, fp' k → fp k ∨ w.heap.size ≤ k) ∧ Upd w w' (N ≤ ·) := by
  obtain ⟨fp', h1, u, y⟩ := a
  have hg := h.cell.lt
  have hl := h.l.lt
  refine ⟨fp', { h with
    cell := h.cell.keep u h.nj
    d := h1
    l := h.l.keep u h.nl
    y := fun k hk => (y k hk).elim (h.y k) fun e => by omega
    nj := fun hk => (y _ hk).elim h.nj fun e => by omega
    nl := fun hk => (y _ hk).elim h.nl fun e => by omega }, u, y, u.mono fun i _ hf => h.y i hf⟩

theorem Home.set {D : DM} {a : SM} {at_ : Int} {hb rr : Nat} {ss : List (List UInt8)} (h : Home D a at_ hb rr ss) (after : Int) : Home (D.set after false []).2 a at_ hb rr ss := by
  unfold DM.set
  split
  · exact h
  · split
    · exact h
    · exact ⟨{ h.base with up := ⟨h.base.up.d, .inr rfl⟩, calm := h.base.calm.same rfl rfl h.base.up.d, keeps := h.base.keeps.same rfl fun x hx => hx }, h.ar, h.ab, h.an⟩
theorem set_waits' (D : DM) (a : Int) : (D.set a false []).2.waits.length ≤ D.waits.length := by
  unfold DM.set
  split
  · exact Nat.le_refl _
  · split <;> exact Nat.le_refl _

theorem build42a (a : Int) (w : World) : (Instr.build 42 #[(0, .int .i64 a)]).run Try.prog w = .ok (.agg #[.int .i64 a, .bool false, .slice none 0 0]) w := by kernel_rfl
theorem box110 (s : Step30) (A A' : Option Addr) (n n' c c' : Nat) (w : World) : (Instr.box 110 (.agg (step30C s (.slice A n c) (.slice A' n' c')).toArray)).run Try.prog w =
    .ok (.pointer (some ⟨w.heap.size, 0, none⟩)) (w.alloc (.cells (step30C s (.slice A n c) (.slice A' n' c')).toArray 110 (0, 0))) := by kernel_rfl
theorem slice111_3 (a b c : Step30) (A A' B B' C C' : Option Addr) (n1 n2 n3 n4 n5 n6 m1 m2 m3 m4 m5 m6 : Nat) (w : World) :
    (Instr.buildSlice 111 3 #[(0, .agg (step30C a (.slice A n1 m1) (.slice A' n2 m2)).toArray), (1, .agg (step30C b (.slice B n3 m3) (.slice B' n4 m4)).toArray), (2, .agg (step30C c (.slice C n5 m5) (.slice C' n6 m6)).toArray)]).run Try.prog w =
    .ok (.slice (some ⟨w.heap.size, 0, none⟩) 3 3) (w.alloc (.cells (step30C a (.slice A n1 m1) (.slice A' n2 m2) ++ step30C b (.slice B n3 m3) (.slice B' n4 m4) ++ step30C c (.slice C n5 m5) (.slice C' n6 m6)).toArray 110 (0, 0))) := by kernel_rfl

/-- What a commit leaves, in short. -/
theorem Home.after {D : DM} {a : SM} {at_ : Int} {hb rr : Nat} {ss : List (List UInt8)} (h : Home D a at_ hb rr ss) (l : List (List UInt8)) :
    ∃ a' at' ss', Home (D.commit (HL hb rr ss) rr l).2.1 a' at' hb rr ss' ∧ (D.commit (HL hb rr ss) rr l).2.2 = HL hb rr ss' ∧ ((D.commit (HL hb rr ss) rr l).1 ≠ 0 ∧ ss' = ss ∨ (D.commit (HL hb rr ss) rr l).1 = 0 ∧ ss' = ss ++ l) := by
  rcases (h.commit l).1 with ⟨q1, q2, q3⟩ | ⟨q1, _, ⟨at', q2⟩, q3⟩
  · exact ⟨a, at_, ss, q2, q3, .inl ⟨q1, rfl⟩⟩
  · exact ⟨_, at', ss ++ l, q2, q3, .inr ⟨q1, rfl⟩⟩

theorem regionStays_c {v0 v2 : Value} {cs : Array Value} {l0 l2 : List ByteArray} {s : Step30} (h0 : Strs w v0 l0 (· < w.heap.size)) (h1 : isStep30 (· < w.heap.size) w cs.toList s) (h2 : Strs w v2 l2 (· < w.heap.size)) (k : ∀ w', Ext w w' → K (.bool true) w') :
    mCall Try.prog 16 #[v0, .agg cs, v2] w K := by
  obtain ⟨A0, c0, rfl⟩ := Arr.slice h0
  obtain ⟨A2, c2, rfl⟩ := Arr.slice h2
  obtain ⟨vl, vk, e, hA, hl, hk⟩ := h1
  have e2 : cs = List.toArray _ := congrArg List.toArray e
  subst e2
  obtain ⟨Al, cl, rfl⟩ := Arr.slice hl
  obtain ⟨Ak, ck, rfl⟩ := Arr.slice hk
  refine ⟨ok16 ?_⟩
  unfold sh16
  refine mN_new (box110 s Al Ak _ _ cl ck w) fun w1 b1 u1 s1 => ?_
  simp only [step30C] at b1
  refine new_c 12 (fun h => by omega) fun _ _ w2 p fp d2 u2 y2 => ?_
  rw [show (DM.new (12 : Int).toNat) = DM.new (2 + 2 * 5) from rfl] at d2
  have a2 := u1.ext u2
  have b2 := b1.keep u2 id
  unfold dptr
  try simp only [push_cast, Option.isNone_some, bne_self_eq_false, beq_self_eq_true, Bool.not_false]
  refine mN_v (build110 A0 l0.length c0 w2) ?_
  refine mN_v (r_loadN w2 (T := 110) (n := 5) (by kernel_rfl) (by kernel_rfl) b2 (o := 0) (by simp)) ?_
  refine mN_v (build110 A2 l2.length c2 w2) ?_
  refine mN_new (slice111_3 (st30 l0) s (st30 l2) A0 none Al Ak A2 none _ 0 _ _ _ 0 c0 0 cl ck c2 0 w2) fun w3 b3 u3 s3 => ?_
  have a3 := a2.ext u3
  have hs2 := u2.size
  have h03 := Strs.keep h0 a3 fun _ _ => id
  have h23 := Strs.keep h2 a3 fun _ _ => id
  have hl3 := Strs.keep hl a3 fun _ _ => id
  have hk3 := Ints.keep hk a3 fun _ _ => id
  have hArr : Arr w3 (.slice (some ⟨w2.heap.size, 0, none⟩) 3 3) 5 (fun _ => True) [st30 l0, s, st30 l2] (isStep30 fun _ => True) := by
    refine ⟨_, 3, rfl, by show 3 ≤ maxLen; decide, fun _ => ⟨_, 0, rfl, trivial, fun i x hx => ?_⟩⟩
    have hi := (List.getElem?_eq_some_iff.1 hx).1
    have hi2 : i = 0 ∨ i = 1 ∨ i = 2 := by simp at hi; omega
    rcases hi2 with rfl | rfl | rfl
    · obtain rfl : st30 l0 = x := by simpa using hx
      refine ⟨step30C (st30 l0) (.slice A0 l0.length c0) (.slice none 0 0), rfl, fun j u hu => ?_, _, _, rfl, by show (0 : Int) ≤ _; decide, h03.mono fun _ _ => trivial, ints_nil⟩
      refine b3.cell ?_
      have hj : j < 5 := (List.getElem?_eq_some_iff.1 hu).1
      rcases (show j = 0 ∨ j = 1 ∨ j = 2 ∨ j = 3 ∨ j = 4 by omega) with rfl | rfl | rfl | rfl | rfl <;> exact hu
    · obtain rfl : s = x := by simpa using hx
      refine ⟨step30C s (.slice Al s.l.length cl) (.slice Ak s.keep.length ck), rfl, fun j u hu => ?_, _, _, rfl, hA, hl3.mono fun _ _ => trivial, hk3.mono fun _ _ => trivial⟩
      refine b3.cell ?_
      have hj : j < 5 := (List.getElem?_eq_some_iff.1 hu).1
      rcases (show j = 0 ∨ j = 1 ∨ j = 2 ∨ j = 3 ∨ j = 4 by omega) with rfl | rfl | rfl | rfl | rfl <;> exact hu
    · obtain rfl : st30 l2 = x := by simpa using hx
      refine ⟨step30C (st30 l2) (.slice A2 l2.length c2) (.slice none 0 0), rfl, fun j u hu => ?_, _, _, rfl, by show (0 : Int) ≤ _; decide, h23.mono fun _ _ => trivial, ints_nil⟩
      refine b3.cell ?_
      have hj : j < 5 := (List.getElem?_eq_some_iff.1 hu).1
      rcases (show j = 0 ∨ j = 1 ∨ j = 2 ∨ j = 3 ∨ j = 4 by omega) with rfl | rfl | rfl | rfl | rfl <;> exact hu
  refine long30_c hArr (fun w4 u4 => ?_) fun hlim w4 u4 => ?_
  · try simp only [push_cast]
    exact abc_c fun w5 u5 => k w5 ((a3.ext u4).ext u5)
  try simp only [push_cast]
  obtain ⟨_, hn0, hz0⟩ := hlim (st30 l0) (by simp)
  obtain ⟨hnk, hn1, hz1⟩ := hlim s (by simp)
  obtain ⟨_, hn2, hz2⟩ := hlim (st30 l2) (by simp)
  simp only [st30] at hn0 hz0 hn2 hz2
  obtain ⟨ss0, rfl⟩ := strsL h0
  obtain ⟨ss1, hss1⟩ := strsL hl
  obtain ⟨ss2, rfl⟩ := strsL h2
  have hz0 : ∀ s ∈ ss0, s.length ≤ 9223372036854775807 := fun x hx => by have : x.length ≤ 70000 := hz0 (ofL x) (List.mem_map_of_mem hx); omega
  have hz1 : ∀ s ∈ ss1, s.length ≤ 9223372036854775807 := fun x hx => by have : x.length ≤ 70000 := hz1 (ofL x) (by rw [hss1]; exact List.mem_map_of_mem hx); omega
  have hz2 : ∀ s ∈ ss2, s.length ≤ 9223372036854775807 := fun x hx => by have : x.length ≤ 70000 := hz2 (ofL x) (List.mem_map_of_mem hx); omega
  have hln2 : ss2.length ≤ 20 := by simpa using hn2
  have hl : Strs w (.slice Al s.l.length cl) (ss1.map ofL) (· < w.heap.size) := by rw [← hss1]; exact hl
  -- a new journal
  have hH := new_home (hb := 5) (by decide) (by decide)
  obtain ⟨o1, o2, o3, o4⟩ := hH.opens rfl
  have hN : w1.heap.size ≤ w4.heap.size := by have := u3.size; have := u4.size; omega
  refine formatJ_c (N := w1.heap.size) ((d2.ext u3).ext u4) hN y2 (by decide) (new_format (by decide)) o1 o2 o3 o4 fun w5 j gl fp5 hJ5 u5 gj ggl => ?_
  have hJ5 : JAt w5 w1.heap.size j gl p fp5 (newD 12) (HL 5 0 []) ((0 : Nat) : Int) := hJ5
  have e15 : Ext w1 w5 := (((u2.ext u3).ext u4).young u5 fun i hi => .inr hi)
  have argk : ∀ {w' : World}, Ext w1 w' → Ext w w' := fun u => u1.ext u
  try simp only [push_cast, Option.isNone_some, bne_self_eq_false, dptr]
  obtain ⟨a6, at6, ss6, hH6, hL6, _⟩ := hH.after ss0
  have hJl := hJ5.cell.lt
  have hGl := hJ5.l.lt
  have hyl := hJ5.yl
  refine commit_c (ss := ss0) (fv := (· < w.heap.size)) hJ5 e15.size (by decide) (Strs.keep h0 (argk e15) fun _ _ => id) hz0 (by omega) fun w6 fp6 hJ6 u6 y6 x6 => ?_
  have hw6 : _ ≤ (newD 12).waits.length + 129 := commit_waits hJ5.ok (newD 12) ((0 : Nat) : Int) ss0
  rw [hL6] at hJ6
  obtain ⟨D6, eD6⟩ : ∃ D6, D6 = ((newD (2 + 2 * 5)).commit (HL 5 0 []) ((0 : Nat) : Int) ss0).2.1 := ⟨_, rfl⟩
  have hJ6 : JAt w6 w1.heap.size j gl p fp6 D6 (HL 5 0 ss6) ((0 : Nat) : Int) := by rw [eD6]; exact hJ6
  rw [← eD6] at hH6
  have hw6 : D6.waits.length ≤ 129 := by rw [eD6]; exact hw6
  clear eD6
  have e16 : Ext w1 w6 := e15.young u6 fun i hi => .inr hi
  have hs5 := u5.size
  have hs6 := u6.size
  have hp5 : ∀ k, fp5 k → k < w5.heap.size := fun k hk => hJ5.d.lt hk
  have hp6 : ∀ k, fp6 k → k < w6.heap.size := fun k hk => hJ6.d.lt hk
  -- the records that there were
  refine recordsR_c hJ6 fun v7 w7 hv7 u7 => ?_
  rw [show (HL 5 0 ss6).b = recsL ss6 from rfl, parseL_recs hH6.base.short] at hv7
  have hv7 := Strs.narrow hv7
  have hJ7 := hJ6.ext u7
  have e17 := e16.ext u7
  have hs7 := u7.size
  have b7 := b1.keep e17 id
  try simp only [push_cast]
  refine mN_v (r_loadB _ (by kernel_rfl) b7 rfl) ?_
  refine mN_v (build42a _ _) ?_
  refine isdisk_set hJ7.d s.after hA false ints_nil (fk := fun _ => False) (by decide) fun w8 a8 => ?_
  obtain ⟨fp8, hJ8, x8, y8, u8⟩ := hJ7.disk2 e17.size a8
  have hH8 := hH6.set s.after
  have hw8 := set_waits' D6 s.after
  generalize (D6.set s.after false []).2 = D8 at hH8 hJ8 hw8
  have e18 : Ext w1 w8 := e17.young u8 fun i hi => .inr hi
  have hs8 := u8.size
  have b8 := b1.keep e18 id
  try simp only [push_cast]
  refine mN_v (r_loadB _ (by kernel_rfl) b8 rfl) ?_
  obtain ⟨a9, at9, ss9, hH9, hL9, hc9⟩ := hH8.after ss1
  refine commit_c (ss := ss1) (fv := (· < w.heap.size)) hJ8 e18.size (by omega) (Strs.keep hl (argk e18) fun _ _ => id) hz1 (by omega) fun w9 fp9 hJ9 u9 y9 x9 => ?_
  have hw9 := commit_waits hJ8.ok D8 ((0 : Nat) : Int) ss1
  rw [hL9] at hJ9
  generalize (D8.commit (HL 5 0 ss6) ((0 : Nat) : Int) ss1) = C9 at hH9 hc9 hJ9 hw9 ⊢
  have e19 : Ext w1 w9 := e18.young u9 fun i hi => .inr hi
  have hs9 := u9.size
  have f8 : ∀ k, fp8 k → k < w6.heap.size ∨ w7.heap.size ≤ k := fun k hk => (y8 k hk).imp (hp6 k) id
  have hv8 := Strs.keep hv7 x8 fun k hk hf => by have := hp6 k hf; omega
  have hg6 : gl < w6.heap.size := by omega
  have hv9 := Strs.keep hv8 x9 fun k hk hf => by
    rcases hf with rfl | hf
    · have := hk.1; omega
    · have := f8 k hf; omega
  -- behind an error all is as it was
  refine mJ1_intro (fun x w' => x = .bool false ∧ Ext w9 w') (fun J hJ => ?_) ?_
  · try simp only [push_cast]
    refine mIf_neI (fun he => ?_) fun he => hJ _ _ ⟨rfl, Upd.refl _ _⟩
    have hss : ss9 = ss6 := by
      rcases hc9 with ⟨_, h⟩ | ⟨h, _⟩
      · exact h
      · exact absurd h he
    refine recordsR_c hJ9 fun v10 w10 hv10 u10 => ?_
    rw [show (HL 5 0 ss9).b = recsL ss9 from rfl, parseL_recs hH9.base.short] at hv10
    refine texts_c hv10 (Strs.keep hv9 u10 fun _ _ => id) fun w11 u11 => ?_
    rw [show decide (ss9.map ofL = ss6.map ofL) = true from decide_eq_true (by rw [hss])]
    try simp only [push_cast]
    exact hJ _ _ ⟨rfl, u10.ext u11⟩
  rintro x w10 ⟨rfl, u10⟩
  try simp only [push_cast]
  have hJ10 := hJ9.ext u10
  have e110 := e19.ext u10
  have hs10 := u10.size
  refine recordsR_c hJ10 fun v11 w11 hv11 u11 => ?_
  rw [show (HL 5 0 ss9).b = recsL ss9 from rfl, parseL_recs hH9.base.short] at hv11
  have hv11 := Strs.narrow hv11
  have hJ11 := hJ10.ext u11
  have e111 := e110.ext u11
  have hs11 := u11.size
  have hp9 : ∀ k, fp9 k → k < w9.heap.size := fun k hk => hJ9.d.lt hk
  refine mN_v (build42a _ _) ?_
  refine isdisk_set hJ11.d 1099511627776 (by decide) false ints_nil (fk := fun _ => False) (by decide) fun w12 a12 => ?_
  obtain ⟨fp12, hJ12, x12, y12, u12⟩ := hJ11.disk2 e111.size a12
  have hH12 := hH9.set 1099511627776
  have hw12 := set_waits' C9.2.1 1099511627776
  generalize (C9.2.1.set 1099511627776 false []).2 = D12 at hH12 hJ12 hw12
  have e112 : Ext w1 w12 := e111.young u12 fun i hi => .inr hi
  have hs12 := u12.size
  try simp only [push_cast]
  obtain ⟨a13, at13, ss13, hH13, hL13, hc13⟩ := hH12.after ss2
  refine commit_c (ss := ss2) (fv := (· < w.heap.size)) hJ12 e112.size (by omega) (Strs.keep h2 (argk e112) fun _ _ => id) hz2 (by omega) fun w13 fp13 hJ13 u13 y13 x13 => ?_
  rw [hL13] at hJ13
  generalize (D12.commit (HL 5 0 ss9) ((0 : Nat) : Int) ss2) = C13 at hH13 hc13 hJ13 ⊢
  have e113 : Ext w1 w13 := e112.young u13 fun i hi => .inr hi
  have hs13 := u13.size
  have f12 : ∀ k, fp12 k → k < w10.heap.size ∨ w11.heap.size ≤ k := fun k hk => (y12 k hk).imp (fun h => by have := hp9 k h; omega) id
  have f13 : ∀ k, fp13 k → k < w10.heap.size ∨ w11.heap.size ≤ k := fun k hk => (y13 k hk).elim (f12 k) fun h => .inr (by omega)
  have hp13 : ∀ k, fp13 k → k < w13.heap.size := fun k hk => hJ13.d.lt hk
  have hv12 := Strs.keep hv11 x12 fun k hk hf => by have := hp9 k hf; have := hk.1; omega
  have hv13 := Strs.keep hv12 x13 fun k hk hf => by
    rcases hf with rfl | hf
    · have := hk.1; omega
    · have := f12 k hf; have := hk.1; have := hk.2; omega
  try simp only [push_cast]
  have hf9 := hH9.base.fits
  have hr9 := recsL_len ss9
  refine mJ1_intro (fun x w' => ∃ f, Strs w' x (ss13.map ofL) f ∧ (∀ k, f k → ¬ fp13 k) ∧ Ext w13 w') (fun J hJ => ?_) ?_
  · refine mIf_eqI (fun he => ?_) fun he => ?_
    · have hss : ss13 = ss9 ++ ss2 := by
        rcases hc13 with ⟨h, _⟩ | ⟨_, h⟩
        · exact absurd he h
        · exact h
      refine ⟨ok71 ?_⟩
      unfold sh71
      refine mN_appendStrs (Row.nil w13 9 1) hv13 (by simp; omega) fun va wa hra ua ya => ?_
      rw [Nat.zero_add, List.nil_append] at hra
      have ua' : Ext w13 wa := ua.mono fun _ _ hf => by cases hf
      have hsa := ua.size
      refine mN_appendStrs hra (Strs.keep h2 (argk (e113.ext ua')) fun _ _ => id) (by simp; omega) fun vb wb hrb ub yb => ?_
      have hfa : ∀ k, Fp va k → w13.heap.size ≤ k := fun k hk => (ya k hk).elim (fun hf => by cases hf) id
      have ub' : Ext w13 wb := ua'.trans ub (fun _ _ x => x) fun i hi hf => by have := hfa i hf; omega
      have hfb : ∀ k, Fp vb k → w13.heap.size ≤ k := fun k hk => (yb k hk).elim (hfa k) fun h => by omega
      have hrb' : Row wb 9 1 vb (ss9 ++ ss2).length (encT (ss9 ++ ss2)) := by
        have e1 : (ss9.map ofL).length + (ss2.map ofL).length = (ss9 ++ ss2).length := by simp
        have e2 : (ss9.map ofL).map Value.string ++ (ss2.map ofL).map Value.string = encT (ss9 ++ ss2) := by simp [encT, List.map_map, Function.comp_def]
        rw [← e1, ← e2]
        exact hrb
      refine hJ _ _ ⟨(w13.heap.size ≤ ·), ?_, fun k hk hf => by have := hp13 k hf; omega, ub'⟩
      rw [hss]
      exact Strs.of_row hrb' hfb
    · have hss : ss13 = ss9 := by
        rcases hc13 with ⟨_, h⟩ | ⟨h, _⟩
        · exact h
        · exact absurd h he
      refine hJ _ _ ⟨_, by rw [hss]; exact hv13, fun k hk hf => ?_, Upd.refl _ _⟩
      have := f13 k hf
      have := hk.1
      have := hk.2
      omega
  rintro x w14 ⟨f, hx14, hfx, u14⟩
  have hJ14 := hJ13.ext u14
  refine recordsR_c hJ14 fun v15 w15 hv15 u15 => ?_
  rw [show (HL 5 0 ss13).b = recsL ss13 from rfl, parseL_recs hH13.base.short] at hv15
  refine texts_c hv15 (Strs.keep hx14 u15 fun _ _ => id) fun w16 u16 => ?_
  rw [show decide (ss13.map ofL = ss13.map ofL) = true from decide_eq_true rfl]
  have u1316 := (u14.ext u15).ext u16
  have hJ16 := hJ13.ext u1316
  have hx16 := Strs.keep hx14 (u15.ext u16) fun _ _ => id
  have e116 := e113.ext u1316
  try simp only [push_cast, Bool.not_true]
  refine mN_v (r_loadB _ (by kernel_rfl) (b1.keep e116 id) rfl) ?_
  refine isdisk_crash hJ16.d (Ints.keep hk (argk e116) fun _ _ => id) (fun k hk hf => by have := hJ16.y k hf; omega) fun w17 a17 => ?_
  have hup := hH13.base.up.d
  have ec : C13.2.1.crash s.keep = (0, C13.2.1.fall s.keep) := by simp [DM.crash, hup]
  rw [ec] at a17 ⊢
  obtain ⟨fp17, hJ17, x17, y17, u17⟩ := hJ16.disk2 e116.size a17
  try simp only [push_cast]
  refine mIf_neI (fun h => absurd rfl h) fun _ => ?_
  have e117 : Ext w1 w17 := e116.young u17 fun i hi => .inr hi
  refine isdisk_start hJ17.d fun w18 a18 => ?_
  have es : (C13.2.1.fall s.keep).start = (0, { C13.2.1.fall s.keep with down := false }) := by
    unfold DM.start
    rw [if_neg (by simp [DM.fall])]
  rw [es] at a18 ⊢
  obtain ⟨fp18, hJ18, x18, y18, u18⟩ := hJ17.disk2 e117.size a18
  try simp only [push_cast]
  refine mIf_neI (fun h => absurd rfl h) fun _ => ?_
  have e118 : Ext w1 w18 := e117.young u18 fun i hi => .inr hi
  have hs16 := u1316.size
  have hx16 := Strs.narrow hx16
  have hx17 := Strs.keep hx16 x17 fun k hk hf => hfx k hk.1 hf
  have hx18 := Strs.keep hx17 x18 fun k hk hf => (y17 k hf).elim (hfx k hk.1) fun h => by have := hk.2; omega
  have hHF : Home { C13.2.1.fall s.keep with down := false } a13 at13 5 0 ss13 := ⟨hH13.base.again s.keep, hH13.ar, hH13.ab, hH13.an⟩
  obtain ⟨q1, q2, q3, q4⟩ := hHF.opens rfl
  refine openJ_c (N := w1.heap.size) hJ18.d e118.size hJ18.y q1 q2 q3 q4 fun w19 j19 gl19 hJ19 u19 _ _ => ?_
  unfold dptr
  try simp only [push_cast, Option.isNone_some, beq_self_eq_true, Bool.not_false]
  refine recordsR_c hJ19 fun v20 w20 hv20 u20 => ?_
  rw [show (HL 5 0 ss13).b = recsL ss13 from rfl, parseL_recs hH13.base.short] at hv20
  refine texts_c hv20 (Strs.keep (Strs.keep hx18 u19 fun _ _ => id) u20 fun _ _ => id) fun w21 u21 => ?_
  rw [show decide (ss13.map ofL = ss13.map ofL) = true from decide_eq_true rfl]
  try simp only [push_cast]
  exact abc_c fun w22 u22 => k w22 (argk ((((e118.ext u19).ext u20).ext u21).ext u22))
end
section
variable {H : Type} {enc : TypeId × Value → H} {w : World} {spare : Nat → Bool} {held : Bool}
theorem open_step30 : ∀ n cs y, DataW.trod enc Try.prog w 0 spare held n 110 cs = some y → ∃ s, isStep30 (· < w.heap.size) w cs s := fun n cs y h => by
  obtain ⟨xs, m, _, _, hl, hxl, hf⟩ := DataW.trod_struct Try.underlying110 h
  have hl5 : cs.length = 5 := hl.trans (by kernel_rfl)
  match cs, hl5 with
  | [c0, c1, c2, c3, c4], _ =>
    have e (i : Nat) (hi : i < 5) : ∃ z, xs[i]? = some z := ⟨_, List.getElem?_eq_getElem (by rw [hxl]; exact hi)⟩
    obtain ⟨z0, e0⟩ := e 0 (by omega)
    obtain ⟨z1, e1⟩ := e 1 (by omega)
    obtain ⟨z2, e2⟩ := e 2 (by omega)
    obtain ⟨z3, e3⟩ := e 3 (by omega)
    obtain ⟨z4, e4⟩ := e 4 (by omega)
    have f0 : DataW.trod enc Try.prog w 0 spare held m 3 (([c0, c1, c2, c3, c4].drop 0).take (Try.prog.cellsOf 3)) = xs[0]? := hf 0 _ rfl
    have f1 : DataW.trod enc Try.prog w 0 spare held m 3 (([c0, c1, c2, c3, c4].drop 1).take (Try.prog.cellsOf 3)) = xs[1]? := hf 1 _ rfl
    have f2 : DataW.trod enc Try.prog w 0 spare held m 67 (([c0, c1, c2, c3, c4].drop 2).take (Try.prog.cellsOf 67)) = xs[2]? := hf 2 _ rfl
    have f3 : DataW.trod enc Try.prog w 0 spare held m 4 (([c0, c1, c2, c3, c4].drop 3).take (Try.prog.cellsOf 4)) = xs[3]? := hf 3 _ rfl
    have f4 : DataW.trod enc Try.prog w 0 spare held m 35 (([c0, c1, c2, c3, c4].drop 4).take (Try.prog.cellsOf 35)) = xs[4]? := hf 4 _ rfl
    rw [show Try.prog.cellsOf 3 = 1 from by kernel_rfl] at f0 f1
    rw [show Try.prog.cellsOf 67 = 1 from by kernel_rfl] at f2
    rw [show Try.prog.cellsOf 4 = 1 from by kernel_rfl] at f3
    rw [show Try.prog.cellsOf 35 = 1 from by kernel_rfl] at f4
    rw [e0] at f0
    rw [e1] at f1
    rw [e2] at f2
    rw [e3] at f3
    rw [e4] at f4
    obtain ⟨a0, g0, _, w0⟩ := DataW.trod_int Try.underlying3 f0
    obtain ⟨a1, g1, _, w1⟩ := DataW.trod_int Try.underlying3 f1
    obtain ⟨v2, l2, g2, hv2⟩ := open_arr (sz := 1) Try.underlying67 (by kernel_rfl) (by decide) (open_isStr Try.underlying9) f2
    obtain ⟨a3, g3, _⟩ := DataW.trod_bool Try.underlying4 f3
    obtain ⟨v4, l4, g4, hv4⟩ := open_arr (sz := 1) Try.underlying35 (by kernel_rfl) (by decide) (open_isInt Try.underlying3) f4
    injection g0 with g0
    injection g1 with g1
    injection g2 with g2
    injection g3 with g3
    injection g4 with g4
    subst g0 g1 g2 g3 g4
    exact ⟨⟨a0, a1, l2, a3, l4⟩, _, _, rfl, i64_le w1, hv2, hv4⟩
end
end Go.Proofs.Ythgopkppmppdoaa
