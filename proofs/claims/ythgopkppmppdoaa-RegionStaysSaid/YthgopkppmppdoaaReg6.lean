/-
  Regions: records that are committed, and rewritten; a nil journal; lists, one behind the other.
-/
import Derived.Test.YthgopkppmppdoaaReg5
set_option linter.unusedVariables false
set_option linter.unusedSimpArgs false
set_option maxRecDepth 20000
namespace Go.Proofs.Ythgopkppmppdoaa
open Go Go.Proofs Go.Vc
open Go.RowKit (Below intOf)

section
variable {w : World} {K : Value → World → Prop} {N p gl j : Nat} {fp fv : Nat → Prop} {v : Value} {D : DM} {L : LM} {r : Int} {a : SM} {at_ : Int} {hb rr : Nat} {ss : List (List UInt8)}

theorem str_new2 (s t : ByteArray) (w : World) : (Instr.buildSlice 67 2 #[(0, .string s), (1, .string t)]).run Try.prog w = .ok (.slice (some ⟨w.heap.size, 0, none⟩) 2 2) (w.alloc (.cells #[.string s, .string t] 9 (0, 0))) := by kernel_rfl
theorem strs_two {g : Nat} {s t : ByteArray} (h : Blk w g 9 [.string s, .string t]) : Strs w (.slice (some ⟨g, 0, none⟩) 2 2) [s, t] (· = g) := by
  refine ⟨some ⟨g, 0, none⟩, 2, rfl, by show 2 ≤ maxLen; decide, fun _ => ⟨g, 0, rfl, rfl, fun i x hx => ?_⟩⟩
  have hi := (List.getElem?_eq_some_iff.1 hx).1
  refine ⟨[.string x], rfl, fun k u hu => ?_, rfl⟩
  have := (List.getElem?_eq_some_iff.1 hu).1
  obtain rfl : k = 0 := by simpa using this
  simp at hu
  subst hu
  refine h.cell ?_
  have hi2 : i = 0 ∨ i = 1 := by simp at hi; omega
  rcases hi2 with rfl | rfl
  · simp at hx
    subst hx
    rfl
  · simp at hx
    subst hx
    rfl

def aL : List UInt8 := [97]
def bL : List UInt8 := [98]
def cL : List UInt8 := [99]
theorem dig1 : digL 1 = [1] := by
  rw [digL_pos (by decide), show 1 / 256 = 0 from rfl, digL_zero]
  rfl
/-- rectolaw30.abc -/
theorem abc_c (k : ∀ w', Ext w w' → K (.bool true) w') : mCall Try.prog 61 #[] w K := by
  have ht1 : ∀ x : UInt8, (textL [x]).length = 3 := fun x => by
    rw [textL_len]
    show _ = 3
    rw [show ([x] : List UInt8).length = 1 from rfl, dig1]
    rfl
  have hab : (recsL [aL, bL]).length = 6 := by
    rw [recsL_cons, recsL_one, List.length_append]
    have h1 := ht1 97
    have h2 := ht1 98
    unfold aL bL
    omega
  have hcl : (recsL [cL]).length = 3 := by
    rw [recsL_one]
    exact ht1 99
  refine ⟨ok61 ?_⟩
  unfold sh61
  refine new_c 6 (fun h => by omega) fun _ _ w1 p fp d1 u1 y1 => ?_
  rw [show (DM.new (6 : Int).toNat) = DM.new (2 + 2 * 2) from rfl] at d1
  unfold dptr
  try simp only [push_cast, Option.isNone_some, bne_self_eq_false]
  have hH1 := new_home (hb := 2) (by decide) (by decide)
  obtain ⟨o1, o2, o3, o4⟩ := hH1.opens rfl
  refine formatJ_c (N := w.heap.size) d1 u1.size y1 (by decide) (new_format (by decide)) o1 o2 o3 o4 fun w2 j gl fp2 hJ2 u2 g1 g2 => ?_
  have s1 := u1.size
  have s2 := u2.size
  try simp only [push_cast]
  rw [show (⟨#[97]⟩ : ByteArray) = ofL aL from rfl, show (⟨#[98]⟩ : ByteArray) = ofL bL from rfl, show (⟨#[99]⟩ : ByteArray) = ofL cL from rfl, show (⟨#[97, 98]⟩ : ByteArray) = ofL abL from rfl]
  refine mN_new (str_new2 _ _ _) fun w3 h3 u3 s3 => ?_
  have hJ3 : JAt w3 w.heap.size j gl p fp2 (newD 6) (HL 2 0 []) ((0 : Nat) : Int) := hJ2.ext u3
  have gll := hJ2.l.lt
  have hs3 := strs_two h3
  obtain ⟨c1, _, c3⟩ := hH1.commit [aL, bL]
  have hz := (fill_zero [aL, bL] (HL 2 0 []) (by intro s hs; simp at hs; rcases hs with rfl | rfl <;> decide)).1.2 (.inr (by rw [hab]; decide))
  have c3 := c3 hz rfl (by decide)
  refine commit_c (ss := [aL, bL]) (fv := (· = w2.heap.size)) hJ3 (by omega) (by decide) hs3 (by intro s hs; simp at hs; rcases hs with rfl | rfl <;> decide) (by omega) fun w4 fp4 hJ4 u4 y4 x4 => ?_
  rw [c3.1]
  rcases c1 with ⟨c1, _⟩ | ⟨_, c1w, ⟨at2, hH2⟩, c1L⟩
  · exact absurd c3.1 c1
  rw [c1L] at hJ4
  generalize hD2 : ((newD (2 + 2 * 2)).commit (HL 2 0 []) ((0 : Nat) : Int) [aL, bL]).2.1 = D2 at hJ4 c1w hH2 c3
  have hJ4 : JAt w4 w.heap.size j gl p fp4 D2 (HL 2 0 [aL, bL]) 0 := hJ4
  rw [List.nil_append] at hH2
  have s4 := u4.size
  refine recordsR_c hJ4 fun v5 w5 hv5 u5 => ?_
  rw [show (HL 2 0 [aL, bL]).b = recsL [aL, bL] from rfl, parseL_recs (by intro s hs; simp at hs; rcases hs with rfl | rfl <;> decide)] at hv5
  have hv5 := Strs.narrow hv5
  have hJ5 := hJ4.ext u5
  have s5 := u5.size
  refine mN_new (str_new _ _) fun w6 h6 u6 s6 => ?_
  have hJ6 := hJ5.ext u6
  have hv6 := Strs.keep hv5 u6 fun _ _ => id
  have hB := hH2.other
  rw [show 1 - 0 = 1 from rfl] at hB
  obtain ⟨b1, b2⟩ := hB.last (l := [cL]) (by intro s hs; simp at hs; subst hs; decide) (by rw [List.nil_append, hcl]; decide)
  have b2 := b2 c3.2 (by decide)
  rw [List.nil_append] at b1
  have hfillc : (HL 2 1 []).fill [cL] = (0, HM 2 1 [] [cL]) := by
    have hz2 := (fill_zero [cL] (HL 2 1 []) (by intro s hs; simp at hs; subst hs; decide)).1.2 (.inr (by rw [hcl]; decide))
    obtain ⟨l', e1, e2⟩ := fill_spec [cL] (HL 2 1 [])
    obtain ⟨rfl, _⟩ := e2 hz2
    refine Prod.ext hz2 (e1.trans ?_)
    unfold HL HM
    rw [List.nil_append]
    rfl
  have hop := hB.open0
  refine rewrite_c (ss := [cL]) (fv := (· = w5.heap.size)) (L0 := HL 2 1 []) hJ6 (.inl rfl) (by omega) (by rw [c1w]; decide) (strs_one h6) (by intro s hs; simp at hs; subst hs; decide) (fun k hk => by omega) hop (by rw [hfillc]) (by rw [hfillc]; exact b2.1) fun w7 fp7 gl7 hJ7 u7 x7 => ?_
  rw [hfillc] at hJ7
  have hJ7 : JAt w7 w.heap.size j gl7 p fp7 (D2.last (HM 2 1 [] [cL]) ((1 : Nat) : Int)).2 (HL 2 1 [cL]) 1 := hJ7
  rcases b1 with ⟨b1, _⟩ | ⟨_, b1w, at3, b1B⟩
  · exact absurd b2.1 b1
  have hH3 : Home (D2.last (HM 2 1 [] [cL]) ((1 : Nat) : Int)).2 _ at3 2 1 [cL] := ⟨b1B, rfl, rfl, rfl⟩
  obtain ⟨o1, o2, o3, o4⟩ := hH3.opens b1w
  have hjlt := hJ5.cell.lt
  have hplt : ∀ k, fp4 k → k < w5.heap.size := fun k hk => hJ5.d.lt hk
  have hJ4j := hJ4.cell.lt
  have hJ4p : ∀ k, fp4 k → k < w4.heap.size := fun k hk => hJ4.d.lt hk
  have hv7 := Strs.keep hv6 x7 fun k hk hf => by
    rcases hf with rfl | hf
    · have := hk.1
      omega
    · have := hJ4p k hf
      have := hk.1
      omega
  have s7 := u7.size
  refine openJ_c (N := w.heap.size) hJ7.d (by omega) hJ7.y o1 o2 o3 o4 fun w8 j8 gl8 hJ8 u8 _ _ => ?_
  have s8 := u8.size
  try simp only [push_cast]
  refine mN_new (str_new _ _) fun w9 h9 u9 s9 => ?_
  refine need_c (ss := [abL]) (strs_one h9) (by intro s hs; simp at hs; subst hs; decide) (by decide) fun w10 u10 => ?_
  have hneed : needL [abL] = (4, 0) := by
    unfold needL
    rw [if_pos (by intro s hs; simp at hs; subst hs; decide), recsL_one, textL_ab]
    rfl
  rw [hneed]
  try simp only [push_cast]
  refine mIf_eqI (fun _ => ?_) fun h => absurd rfl h
  refine mIf_eqI (fun _ => ?_) fun h => absurd rfl h
  refine mIf_eqI (fun _ => ?_) fun h => absurd rfl h
  refine mIf_eqI (fun _ => ?_) fun h => absurd rfl h
  refine mIf_eqI (fun _ => ?_) fun h => absurd rfl h
  refine mIf_eqI (fun _ => ?_) fun h => absurd rfl h
  refine mN_new (str_new2 _ _ _) fun w11 h11 u11 s11 => ?_
  have a11 := ((u8.ext u9).ext u10).ext u11
  refine texts_c (hv7.keep a11 fun _ _ => id) (strs_two h11) fun w12 u12 => ?_
  rw [show decide (([aL, bL] : List (List UInt8)).map ofL = [ofL aL, ofL bL]) = true from decide_eq_true rfl]
  try simp only [push_cast]
  have a12 := (((u9.ext u10).ext u11).ext u12)
  have hJ12 := hJ8.ext a12
  refine recordsR_c hJ12 fun v13 w13 hv13 u13 => ?_
  rw [show (HL 2 1 [cL]).b = recsL [cL] from rfl, parseL_recs (by intro s hs; simp at hs; subst hs; decide)] at hv13
  refine mN_new (str_new _ _) fun w14 h14 u14 s14 => ?_
  refine texts_c (hv13.keep u14 fun _ _ => id) (strs_one h14) fun w15 u15 => ?_
  rw [show decide (([cL] : List (List UInt8)).map ofL = [ofL cL]) = true from decide_eq_true rfl]
  try simp only [push_cast]
  have hJ15 := ((hJ12.ext u13).ext u14).ext u15
  refine regionR_c hJ15 ?_
  try simp only [push_cast]
  refine mIf_eqI (fun _ => ?_) fun h => absurd rfl h
  refine bytesR_c hJ15 ?_
  rw [show (HL 2 1 [cL]).b.length = 3 from hcl]
  try simp only [push_cast]
  refine mIf_eqI (fun _ => ?_) fun h => absurd rfl h
  refine roomR_c hJ15 fun w16 u16 => ?_
  rw [show (HL 2 1 [cL]).b.length = 3 from hcl, show (256 * (HL 2 1 [cL]).blocks - 3 : Nat) = 509 from rfl]
  try simp only [push_cast]
  have uu : Upd w w7 (w.heap.size ≤ ·) := (((((((u1.mono fun _ _ => False.elim).then u2).ext u3).then u4).ext u5).ext u6).then u7)
  have e7 : Ext w w7 := uu.trans (Upd.refl w7 fun _ => False) (fun i hi h => by omega) fun i hi h => h
  exact k w16 (((((e7.ext u8).ext a12).ext u13).ext u14).ext u15 |>.ext u16)
end
end Go.Proofs.Ythgopkppmppdoaa
