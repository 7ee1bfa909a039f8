/-
  Regions: a commit, the plain law.
-/
import Derived.Test.YthgopkppmppdoaaReg3
set_option linter.unusedVariables false
set_option linter.unusedSimpArgs false
set_option maxRecDepth 20000
namespace Go.Proofs.Ythgopkppmppdoaa
open Go Go.Proofs Go.Vc

theorem fill_spec : ∀ (l : List (List UInt8)) (L : LM), ∃ l', (L.fill l).2 = { L with b := L.b ++ recsL l' } ∧ ((L.fill l).1 = 0 → l' = l ∧ ∀ s ∈ l, s.length ≤ 65536)
  | [], L => ⟨[], by simp [LM.fill_nil, recsL], fun _ => ⟨rfl, fun s hs => by cases hs⟩⟩
  | s :: l, L => by
    rw [LM.fill_cons]
    unfold LM.add
    by_cases h1 : 65536 < s.length
    · simp only [if_pos h1]
      rw [if_pos (show (2 : Int) ≠ 0 by decide)]
      exact ⟨[], by simp [recsL], fun e => absurd e (by show ¬ (2 : Int) = 0; decide)⟩
    · simp only [if_neg h1]
      by_cases h2 : 256 * L.blocks < L.b.length + (textL s).length
      · simp only [if_pos h2]
        rw [if_pos (show (5 : Int) ≠ 0 by decide)]
        exact ⟨[], by simp [recsL], fun e => absurd e (by show ¬ (5 : Int) = 0; decide)⟩
      · simp only [if_neg h2]
        rw [if_neg (by simp)]
        obtain ⟨l', e1, e2⟩ := fill_spec l { L with b := L.b ++ textL s }
        refine ⟨s :: l', ?_, fun e => ?_⟩
        · rw [e1, recsL_cons, ← List.append_assoc]
        · obtain ⟨rfl, e4⟩ := e2 e
          refine ⟨rfl, fun t ht => ?_⟩
          rcases List.mem_cons.1 ht with rfl | ht
          · omega
          · exact e4 t ht
theorem fill_zero : ∀ (l : List (List UInt8)) (L : LM), (∀ s ∈ l, s.length ≤ 65536) → ((L.fill l).1 = 0 ↔ (l = [] ∨ L.b.length + (recsL l).length ≤ 256 * L.blocks)) ∧ ((L.fill l).1 = 0 ∨ (L.fill l).1 = 5)
  | [], L, _ => ⟨⟨fun _ => .inl rfl, fun _ => rfl⟩, .inl rfl⟩
  | s :: l, L, hs => by
    have h1 : ¬ 65536 < s.length := by have := hs s (List.mem_cons_self ..); omega
    rw [LM.fill_cons]
    unfold LM.add
    rw [if_neg h1, recsL_cons, List.length_append]
    by_cases h2 : 256 * L.blocks < L.b.length + (textL s).length
    · rw [if_pos h2, if_pos (show (5 : Int) ≠ 0 by decide)]
      refine ⟨⟨fun e => absurd e (by show ¬ (5 : Int) = 0; decide), fun e => ?_⟩, .inr rfl⟩
      rcases e with e | e
      · cases e
      · omega
    · rw [if_neg h2, if_neg (by simp)]
      obtain ⟨i1, i2⟩ := fill_zero l { L with b := L.b ++ textL s } fun t ht => hs t (List.mem_cons_of_mem _ ht)
      refine ⟨i1.trans ⟨fun e => .inr ?_, fun e => ?_⟩, i2⟩
      · rcases e with rfl | e
        · simp [recsL]
          omega
        · simp only [List.length_append] at e
          omega
      · refine .inr ?_
        simp only [List.length_append]
        rcases e with e | e
        · cases e
        · omega

section
variable {D D' : DM} {a : SM} {at_ : Int} {hb r : Nat} {ss l : List (List UInt8)}

/-- The log of a region with more records behind what is sealed. -/
def HM (hb r : Nat) (ss l : List (List UInt8)) : LM := ⟨2 + r * hb, hb, recsL (ss ++ l), (recsL ss).length⟩

theorem take_recs (ss l : List (List UInt8)) : (recsL (ss ++ l)).take (recsL ss).length = recsL ss := by
  rw [recsL_append, List.take_append_of_le_length (Nat.le_refl _), List.take_of_length_le (Nat.le_refl _)]

theorem Base.last (h : Base D a at_ hb r ss) (hl : ∀ s ∈ l, s.length ≤ 65536) (hf : (recsL (ss ++ l)).length ≤ 256 * hb) :
    ((D.last (HM hb r ss l) r).1 ≠ 0 ∧ Base (D.last (HM hb r ss l) r).2 a at_ hb r ss ∨
      (D.last (HM hb r ss l) r).1 = 0 ∧ (D.last (HM hb r ss l) r).2.waits = [] ∧ ∃ at', Base (D.last (HM hb r ss l) r).2 (a.next ⟨0, r, (recsL (ss ++ l)).length, (ss ++ l).length⟩) at' hb r (ss ++ l)) ∧
    (D.armed = false → a.number + 1 ≤ 1099511627776 → (D.last (HM hb r ss l) r).1 = 0 ∧ (D.last (HM hb r ss l) r).2.armed = false) := by
  have hr := h.rhb
  have hb63 := h.h2
  have hlen : (recsL (ss ++ l)).length = (recsL ss).length + (recsL l).length := by rw [recsL_append, List.length_append]
  have hsh : ∀ s ∈ ss ++ l, s.length ≤ 65536 := fun s hs => (List.mem_append.1 hs).elim (h.short s) (hl s)
  have ok : (HM hb r ss l).Ok := ⟨by show 2 + r * hb ≤ 128; omega, by show hb ≤ 128; omega, hf, by show (recsL ss).length ≤ (recsL (ss ++ l)).length; omega⟩
  have htk := take_recs ss l
  obtain ⟨w1, w2, ⟨m, w3, w4⟩, w5⟩ := lwrite_nc ok h.up (by show 2 + r * hb + hb ≤ _; rw [h.len]; omega)
  have hms : ∀ x ∈ logWs (2 + r * hb) (recsL (ss ++ l)) ((recsL ss).length / 256) m, ∃ j, (recsL ss).length / 256 ≤ j ∧ x = ((((2 + r * hb : Nat) : Int)) + (j : Nat), cutS (ofL (blkAt (recsL (ss ++ l)) j))) := fun x hx => by
    obtain ⟨j, h1, h2, h3⟩ := logWs_mem hx
    exact ⟨j, h1, h3⟩
  have hslot : (HM hb r ss l).slot r = ⟨0, r, (recsL (ss ++ l)).length, (ss ++ l).length⟩ := by
    show (⟨0, (r : Int), ((recsL (ss ++ l)).length : Int), ((parseL (recsL (ss ++ l))).1.length : Int)⟩ : SM) = _
    rw [parseL_recs hsh]
  have hw3 : ((HM hb r ss l).write D).2.waits = D.waits ++ logWs (2 + r * hb) (recsL (ss ++ l)) ((recsL ss).length / 256) m := w3
  have hW : ∀ x ∈ ((HM hb r ss l).write D).2.waits, 2 ≤ x.1 ∧ Sec x.2 := fun x hx => by
    rw [hw3] at hx
    rcases List.mem_append.1 hx with hx | hx
    · exact ⟨h.ws x hx, h.wsec x hx⟩
    · obtain ⟨j, _, rfl⟩ := hms x hx
      exact ⟨by simp only; omega, cutS_sec (blkAt_size _ _)⟩
  have hK : ∀ x ∈ ((HM hb r ss l).write D).2.waits, ∀ i, x.1.toNat = 2 + r * hb + i → i < nblk (recsL ss).length → SecP (recsL ss) (recsL ss).length i x.2 := fun x hx i e hi => by
    rw [hw3] at hx
    rcases List.mem_append.1 hx with hx | hx
    · exact h.keeps.ws x hx i e hi
    · obtain ⟨j, _, rfl⟩ := hms x hx
      simp only at e
      obtain rfl : j = i := by omega
      exact SecP.blk (by omega) (by rw [htk, List.take_of_length_le (Nat.le_refl _)]) j
  have hHW := h.stay w1 w2 hW hK
  unfold DM.last
  rcases w4 with ⟨e1, hm1, hm2⟩ | e1
  rotate_left
  · rw [if_pos (by rw [e1]; decide)]
    refine ⟨.inl ⟨by rw [e1]; decide, hHW⟩, fun ha _ => ?_⟩
    have := (w5 ha).1
    rw [e1] at this
    exact absurd this (by decide)
  rw [if_neg (by simp [e1])]
  generalize hE : ((HM hb r ss l).write D).2 = E at w1 w2 w5 hw3 hHW hW
  obtain ⟨f1, f2, f3, f4⟩ := flush_nc w1
  rcases f3 with ⟨e2, hfb⟩ | ⟨e2, hfb⟩
  rotate_left
  · rw [if_pos (by rw [e2]; decide)]
    refine ⟨.inl ⟨by rw [e2]; decide, h.stay f1 (by rw [hfb, w2]) (fun x hx => by rw [f2] at hx; cases hx) fun x hx => by rw [f2] at hx; cases hx⟩, fun ha _ => ?_⟩
    have := (f4 (w5 ha).2).1
    rw [e2] at this
    exact absurd this (by decide)
  rw [if_neg (by simp [e2])]
  generalize hF : E.flush.2 = F at f1 f2 f4 hfb
  -- what the flush leaves
  have hFl : F.blocks.length = D.blocks.length := by rw [hfb, flushTo_length, w2]
  have hFg : ∀ k : Nat, k < 2 → F.blocks[k]? = D.blocks[k]? := fun k hk => by
    rw [hfb, flushTo_get (fun x hx => by have := (hW x hx).1; omega), w2]
  have hFs : ∀ b ∈ F.blocks, Sec b := by
    intro b hb'
    rw [hfb] at hb'
    obtain ⟨i, hi⟩ := List.getElem?_of_mem hb'
    exact flush_P (P := Sec) (fun x hx _ => (hW x hx).2) _ (.inl fun b hb => h.secs b (by rw [← w2]; exact List.mem_of_getElem? hb)) b hi
  have hFc : Calm { F with armed := false } a at_ := h.calm.slots hFl (hFg 0 (by omega)) (hFg 1 (by omega)) hFs f2 f1.d
  have hFK : Keeps F (2 + r * hb) (recsL (ss ++ l)) (recsL (ss ++ l)).length := by
    refine ⟨?_, fun i hi => ?_, fun x hx => by rw [f2] at hx; cases hx⟩
    · rw [hFl, h.len]
      unfold nblk
      omega
    · intro blk hblk
      rw [hfb, hw3, List.length_append, flushTo_append, w2] at hblk
      have hi' : i < ((recsL (ss ++ l)).length + 255) / 256 := hi
      refine flush_P (P := SecP (recsL (ss ++ l)) (recsL (ss ++ l)).length i) (fun x hx e => ?_) _ ?_ blk hblk
      · obtain ⟨j, _, rfl⟩ := hms x hx
        simp only at e
        obtain rfl : j = i := by omega
        exact SecP.blk (Nat.le_refl _) rfl j
      · by_cases hlo : i < (recsL ss).length / 256
        · left
          intro b hbq
          have hin : i < nblk (recsL ss).length := by unfold nblk; omega
          have := flush_P (P := SecP (recsL ss) (recsL ss).length i) (fun x hx e => h.keeps.ws x hx i e hin) _ (.inl (h.keeps.bl i hin)) b hbq
          exact this.full (by omega) (by rw [htk, List.take_of_length_le (Nat.le_refl _)])
        · by_cases hgt : (recsL ss).length < (recsL (ss ++ l)).length
          · right
            have hm := hm1 hgt
            have hm : (recsL ss).length / 256 + m = nblk (recsL (ss ++ l)).length := hm
            rw [List.take_of_length_le (Nat.le_refl _)]
            refine ⟨(((2 + r * hb : Nat) : Int) + (i : Nat), cutS (ofL (blkAt (recsL (ss ++ l)) i))), List.mem_map.2 ⟨i, ?_, rfl⟩, by simp only; omega⟩
            rw [List.mem_range']
            exact ⟨i - (recsL ss).length / 256, by unfold nblk at hm; omega, by omega⟩
          · left
            intro b hbq
            have hl0 : (recsL (ss ++ l)).length = (recsL ss).length := by omega
            have hin : i < nblk (recsL ss).length := by unfold nblk; omega
            have := flush_P (P := SecP (recsL ss) (recsL ss).length i) (fun x hx e => h.keeps.ws x hx i e hin) _ (.inl (h.keeps.bl i hin)) b hbq
            have heq : recsL (ss ++ l) = recsL ss := by
              rw [← htk, List.take_of_length_le (by omega)]
            rw [heq]
            exact this
  rw [hslot]
  obtain ⟨p1, p2, p3, p4⟩ := put_nc hFc f1 ⟨0, r, (recsL (ss ++ l)).length, (ss ++ l).length⟩
  refine ⟨?_, fun ha hn => ?_⟩
  rotate_left
  · refine p4 (f4 (w5 ha).2).2 (SM.right_iff.2 ?_)
    have hnum := (SM.right_iff.1 h.calm.right.1).1
    have hrl := recsL_len (ss ++ l)
    refine ⟨?_, ?_, ?_, ?_, ?_, ?_, ?_⟩
    · show 1 ≤ a.number + 1
      omega
    · exact hn
    · show (r : Int) = 0 ∨ (r : Int) = 1
      have := h.r01
      omega
    · show (0 : Int) ≤ ((recsL (ss ++ l)).length : Int)
      omega
    · show ((recsL (ss ++ l)).length : Int) ≤ 65536
      omega
    · show (0 : Int) ≤ ((ss ++ l).length : Int)
      omega
    · show ((ss ++ l).length : Int) ≤ 65536
      omega
  generalize F.put ⟨0, r, (recsL (ss ++ l)).length, (ss ++ l).length⟩ = P at p1 p2 p3
  have hat : at_ = 0 ∨ at_ = 1 := h.calm.right.2
  rcases p3 with ⟨q1, q2⟩ | ⟨q1, q2, q3⟩
  · refine .inl ⟨q1, ?_⟩
    exact { h with
      up := p1
      calm := hFc.same q2 rfl p1.d
      ws := fun x hx => by rw [p2] at hx; cases hx
      wsec := fun x hx => by rw [p2] at hx; cases hx
      len := by rw [q2, hFl]; exact h.len
      keeps := ⟨by rw [q2, hFl]; exact h.keeps.len, fun i hi blk hblk => by
        rw [q2] at hblk
        exact (hFK.bl i (by unfold nblk at *; omega) blk hblk).mono (by omega) (by rw [htk, List.take_of_length_le (Nat.le_refl _)]), fun x hx => by rw [p2] at hx; cases hx⟩ }
  · refine .inr ⟨q1, p2, 1 - at_, ?_⟩
    have hxS : Sec (cutS (ofL (blockL (a.next ⟨0, r, (recsL (ss ++ l)).length, (ss ++ l).length⟩)))) := cutS_sec (block_size q2)
    have hlen2 : (1 - at_).toNat < F.blocks.length := by rw [hFl, h.len]; omega
    obtain ⟨o, ho⟩ : ∃ o, F.blocks[(1 - at_).toNat]? = some o := ⟨_, List.getElem?_eq_getElem hlen2⟩
    have hoS : Sec o := hFs o (List.mem_of_getElem? ho)
    exact { h with
      up := p1
      calm := hFc.put (D' := { P.2 with waits := [], armed := false }) (n := 4) (by omega) (by omega) q2 (by show a.number < a.number + 1; omega) (by
        show P.2.blocks = F.blocks.set (1 - at_).toNat (mixB _ (F.blocks.getD (1 - at_).toNat []) 4)
        rw [List.getD_eq_getElem?_getD, ho]
        show P.2.blocks = F.blocks.set (1 - at_).toNat (mixB _ o 4)
        rw [mixB_all hxS hoS]
        exact q3) rfl p1.d
      ws := fun x hx => by rw [p2] at hx; cases hx
      wsec := fun x hx => by rw [p2] at hx; cases hx
      len := by rw [q3, List.length_set, hFl]; exact h.len
      short := hsh
      fits := hf
      keeps := ⟨by rw [q3, List.length_set]; exact hFK.len, fun i hi blk hblk => by
        rw [q3, List.getElem?_set_ne (by omega)] at hblk
        exact hFK.bl i hi blk hblk, fun x hx => by rw [p2] at hx; cases hx⟩ }

theorem HL_dropped : LM.dropped { HL hb r ss with b := (HL hb r ss).b ++ recsL l } = HL hb r ss := by
  unfold LM.dropped HL
  simp only
  rw [List.take_append_of_le_length (Nat.le_refl _), List.take_of_length_le (Nat.le_refl _)]

/-- THE LAW of a commit. -/
theorem Home.commit (h : Home D a at_ hb r ss) (l : List (List UInt8)) :
    ((D.commit (HL hb r ss) r l).1 ≠ 0 ∧ Home (D.commit (HL hb r ss) r l).2.1 a at_ hb r ss ∧ (D.commit (HL hb r ss) r l).2.2 = HL hb r ss ∨
      (D.commit (HL hb r ss) r l).1 = 0 ∧ (D.commit (HL hb r ss) r l).2.1.waits = [] ∧ (∃ at', Home (D.commit (HL hb r ss) r l).2.1 (a.next ⟨0, r, (recsL (ss ++ l)).length, (ss ++ l).length⟩) at' hb r (ss ++ l)) ∧ (D.commit (HL hb r ss) r l).2.2 = HL hb r (ss ++ l)) ∧
    (((HL hb r ss).fill l).1 ≠ 0 → (D.commit (HL hb r ss) r l).1 = ((HL hb r ss).fill l).1 ∧ (D.commit (HL hb r ss) r l).2.1 = D) ∧
    (((HL hb r ss).fill l).1 = 0 → D.armed = false → a.number + 1 ≤ 1099511627776 → (D.commit (HL hb r ss) r l).1 = 0 ∧ (D.commit (HL hb r ss) r l).2.1.armed = false) := by
  obtain ⟨l', e1, e2⟩ := fill_spec l (HL hb r ss)
  have okf := LM.fill_ok h.base.ok l
  unfold DM.commit
  rw [e1] at okf ⊢
  by_cases hf : ((HL hb r ss).fill l).1 = 0
  rotate_left
  · rw [if_pos hf]
    exact ⟨.inl ⟨hf, h, HL_dropped⟩, fun _ => ⟨rfl, rfl⟩, fun e => absurd e hf⟩
  obtain ⟨rfl, hsh⟩ := e2 hf
  have eM : ({ HL hb r ss with b := (HL hb r ss).b ++ recsL l' } : LM) = HM hb r ss l' := by
    unfold HL HM
    rw [recsL_append]
  rw [if_neg (by simp [hf])]
  have hfit : (recsL (ss ++ l')).length ≤ 256 * hb := by
    have := okf.len
    rw [eM] at this
    exact this
  obtain ⟨g1, g2⟩ := h.base.last hsh hfit
  have hdr : (HM hb r ss l').dropped = HL hb r ss := by rw [← eM]; exact HL_dropped
  rw [eM]
  rcases g1 with ⟨q1, q2⟩ | ⟨q1, q2, at', q3⟩
  · rw [if_pos q1]
    exact ⟨.inl ⟨q1, ⟨q2, h.ar, h.ab, h.an⟩, hdr⟩, fun e => absurd hf e, fun _ ha hn => absurd (g2 ha hn).1 q1⟩
  · rw [if_neg (by simp [q1])]
    exact ⟨.inr ⟨rfl, q2, ⟨at', ⟨q3, rfl, rfl, rfl⟩⟩, rfl⟩, fun e => absurd hf e, fun _ ha hn => ⟨rfl, (g2 ha hn).2⟩⟩
end
end Go.Proofs.Ythgopkppmppdoaa
