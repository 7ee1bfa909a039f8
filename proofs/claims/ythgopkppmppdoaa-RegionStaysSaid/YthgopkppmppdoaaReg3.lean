/-
  Regions: the plain laws.
-/
import Derived.Test.YthgopkppmppdoaaReg2
import Derived.Test.YthgopkppmppdoaaLogL0
import Derived.Test.YthgopkppmppdoaaSlotL0
set_option linter.unusedVariables false
set_option linter.unusedSimpArgs false
set_option maxRecDepth 20000
namespace Go.Proofs.Ythgopkppmppdoaa
open Go Go.Proofs Go.Vc

/-- A disk that is up, and whose arm cuts nothing. -/
structure Up (D : DM) : Prop where
  d : D.down = false
  c : D.armed = false ∨ D.cut = false

theorem goes_nc {D : DM} (h : Up D) : (D.goes.1 = none ∨ D.goes.1 = some 270) ∧ Up D.goes.2 ∧ D.goes.2.blocks = D.blocks ∧ D.goes.2.waits = D.waits ∧ (D.armed = false → D.goes = (none, D)) := by
  unfold DM.goes
  split
  · exact ⟨.inl rfl, h, rfl, rfl, fun _ => rfl⟩
  · rename_i ha
    split
    · exact ⟨.inl rfl, ⟨h.d, h.c⟩, rfl, rfl, fun e => absurd e ha⟩
    · split
      · exact ⟨.inr rfl, ⟨h.d, .inl rfl⟩, rfl, rfl, fun e => absurd e ha⟩
      · rename_i hc
        exact absurd (h.c.resolve_left ha) hc
theorem write_nc {D : DM} (h : Up D) {i : Int} (h0 : 0 ≤ i) (h1 : i < D.blocks.length) {s : ByteArray} (hs : s.size = 256) :
    Up (D.write i s).2 ∧ (D.write i s).2.blocks = D.blocks ∧ (((D.write i s).1 = 0 ∧ (D.write i s).2.waits = D.waits ++ [(i, cutS s)]) ∨ ((D.write i s).1 = 270 ∧ (D.write i s).2.waits = D.waits)) ∧ (D.armed = false → (D.write i s).1 = 0 ∧ (D.write i s).2.armed = false) := by
  obtain ⟨g1, g2, g3, g4, g5⟩ := goes_nc h
  have ew : D.write i s = match D.goes.1 with
      | some e => (e, D.goes.2)
      | none => (0, { D.goes.2 with waits := D.goes.2.waits ++ [(i, cutS s)] }) := by
    unfold DM.write
    rw [if_neg (by simp [hs]; omega), if_neg (by simp [h.d])]
    all_goals (cases D.goes.1 <;> rfl)
  rw [ew]
  rcases g1 with e | e
  · rw [e]
    exact ⟨⟨g2.d, g2.c⟩, g3, .inl ⟨rfl, by show D.goes.2.waits ++ _ = _; rw [g4]⟩, fun ha => ⟨rfl, by show D.goes.2.armed = false; rw [g5 ha]; exact ha⟩⟩
  · rw [e]
    refine ⟨g2, g3, .inr ⟨rfl, g4⟩, fun ha => ?_⟩
    rw [g5 ha] at e
    cases e
theorem flush_nc {D : DM} (h : Up D) : Up D.flush.2 ∧ D.flush.2.waits = [] ∧ ((D.flush.1 = 0 ∧ D.flush.2.blocks = flushTo D.blocks D.waits D.waits.length) ∨ (D.flush.1 = 270 ∧ D.flush.2.blocks = D.blocks)) ∧ (D.armed = false → D.flush.1 = 0 ∧ D.flush.2.armed = false) := by
  obtain ⟨g1, g2, g3, g4, g5⟩ := goes_nc h
  have ef : D.flush = match D.goes.1 with
      | some e => (e, { D.goes.2 with waits := [] })
      | none => (0, { D.goes.2 with blocks := flushTo D.goes.2.blocks D.goes.2.waits D.goes.2.waits.length, waits := [] }) := by
    unfold DM.flush
    rw [if_neg (by simp [h.d])]
    all_goals (cases D.goes.1 <;> rfl)
  rw [ef]
  rcases g1 with e | e
  · rw [e]
    exact ⟨⟨g2.d, g2.c⟩, rfl, .inl ⟨rfl, by show flushTo _ _ _ = _; rw [g3, g4]⟩, fun ha => ⟨rfl, by show D.goes.2.armed = false; rw [g5 ha]; exact ha⟩⟩
  · rw [e]
    refine ⟨⟨g2.d, g2.c⟩, rfl, .inr ⟨rfl, g3⟩, fun ha => ?_⟩
    rw [g5 ha] at e
    cases e
theorem logWrite_nc {start : Nat} {b : List UInt8} : ∀ (n i : Nat) {D : DM}, Up D → start + i + n ≤ D.blocks.length →
    Up (D.logWrite start b i n).2 ∧ (D.logWrite start b i n).2.blocks = D.blocks ∧ (∃ m, m ≤ n ∧ (D.logWrite start b i n).2.waits = D.waits ++ logWs start b i m ∧ ((D.logWrite start b i n).1 = 0 ∧ m = n ∨ (D.logWrite start b i n).1 = 270)) ∧
      (D.armed = false → (D.logWrite start b i n).1 = 0 ∧ (D.logWrite start b i n).2.armed = false)
  | 0, i, D, h, _ => ⟨h, rfl, ⟨0, Nat.le_refl _, by simp [DM.logWrite, logWs], .inl ⟨rfl, rfl⟩⟩, fun ha => ⟨rfl, ha⟩⟩
  | n + 1, i, D, h, hl => by
    obtain ⟨w1, w2, w3, w4⟩ := write_nc h (i := (start : Int) + i) (by omega) (by omega) (blkAt_size b i)
    unfold DM.logWrite
    rcases w3 with ⟨e, hw⟩ | ⟨e, hw⟩
    · rw [if_neg (by simp [e])]
      obtain ⟨r1, r2, ⟨m, r3, r4, r5⟩, r6⟩ := logWrite_nc (start := start) (b := b) n (i + 1) w1 (by rw [w2]; omega)
      refine ⟨r1, by rw [r2, w2], ⟨m + 1, by omega, ?_, r5.imp (fun h => ⟨h.1, by omega⟩) id⟩, fun ha => r6 (w4 ha).2⟩
      rw [r4, hw]
      simp [logWs, List.range'_succ]
    · rw [if_pos (by rw [e]; decide)]
      refine ⟨w1, w2, ⟨0, by omega, by rw [hw]; simp [logWs], .inr e⟩, w4⟩
theorem lwrite_nc {L : LM} (ok : L.Ok) {D : DM} (h : Up D) (hl : L.start + L.blocks ≤ D.blocks.length) :
    Up (L.write D).2 ∧ (L.write D).2.blocks = D.blocks ∧ (∃ m, (L.write D).2.waits = D.waits ++ logWs L.start L.b (L.sealed / 256) m ∧ ((L.write D).1 = 0 ∧ (L.sealed < L.b.length → L.sealed / 256 + m = nblk L.b.length) ∧ (¬ L.sealed < L.b.length → m = 0) ∨ (L.write D).1 = 270)) ∧
      (D.armed = false → (L.write D).1 = 0 ∧ (L.write D).2.armed = false) := by
  have h1 := ok.len
  have h2 := ok.sl
  unfold LM.write
  split
  · rename_i hlt
    obtain ⟨r1, r2, ⟨m, r3, r4, r5⟩, r6⟩ := logWrite_nc (start := L.start) (b := L.b) (nblk L.b.length - L.sealed / 256) (L.sealed / 256) h (by unfold nblk; omega)
    exact ⟨r1, r2, ⟨m, r4, r5.imp (fun e => ⟨e.1, fun _ => by have := e.2; unfold nblk at *; omega, fun hn => absurd hlt hn⟩) id⟩, r6⟩
  · rename_i hlt
    exact ⟨h, rfl, ⟨0, by simp [logWs], .inl ⟨rfl, fun hn => absurd hn hlt, fun _ => rfl⟩⟩, fun ha => ⟨rfl, ha⟩⟩

theorem put_nc {D : DM} {a : SM} {at_ : Int} (h : Calm { D with armed := false } a at_) (hu : Up D) (s : SM) :
    Up (D.put s).2 ∧ (D.put s).2.waits = [] ∧ (((D.put s).1 ≠ 0 ∧ (D.put s).2.blocks = D.blocks) ∨ ((D.put s).1 = 0 ∧ (a.next s).right = true ∧ (D.put s).2.blocks = D.blocks.set (1 - at_).toNat (cutS (ofL (blockL (a.next s)))))) ∧
      (D.armed = false → (a.next s).right = true → (D.put s).1 = 0 ∧ (D.put s).2.armed = false) := by
  have hw : D.waits = [] := h.w
  have hc : D.choose = (a, at_, 0) := h.c
  have hl : 4 ≤ D.blocks.length := h.l
  obtain ⟨har, hat⟩ := h.right
  have e : D.put s = if (a.next s).right = false then (1, D)
      else if (D.write (1 - at_) (ofL (blockL (a.next s)))).1 ≠ 0 then D.write (1 - at_) (ofL (blockL (a.next s)))
      else (D.write (1 - at_) (ofL (blockL (a.next s)))).2.flush := by
    unfold DM.put
    rw [hc]
    simp
  rw [e]
  cases hr : (a.next s).right with
  | false =>
    rw [if_pos rfl]
    exact ⟨hu, hw, .inl ⟨show (1 : Int) ≠ 0 from by decide, rfl⟩, fun _ h => by cases h⟩
  | true =>
    rw [if_neg (by simp)]
    obtain ⟨w1, w2, w3, w4⟩ := write_nc hu (i := 1 - at_) (by omega) (by omega) (block_size hr)
    rcases w3 with ⟨e1, hww⟩ | ⟨e1, hww⟩
    · rw [if_neg (by simp [e1])]
      obtain ⟨f1, f2, f3, f4⟩ := flush_nc w1
      refine ⟨f1, f2, ?_, fun ha _ => f4 (w4 ha).2⟩
      rcases f3 with ⟨e2, hb⟩ | ⟨e2, hb⟩
      · refine .inr ⟨e2, rfl, ?_⟩
        rw [hb, hww, hw, w2]
        rfl
      · exact .inl ⟨by rw [e2]; decide, by rw [hb, w2]⟩
    · rw [if_pos (by rw [e1]; decide)]
      refine ⟨w1, by rw [hww, hw], .inl ⟨by rw [e1]; decide, w2⟩, fun ha _ => ?_⟩
      have := (w4 ha).1
      rw [e1] at this
      exact absurd this (by decide)

/-- Another disk with the same two slots. -/
theorem Calm.slots {D D' : DM} {a : SM} {at_ : Int} (h : Calm D a at_) (hl : D'.blocks.length = D.blocks.length) (h0 : D'.blocks[0]? = D.blocks[0]?) (h1 : D'.blocks[1]? = D.blocks[1]?) (hs : ∀ b ∈ D'.blocks, Sec b) (hw : D'.waits = []) (hd : D'.down = false) : Calm D' a at_ := by
  have r0 : D'.read 0 = D.read 0 := read_blocks h.w hw h.d hd hl (by
    show D'.blocks.getD 0 [] = D.blocks.getD 0 []
    rw [List.getD_eq_getElem?_getD, List.getD_eq_getElem?_getD, h0])
  have r1 : D'.read 1 = D.read 1 := read_blocks h.w hw h.d hd hl (by
    show D'.blocks.getD 1 [] = D.blocks.getD 1 []
    rw [List.getD_eq_getElem?_getD, List.getD_eq_getElem?_getD, h1])
  refine ⟨hw, hd, by rw [hl]; exact h.l, hs, ?_⟩
  rw [← h.c]
  unfold DM.choose rd
  rw [r0, r1]

theorem flushTo_append (bl : Bl) (w1 : Ws) : ∀ w2 : Ws, flushTo bl (w1 ++ w2) (w1.length + w2.length) = flushTo (flushTo bl w1 w1.length) w2 w2.length := by
  have h1 : ∀ (w2 : Ws) j, j ≤ w1.length → flushTo bl (w1 ++ w2) j = flushTo bl w1 j := by
    intro w2 j
    induction j with
    | zero => intro _; rfl
    | succ j ih =>
      intro hj
      unfold flushTo
      rw [List.getElem?_append_left (by omega), ih (by omega)]
  intro w2
  have h2 : ∀ j, j ≤ w2.length → flushTo bl (w1 ++ w2) (w1.length + j) = flushTo (flushTo bl w1 w1.length) w2 j := by
    intro j
    induction j with
    | zero => intro _; exact h1 w2 _ (Nat.le_refl _)
    | succ j ih =>
      intro hj
      show flushTo bl (w1 ++ w2) (w1.length + j + 1) = _
      unfold flushTo
      rw [List.getElem?_append_right (by omega), Nat.add_sub_cancel_left, ih (by omega)]
  exact h2 _ (Nat.le_refl _)

theorem SecP.mono {b c : List UInt8} {n m i : Nat} {blk : List ByteArray} (h : SecP c m i blk) (hn : n ≤ m) (hb : c.take n = b.take n) : SecP b n i blk := by
  refine ⟨h.1, fun s x hx j hj hlt => ?_⟩
  rw [h.2 s x hx j hj (by omega)]
  have e : c[256 * i + 64 * s + j]? = (c.take n)[256 * i + 64 * s + j]? := by rw [List.getElem?_take_of_lt hlt]
  rw [e, hb, List.getElem?_take_of_lt hlt]
/-- A whole block within what is sealed. -/
theorem SecP.full {b c : List UInt8} {n m i : Nat} {blk : List ByteArray} (h : SecP b n i blk) (hi : 256 * i + 256 ≤ n) (hb : c.take n = b.take n) : SecP c m i blk := by
  refine ⟨h.1, fun s x hx j hj hlt => ?_⟩
  have hs : s < 4 := by have := (List.getElem?_eq_some_iff.1 hx).1; have := h.1.1; omega
  rw [h.2 s x hx j hj (by omega)]
  have e : b[256 * i + 64 * s + j]? = (b.take n)[256 * i + 64 * s + j]? := by rw [List.getElem?_take_of_lt (by omega)]
  rw [e, ← hb, List.getElem?_take_of_lt (by omega)]

/-- The log of a region that holds records, all of them sealed. -/
def HL (hb r : Nat) (ss : List (List UInt8)) : LM := ⟨2 + r * hb, hb, recsL ss, (recsL ss).length⟩

/-- A disk at home: its slots tell a region's records, and these last, whatever fails. -/
structure Base (D : DM) (a : SM) (at_ : Int) (hb r : Nat) (ss : List (List UInt8)) : Prop where
  up : Up D
  calm : Calm { D with waits := [], armed := false } a at_
  ws : ∀ x ∈ D.waits, 2 ≤ x.1
  wsec : ∀ x ∈ D.waits, Sec x.2
  len : D.blocks.length = 2 + 2 * hb
  h1 : 1 ≤ hb
  h2 : hb ≤ 63
  r01 : r ≤ 1
  keeps : Keeps D (2 + r * hb) (recsL ss) (recsL ss).length
  short : ∀ s ∈ ss, s.length ≤ 65536
  fits : (recsL ss).length ≤ 256 * hb

/-- .. and the slot tells them. -/
structure Home (D : DM) (a : SM) (at_ : Int) (hb r : Nat) (ss : List (List UInt8)) : Prop where
  base : Base D a at_ hb r ss
  ar : a.region = r
  ab : a.bytes = (recsL ss).length
  an : a.records = ss.length

section
variable {D D' : DM} {a : SM} {at_ : Int} {hb r : Nat} {ss : List (List UInt8)}

theorem Base.half (h : Base D a at_ hb r ss) : D.half = hb := by
  unfold DM.half
  rw [h.len]
  omega
theorem Base.rhb (h : Base D a at_ hb r ss) : r * hb ≤ hb := by
  rcases (show r = 0 ∨ r = 1 by have := h.r01; omega) with rfl | rfl <;> omega
theorem Base.ok (h : Base D a at_ hb r ss) : (HL hb r ss).Ok := by
  have := h.rhb
  have := h.h2
  exact ⟨by show 2 + r * hb ≤ 128; omega, by show hb ≤ 128; omega, h.fits, Nat.le_refl _⟩
/-- The same blocks; what waits, of the log. -/
theorem Base.stay (h : Base D a at_ hb r ss) (hu : Up D') (hbl : D'.blocks = D.blocks) (hw : ∀ x ∈ D'.waits, 2 ≤ x.1 ∧ Sec x.2) (hk : ∀ x ∈ D'.waits, ∀ i, x.1.toNat = 2 + r * hb + i → i < nblk (recsL ss).length → SecP (recsL ss) (recsL ss).length i x.2) : Base D' a at_ hb r ss :=
  { h with
    up := hu
    calm := h.calm.same hbl rfl hu.d
    ws := fun x hx => (hw x hx).1
    wsec := fun x hx => (hw x hx).2
    len := by rw [hbl]; exact h.len
    keeps := ⟨by rw [hbl]; exact h.keeps.len, by rw [hbl]; exact h.keeps.bl, hk⟩ }
theorem Base.secs (h : Base D a at_ hb r ss) : ∀ b ∈ D.blocks, Sec b := h.calm.s
/-- Down, and up again. -/
theorem Base.again (h : Base D a at_ hb r ss) (keep : List Int) : Base { D.fall keep with down := false } a at_ hb r ss := by
  have hl : (fallTo D.blocks D.waits keep D.waits.length).length = D.blocks.length := fallTo_length _ _ _ _
  have hg : ∀ k : Nat, k < 2 → (fallTo D.blocks D.waits keep D.waits.length)[k]? = D.blocks[k]? := fun k hk => fallTo_get keep (fun x hx => by have := h.ws x hx; omega) _
  have hsec : ∀ b ∈ fallTo D.blocks D.waits keep D.waits.length, Sec b := by
    intro b hb'
    obtain ⟨i, hi⟩ := List.getElem?_of_mem hb'
    exact fall_P (P := Sec) (fun x y n hx hy hn => mixB_sec hx hy hn) (fun x hx _ => h.wsec x hx) (fun b hb => h.secs b (List.mem_of_getElem? hb)) _ b hi
  have hk := (h.keeps.fall keep).same (D' := { D.fall keep with down := false }) rfl fun x hx => hx
  exact { h with
    up := ⟨rfl, .inl rfl⟩
    calm := h.calm.slots hl (hg 0 (by omega)) (hg 1 (by omega)) hsec rfl rfl
    ws := fun x hx => by cases hx
    wsec := fun x hx => by cases hx
    len := by
      show (fallTo _ _ _ _).length = _
      rw [hl]
      exact h.len
    keeps := hk }
/-- It is opened. -/
theorem Home.opens (h : Home D a at_ hb r ss) (hw : D.waits = []) : D.choose = (a, at_, 0) ∧ a.right = true ∧ D.openR a.region a.bytes = (0, some (HL hb r ss)) ∧ ((parseL (HL hb r ss).b).1.length : Int) = a.records := by
  have hr := h.base.rhb
  refine ⟨?_, h.base.calm.right.1, ?_, ?_⟩
  · have e : ({ D with waits := [], armed := false } : DM).choose = D.choose := by
      have : ∀ i, ({ D with waits := [], armed := false } : DM).read i = D.read i := fun i => by
        unfold DM.read
        rw [hw]
      unfold DM.choose rd
      rw [this, this]
    rw [← e]
    exact h.base.calm.c
  · have := h.base.keeps.opens (blocks := hb) h.base.up.d (List.take_of_length_le (Nat.le_refl _)) h.base.short h.base.h1 (by rw [h.base.len]; omega) h.base.fits
    unfold DM.openR
    rw [h.base.half, h.ar, h.ab, show (2 : Int) + (r : Int) * (hb : Int) = ((2 + r * hb : Nat) : Int) from by rw [Int.natCast_add, Int.natCast_mul]; rfl]
    exact this
  · show ((parseL (recsL ss)).1.length : Int) = _
    rw [parseL_recs h.base.short, h.an]
end
end Go.Proofs.Ythgopkppmppdoaa
