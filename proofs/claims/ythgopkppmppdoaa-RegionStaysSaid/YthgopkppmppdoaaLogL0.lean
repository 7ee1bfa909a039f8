/-
  What lasts of a log on a disk: the plain laws.
-/
import Derived.Test.YthgopkppmppdoaaLogR
import Derived.Test.YthgopkppmppdoaaLasts
set_option linter.unusedVariables false
set_option linter.unusedSimpArgs false
set_option maxRecDepth 20000
namespace Go.Proofs.Ythgopkppmppdoaa
open Go Go.Proofs Go.Vc

abbrev Ws := List (Int × List ByteArray)

/-- A block behind the writes that waited, all of them. -/
theorem flush_P {bl : Bl} {ws : Ws} {a : Nat} {P : List ByteArray → Prop} (hw : ∀ x ∈ ws, x.1.toNat = a → P x.2) :
    ∀ j, ((∀ b, bl[a]? = some b → P b) ∨ ∃ x ∈ ws.take j, x.1.toNat = a) → ∀ b, (flushTo bl ws j)[a]? = some b → P b
  | 0, h, b, hb => by
    rcases h with h | ⟨x, hx, _⟩
    · exact h b hb
    · simp at hx
  | j + 1, h, b, hb => by
    unfold flushTo at hb
    cases hj : ws[j]? with
    | none =>
      rw [hj] at hb
      refine flush_P hw j (h.imp id fun ⟨x, hx, e⟩ => ⟨x, ?_, e⟩) b hb
      rwa [List.take_add_one, hj, Option.toList_none, List.append_nil] at hx
    | some x =>
      rw [hj] at hb
      simp only at hb
      by_cases e : x.1.toNat = a
      · rw [e, List.getElem?_set] at hb
        split at hb
        · split at hb
          · injection hb with hb
            subst hb
            exact hw x (List.mem_of_getElem? hj) e
          · cases hb
        · rename_i hne
          exact absurd rfl hne
      · rw [List.getElem?_set_ne e] at hb
        refine flush_P hw j (h.imp id fun ⟨y, hy, ey⟩ => ⟨y, ?_, ey⟩) b hb
        rw [List.take_add_one, hj, List.mem_append] at hy
        rcases hy with hy | hy
        · exact hy
        · simp at hy
          subst hy
          exact absurd ey e
/-- A block behind a fall. -/
theorem fall_P {bl : Bl} {ws : Ws} {keep : List Int} {a : Nat} {P : List ByteArray → Prop} (hmix : ∀ x y n, P x → P y → n ≤ 4 → P (mixB x y n)) (hw : ∀ x ∈ ws, x.1.toNat = a → P x.2) (h : ∀ b, bl[a]? = some b → P b) :
    ∀ j, ∀ b, (fallTo bl ws keep j)[a]? = some b → P b
  | 0, b, hb => h b hb
  | j + 1, b, hb => by
    have ih := fall_P (keep := keep) hmix hw h j
    unfold fallTo at hb
    cases hj : ws[j]? with
    | none =>
      rw [hj] at hb
      exact ih b hb
    | some x =>
      rw [hj] at hb
      simp only [fallOne] at hb
      by_cases e : x.1.toNat = a
      · rw [e, List.getElem?_set] at hb
        split at hb
        · split at hb
          · rename_i hlt
            injection hb with hb
            subst hb
            obtain ⟨y, hy⟩ : ∃ y, (fallTo bl ws keep j)[a]? = some y := ⟨_, List.getElem?_eq_getElem hlt⟩
            rw [List.getD_eq_getElem?_getD, hy]
            exact hmix _ _ _ (hw x (List.mem_of_getElem? hj) e) (ih y hy) (nOf_le _ _)
          · cases hb
        · rename_i hne
          exact absurd rfl hne
      · rw [List.getElem?_set_ne e] at hb
        exact ih b hb

/-- A block's sectors hold a log's first n bytes. -/
def SecP (b : List UInt8) (n i : Nat) (blk : List ByteArray) : Prop := Sec blk ∧ ∀ s x, blk[s]? = some x → ∀ j, j < 64 → 256 * i + 64 * s + j < n → x.data.toList[j]? = b[256 * i + 64 * s + j]?

theorem mixB_get {x y : List ByteArray} (hx : Sec x) {n s : Nat} (hn : n ≤ 4) : (mixB x y n)[s]? = if s < n then x[s]? else y[s]? := by
  have h4 := hx.1
  unfold mixB
  split
  · rw [List.getElem?_append_left (by simp; omega), List.getElem?_take_of_lt (by omega)]
  · rw [List.getElem?_append_right (by simp; omega), List.getElem?_drop]
    congr 1
    simp
    omega
theorem SecP.mix {b : List UInt8} {n i : Nat} (x y : List ByteArray) (m : Nat) (hx : SecP b n i x) (hy : SecP b n i y) (hm : m ≤ 4) : SecP b n i (mixB x y m) := by
  refine ⟨mixB_sec hx.1 hy.1 hm, fun s z hz j hj hn => ?_⟩
  rw [mixB_get hx.1 hm] at hz
  split at hz
  · exact hx.2 s z hz j hj hn
  · exact hy.2 s z hz j hj hn
theorem cutS_get (s : ByteArray) (k : Nat) {x : ByteArray} (h : (cutS s)[k]? = some x) : k < 4 ∧ x = s.extract (64 * k) (64 * k + 64) := by
  have hk : k < 4 := (List.getElem?_eq_some_iff.1 h).1
  refine ⟨hk, ?_⟩
  rcases (show k = 0 ∨ k = 1 ∨ k = 2 ∨ k = 3 by omega) with rfl | rfl | rfl | rfl
  all_goals
    injection h with h
    exact h.symm
theorem SecP.blk {b c : List UInt8} {n : Nat} (hn : n ≤ c.length) (hc : c.take n = b.take n) (i : Nat) : SecP b n i (cutS (ofL (blkAt c i))) := by
  refine ⟨cutS_sec (blkAt_size _ _), fun s x hx j hj hlt => ?_⟩
  obtain ⟨hs, rfl⟩ := cutS_get _ _ hx
  have e1 : ((ofL (blkAt c i)).extract (64 * s) (64 * s + 64)).data.toList[j]? = (blkAt c i)[64 * s + j]? := by
    rw [ofL_extract]
    show ((List.drop (64 * s) (blkAt c i)).take (64 * s + 64 - 64 * s))[j]? = _
    rw [List.getElem?_take_of_lt (by omega), List.getElem?_drop]
  rw [e1]
  unfold blkAt padL
  rw [List.getElem?_append_left (by simp; omega), List.getElem?_take_of_lt (by omega), List.getElem?_drop]
  have e2 : c[256 * i + (64 * s + j)]? = (c.take n)[256 * i + (64 * s + j)]? := by rw [List.getElem?_take_of_lt (by omega)]
  rw [e2, hc, List.getElem?_take_of_lt (by omega)]
  congr 1
  omega
theorem flatB_get : ∀ (l : List ByteArray), (∀ x ∈ l, x.size = 64) → ∀ (s j : Nat) (x : ByteArray), l[s]? = some x → j < 64 → ((l.map fun x => x.data.toList).flatten)[64 * s + j]? = x.data.toList[j]?
  | [], _, s, j, x, h, _ => by simp at h
  | y :: l, h, 0, j, x, hx, hj => by
    obtain rfl : y = x := by simpa using hx
    have : y.data.size = 64 := h y (List.mem_cons_self ..)
    rw [List.map_cons, List.flatten_cons, List.getElem?_append_left (by rw [Array.length_toList, this]; omega)]
    congr 1
    omega
  | y :: l, h, s + 1, j, x, hx, hj => by
    have hy : y.data.size = 64 := h y (List.mem_cons_self ..)
    rw [List.map_cons, List.flatten_cons, List.getElem?_append_right (by rw [Array.length_toList, hy]; omega)]
    have e : 64 * (s + 1) + j - y.data.toList.length = 64 * s + j := by
      rw [Array.length_toList, hy]
      omega
    rw [e]
    exact flatB_get l (fun z hz => h z (List.mem_cons_of_mem _ hz)) s j x (by simpa using hx) hj
theorem SecP.joined {b : List UInt8} {n i : Nat} {blk : List ByteArray} (h : SecP b n i blk) {p : Nat} (hp : p < 256) (hn : 256 * i + p < n) : (joined blk).data.toList[p]? = b[256 * i + p]? := by
  obtain ⟨⟨h4, h64⟩, hg⟩ := h
  obtain ⟨x, hx⟩ : ∃ x, blk[p / 64]? = some x := ⟨_, List.getElem?_eq_getElem (by omega)⟩
  have e := flatB_get blk h64 (p / 64) (p % 64) x hx (by omega)
  rw [show 64 * (p / 64) + p % 64 = p by omega] at e
  have e2 := hg _ _ hx (p % 64) (by omega) (by omega)
  show ((blk.map fun x => x.data.toList).flatten)[p]? = _
  rw [e, e2]
  congr 1
  omega

/-- What a disk holds of a log: all that lasts, and all that waits. -/
structure Keeps (D : DM) (start : Nat) (b : List UInt8) (n : Nat) : Prop where
  len : start + nblk n ≤ D.blocks.length
  bl : ∀ i, i < nblk n → ∀ blk, D.blocks[start + i]? = some blk → SecP b n i blk
  ws : ∀ x ∈ D.waits, ∀ i, x.1.toNat = start + i → i < nblk n → SecP b n i x.2

theorem lastW_P {a : Nat} {P : List ByteArray → Prop} {ws : Ws} (hw : ∀ x ∈ ws, x.1.toNat = a → P x.2) {c : List ByteArray} (h : P c) : P (lastW (a : Int) c ws) := by
  unfold lastW
  induction ws generalizing c with
  | nil => exact h
  | cons x ws ih =>
    rw [List.foldl_cons]
    refine ih (fun y hy => hw y (List.mem_cons_of_mem _ hy)) ?_
    split
    · rename_i e
      exact hw x (List.mem_cons_self ..) (by omega)
    · exact h
theorem Keeps.read {D : DM} {start n : Nat} {b : List UInt8} (h : Keeps D start b n) (hd : D.down = false) {i : Nat} (hi : i < nblk n) : ∃ blk, SecP b n i blk ∧ D.read ((start : Int) + i) = (joined blk, 0) := by
  have hl := h.len
  obtain ⟨blk, hb⟩ : ∃ x, D.blocks[start + i]? = some x := ⟨_, List.getElem?_eq_getElem (by omega)⟩
  refine ⟨lastW ((start : Int) + i) blk D.waits, ?_, ?_⟩
  · have := lastW_P (a := start + i) (P := SecP b n i) (ws := D.waits) (fun x hx e => h.ws x hx i e hi) (h.bl i hi blk hb)
    rwa [Int.natCast_add] at this
  · unfold DM.read
    rw [if_neg (by simp; omega), if_neg (by simp [hd]), List.getD_eq_getElem?_getD, show ((start : Int) + i).toNat = start + i by omega, hb]
    rfl
theorem text_get {D : DM} {start n : Nat} {b : List UInt8} (h : Keeps D start b n) (hd : D.down = false) : ∀ m, m ≤ nblk n → (D.text start m).length = 256 * m ∧ ∀ p, p < 256 * m → p < n → (D.text start m)[p]? = b[p]?
  | 0, _ => ⟨rfl, fun p hp => by omega⟩
  | m + 1, hm => by
    obtain ⟨h1, h2⟩ := text_get h hd m (by omega)
    obtain ⟨blk, hs, hr⟩ := h.read hd (i := m) (by omega)
    have e : D.text start (m + 1) = D.text start m ++ (joined blk).data.toList := by
      show D.text start m ++ (D.read ((start : Int) + m)).1.data.toList = _
      rw [hr]
    have hl : (joined blk).data.toList.length = 256 := joined_size hs.1
    rw [e]
    refine ⟨by rw [List.length_append, h1, hl]; omega, fun p hp hn => ?_⟩
    rcases Nat.lt_or_ge p (256 * m) with hlt | hge
    · rw [List.getElem?_append_left (by omega)]
      exact h2 p hlt hn
    · rw [List.getElem?_append_right (by omega), h1, hs.joined (by omega) (by omega)]
      congr 1
      omega
theorem text_take {D : DM} {start n : Nat} {b : List UInt8} (h : Keeps D start b n) (hd : D.down = false) : (D.text start (nblk n)).take n = b.take n := by
  obtain ⟨h1, h2⟩ := text_get h hd (nblk n) (Nat.le_refl _)
  apply List.ext_getElem?
  intro p
  by_cases hp : p < n
  · rw [List.getElem?_take_of_lt hp, List.getElem?_take_of_lt hp]
    exact h2 p (by unfold nblk; omega) hp
  · rw [List.getElem?_eq_none (by rw [List.length_take]; omega), List.getElem?_eq_none (by rw [List.length_take]; omega)]
/-- The log is opened again. -/
theorem Keeps.opens {D : DM} {start blocks n : Nat} {ss : List (List UInt8)} {b : List UInt8} (h : Keeps D start b n) (hd : D.down = false) (hb : b.take n = recsL ss) (hs : ∀ s ∈ ss, s.length ≤ 65536) (h1 : 1 ≤ blocks) (h2 : start + blocks ≤ D.blocks.length) (h3 : n ≤ 256 * blocks) :
    D.openL start blocks n = (0, some ⟨start, blocks, recsL ss, n⟩) := by
  unfold DM.openL
  rw [if_neg (by omega), if_neg (by simp [hd]), Int.toNat_natCast, Int.toNat_natCast, Int.toNat_natCast, text_take h hd, hb, parseL_recs hs, if_pos rfl]
theorem Keeps.same {D D' : DM} {start n : Nat} {b : List UInt8} (h : Keeps D start b n) (h1 : D'.blocks = D.blocks) (h2 : ∀ x ∈ D'.waits, x ∈ D.waits) : Keeps D' start b n :=
  ⟨by rw [h1]; exact h.len, by rw [h1]; exact h.bl, fun x hx => h.ws x (h2 x hx)⟩
theorem Keeps.fall {D : DM} {start n : Nat} {b : List UInt8} (h : Keeps D start b n) (keep : List Int) : Keeps (D.fall keep) start b n := by
  refine ⟨?_, fun i hi => ?_, fun x hx => by cases hx⟩
  · show _ ≤ (fallTo D.blocks D.waits keep D.waits.length).length
    rw [fallTo_length]
    exact h.len
  · exact fall_P (P := SecP b n i) SecP.mix (fun x hx e => h.ws x hx i e hi) (h.bl i hi) _
theorem Keeps.flushed {D : DM} {start n : Nat} {b : List UInt8} (h : Keeps D start b n) : Keeps { D with blocks := flushTo D.blocks D.waits D.waits.length, waits := [] } start b n := by
  refine ⟨?_, fun i hi => ?_, fun x hx => by cases hx⟩
  · show _ ≤ (flushTo D.blocks D.waits D.waits.length).length
    rw [flushTo_length]
    exact h.len
  · exact flush_P (P := SecP b n i) (fun x hx e => h.ws x hx i e hi) _ (.inl (h.bl i hi))

/-- The writes of a log. -/
def logWs (start : Nat) (b : List UInt8) (i n : Nat) : Ws := (List.range' i n).map fun j => ((start : Int) + (j : Nat), cutS (ofL (blkAt b j)))
theorem logWs_mem {start i n : Nat} {b : List UInt8} {x : Int × List ByteArray} (h : x ∈ logWs start b i n) : ∃ j, i ≤ j ∧ j < i + n ∧ x = ((start : Int) + (j : Nat), cutS (ofL (blkAt b j))) := by
  obtain ⟨j, hj, rfl⟩ := List.mem_map.1 h
  rw [List.mem_range'] at hj
  obtain ⟨k, hk, rfl⟩ := hj
  exact ⟨i + 1 * k, by omega, by omega, rfl⟩
theorem logWrite_free {start : Nat} {b : List UInt8} : ∀ (n i : Nat) {D : DM}, D.armed = false → D.down = false → start + i + n ≤ D.blocks.length → D.logWrite start b i n = (0, { D with waits := D.waits ++ logWs start b i n })
  | 0, i, D, _, _, _ => by simp [DM.logWrite, logWs]
  | n + 1, i, D, h1, h2, h3 => by
    have hw : D.write ((start : Int) + i) (ofL (blkAt b i)) = (0, { D with waits := D.waits ++ [((start : Int) + i, cutS (ofL (blkAt b i)))] }) := write_free h1 h2 (by omega) (by omega) (blkAt_size _ _)
    unfold DM.logWrite
    rw [hw]
    simp only [ne_eq, not_true_eq_false, if_false]
    rw [logWrite_free n (i + 1) (D := { D with waits := D.waits ++ [((start : Int) + i, cutS (ofL (blkAt b i)))] }) h1 h2 (by show _ ≤ D.blocks.length; omega)]
    simp [logWs, List.range'_succ]
theorem LM.write_free {L : LM} (ok : L.Ok) {D : DM} (h1 : D.armed = false) (h2 : D.down = false) (h3 : L.start + L.blocks ≤ D.blocks.length) :
    L.write D = (0, { D with waits := D.waits ++ if L.sealed < L.b.length then logWs L.start L.b (L.sealed / 256) (nblk L.b.length - L.sealed / 256) else [] }) := by
  have hl := ok.len
  unfold LM.write
  split
  · rw [logWrite_free _ _ h1 h2 (by unfold nblk; omega)]
  · simp
/-- Behind a write, a flush: all of a log lasts. -/
theorem LM.lasts {L : LM} (ok : L.Ok) (h0 : L.sealed = 0) {D : DM} (hw : D.waits = []) (h1 : D.armed = false) (h2 : D.down = false) (h3 : L.start + L.blocks ≤ D.blocks.length) :
    ∃ D', (L.write D).1 = 0 ∧ (L.write D).2.flush = (0, D') ∧ Keeps D' L.start L.b L.b.length ∧ D'.waits = [] ∧ D'.armed = false ∧ D'.down = false ∧ D'.blocks.length = D.blocks.length := by
  have hl := ok.len
  rw [LM.write_free ok h1 h2 h3, hw, List.nil_append]
  refine ⟨_, rfl, flush_free h1 h2, ⟨?_, fun i hi => ?_, fun x hx => by cases hx⟩, rfl, h1, h2, flushTo_length _ _ _⟩
  · show _ ≤ (flushTo _ _ _).length
    rw [flushTo_length]
    show _ ≤ D.blocks.length
    unfold nblk
    omega
  · have hi' : i < (L.b.length + 255) / 256 := hi
    have hpos : L.sealed < L.b.length := by omega
    rw [if_pos hpos, h0]
    refine flush_P (P := SecP L.b L.b.length i) (fun x hx e => ?_) _ (.inr ?_)
    · obtain ⟨j, hj1, hj2, rfl⟩ := logWs_mem hx
      simp only at e
      obtain rfl : j = i := by omega
      exact SecP.blk (Nat.le_refl _) rfl j
    · rw [List.take_of_length_le (Nat.le_refl _)]
      refine ⟨((L.start : Int) + (i : Nat), cutS (ofL (blkAt L.b i))), List.mem_map.2 ⟨i, ?_, rfl⟩, by show ((L.start : Int) + (i : Nat)).toNat = _; omega⟩
      rw [List.mem_range']
      exact ⟨i, by unfold nblk; omega, by omega⟩
/-- A write behind what is sealed. -/
theorem Keeps.write {L : LM} (ok : L.Ok) {D : DM} {b : List UInt8} {n : Nat} (h : Keeps D L.start b n) (h1 : D.armed = false) (h2 : D.down = false) (h3 : L.start + L.blocks ≤ D.blocks.length) (hn : n ≤ L.b.length) (hb : L.b.take n = b.take n) :
    (L.write D).1 = 0 ∧ Keeps (L.write D).2 L.start b n ∧ (L.write D).2.waits.length ≤ D.waits.length + L.blocks ∧ (L.write D).2.armed = false ∧ (L.write D).2.down = false ∧ (L.write D).2.blocks = D.blocks := by
  have hl := ok.len
  rw [LM.write_free ok h1 h2 h3]
  refine ⟨rfl, ⟨h.len, h.bl, fun x hx i e hi => ?_⟩, ?_, h1, h2, rfl⟩
  · rcases List.mem_append.1 hx with hx | hx
    · exact h.ws x hx i e hi
    · split at hx
      · obtain ⟨j, hj1, hj2, rfl⟩ := logWs_mem hx
        simp only at e
        obtain rfl : j = i := by omega
        exact SecP.blk hn hb j
      · cases hx
  · show (D.waits ++ _).length ≤ _
    rw [List.length_append]
    split
    · simp [logWs]
      unfold nblk
      omega
    · simp
end Go.Proofs.Ythgopkppmppdoaa
