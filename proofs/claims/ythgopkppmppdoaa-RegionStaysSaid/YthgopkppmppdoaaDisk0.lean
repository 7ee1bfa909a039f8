/-
  Disks: how one lies in memory, and what the small functions of package disk do with it.
-/
import Derived.Test.YthgopkppmppdoaaSh1
import Derived.Test.YthgopkppmppdoaaSh2
import Derived.Test.YthgopkppmppdoaaRul
import Derived.Test.YthgopkppmppdoaaArr
set_option linter.unusedVariables false
set_option maxRecDepth 20000
namespace Go.Proofs.Ythgopkppmppdoaa
open Go Go.Proofs Go.Vc

/-- A disk: its blocks of four sectors, what waits, and its arm. -/
structure DM where
  blocks : List (List ByteArray)
  waits : List (Int × List ByteArray)
  down : Bool
  armed : Bool
  after : Int
  cut : Bool
  keep : List Int

/-- Four sectors of 64 bytes. -/
def Sec (b : List ByteArray) : Prop := b.length = 4 ∧ ∀ s ∈ b, s.size = 64
/-- The text of sectors. -/
def joined (b : List ByteArray) : ByteArray := ⟨((b.map fun x => x.data.toList).flatten).toArray⟩
theorem joined_len (b : List ByteArray) (h : ∀ s ∈ b, s.size = 64) : ((b.map fun x => x.data.toList).flatten).length = 64 * b.length := by
  induction b with
  | nil => rfl
  | cons x b ih =>
    have hx : x.data.size = 64 := h x (List.mem_cons_self ..)
    rw [List.map_cons, List.flatten_cons, List.length_append, ih fun s hs => h s (List.mem_cons_of_mem _ hs), List.length_cons, Array.length_toList, hx]
    omega
theorem joined_size {b : List ByteArray} (h : Sec b) : (joined b).size = 256 := by
  show (List.toArray _).size = 256
  rw [List.size_toArray, joined_len b h.2, h.1]

def encB (b : List ByteArray) : List Value := b.map .string
def encW (x : Int × List ByteArray) : List Value := .int .i64 x.1 :: encB x.2
def encI (l : List Int) : List Value := l.map (.int .i64)

structure DiskAt (w : World) (p : Nat) (fp : Nat → Prop) (D : DM) (vb vw vk : Value) : Prop where
  cells : Blk w p 131 [vb, vw, .bool D.down, .bool D.armed, .int .i64 D.after, .bool D.cut, vk]
  blocks : Row w 124 4 vb D.blocks.length (D.blocks.flatMap encB)
  waits : Row w 136 5 vw D.waits.length (D.waits.flatMap encW)
  keep : Row w 3 1 vk D.keep.length (encI D.keep)
  fpp : fp p
  fpb : ∀ k, Fp vb k → fp k
  fpw : ∀ k, Fp vw k → fp k
  fpk : ∀ k, Fp vk k → fp k
  fplt : ∀ k, fp k → k < w.heap.size
  b4 : ∀ b ∈ D.blocks, Sec b
  w4 : ∀ x ∈ D.waits, Sec x.2 ∧ 0 ≤ x.1 ∧ x.1 < D.blocks.length
  bn : D.blocks.length ≤ 128

def dptr (p : Nat) : Value := .pointer (some ⟨p, 0, none⟩)

theorem row_ne {w : World} {T T' sz n b : Nat} {v : Value} {xs cs : List Value} (h : Row w T sz v n xs) (hb : Blk w b T' cs) (hT : T ≠ T') : ¬ Fp v b := by
  intro hf
  rcases h.form with ⟨rfl, _⟩ | ⟨g, cap, cs', rfl, hg, _⟩
  · cases hf
  · have : g = b := by simpa [Fp, Value.ownBlock] using hf
    subst this
    exact hT (hg.inj hb).1
theorem row_ne_row {w : World} {T T' sz sz' n n' : Nat} {v v' : Value} {xs xs' : List Value} (h : Row w T sz v n xs) (h' : Row w T' sz' v' n' xs') (hT : T ≠ T') {k : Nat} (hk : Fp v k) : ¬ Fp v' k := by
  intro hf
  rcases h'.form with ⟨rfl, _⟩ | ⟨g, cap, cs', rfl, hg, _⟩
  · cases hf
  · have : g = k := by simpa [Fp, Value.ownBlock] using hf
    subst this
    exact row_ne h hg hT hk

section
variable {w : World} {p : Nat} {fp : Nat → Prop} {D : DM} {vb vw vk : Value} {K : Value → World → Prop}

theorem blocks_c (h : DiskAt w p fp D vb vw vk) (k : K (.int .i64 D.blocks.length) w) : mCall Try.prog 32 #[dptr p] w K := by
  refine ⟨ok32 ?_⟩
  unfold sh32 dptr
  obtain ⟨A, c, rfl⟩ := h.blocks.slice
  try simp only [push_cast, Option.isNone_some]
  refine mN_v (r_loadB _ (by kernel_rfl) h.cells rfl) ?_
  try simp only [push_cast]
  exact k
theorem waits_c (h : DiskAt w p fp D vb vw vk) (k : K (.int .i64 D.waits.length) w) : mCall Try.prog 28 #[dptr p] w K := by
  refine ⟨ok28 ?_⟩
  unfold sh28 dptr
  obtain ⟨A, c, rfl⟩ := h.waits.slice
  try simp only [push_cast, Option.isNone_some]
  refine mN_v (r_loadB _ (by kernel_rfl) h.cells rfl) ?_
  try simp only [push_cast]
  exact k
theorem in_c (h : DiskAt w p fp D vb vw vk) (i : Int) (k : K (.bool (decide (0 ≤ i ∧ i < D.blocks.length))) w) : mCall Try.prog 76 #[dptr p, .int .i64 i] w K := by
  refine ⟨ok76 ?_⟩
  unfold sh76
  try simp only [push_cast]
  refine mIf_dec (fun h0 => ?_) fun h0 => ?_
  · refine blocks_c h ?_
    try simp only [push_cast]
    rwa [show decide (i < D.blocks.length) = decide (0 ≤ i ∧ i < D.blocks.length) from by simp [h0]]
  · rwa [show false = decide (0 ≤ i ∧ i < D.blocks.length) from by simp; omega]
theorem up_c (h : DiskAt w p fp D vb vw vk) (k : K (.bool (!D.down)) w) : mCall Try.prog 27 #[dptr p] w K := by
  refine ⟨ok27 ?_⟩
  unfold sh27 dptr
  try simp only [push_cast, Option.isNone_some]
  refine mN_v (r_loadB _ (by kernel_rfl) h.cells rfl) ?_
  try simp only [push_cast]
  exact k

/-- A store into a disk's own cells. -/
theorem DiskAt.put {w' : World} (h : DiskAt w p fp D vb vw vk) {D' : DM} (hb : D'.blocks = D.blocks) (hw : D'.waits = D.waits) (hk : D'.keep = D.keep) (u : Upd w w' (· = p)) (hs : w'.heap.size = w.heap.size)
    (hc : Blk w' p 131 [vb, vw, .bool D'.down, .bool D'.armed, .int .i64 D'.after, .bool D'.cut, vk]) : DiskAt w' p fp D' vb vw vk := by
  refine ⟨hc, ?_, ?_, ?_, h.fpp, h.fpb, h.fpw, h.fpk, fun k hk => (by rw [hs]; exact h.fplt k hk), by rw [hb]; exact h.b4, by rw [hb, hw]; exact h.w4, by rw [hb]; exact h.bn⟩
  · rw [hb]
    exact h.blocks.keep u fun k hf e => row_ne h.blocks h.cells (by decide) (e ▸ hf)
  · rw [hw]
    exact h.waits.keep u fun k hf e => row_ne h.waits h.cells (by decide) (e ▸ hf)
  · rw [hk]
    exact h.keep.keep u fun k hf e => row_ne h.keep h.cells (by decide) (e ▸ hf)

theorem start_c (h : DiskAt w p fp D vb vw vk) (k0 : D.down = false → K (.int .i64 7) w)
    (k1 : D.down = true → ∀ w', DiskAt w' p fp { D with down := false } vb vw vk → Upd w w' (· = p) → w'.heap.size = w.heap.size → K (.int .i64 0) w') : mCall Try.prog 31 #[dptr p] w K := by
  refine ⟨ok31 ?_⟩
  unfold sh31 dptr
  try simp only [push_cast, Option.isNone_some]
  refine mN_v (r_loadB _ (by kernel_rfl) h.cells rfl) ?_
  try simp only [push_cast]
  cases hd : D.down with
  | false => exact k0 hd
  | true =>
    try simp only [push_cast]
    refine mN_store1 (by kernel_rfl) h.cells (by simp) rfl fun w' hb hu hs => ?_
    exact k1 hd w' (h.put (D' := { D with down := false }) rfl rfl rfl hu hs hb) hu hs
end

/-! A nil disk. -/
section
variable {w : World} {K : Value → World → Prop}
theorem blocks_nil (k : K (.int .i64 0) w) : mCall Try.prog 32 #[.pointer none] w K := by
  refine ⟨ok32 ?_⟩
  unfold sh32
  try simp only [push_cast, Option.isNone_none]
  exact k
theorem waits_nil (k : K (.int .i64 0) w) : mCall Try.prog 28 #[.pointer none] w K := by
  refine ⟨ok28 ?_⟩
  unfold sh28
  try simp only [push_cast, Option.isNone_none]
  exact k
theorem up_nil (k : K (.bool false) w) : mCall Try.prog 27 #[.pointer none] w K := by
  refine ⟨ok27 ?_⟩
  unfold sh27
  try simp only [push_cast, Option.isNone_none]
  exact k
theorem start_nil (k : K (.int .i64 7) w) : mCall Try.prog 31 #[.pointer none] w K := by
  refine ⟨ok31 ?_⟩
  unfold sh31
  try simp only [push_cast, Option.isNone_none]
  exact k
theorem in_nil (i : Int) (k : K (.bool false) w) : mCall Try.prog 76 #[.pointer none, .int .i64 i] w K := by
  refine ⟨ok76 ?_⟩
  unfold sh76
  try simp only [push_cast]
  refine mIf_dec (fun h0 => ?_) fun h0 => k
  refine blocks_nil ?_
  try simp only [push_cast]
  rwa [show decide (i < 0) = false from by simp; omega]
end

end Go.Proofs.Ythgopkppmppdoaa
