/-
  Slots: the reference chooses, puts, formats.
-/
import Derived.Test.YthgopkppmppdoaaSlot5
set_option linter.unusedVariables false
set_option linter.unusedSimpArgs false
set_option maxRecDepth 20000
namespace Go.Proofs.Ythgopkppmppdoaa
open Go Go.Proofs Go.Vc
open Go.RowKit (Below intOf)

def chosenC (c : SM × Int × Int) : List Value := [.int .i64 c.1.number, .int .i64 c.1.region, .int .i64 c.1.bytes, .int .i64 c.1.records, .int .i64 c.2.1, .int .i64 c.2.2]
theorem chosenC_one (c : SM × Int × Int) : ∀ v ∈ chosenC c, v.oneCell' = true := by
  intro v hv
  simp only [chosenC, List.mem_cons, List.not_mem_nil, or_false] at hv
  rcases hv with rfl | rfl | rfl | rfl | rfl | rfl <;> rfl
theorem zero84 (w : World) : (Instr.alloc 84 true (.tuple #[])).run Try.prog w = .ok (.pointer (some ⟨w.heap.size, 0, none⟩)) (w.alloc (.cells (chosenC (SM.zero, 0, 0)).toArray 84 (0, 0))) := by kernel_rfl
theorem build84e (e : Int) (w : World) : (Instr.build 84 #[(2, .int .i64 e)]).run Try.prog w = .ok (.agg (chosenC (SM.zero, 0, e)).toArray) w := by kernel_rfl
theorem build84s (s : SM) (a : Int) (w : World) : (Instr.build 84 #[(0, slotV s), (1, .int .i64 a), (2, .int .i64 0)]).run Try.prog w = .ok (.agg (chosenC (s, a, 0)).toArray) w := by kernel_rfl

section
variable {w : World} {K : Value → World → Prop} {p N : Nat} {fp : Nat → Prop} {D : DM}

theorem choose_of {D : DM} (h0 : (D.read 0).2 = 0) (h1 : (D.read 1).2 = 0) : D.choose = if (best1 (rd D 0) (rd D 1)).2 < 0 then (SM.zero, 0, 290) else ((best1 (rd D 0) (rd D 1)).1, (best1 (rd D 0) (rd D 1)).2, 0) := by
  unfold DM.choose
  rw [if_neg (by simp [h0]), if_neg (by simp [h1])]

theorem isref_read_size (h : IsRef w p fp N D) (i : Int) : (D.read i).1.size ≤ 256 := by
  obtain ⟨⟨vb, vw, vk, h⟩, _⟩ := h
  unfold DM.read
  split
  · exact Nat.zero_le _
  · rename_i hi
    split
    · exact Nat.zero_le _
    · have hi : 0 ≤ i ∧ i < D.blocks.length := by
        rcases Decidable.em (0 ≤ i ∧ i < D.blocks.length) with h | h
        · exact h
        · exact absurd h hi
      obtain ⟨b, hb⟩ : ∃ b, D.blocks[i.toNat]? = some b := ⟨_, List.getElem?_eq_getElem (by omega)⟩
      have : Sec (lastW i (D.blocks.getD i.toNat []) D.waits) := lastW_sec (by
        rw [List.getD_eq_getElem?_getD, hb]
        exact h.b4 b (List.mem_of_getElem? hb)) fun x hx => (h.w4 x hx).1
      exact Nat.le_of_eq (joined_size this)

/-- rectoref28.Choose -/
theorem rchoose_c (h : IsRef w p fp N D) (k : ∀ w', Ext w w' → K (.agg (chosenC D.choose).toArray) w') : mCall Try.prog 50 #[dptr p] w K := by
  refine ⟨ok50 ?_⟩
  unfold sh50
  refine mN_new (zero84 w) fun w1 h1 u1 s1 => ?_
  refine isref_read (h.ext u1) 0 fun w2 u2 => ?_
  try simp only [push_cast]
  have h2 := h1.keep u2 id
  have a2 := u1.ext u2
  refine mIf_neI (fun he => ?_) fun he0 => ?_
  · have hch : D.choose = (SM.zero, 0, (D.read 0).2) := by
      unfold DM.choose
      rw [if_pos he]
    rw [hch] at k
    refine mN_v (build84e _ _) ?_
    exact ret_agg (by kernel_rfl) (n := 6) rfl (by kernel_rfl) h2 rfl (chosenC_one _) a2 (Nat.le_refl _) k
  refine isref_read (h.ext a2) 1 fun w3 u3 => ?_
  try simp only [push_cast]
  have h3 := h2.keep u3 id
  have a3 := a2.ext u3
  refine mIf_neI (fun he => ?_) fun he1 => ?_
  · have hch : D.choose = (SM.zero, 0, (D.read 1).2) := by
      unfold DM.choose
      rw [if_neg (by simp [he0]), if_pos he]
    rw [hch] at k
    refine mN_v (build84e _ _) ?_
    exact ret_agg (by kernel_rfl) (n := 6) rfl (by kernel_rfl) h3 rfl (chosenC_one _) a3 (Nat.le_refl _) k
  rw [choose_of he0 he1] at k
  have z0 := isref_read_size h 0
  have z1 := isref_read_size h 1
  refine rsread_c (l := (D.read 0).1.data.toList) (by
    have : (D.read 0).1.data.toList.length = (D.read 0).1.size := rfl
    omega) fun w4 u4 => ?_
  refine mN_new (zero173 w4) fun w5 h5 u5 s5 => ?_
  rw [show readL (D.read 0).1.data.toList = rd D 0 from rfl]
  refine mN_storeN (vs := gotSV (rd D 0)) (by rw [gotSV_len]; kernel_rfl) h5 (by rw [gotSV_len]; simp [gotSV, slotC]) (gotSV_one _) fun w6 h6 u6 s6 => ?_
  rw [splice_all _ _ (show (gotSV none).length = _ from by rw [gotSV_len, gotSV_len])] at h6
  have u46 : Ext w4 w6 := u5.trans u6 (fun _ _ x => x) fun i hi e => by omega
  have a6 := (a3.ext u4).ext u46
  have b6 := (h3.keep u4 id).keep u46 id
  refine rsread_c (l := (D.read 1).1.data.toList) (by
    have : (D.read 1).1.data.toList.length = (D.read 1).1.size := rfl
    omega) fun w7 u7 => ?_
  refine mN_new (zero173 w7) fun w8 h8 u8 s8 => ?_
  rw [show readL (D.read 1).1.data.toList = rd D 1 from rfl]
  refine mN_storeN (vs := gotSV (rd D 1)) (by rw [gotSV_len]; kernel_rfl) h8 (by rw [gotSV_len]; simp [gotSV, slotC]) (gotSV_one _) fun w9 h9 u9 s9 => ?_
  rw [splice_all _ _ (show (gotSV none).length = _ from by rw [gotSV_len, gotSV_len])] at h9
  have u79 : Ext w7 w9 := u8.trans u9 (fun _ _ x => x) fun i hi e => by omega
  have a9 := (a6.ext u7).ext u79
  have b9 := (b6.keep u7 id).keep u79 id
  have h6 := (h6.keep u7 id).keep u79 id
  have hret : ∀ (c : SM × Int × Int), (∀ w', Ext w w' → K (.agg (chosenC c).toArray) w') → mN Try.prog (uS (Instr.storeAt 84 (.pointer (some ⟨w.heap.size, 0, none⟩)) (.agg (chosenC c).toArray))) w9 fun _ w_1 => mRes Try.prog (cellS 84 (.pointer (some ⟨w.heap.size, 0, none⟩))) w_1 fun r0 => K r0 w_1 :=
    fun c k => ret_agg (by kernel_rfl) (n := 6) rfl (by kernel_rfl) b9 rfl (chosenC_one _) a9 (Nat.le_refl _) k
  try simp only [push_cast]
  cases hd0 : rd D 0 with
  | none =>
    rw [hd0] at h6 k
    simp only [gotSV, slotC, List.cons_append, List.nil_append] at h6
    cases hd1 : rd D 1 with
    | none =>
      rw [hd1] at h9 k
      simp only [gotSV, slotC, List.cons_append, List.nil_append] at h9
      rw [mJ_eq]
      refine mN_v (r_loadB _ (by kernel_rfl) h6 rfl) ?_
      try simp only [push_cast, Bool.not_false]
      refine mN_v (r_loadB _ (by kernel_rfl) h9 rfl) ?_
      try simp only [push_cast, Bool.not_false]
      refine mN_v (build84e _ _) ?_
      exact hret _ k
    | some b =>
      rw [hd1] at h9 k
      have hb1 := (SM.right_iff.1 (readL_right hd1).1).1
      have ek : (if (best1 none (some b)).2 < 0 then (SM.zero, 0, 290) else ((best1 none (some b)).1, (best1 none (some b)).2, (0 : Int))) = (b, 1, 0) := by
        have e : best1 none (some b) = if (0 : Int) < b.number then (b, 1) else (SM.zero, -1) := rfl
        rw [e, if_pos (show (0 : Int) < b.number from by omega)]
        rfl
      rw [ek] at k
      simp only [gotSV, slotC, List.cons_append, List.nil_append] at h9
      rw [mJ_eq]
      refine mN_v (r_loadB _ (by kernel_rfl) h6 rfl) ?_
      try simp only [push_cast, Bool.not_false]
      refine mN_v (r_loadB _ (by kernel_rfl) h9 rfl) ?_
      try simp only [push_cast, Bool.not_true]
      refine mN_v (r_loadB _ (by kernel_rfl) h6 rfl) ?_
      try simp only [push_cast, Bool.not_false]
      refine mN_v (r_loadN _ (T := 82) (n := 4) (by kernel_rfl) (by kernel_rfl) h9 (o := 0) (by simp)) ?_
      refine mN_v (build84s b 1 _) ?_
      exact hret _ k
  | some a =>
    rw [hd0] at h6 k
    simp only [gotSV, slotC, List.cons_append, List.nil_append] at h6
    cases hd1 : rd D 1 with
    | none =>
      rw [hd1] at h9 k
      simp only [gotSV, slotC, List.cons_append, List.nil_append] at h9
      rw [mJ_eq]
      refine mN_v (r_loadB _ (by kernel_rfl) h6 rfl) ?_
      try simp only [push_cast, Bool.not_true]
      refine mN_v (r_loadB _ (by kernel_rfl) h6 rfl) ?_
      try simp only [push_cast, Bool.not_true]
      refine mN_v (r_loadB _ (by kernel_rfl) h9 rfl) ?_
      try simp only [push_cast, Bool.not_true]
      refine mN_v (r_loadN _ (T := 82) (n := 4) (by kernel_rfl) (by kernel_rfl) h6 (o := 0) (by simp)) ?_
      refine mN_v (build84s a 0 _) ?_
      exact hret _ k
    | some b =>
      rw [hd1] at h9 k
      have ek : (if (best1 (some a) (some b)).2 < 0 then (SM.zero, 0, 290) else ((best1 (some a) (some b)).1, (best1 (some a) (some b)).2, (0 : Int))) = if a.number < b.number then (b, 1, 0) else (a, 0, 0) := by
        have e : best1 (some a) (some b) = if a.number < b.number then (b, 1) else (a, 0) := rfl
        rw [e]
        split <;> rfl
      rw [ek] at k
      simp only [gotSV, slotC, List.cons_append, List.nil_append] at h9
      rw [mJ_eq]
      refine mN_v (r_loadB _ (by kernel_rfl) h6 rfl) ?_
      try simp only [push_cast, Bool.not_true]
      refine mN_v (r_loadB _ (by kernel_rfl) h6 rfl) ?_
      try simp only [push_cast, Bool.not_true]
      refine mN_v (r_loadB _ (by kernel_rfl) h9 rfl) ?_
      try simp only [push_cast, Bool.not_true]
      refine mN_v (r_loadB _ (by kernel_rfl) h9 rfl) ?_
      try simp only [push_cast]
      refine mN_v (r_loadB _ (by kernel_rfl) h6 rfl) ?_
      try simp only [push_cast]
      refine mIf_dec (fun hlt => ?_) fun hlt => ?_
      · rw [if_pos hlt] at k
        refine mN_v (r_loadN _ (T := 82) (n := 4) (by kernel_rfl) (by kernel_rfl) h9 (o := 0) (by simp)) ?_
        refine mN_v (build84s b 1 _) ?_
        exact hret _ k
      · rw [if_neg hlt] at k
        refine mN_v (r_loadN _ (T := 82) (n := 4) (by kernel_rfl) (by kernel_rfl) h6 (o := 0) (by simp)) ?_
        refine mN_v (build84s a 0 _) ?_
        exact hret _ k

theorem RAfter.pre {w w1 w2 : World} {D' : DM} (u : Ext w w1) (a : RAfter w1 p fp N D' w2) : RAfter w p fp N D' w2 := by
  obtain ⟨fp', h, u2, y⟩ := a
  exact ⟨fp', h, u.trans u2 (fun _ _ x => x.elim) fun _ _ x => x, fun k hk => (y k hk).imp id fun e => Nat.le_trans u.size e⟩
theorem RAfter.then {w w1 w2 : World} {D2 : DM} {fp1 : Nat → Prop} (u : Upd w w1 fp) (y : ∀ k, fp1 k → fp k ∨ w.heap.size ≤ k) (a : RAfter w1 p fp1 N D2 w2) : RAfter w p fp N D2 w2 := by
  obtain ⟨fp2, h, u2, y2⟩ := a
  refine ⟨fp2, h, u.trans u2 (fun _ _ x => x) fun i hi hf => (y i hf).resolve_right (by omega), fun k hk => ?_⟩
  rcases y2 k hk with h1 | h1
  · exact y k h1
  · exact .inr (Nat.le_trans u.size h1)
theorem IsRef.after {w' : World} (h : IsRef w p fp N D) (u : Ext w w') : RAfter w p fp N D w' := ⟨fp, h.ext u, u.mono fun _ _ => False.elim, fun _ x => .inl x⟩

/-- rectoref28.Put -/
theorem rput_c (h : IsRef w p fp N D) (hwn : D.waits.length ≤ 1000000000) (hN : N ≤ w.heap.size) (s : SM) (k : ∀ w', RAfter w p fp N (D.put s).2 w' → K (.int .i64 (D.put s).1) w') : mCall Try.prog 101 #[dptr p, slotV s] w K := by
  refine ⟨ok101 ?_⟩
  unfold sh101
  refine mN_new (box82 s w) fun w1 h1 u1 s1 => ?_
  refine rchoose_c (h.ext u1) fun w2 u2 => ?_
  refine mN_new (zero84 w2) fun w3 h3 u3 s3 => ?_
  refine mN_storeN (vs := chosenC D.choose) (by kernel_rfl) h3 (by simp [chosenC]) (chosenC_one _) fun w4 h4 u4 s4 => ?_
  rw [splice_all _ _ (by simp [chosenC])] at h4
  have u24 : Ext w2 w4 := u3.trans u4 (fun _ _ x => x) fun i hi e => by omega
  have a4 := (u1.ext u2).ext u24
  have hb4 := (h1.keep u2 id).keep u24 id
  unfold DM.put at k
  try simp only [push_cast]
  refine mN_v (r_loadB _ (by kernel_rfl) h4 rfl) ?_
  try simp only [push_cast]
  refine mIf_neI (fun he => ?_) fun he => ?_
  · rw [if_pos he] at k
    refine mN_v (r_loadB _ (by kernel_rfl) h4 rfl) ?_
    exact k w4 (h.after a4)
  rw [if_neg (by simp [he])] at k
  obtain ⟨hcr, hat⟩ := choose_right he
  obtain ⟨r1, r2, _⟩ := SM.right_iff.1 hcr
  refine mN_v (r_loadB _ (by kernel_rfl) h4 rfl) ?_
  try simp only [push_cast]
  rw [i64w (D.choose.1.number + 1) (by omega) (by omega)]
  refine mN_v (r_loadB _ (by kernel_rfl) hb4 rfl) ?_
  try simp only [push_cast]
  refine mN_v (r_loadB _ (by kernel_rfl) hb4 rfl) ?_
  try simp only [push_cast]
  refine mN_v (r_loadB _ (by kernel_rfl) hb4 rfl) ?_
  try simp only [push_cast]
  refine mN_v (build82n (D.choose.1.next s) _) ?_
  refine mN_new (zero82 w4) fun w5 h5 u5 s5 => ?_
  refine mN_storeN (vs := slotC (D.choose.1.next s)) (by kernel_rfl) h5 (by simp [slotC]) (slotC_one _) fun w6 h6 u6 s6 => ?_
  rw [splice_all _ _ (by simp [slotC])] at h6
  have u46 : Ext w4 w6 := u5.trans u6 (fun _ _ x => x) fun i hi e => by omega
  have a6 := a4.ext u46
  have h4 := h4.keep u46 id
  have hld : ∀ {w' : World}, Ext w6 w' → (Instr.loadAt 82 (.pointer (some ⟨w4.heap.size, 0, none⟩))).run Try.prog w' = .ok (slotV (D.choose.1.next s)) w' := fun u => by
    have := r_loadN (P := Try.prog) _ (T := 82) (n := 4) (by kernel_rfl) (by kernel_rfl) (h6.keep u id) (o := 0) (by simp [slotC])
    exact this
  refine mN_v (hld (Upd.refl _ _)) ?_
  refine rright_c _ fun w7 u7 => ?_
  try simp only [push_cast]
  have a7 := a6.ext u7
  cases hr : (D.choose.1.next s).right with
  | false =>
    rw [if_pos hr] at k
    try simp only [push_cast, Bool.not_false]
    exact k w7 (h.after a7)
  | true =>
    rw [if_neg (by simp [hr])] at k
    try simp only [push_cast, Bool.not_true]
    unfold mDrew
    have h4 := (h4.keep u7 id).drew
    have u67 : Ext w6 w7.drew := u7.drewn
    have a8 : Ext w w7.drew := a7.drewn
    generalize w7.drew = w8 at h4 u67 a8
    refine mR_v (r_loadB _ (by kernel_rfl) h4 rfl) ?_
    try simp only [push_cast]
    rw [i64w _ (by omega) (by omega)]
    refine mR_v (hld u67) ?_
    refine rplainS_c hr fun w9 u9 => ?_
    have h4 := h4.keep u9 id
    have a9 := a8.ext u9
    refine ⟨rdN_v (r_loadB _ (by kernel_rfl) h4 rfl), ?_⟩
    refine isref_write (h.ext a9) hwn (Nat.le_trans hN a9.size) (1 - D.choose.2.1) _ fun w10 d10 => ?_
    have h4 := h4.keep d10.choose_spec.2.1 fun hf => by
      have := h.lt hf
      have := (u1.ext u2).size
      omega
    have d10' := d10.pre a9
    refine ⟨rdN_v (r_loadB _ (by kernel_rfl) h4 rfl), ?_⟩
    try simp only [push_cast]
    refine mIf_neI (fun hw => ?_) fun hw => ?_
    · rw [if_pos hw] at k
      exact k w10 d10'
    rw [if_neg (by simp [hw])] at k
    obtain ⟨fp7, h7, u7, y7⟩ := d10'
    refine isref_flush h7 fun w11 d11 => ?_
    exact k w11 (RAfter.then u7 y7 d11)

/-- rectoref28.Format -/
theorem rformat_c (h : IsRef w p fp N D) (hwn : D.waits.length ≤ 1000000) (hN : N ≤ w.heap.size) (k : ∀ w', RAfter w p fp N D.format.2 w' → K (.int .i64 D.format.1) w') : mCall Try.prog 102 #[dptr p] w K := by
  unfold DM.format at k
  refine ⟨ok102 ?_⟩
  unfold sh102
  have hb : (Instr.build 82 #[(0, .int .i64 1)]).run Try.prog w = .ok (slotV SM.one) w := by kernel_rfl
  refine mN_v hb ?_
  refine rplainS_c one_right fun w1 u1 => ?_
  have hww := write_waits D 0 (ofL (blockL SM.one))
  refine isref_write (h.ext u1) (by omega) (Nat.le_trans hN u1.size) 0 _ fun w2 d2 => ?_
  have d2 := d2.pre u1
  try simp only [push_cast]
  refine mIf_neI (fun he => ?_) fun he1 => ?_
  · rw [if_pos he] at k
    exact k w2 d2
  rw [if_neg (by simp [he1])] at k
  obtain ⟨fp2, h2, ux, yx⟩ := d2
  refine padloop_c (l := []) (by simp) ?_ rfl
  rw [zeroS_pad]
  refine isref_write h2 (by omega) (Nat.le_trans hN ux.size) 1 _ fun w3 d3 => ?_
  have d3 := RAfter.then ux yx d3
  try simp only [push_cast]
  refine mIf_neI (fun he => ?_) fun he2 => ?_
  · rw [if_pos he] at k
    exact k w3 d3
  rw [if_neg (by simp [he2])] at k
  obtain ⟨fp3, h3, u3, y3⟩ := d3
  refine isref_flush h3 fun w4 d4 => ?_
  exact k w4 (RAfter.then u3 y3 d4)
end
end Go.Proofs.Ythgopkppmppdoaa
