/-
  A range over a function, whose body is one region and leaves the loop nowhere.
-/
import Derived.Test.YthgopkppmppdoaaLib
set_option linter.unusedVariables false
set_option linter.unusedSimpArgs false
namespace Go.Vc
open Go

section
variable {P : Program} {cOk : Nat → Bool} {ds : List Deferred} {n : Nat}

theorem wpIn_vc (hP : CallsOk P cOk) (hm : P.follows .mixedOrders = true) {c : Code} {k : Sk} {L : Env} {w : World} {a : Act} {K : Exit → Env → World → Prop} {Q : Exit → Act → World → Prop} (hL : Has ds n a L) (h : vcC P cOk n c k L w K)
    (hQ : ∀ e a' L' w', Has ds n a' L' → K e L' w' → Q e a' w') : c.wpIn Fence.wide 0 P Q a w :=
  wpIn_wide.2 (wp_mono (vcC_sound hP hm c k L w K a hL h) fun e a1 w1 ⟨L1, hL1, _, hK⟩ => hQ e a1 L1 w1 hL1 hK)

theorem putObj_upd (w : World) (l : Nat) (o : Obj) : Upd w (w.putObj l o) (· = l) := ⟨rfl, rfl, rfl, by simp, fun k _ hn => World.putObj_heap_other hn⟩
theorem putObj_putObj (w : World) (l : Nat) (o o' : Obj) : ((w.putObj l o).putObj l o').heap[l]? = (w.putObj l o').heap[l]? := by
  by_cases h : l < w.heap.size
  · rw [World.putObj_heap_same (by simpa using h), World.putObj_heap_same h]
  · rw [Array.getElem?_eq_none (by simp; omega), Array.getElem?_eq_none (by simp; omega)]

/-- The record of a loop, ready for a round. -/
def Ready (w : World) (l : Nat) (r : Loop) : Prop := w.heap[l]? = some (.loop { r with state := .ready, pending := none })
def Busy (w : World) (l : Nat) (r : Loop) : Prop := w.heap[l]? = some (.loop { r with state := .busy, pending := none })
theorem Ready.lt {w : World} {l : Nat} {r : Loop} (h : Ready w l r) : l < w.heap.size := (Array.getElem?_eq_some_iff.1 h).1
theorem Busy.lt {w : World} {l : Nat} {r : Loop} (h : Busy w l r) : l < w.heap.size := (Array.getElem?_eq_some_iff.1 h).1
theorem Ready.keep {w w' : World} {l : Nat} {r : Loop} {F : Nat → Prop} (h : Ready w l r) (u : Upd w w' F) (hn : ¬ F l) : Ready w' l r := by
  unfold Ready at *
  rw [u.old l (Ready.lt h) hn]
  exact h
theorem Busy.keep {w w' : World} {l : Nat} {r : Loop} {F : Nat → Prop} (h : Busy w l r) (u : Upd w w' F) (hn : ¬ F l) : Busy w' l r := by
  unfold Busy at *
  rw [u.old l (Busy.lt h) hn]
  exact h
/-- An open block for deferred calls. -/
def Opened (w : World) (d : Nat) : Prop := w.heap[d]? = some (.deferred (some []))
theorem Opened.lt {w : World} {d : Nat} (h : Opened w d) : d < w.heap.size := (Array.getElem?_eq_some_iff.1 h).1
theorem Opened.keep {w w' : World} {d : Nat} {F : Nat → Prop} (h : Opened w d) (u : Upd w w' F) (hn : ¬ F d) : Opened w' d := by
  unfold Opened at *
  rw [u.old d (Opened.lt h) hn]
  exact h

/-- yield, of two values. -/
theorem yield_of (hP : CallsOk P cOk) {l p q ia ib ic : Nat} {r : Loop} {asg body : Array Oper} {L : Env} {tmps : Array Value} {w : World} {x y : Value} {K : Value → World → Prop}
    (hr : r.params = #[p, q]) (ht : r.tmps = tmps) (ha : r.assign = .region ia asg false) (hb : r.body = .block ib (.region ic body false))
    (hL : Has [] n { tmps := tmps, defers := [] } L) (hp : dOk n (some p) = true) (hq : dOk n (some q) = true) (hR : Ready w l r)
    (h : vcOps P cOk n asg.toList asg.toList ((q, y) :: (p, x) :: L) w fun L1 w1 => Ready w1 l r ∧
      ∀ w2, Busy w2 l r → Upd w1 w2 (· = l) → w2.heap.size = w1.heap.size → vcOps P cOk n body.toList body.toList L1 w2 fun _ w3 => Busy w3 l r ∧ ∀ w4, Ready w4 l r → Upd w3 w4 (· = l) → w4.heap.size = w3.heap.size → K (.bool true) w4) :
    mY P (callVS (.func (.yield l) #[] #[]) #[x, y]) w K := by
  refine ⟨?_⟩
  have hrun : (callVS (.func (.yield l) #[] #[]) #[x, y]).run P w = (Instr.yield l #[x, y]).run P w := by
    simp [callVS, Deferred.ofValue, invoke]
  rw [hrun, run_yield hR (by simp [hr])]
  show RoundIn Fence.wide 0 P l r.fn _ r.assign r.body w (retK K)
  rw [ha, hb]
  have hfold : ((r.params.zip #[x, y]).foldl (fun tmps (t, a) => tmps.setIfInBounds t a) r.tmps) = (tmps.setIfInBounds p x).setIfInBounds q y := by
    rw [hr, ht]
    simp
  show RoundIn Fence.wide 0 P l r.fn ((r.params.zip #[x, y]).foldl (fun tmps (t, a) => tmps.setIfInBounds t a) r.tmps) _ _ w (retK K)
  rw [hfold]
  have hH : Has [] n { tmps := (tmps.setIfInBounds p x).setIfInBounds q y, defers := [] } ((q, y) :: (p, x) :: L) := (hL.put (some p) x hp).put (some q) y hq
  refine round_of_vc hP hH ?_
  refine vcOps_mono ?_ h
  rintro L1 w1 ⟨hR1, hbody⟩
  refine ⟨_, run_beginRound hR1 rfl, ?_⟩
  have hl1 := hR1.lt
  refine vcOps_mono ?_ (hbody _ (World.putObj_heap_same hl1) (putObj_upd _ _ _) (by simp))
  rintro L3 w3 ⟨hB3, hK⟩
  refine ⟨_, _, run_endRound none hB3, hK _ ?_ (putObj_upd _ _ _) (by simp)⟩
  exact World.putObj_heap_same hB3.lt

/-- THE STATEMENT. -/
theorem wpIn_range (hP : CallsOk P cOk) {g p q ia ib ic fv : Nat} {cap : Array Value} {asg body : Array Oper} {a : Act} {L : Env} {w : World} {Q : Exit → Act → World → Prop}
    (hL : Has [] n a L) (hg : ehas L g = true) (hgv : eget L g = .func (.func fv) #[] cap) (hf : cOk fv = true) (hp : dOk n (some p) = true) (hq : dOk n (some q) = true)
    (h : ∀ (r : Loop) (w1 : World), Ready w1 (w.heap.size + 1) r → Opened w1 w.heap.size → Ext w w1 → w1.heap.size = w.heap.size + 2 →
      (∀ (x y : Value) (w' : World) (K : Value → World → Prop), Ready w' (w.heap.size + 1) r →
        (vcOps P cOk n asg.toList asg.toList ((q, y) :: (p, x) :: L) w' fun L1 w1 => Ready w1 (w.heap.size + 1) r ∧
          ∀ w2, Busy w2 (w.heap.size + 1) r → Upd w1 w2 (· = w.heap.size + 1) → w2.heap.size = w1.heap.size → vcOps P cOk n body.toList body.toList L1 w2 fun _ w3 => Busy w3 (w.heap.size + 1) r ∧
            ∀ w4, Ready w4 (w.heap.size + 1) r → Upd w3 w4 (· = w.heap.size + 1) → w4.heap.size = w3.heap.size → K (.bool true) w4) →
        mY P (callVS (.func (.yield (w.heap.size + 1)) #[] #[]) #[x, y]) w' K) →
      mCall P fv (#[.func (.yield (w.heap.size + 1)) #[] #[]] ++ cap) w1 fun _ w3 => Ready w3 (w.heap.size + 1) r ∧
        ∀ w4, Upd w3 w4 (· = w.heap.size + 1) → w4.heap.size = w3.heap.size → ∀ a', Has [{ target := .collected w.heap.size, args := #[] }] n a' L → Q .normal a' w4) :
    (Code.rangeFunc (.tmp g) #[p, q] (.region ia asg false) (.block ib (.region ic body false))).wpIn Fence.wide 0 P Q a w := by
  refine wpIn_rangeFunc fun fn _ => ?_
  have hen := run_enterLoop_outer (P := P) (w := w) fn a.tmps #[p, q] (.region ia asg false) (.block ib (.region ic body false))
  obtain ⟨w1, hw1⟩ : ∃ w1, ((w.alloc (.deferred (some []))).alloc (.loop { state := .ready, pending := none, fn, tmps := a.tmps, params := #[p, q], assign := .region ia asg false, body := .block ib (.region ic body false), defers := w.heap.size })) = w1 := ⟨_, rfl⟩
  rw [hw1] at hen
  refine ⟨w.heap.size + 1, [{ target := .collected w.heap.size, args := #[] }], w1, { target := .fn (.func fv) cap, args := #[.func (.yield (w.heap.size + 1)) #[] #[]] }, w1, fv, #[.func (.yield (w.heap.size + 1)) #[] #[]] ++ cap, w1, hen, ?_, fun _ _ => trivial, ?_, (fun h => by cases h), ?_⟩
  · have : a.eval (.tmp g) = .func (.func fv) #[] cap := by rw [hL.eval (x := .tmp g) hg]; exact hgv
    have e : resolve a.eval (rangeCall (.tmp g) (w.heap.size + 1)) 0 = Deferred.ofValue (a.eval (.tmp g)) #[.func (.yield (w.heap.size + 1)) #[] #[]] := by simp [resolve, Act.eval]
    rw [e, this]
    rfl
  · obtain ⟨f, h1, h2, h3⟩ := hP fv hf
    have h2' : f.body ≠ none := fun e => by rw [e] at h2; cases h2
    have h3' : f.name ≠ "runtime.NumGoroutine" := fun e => by rw [e] at h3; simp at h3
    simp [invoke, callFunc, Go.program, bind, Sem.bind, Sem.run, h1, h2', h3', pure]
  · refine callsIn_wide.2 ?_
    have hsz : (w.alloc (.deferred (some []))).heap.size = w.heap.size + 1 := by simp
    have hR1 : Ready w1 (w.heap.size + 1) { state := .ready, pending := none, fn, tmps := a.tmps, params := #[p, q], assign := .region ia asg false, body := .block ib (.region ic body false), defers := w.heap.size } := by
      have := World.alloc_heap_new (w.alloc (.deferred (some []))) (.loop { state := .ready, pending := none, fn, tmps := a.tmps, params := #[p, q], assign := .region ia asg false, body := .block ib (.region ic body false), defers := w.heap.size })
      rw [hw1, hsz] at this
      exact this
    have u1 : Ext w w1 := by rw [← hw1]; exact (alloc_upd _ _ _).then (alloc_upd _ _ _)
    have hs1 : w1.heap.size = w.heap.size + 2 := by rw [← hw1]; simp
    have hO1 : Opened w1 w.heap.size := by
      have h0 : Opened (w.alloc (.deferred (some []))) w.heap.size := World.alloc_heap_new w _
      rw [← hw1]
      exact h0.keep (alloc_upd _ _ (fun _ => False)) id
    have hLr : Has [] n { tmps := a.tmps, defers := [] } L := ⟨rfl, hL.size, hL.get⟩
    refine (h _ w1 hR1 hO1 u1 hs1 fun x y w' K hR' hv => yield_of hP rfl rfl rfl rfl hLr hp hq hR' hv).out.mono fun e w3 he => ?_
    cases e with
    | returned v =>
      obtain ⟨hR3, hQ⟩ := he
      refine ⟨none, _, run_endLoop hR3 (by simp), hQ _ (putObj_upd _ _ _) (by simp) _ ⟨?_, hL.size, hL.get⟩⟩
      show [_] ++ a.defers = _
      rw [hL.defers]
      rfl
    | _ => exact he.elim
end
end Go.Vc
