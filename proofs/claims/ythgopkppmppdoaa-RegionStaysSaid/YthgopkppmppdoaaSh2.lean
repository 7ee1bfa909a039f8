/-
  The shallow forms of the program's functions, printed by a program (tools/shallow.py) off the loaded functions; each theorem 'eqN' says that the generator of verification conditions comes to this form.
-/
import Derived.Test.YthgopkppmppdoaaProg
import Derived.Test.YthgopkppmppdoaaSh0
set_option linter.unusedVariables false
set_option maxRecDepth 100000
namespace Go.Proofs.Ythgopkppmppdoaa
open Go Go.Proofs Go.Vc

/-- recto/slot.Choose -/
def sh49 (a0 : Value) (w : World) (K : Value → World → Prop) : Prop :=
 mN Try.prog (vS (Instr.alloc 50 true (.tuple #[]))) w fun t2 w =>
 mN Try.prog (vS (Instr.build 50 #[])) w fun t12 w =>
 mN Try.prog (vS (Instr.alloc 50 true (.tuple #[]))) w fun t5 w =>
 mN Try.prog (uS (Instr.storeAt 50 t5 t12)) w fun _ w =>
 mLoop2 (fun t6 t13 w k =>
 mN Try.prog (vS (binOp .lss 3 t13 (.int .i64 2))) w fun t14 w =>
 mIf t14
 (mCall Try.prog 29 #[a0, t13] w fun t19 w =>
 mN Try.prog (vS (Instr.extract t19 0)) w fun t20 w =>
 mN Try.prog (vS (Instr.extract t19 1)) w fun t21 w =>
 mN Try.prog (vS (eqS .neq 24 false true t21 (.int .i64 0))) w fun t23 w =>
 mIf t23
 (mN Try.prog (vS (Instr.build 50 #[])) w fun t24 w =>
 mN Try.prog (uS (Instr.storeAt 50 t2 t24)) w fun _ w =>
 mRes Try.prog (cellS 50 t2) w fun r0 =>
 K (.tuple #[r0, (.int .i64 0), t21]) w)
 (mCall Try.prog 35 #[t20] w fun t28 w =>
 mN Try.prog (vS (Instr.extract t28 0)) w fun t29 w =>
 mN Try.prog (vS (Instr.extract t28 1)) w fun t30 w =>
 mN Try.prog (vS (Instr.alloc 50 true (.tuple #[]))) w fun t10 w =>
 mN Try.prog (uS (Instr.storeAt 50 t10 t29)) w fun _ w =>
 mIf t30
 (mN Try.prog (vS (Instr.fieldAt 50 t10 0)) w fun t33 w =>
 mN Try.prog (vS (Instr.loadAt 3 t33)) w fun t34 w =>
 mN Try.prog (vS (Instr.fieldAt 50 t5 0)) w fun t35 w =>
 mN Try.prog (vS (Instr.loadAt 3 t35)) w fun t36 w =>
 mN Try.prog (vS (binOp .gtr 3 t34 t36)) w fun t37 w =>
 mIf t37
 (mN Try.prog (vS (Instr.loadAt 50 t10)) w fun t39 w =>
 mN Try.prog (uS (Instr.storeAt 50 t5 t39)) w fun _ w =>
 mN Try.prog (vS (binOp .add 3 t13 (.int .i64 1))) w fun t41 w =>
 k t13 t41 w)
 (mN Try.prog (vS (binOp .add 3 t13 (.int .i64 1))) w fun t41 w =>
 k t6 t41 w))
 (mN Try.prog (vS (binOp .add 3 t13 (.int .i64 1))) w fun t41 w =>
 k t6 t41 w)))
 (mN Try.prog (vS (binOp .lss 3 t6 (.int .i64 0))) w fun t43 w =>
 mIf t43
 (mN Try.prog (vS (Instr.build 50 #[])) w fun t44 w =>
 mN Try.prog (uS (Instr.storeAt 50 t2 t44)) w fun _ w =>
 mRes Try.prog (cellS 50 t2) w fun r0 =>
 K (.tuple #[r0, (.int .i64 0), (.int .i64 290)]) w)
 (mN Try.prog (vS (Instr.loadAt 50 t5)) w fun t45 w =>
 mN Try.prog (uS (Instr.storeAt 50 t2 t45)) w fun _ w =>
 mRes Try.prog (cellS 50 t2) w fun r0 =>
 K (.tuple #[r0, t6, (.int .i64 0)]) w)))
 (.int .i64 (-1)) (.int .i64 0) w

theorem eq49 (a0 : Value) (w : World) (K : Value → World → Prop) : vcF Try.prog cOk (.n .z (.n .z (.n (.n .z (.l [6, 13] [14, 15, 7, 17, 18, 19, 16, 20, 21, 8, 9, 22, 23, 24, 25, 3, 4, 27, 28, 26, 29, 30, 10, 11, 31, 32, 33, 34, 35, 36, 37, 38, 39, 40, 6, 41, 13] .z)) .z))) Try.f49 [a0] w K = sh49 a0 w K := by kernel_rfl

theorem ok49 {a0 : Value} {w : World} {K : Value → World → Prop} (h : sh49 a0 w K) : Calls Try.prog 49 #[a0] w (retK K) :=
  calls_of_vcF (k := (.n .z (.n .z (.n (.n .z (.l [6, 13] [14, 15, 7, 17, 18, 19, 16, 20, 21, 8, 9, 22, 23, 24, 25, 3, 4, 27, 28, 26, 29, 30, 10, 11, 31, 32, 33, 34, 35, 36, 37, 38, 39, 40, 6, 41, 13] .z)) .z)))) callsOk mixed Try.func49 ((eq49 a0 w K).symm ▸ h)

/-- recto/rectoref28.Choose -/
def sh50 (a0 : Value) (w : World) (K : Value → World → Prop) : Prop :=
 mN Try.prog (vS (Instr.alloc 84 true (.tuple #[]))) w fun t2 w =>
 mCall Try.prog 96 #[a0, (.int .i64 0)] w fun t11 w =>
 mN Try.prog (vS (Instr.extract t11 0)) w fun t12 w =>
 mN Try.prog (vS (Instr.extract t11 1)) w fun t13 w =>
 mN Try.prog (vS (eqS .neq 3 false true t13 (.int .i64 0))) w fun t15 w =>
 mIf t15
 (mN Try.prog (vS (Instr.build 84 #[(2, t13)])) w fun t17 w =>
 mN Try.prog (uS (Instr.storeAt 84 t2 t17)) w fun _ w =>
 mRes Try.prog (cellS 84 t2) w fun r0 =>
 K r0 w)
 (mCall Try.prog 96 #[a0, (.int .i64 1)] w fun t20 w =>
 mN Try.prog (vS (Instr.extract t20 0)) w fun t21 w =>
 mN Try.prog (vS (Instr.extract t20 1)) w fun t22 w =>
 mN Try.prog (vS (eqS .neq 3 false true t22 (.int .i64 0))) w fun t24 w =>
 mIf t24
 (mN Try.prog (vS (Instr.build 84 #[(2, t22)])) w fun t26 w =>
 mN Try.prog (uS (Instr.storeAt 84 t2 t26)) w fun _ w =>
 mRes Try.prog (cellS 84 t2) w fun r0 =>
 K r0 w)
 (mCall Try.prog 104 #[t12] w fun t28 w =>
 mN Try.prog (vS (Instr.alloc 173 true (.tuple #[]))) w fun t7 w =>
 mN Try.prog (uS (Instr.storeAt 173 t7 t28)) w fun _ w =>
 mCall Try.prog 104 #[t21] w fun t30 w =>
 mN Try.prog (vS (Instr.alloc 173 true (.tuple #[]))) w fun t8 w =>
 mN Try.prog (uS (Instr.storeAt 173 t8 t30)) w fun _ w =>
 mJ (fun (J : Value → World → Prop) =>
 mN Try.prog (vS (Instr.fieldAt 173 t7 1)) w fun t31 w =>
 mN Try.prog (vS (Instr.loadAt 4 t31)) w fun t32 w =>
 mN Try.prog (vS (Op.unary .not t32)) w fun t33 w =>
 mIf t33
 (mN Try.prog (vS (Instr.fieldAt 173 t8 1)) w fun t35 w =>
 mN Try.prog (vS (Instr.loadAt 4 t35)) w fun t36 w =>
 mN Try.prog (vS (Op.unary .not t36)) w fun t37 w =>
 J t37 w)
 (J (.bool false) w))
 (fun t38 w =>
 mIf t38
 (mN Try.prog (vS (Instr.build 84 #[(2, (.int .i64 290))])) w fun t39 w =>
 mN Try.prog (uS (Instr.storeAt 84 t2 t39)) w fun _ w =>
 mRes Try.prog (cellS 84 t2) w fun r0 =>
 K r0 w)
 (mN Try.prog (vS (Instr.fieldAt 173 t7 1)) w fun t40 w =>
 mN Try.prog (vS (Instr.loadAt 4 t40)) w fun t41 w =>
 mN Try.prog (vS (Op.unary .not t41)) w fun t42 w =>
 mIf t42
 (mN Try.prog (vS (Instr.fieldAt 173 t8 0)) w fun t56 w =>
 mN Try.prog (vS (Instr.loadAt 82 t56)) w fun t57 w =>
 mN Try.prog (vS (Instr.build 84 #[(0, t57), (1, (.int .i64 1)), (2, (.int .i64 0))])) w fun t58 w =>
 mN Try.prog (uS (Instr.storeAt 84 t2 t58)) w fun _ w =>
 mRes Try.prog (cellS 84 t2) w fun r0 =>
 K r0 w)
 (mN Try.prog (vS (Instr.fieldAt 173 t8 1)) w fun t44 w =>
 mN Try.prog (vS (Instr.loadAt 4 t44)) w fun t45 w =>
 mIf t45
 (mN Try.prog (vS (Instr.fieldAt 173 t8 0)) w fun t47 w =>
 mN Try.prog (vS (Instr.fieldAt 82 t47 0)) w fun t48 w =>
 mN Try.prog (vS (Instr.loadAt 3 t48)) w fun t49 w =>
 mN Try.prog (vS (Instr.fieldAt 173 t7 0)) w fun t50 w =>
 mN Try.prog (vS (Instr.fieldAt 82 t50 0)) w fun t51 w =>
 mN Try.prog (vS (Instr.loadAt 3 t51)) w fun t52 w =>
 mN Try.prog (vS (binOp .gtr 3 t49 t52)) w fun t53 w =>
 mIf t53
 (mN Try.prog (vS (Instr.fieldAt 173 t8 0)) w fun t56 w =>
 mN Try.prog (vS (Instr.loadAt 82 t56)) w fun t57 w =>
 mN Try.prog (vS (Instr.build 84 #[(0, t57), (1, (.int .i64 1)), (2, (.int .i64 0))])) w fun t58 w =>
 mN Try.prog (uS (Instr.storeAt 84 t2 t58)) w fun _ w =>
 mRes Try.prog (cellS 84 t2) w fun r0 =>
 K r0 w)
 (mN Try.prog (vS (Instr.fieldAt 173 t7 0)) w fun t59 w =>
 mN Try.prog (vS (Instr.loadAt 82 t59)) w fun t60 w =>
 mN Try.prog (vS (Instr.build 84 #[(0, t60), (1, (.int .i64 0)), (2, (.int .i64 0))])) w fun t61 w =>
 mN Try.prog (uS (Instr.storeAt 84 t2 t61)) w fun _ w =>
 mRes Try.prog (cellS 84 t2) w fun r0 =>
 K r0 w))
 (mN Try.prog (vS (Instr.fieldAt 173 t7 0)) w fun t59 w =>
 mN Try.prog (vS (Instr.loadAt 82 t59)) w fun t60 w =>
 mN Try.prog (vS (Instr.build 84 #[(0, t60), (1, (.int .i64 0)), (2, (.int .i64 0))])) w fun t61 w =>
 mN Try.prog (uS (Instr.storeAt 84 t2 t61)) w fun _ w =>
 mRes Try.prog (cellS 84 t2) w fun r0 =>
 K r0 w))))))

theorem eq50 (a0 : Value) (w : World) (K : Value → World → Prop) : vcF Try.prog cOk (.n .z (.n .z (.n .z (.n .z (.n .z (.n .z (.n .z (.n (.n (.j [38] [31, 32, 33, 34, 35, 36, 37, 38] .z) .z) .z)))))))) Try.f50 [a0] w K = sh50 a0 w K := by kernel_rfl

theorem ok50 {a0 : Value} {w : World} {K : Value → World → Prop} (h : sh50 a0 w K) : Calls Try.prog 50 #[a0] w (retK K) :=
  calls_of_vcF (k := (.n .z (.n .z (.n .z (.n .z (.n .z (.n .z (.n .z (.n (.n (.j [38] [31, 32, 33, 34, 35, 36, 37, 38] .z) .z) .z))))))))) callsOk mixed Try.func50 ((eq50 a0 w K).symm ▸ h)

/-- recto/rectolaw28.ref -/
def sh51 (a0 : Value) (w : World) (K : Value → World → Prop) : Prop :=
 mN Try.prog (vS (Instr.box 50 a0)) w fun t1 w =>
 mN Try.prog (vS (Instr.alloc 82 true (.tuple #[]))) w fun t2 w =>
 mN Try.prog (vS (Instr.fieldAt 50 t1 0)) w fun t3 w =>
 mN Try.prog (vS (Instr.loadAt 3 t3)) w fun t4 w =>
 mN Try.prog (vS (Instr.fieldAt 50 t1 1)) w fun t5 w =>
 mN Try.prog (vS (Instr.loadAt 3 t5)) w fun t6 w =>
 mN Try.prog (vS (Instr.fieldAt 50 t1 2)) w fun t7 w =>
 mN Try.prog (vS (Instr.loadAt 3 t7)) w fun t8 w =>
 mN Try.prog (vS (Instr.fieldAt 50 t1 3)) w fun t9 w =>
 mN Try.prog (vS (Instr.loadAt 3 t9)) w fun t10 w =>
 mN Try.prog (vS (Instr.build 82 #[(0, t4), (1, t6), (2, t8), (3, t10)])) w fun t11 w =>
 mN Try.prog (uS (Instr.storeAt 82 t2 t11)) w fun _ w =>
 mRes Try.prog (cellS 82 t2) w fun r0 =>
 K r0 w

theorem eq51 (a0 : Value) (w : World) (K : Value → World → Prop) : vcF Try.prog cOk .z Try.f51 [a0] w K = sh51 a0 w K := by kernel_rfl

theorem ok51 {a0 : Value} {w : World} {K : Value → World → Prop} (h : sh51 a0 w K) : Calls Try.prog 51 #[a0] w (retK K) :=
  calls_of_vcF (k := .z) callsOk mixed Try.func51 ((eq51 a0 w K).symm ▸ h)

/-- recto/slot.Format -/
def sh52 (a0 : Value) (w : World) (K : Value → World → Prop) : Prop :=
 mN Try.prog (vS (Instr.build 50 #[(0, (.int .i64 1))])) w fun t9 w =>
 mCall Try.prog 33 #[t9] w fun t10 w =>
 mN Try.prog (vS (Instr.extract t10 0)) w fun t11 w =>
 mN Try.prog (vS (Instr.extract t10 1)) w fun t12 w =>
 mCall Try.prog 88 #[(.string ⟨#[]⟩)] w fun t14 w =>
 mN Try.prog (vS (Instr.build 175 #[(0, t11), (1, t14)])) w fun t15 w =>
 mLoop1 (fun t16 w k =>
 mN Try.prog (vS (binOp .lss 3 t16 (.int .i64 2))) w fun t17 w =>
 mIf t17
 (mN Try.prog (vS (Instr.index 175 t15 t16)) w fun t19 w =>
 mCall Try.prog 20 #[a0, t16, t19] w fun t23 w =>
 mN Try.prog (vS (eqS .neq 24 false true t23 (.int .i64 0))) w fun t25 w =>
 mIf t25
 (K t23 w)
 (mN Try.prog (vS (binOp .add 3 t16 (.int .i64 1))) w fun t27 w =>
 k t27 w))
 (mCall Try.prog 22 #[a0] w fun t29 w =>
 K t29 w))
 (.int .i64 0) w

theorem eq52 (a0 : Value) (w : World) (K : Value → World → Prop) : vcF Try.prog cOk (.n .z (.n .z (.n (.n .z (.l [16] [17, 18, 19, 5, 6, 20, 21, 22, 23, 7, 24, 25, 26, 2, 27, 16] .z)) .z))) Try.f52 [a0] w K = sh52 a0 w K := by kernel_rfl

theorem ok52 {a0 : Value} {w : World} {K : Value → World → Prop} (h : sh52 a0 w K) : Calls Try.prog 52 #[a0] w (retK K) :=
  calls_of_vcF (k := (.n .z (.n .z (.n (.n .z (.l [16] [17, 18, 19, 5, 6, 20, 21, 22, 23, 7, 24, 25, 26, 2, 27, 16] .z)) .z)))) callsOk mixed Try.func52 ((eq52 a0 w K).symm ▸ h)

/-- recto/slot.Put -/
def sh53 (a0 a1 : Value) (w : World) (K : Value → World → Prop) : Prop :=
 mN Try.prog (vS (Instr.box 50 a1)) w fun t3 w =>
 mCall Try.prog 49 #[a0] w fun t12 w =>
 mN Try.prog (vS (Instr.extract t12 0)) w fun t13 w =>
 mN Try.prog (vS (Instr.extract t12 1)) w fun t14 w =>
 mN Try.prog (vS (Instr.extract t12 2)) w fun t15 w =>
 mN Try.prog (vS (Instr.alloc 50 true (.tuple #[]))) w fun t5 w =>
 mN Try.prog (uS (Instr.storeAt 50 t5 t13)) w fun _ w =>
 mN Try.prog (vS (eqS .neq 24 false true t15 (.int .i64 0))) w fun t17 w =>
 mIf t17
 (K t15 w)
 (mN Try.prog (vS (Instr.fieldAt 50 t5 0)) w fun t19 w =>
 mN Try.prog (vS (Instr.loadAt 3 t19)) w fun t20 w =>
 mN Try.prog (vS (binOp .add 3 t20 (.int .i64 1))) w fun t21 w =>
 mN Try.prog (vS (Instr.fieldAt 50 t3 0)) w fun t22 w =>
 mN Try.prog (uS (Instr.storeAt 3 t22 t21)) w fun _ w =>
 mN Try.prog (vS (Instr.loadAt 50 t3)) w fun t24 w =>
 mCall Try.prog 33 #[t24] w fun t25 w =>
 mN Try.prog (vS (Instr.extract t25 0)) w fun t26 w =>
 mN Try.prog (vS (Instr.extract t25 1)) w fun t27 w =>
 mN Try.prog (vS (eqS .neq 24 false true t27 (.int .i64 0))) w fun t29 w =>
 mIf t29
 (K t27 w)
 (mN Try.prog (vS (binOp .sub 3 (.int .i64 1) t14)) w fun t33 w =>
 mCall Try.prog 20 #[a0, t33, t26] w fun t35 w =>
 mN Try.prog (vS (eqS .neq 24 false true t35 (.int .i64 0))) w fun t37 w =>
 mIf t37
 (K t35 w)
 (mCall Try.prog 22 #[a0] w fun t40 w =>
 K t40 w)))

theorem eq53 (a0 a1 : Value) (w : World) (K : Value → World → Prop) : vcF Try.prog cOk .z Try.f53 [a0, a1] w K = sh53 a0 a1 w K := by kernel_rfl

theorem ok53 {a0 a1 : Value} {w : World} {K : Value → World → Prop} (h : sh53 a0 a1 w K) : Calls Try.prog 53 #[a0, a1] w (retK K) :=
  calls_of_vcF (k := .z) callsOk mixed Try.func53 ((eq53 a0 a1 w K).symm ▸ h)

/-- (*recto/log.Log).Seal -/
def sh54 (a0 : Value) (w : World) (K : Value → World → Prop) : Prop :=
 mN Try.prog (vS (eqS .neq 57 false true a0 (.pointer none))) w fun t3 w =>
 mIf t3
 (mN Try.prog (nilS a0) w fun t6 w =>
 mN Try.prog (vS (Instr.fieldAt 159 t6 3)) w fun t7 w =>
 mN Try.prog (vS (Instr.loadAt 9 t7)) w fun t8 w =>
 mN Try.prog (builtin .len #[9] 3 #[false] #[t8]) w fun t9 w =>
 mN Try.prog (nilS a0) w fun t10 w =>
 mN Try.prog (vS (Instr.fieldAt 159 t10 4)) w fun t11 w =>
 mN Try.prog (uS (Instr.storeAt 3 t11 t9)) w fun _ w =>
 K (.tuple #[]) w)
 (K (.tuple #[]) w)

theorem eq54 (a0 : Value) (w : World) (K : Value → World → Prop) : vcF Try.prog cOk .z Try.f54 [a0] w K = sh54 a0 w K := by kernel_rfl

theorem ok54 {a0 : Value} {w : World} {K : Value → World → Prop} (h : sh54 a0 w K) : Calls Try.prog 54 #[a0] w (retK K) :=
  calls_of_vcF (k := .z) callsOk mixed Try.func54 ((eq54 a0 w K).symm ▸ h)

/-- (*recto/log.Log).Drop -/
def sh55 (a0 : Value) (w : World) (K : Value → World → Prop) : Prop :=
 mN Try.prog (vS (eqS .neq 57 false true a0 (.pointer none))) w fun t3 w =>
 mIf t3
 (mDrew w fun w =>
 mP Try.prog (nilS a0) fun t6 =>
 mP Try.prog (vS (Instr.fieldAt 159 t6 3)) fun t7 =>
 mR Try.prog (vS (Instr.loadAt 9 t7)) w fun t8 =>
 mP Try.prog (nilS a0) fun t10 =>
 mP Try.prog (vS (Instr.fieldAt 159 t10 4)) fun t11 =>
 mR Try.prog (vS (Instr.loadAt 3 t11)) w fun t12 =>
 mP Try.prog (vS (Instr.sliceAt 9 t8 none (some t12) none)) fun t13 =>
 mP Try.prog (nilS a0) fun t14 =>
 mP Try.prog (vS (Instr.fieldAt 159 t14 3)) fun t15 =>
 mN Try.prog (uS (Instr.storeAt 9 t15 t13)) w fun _ w =>
 K (.tuple #[]) w)
 (K (.tuple #[]) w)

theorem eq55 (a0 : Value) (w : World) (K : Value → World → Prop) : vcF Try.prog cOk (.n .z (.n (.d [12] [0, 1, 2, 3, 4, 5, 6, 7, 8, 9, 10, 11, 12]) .z)) Try.f55 [a0] w K = sh55 a0 w K := by kernel_rfl

theorem ok55 {a0 : Value} {w : World} {K : Value → World → Prop} (h : sh55 a0 w K) : Calls Try.prog 55 #[a0] w (retK K) :=
  calls_of_vcF (k := (.n .z (.n (.d [12] [0, 1, 2, 3, 4, 5, 6, 7, 8, 9, 10, 11, 12]) .z))) callsOk mixed Try.func55 ((eq55 a0 w K).symm ▸ h)

/-- (*recto/log.Log).Write -/
def sh56 (a0 : Value) (w : World) (K : Value → World → Prop) : Prop :=
 mN Try.prog (vS (eqS .eql 57 false true a0 (.pointer none))) w fun t7 w =>
 mIf t7
 (K (.int .i64 7) w)
 (mN Try.prog (nilS a0) w fun t9 w =>
 mN Try.prog (vS (Instr.fieldAt 159 t9 4)) w fun t10 w =>
 mN Try.prog (vS (Instr.loadAt 3 t10)) w fun t11 w =>
 mN Try.prog (vS (binOp .quo 3 t11 (.int .i64 256))) w fun t12 w =>
 mLoop1 (fun t3 w k =>
 mDrew w fun w =>
 mP Try.prog (nilS a0) fun t15 =>
 mP Try.prog (vS (Instr.fieldAt 159 t15 3)) fun t16 =>
 mR Try.prog (vS (Instr.loadAt 9 t16)) w fun t17 =>
 mP Try.prog (builtin .len #[9] 3 #[false] #[t17]) fun t18 =>
 mCall Try.prog 92 #[t18] w fun t19 w =>
 rdN Try.prog (vS (Instr.loadAt 9 t16)) t17 w ∧
 mP Try.prog (vS (binOp .lss 3 t3 t19)) fun t20 =>
 mIf t20
 (mP Try.prog (nilS a0) fun t23 =>
 mP Try.prog (vS (Instr.fieldAt 159 t23 4)) fun t24 =>
 mR Try.prog (vS (Instr.loadAt 3 t24)) w fun t25 =>
 mP Try.prog (nilS a0) fun t27 =>
 mP Try.prog (vS (Instr.fieldAt 159 t27 3)) fun t28 =>
 mR Try.prog (vS (Instr.loadAt 9 t28)) w fun t29 =>
 mP Try.prog (builtin .len #[9] 3 #[false] #[t29]) fun t30 =>
 mP Try.prog (vS (binOp .lss 3 t25 t30)) fun t31 =>
 mIf t31
 (mDrew w fun w =>
 mP Try.prog (nilS a0) fun t36 =>
 mP Try.prog (vS (Instr.fieldAt 159 t36 3)) fun t37 =>
 mR Try.prog (vS (Instr.loadAt 9 t37)) w fun t38 =>
 mP Try.prog (vS (binOp .mul 3 t3 (.int .i64 256))) fun t40 =>
 mP Try.prog (nilS a0) fun t42 =>
 mP Try.prog (vS (Instr.fieldAt 159 t42 3)) fun t43 =>
 mR Try.prog (vS (Instr.loadAt 9 t43)) w fun t44 =>
 mP Try.prog (builtin .len #[9] 3 #[false] #[t44]) fun t45 =>
 mP Try.prog (vS (binOp .add 3 t3 (.int .i64 1))) fun t47 =>
 mP Try.prog (vS (binOp .mul 3 t47 (.int .i64 256))) fun t48 =>
 mP Try.prog (builtin .min #[3, 3] 3 #[false, false] #[t45, t48]) fun t49 =>
 mP Try.prog (vS (Instr.sliceAt 9 t38 (some t40) (some t49) none)) fun t50 =>
 mDrew w fun w =>
 mP Try.prog (nilS a0) fun t52 =>
 mP Try.prog (vS (Instr.fieldAt 159 t52 0)) fun t53 =>
 mR Try.prog (vS (Instr.loadAt 23 t53)) w fun t54 =>
 mP Try.prog (nilS a0) fun t56 =>
 mP Try.prog (vS (Instr.fieldAt 159 t56 1)) fun t57 =>
 mR Try.prog (vS (Instr.loadAt 3 t57)) w fun t58 =>
 mP Try.prog (vS (binOp .add 3 t58 t3)) fun t60 =>
 mP Try.prog (builtin .len #[9] 3 #[false] #[t50]) fun t63 =>
 mP Try.prog (vS (binOp .sub 3 (.int .i64 256) t63)) fun t64 =>
 mCall Try.prog 74 #[(.string ⟨#[0]⟩), t64] w fun t65 w =>
 rdN Try.prog (vS (Instr.loadAt 3 t57)) t58 w ∧
 rdN Try.prog (vS (Instr.loadAt 23 t53)) t54 w ∧
 mP Try.prog (vS (binOp .add 9 t50 t65)) fun t66 =>
 mCall Try.prog 20 #[t54, t60, t66] w fun t67 w =>
 rdN Try.prog (vS (Instr.loadAt 3 t57)) t58 w ∧
 mN Try.prog (vS (eqS .neq 24 false true t67 (.int .i64 0))) w fun t69 w =>
 mIf t69
 (K t67 w)
 (mN Try.prog (vS (binOp .add 3 t3 (.int .i64 1))) w fun t34 w =>
 k t34 w))
 (K (.int .i64 0) w))
 (K (.int .i64 0) w))
 t12 w)

theorem eq56 (a0 : Value) (w : World) (K : Value → World → Prop) : vcF Try.prog cOk (.n .z (.n .z (.n (.n .z (.l [3] [13, 14, 15, 16, 17, 18, 19, 20, 21, 22, 23, 24, 25, 26, 27, 28, 29, 30, 31, 32, 35, 36, 37, 38, 39, 40, 41, 42, 43, 44, 45, 46, 47, 48, 49, 50, 4, 51, 52, 53, 54, 55, 56, 57, 58, 59, 60, 61, 62, 63, 64, 65, 66, 67, 5, 68, 69, 70, 2, 33, 34, 3] (.n (.n (.d [6] [0, 1, 2, 3, 4, 5, 6, 7, 8, 9, 10, 11, 12, 13, 14, 15, 16, 17, 18, 19]) .z) (.n (.n (.d [] [0, 1, 2, 3, 4, 5, 6, 7, 8, 9, 10, 11, 12, 13, 14, 15, 16]) (.n (.d [14, 16] [0, 1, 2, 3, 4, 5, 6, 7, 8, 9, 10, 11, 12, 13, 14, 15, 16, 17]) .z)) .z)))) .z))) Try.f56 [a0] w K = sh56 a0 w K := by kernel_rfl

theorem ok56 {a0 : Value} {w : World} {K : Value → World → Prop} (h : sh56 a0 w K) : Calls Try.prog 56 #[a0] w (retK K) :=
  calls_of_vcF (k := (.n .z (.n .z (.n (.n .z (.l [3] [13, 14, 15, 16, 17, 18, 19, 20, 21, 22, 23, 24, 25, 26, 27, 28, 29, 30, 31, 32, 35, 36, 37, 38, 39, 40, 41, 42, 43, 44, 45, 46, 47, 48, 49, 50, 4, 51, 52, 53, 54, 55, 56, 57, 58, 59, 60, 61, 62, 63, 64, 65, 66, 67, 5, 68, 69, 70, 2, 33, 34, 3] (.n (.n (.d [6] [0, 1, 2, 3, 4, 5, 6, 7, 8, 9, 10, 11, 12, 13, 14, 15, 16, 17, 18, 19]) .z) (.n (.n (.d [] [0, 1, 2, 3, 4, 5, 6, 7, 8, 9, 10, 11, 12, 13, 14, 15, 16]) (.n (.d [14, 16] [0, 1, 2, 3, 4, 5, 6, 7, 8, 9, 10, 11, 12, 13, 14, 15, 16, 17]) .z)) .z)))) .z)))) callsOk mixed Try.func56 ((eq56 a0 w K).symm ▸ h)

/-- recto/rectolaw29.long -/
def sh57 (a0 : Value) (w : World) (K : Value → World → Prop) : Prop :=
 mN Try.prog (builtin .len #[94] 3 #[false] #[a0]) w fun t7 w =>
 mLoop2 (fun t3 t8 w k =>
 mN Try.prog (vS (binOp .lss 3 t8 t7)) w fun t9 w =>
 mIf t9
 (mN Try.prog (vS (Instr.indexAt 94 a0 t8)) w fun t11 w =>
 mN Try.prog (vS (Instr.loadAt 100 t11)) w fun t12 w =>
 mN Try.prog (vS (Instr.alloc 100 true (.tuple #[]))) w fun t5 w =>
 mN Try.prog (uS (Instr.storeAt 100 t5 t12)) w fun _ w =>
 mN Try.prog (vS (binOp .gtr 3 t8 (.int .i64 40))) w fun t14 w =>
 mIf t14
 (K (.bool true) w)
 (mN Try.prog (vS (Instr.fieldAt 100 t5 3)) w fun t16 w =>
 mN Try.prog (vS (Instr.loadAt 35 t16)) w fun t17 w =>
 mN Try.prog (builtin .len #[35] 3 #[false] #[t17]) w fun t18 w =>
 mN Try.prog (vS (binOp .gtr 3 t18 (.int .i64 40))) w fun t19 w =>
 mIf t19
 (K (.bool true) w)
 (mN Try.prog (vS (Instr.fieldAt 100 t5 2)) w fun t22 w =>
 mN Try.prog (vS (Instr.loadAt 9 t22)) w fun t23 w =>
 mN Try.prog (builtin .len #[9] 3 #[false] #[t23]) w fun t24 w =>
 mN Try.prog (vS (binOp .gtr 3 t24 (.int .i64 70000))) w fun t25 w =>
 mIf t25
 (K (.bool true) w)
 (mN Try.prog (vS (Instr.fieldAt 100 t5 2)) w fun t28 w =>
 mN Try.prog (vS (Instr.loadAt 9 t28)) w fun t29 w =>
 mN Try.prog (builtin .len #[9] 3 #[false] #[t29]) w fun t30 w =>
 mN Try.prog (vS (binOp .add 3 t3 t30)) w fun t31 w =>
 mN Try.prog (vS (binOp .gtr 3 t31 (.int .i64 140000))) w fun t33 w =>
 mIf t33
 (K (.bool true) w)
 (mN Try.prog (vS (binOp .add 3 t8 (.int .i64 1))) w fun t34 w =>
 k t31 t34 w)))))
 (K (.bool false) w))
 (.int .i64 0) (.int .i64 0) w

theorem eq57 (a0 : Value) (w : World) (K : Value → World → Prop) : vcF Try.prog cOk (.n .z (.n .z (.n (.n .z (.l [3, 8] [9, 10, 11, 12, 5, 4, 13, 14, 15, 16, 17, 18, 19, 20, 21, 22, 23, 24, 25, 26, 27, 28, 29, 30, 31, 3, 32, 33, 2, 34, 8] .z)) .z))) Try.f57 [a0] w K = sh57 a0 w K := by kernel_rfl

theorem ok57 {a0 : Value} {w : World} {K : Value → World → Prop} (h : sh57 a0 w K) : Calls Try.prog 57 #[a0] w (retK K) :=
  calls_of_vcF (k := (.n .z (.n .z (.n (.n .z (.l [3, 8] [9, 10, 11, 12, 5, 4, 13, 14, 15, 16, 17, 18, 19, 20, 21, 22, 23, 24, 25, 26, 27, 28, 29, 30, 31, 3, 32, 33, 2, 34, 8] .z)) .z)))) callsOk mixed Try.func57 ((eq57 a0 w K).symm ▸ h)

/-- (*recto/rectolaw29.Pair).does -/
def sh58 (a0 a1 : Value) (w : World) (K : Value → World → Prop) : Prop :=
 mN Try.prog (vS (Instr.box 100 a1)) w fun t3 w =>
 mN Try.prog (vS (Instr.fieldAt 100 t3 0)) w fun t9 w =>
 mN Try.prog (vS (Instr.loadAt 3 t9)) w fun t10 w =>
 mN Try.prog (vS (eqS .eql 3 false true t10 (.int .i64 0))) w fun t12 w =>
 mJ (fun (J : Value → World → Prop) =>
 mIf t12
 (J t12 w)
 (mN Try.prog (vS (eqS .eql 3 false true t10 (.int .i64 1))) w fun t13 w =>
 mIf t13
 (J t13 w)
 (mN Try.prog (vS (eqS .eql 3 false true t10 (.int .i64 2))) w fun t14 w =>
 J t14 w)))
 (fun t11 w =>
 mIf t11
 (mDrew w fun w =>
 mP Try.prog (nilS a0) fun t16 =>
 mP Try.prog (vS (Instr.fieldAt 98 t16 2)) fun t17 =>
 mR Try.prog (vS (Instr.loadAt 57 t17)) w fun t18 =>
 mP Try.prog (vS (Instr.fieldAt 100 t3 2)) fun t19 =>
 mR Try.prog (vS (Instr.loadAt 9 t19)) w fun t20 =>
 mP Try.prog (nilS a0) fun t23 =>
 mP Try.prog (vS (Instr.fieldAt 98 t23 3)) fun t24 =>
 mR Try.prog (vS (Instr.loadAt 60 t24)) w fun t25 =>
 mP Try.prog (vS (Instr.fieldAt 100 t3 2)) fun t26 =>
 mR Try.prog (vS (Instr.loadAt 9 t26)) w fun t27 =>
 mCall Try.prog 46 #[t18, t20] w fun t21 w =>
 rdN Try.prog (vS (Instr.loadAt 9 t26)) t27 w ∧
 rdN Try.prog (vS (Instr.loadAt 60 t24)) t25 w ∧
 mCall Try.prog 105 #[t25, t27] w fun t28 w =>
 mP Try.prog (vS (eqS .eql 3 false false t21 t28)) fun t29 =>
 K t29 w)
 (mN Try.prog (vS (eqS .eql 3 false true t10 (.int .i64 3))) w fun t31 w =>
 mIf t31
 (mDrew w fun w =>
 mP Try.prog (nilS a0) fun t33 =>
 mP Try.prog (vS (Instr.fieldAt 98 t33 2)) fun t34 =>
 mR Try.prog (vS (Instr.loadAt 57 t34)) w fun t35 =>
 mP Try.prog (nilS a0) fun t38 =>
 mP Try.prog (vS (Instr.fieldAt 98 t38 3)) fun t39 =>
 mR Try.prog (vS (Instr.loadAt 60 t39)) w fun t40 =>
 mP Try.prog (nilS a0) fun t42 =>
 mP Try.prog (vS (Instr.fieldAt 98 t42 1)) fun t43 =>
 mR Try.prog (vS (Instr.loadAt 33 t43)) w fun t44 =>
 mCall Try.prog 56 #[t35] w fun t36 w =>
 rdN Try.prog (vS (Instr.loadAt 33 t43)) t44 w ∧
 rdN Try.prog (vS (Instr.loadAt 60 t39)) t40 w ∧
 mCall Try.prog 106 #[t40, t44] w fun t45 w =>
 mP Try.prog (vS (eqS .eql 3 false false t36 t45)) fun t46 =>
 K t46 w)
 (mN Try.prog (vS (eqS .eql 3 false true t10 (.int .i64 4))) w fun t48 w =>
 mIf t48
 (mDrew w fun w =>
 mP Try.prog (nilS a0) fun t50 =>
 mP Try.prog (vS (Instr.fieldAt 98 t50 0)) fun t51 =>
 mR Try.prog (vS (Instr.loadAt 23 t51)) w fun t52 =>
 mP Try.prog (nilS a0) fun t55 =>
 mP Try.prog (vS (Instr.fieldAt 98 t55 1)) fun t56 =>
 mR Try.prog (vS (Instr.loadAt 33 t56)) w fun t57 =>
 mCall Try.prog 22 #[t52] w fun t53 w =>
 rdN Try.prog (vS (Instr.loadAt 33 t56)) t57 w ∧
 mCall Try.prog 79 #[t57] w fun t58 w =>
 mP Try.prog (vS (eqS .eql 3 false false t53 t58)) fun t59 =>
 K t59 w)
 (mN Try.prog (vS (eqS .eql 3 false true t10 (.int .i64 5))) w fun t61 w =>
 mIf t61
 (mN Try.prog (nilS a0) w fun t63 w =>
 mN Try.prog (vS (Instr.fieldAt 98 t63 2)) w fun t64 w =>
 mN Try.prog (vS (Instr.loadAt 57 t64)) w fun t65 w =>
 mCall Try.prog 54 #[t65] w fun t66 w =>
 mDrew w fun w =>
 mP Try.prog (nilS a0) fun t68 =>
 mP Try.prog (vS (Instr.fieldAt 98 t68 3)) fun t69 =>
 mR Try.prog (vS (Instr.loadAt 60 t69)) w fun t70 =>
 mP Try.prog (nilS a0) fun t72 =>
 mP Try.prog (vS (Instr.fieldAt 98 t72 3)) fun t73 =>
 mR Try.prog (vS (Instr.loadAt 60 t73)) w fun t74 =>
 mP Try.prog (nilS t74) fun t75 =>
 mP Try.prog (vS (Instr.fieldAt 70 t75 2)) fun t76 =>
 mR Try.prog (vS (Instr.loadAt 67 t76)) w fun t77 =>
 mP Try.prog (builtin .len #[67] 3 #[false] #[t77]) fun t78 =>
 mP Try.prog (nilS t70) fun t79 =>
 mP Try.prog (vS (Instr.fieldAt 70 t79 3)) fun t80 =>
 mN Try.prog (uS (Instr.storeAt 3 t80 t78)) w fun _ w =>
 K (.bool true) w)
 (mN Try.prog (vS (eqS .eql 3 false true t10 (.int .i64 6))) w fun t82 w =>
 mIf t82
 (mN Try.prog (nilS a0) w fun t84 w =>
 mN Try.prog (vS (Instr.fieldAt 98 t84 2)) w fun t85 w =>
 mN Try.prog (vS (Instr.loadAt 57 t85)) w fun t86 w =>
 mCall Try.prog 55 #[t86] w fun t87 w =>
 mN Try.prog (nilS a0) w fun t89 w =>
 mN Try.prog (vS (Instr.fieldAt 98 t89 3)) w fun t90 w =>
 mN Try.prog (vS (Instr.loadAt 60 t90)) w fun t91 w =>
 mCall Try.prog 107 #[t91] w fun t92 w =>
 K (.bool true) w)
 (mN Try.prog (vS (eqS .eql 3 false true t10 (.int .i64 7))) w fun t94 w =>
 mIf t94
 (mDrew w fun w =>
 mP Try.prog (nilS a0) fun t97 =>
 mP Try.prog (vS (Instr.fieldAt 98 t97 0)) fun t98 =>
 mR Try.prog (vS (Instr.loadAt 23 t98)) w fun t99 =>
 mP Try.prog (nilS a0) fun t101 =>
 mP Try.prog (vS (Instr.fieldAt 98 t101 3)) fun t102 =>
 mR Try.prog (vS (Instr.loadAt 60 t102)) w fun t103 =>
 mP Try.prog (nilS t103) fun t104 =>
 mP Try.prog (vS (Instr.fieldAt 70 t104 0)) fun t105 =>
 mR Try.prog (vS (Instr.loadAt 3 t105)) w fun t106 =>
 mP Try.prog (nilS a0) fun t108 =>
 mP Try.prog (vS (Instr.fieldAt 98 t108 3)) fun t109 =>
 mR Try.prog (vS (Instr.loadAt 60 t109)) w fun t110 =>
 mP Try.prog (nilS t110) fun t111 =>
 mP Try.prog (vS (Instr.fieldAt 70 t111 1)) fun t112 =>
 mR Try.prog (vS (Instr.loadAt 3 t112)) w fun t113 =>
 mP Try.prog (vS (Instr.fieldAt 100 t3 1)) fun t114 =>
 mR Try.prog (vS (Instr.loadAt 3 t114)) w fun t115 =>
 mCall Try.prog 38 #[t99, t106, t113, t115] w fun t116 w =>
 rdN Try.prog (vS (Instr.loadAt 60 t109)) t110 w ∧
 rdN Try.prog (vS (Instr.loadAt 60 t102)) t103 w ∧
 mP Try.prog (vS (Instr.extract t116 0)) fun t117 =>
 mP Try.prog (vS (Instr.extract t116 1)) fun t118 =>
 mDrew w fun w =>
 mP Try.prog (nilS a0) fun t120 =>
 mP Try.prog (vS (Instr.fieldAt 98 t120 1)) fun t121 =>
 mR Try.prog (vS (Instr.loadAt 33 t121)) w fun t122 =>
 mP Try.prog (nilS a0) fun t124 =>
 mP Try.prog (vS (Instr.fieldAt 98 t124 3)) fun t125 =>
 mR Try.prog (vS (Instr.loadAt 60 t125)) w fun t126 =>
 mP Try.prog (nilS t126) fun t127 =>
 mP Try.prog (vS (Instr.fieldAt 70 t127 0)) fun t128 =>
 mR Try.prog (vS (Instr.loadAt 3 t128)) w fun t129 =>
 mP Try.prog (nilS a0) fun t131 =>
 mP Try.prog (vS (Instr.fieldAt 98 t131 3)) fun t132 =>
 mR Try.prog (vS (Instr.loadAt 60 t132)) w fun t133 =>
 mP Try.prog (nilS t133) fun t134 =>
 mP Try.prog (vS (Instr.fieldAt 70 t134 1)) fun t135 =>
 mR Try.prog (vS (Instr.loadAt 3 t135)) w fun t136 =>
 mP Try.prog (vS (Instr.fieldAt 100 t3 1)) fun t137 =>
 mR Try.prog (vS (Instr.loadAt 3 t137)) w fun t138 =>
 mP Try.prog (vS (Instr.build 65 #[(0, t129), (1, t136), (2, t138)])) fun t139 =>
 (mCall Try.prog 39 #[t122, t139] w fun t140 w =>
 rdN Try.prog (vS (Instr.loadAt 3 t137)) t138 w ∧
 rdN Try.prog (vS (Instr.loadAt 3 t135)) t136 w ∧
 rdN Try.prog (vS (Instr.loadAt 60 t132)) t133 w ∧
 rdN Try.prog (vS (Instr.loadAt 3 t128)) t129 w ∧
 rdN Try.prog (vS (Instr.loadAt 60 t125)) t126 w ∧
 mN Try.prog (vS (Instr.alloc 62 true (.tuple #[]))) w fun t7 w =>
 rdN Try.prog (vS (Instr.loadAt 3 t137)) t138 w ∧
 rdN Try.prog (vS (Instr.loadAt 3 t135)) t136 w ∧
 rdN Try.prog (vS (Instr.loadAt 60 t132)) t133 w ∧
 rdN Try.prog (vS (Instr.loadAt 3 t128)) t129 w ∧
 rdN Try.prog (vS (Instr.loadAt 60 t125)) t126 w ∧
 mN Try.prog (uS (Instr.storeAt 62 t7 t140)) w fun _ w =>
 mN Try.prog (vS (Instr.fieldAt 62 t7 1)) w fun t142 w =>
 mN Try.prog (vS (Instr.loadAt 3 t142)) w fun t143 w =>
 mN Try.prog (vS (eqS .neq 3 false false t118 t143)) w fun t144 w =>
 mIf t144
 (K (.bool false) w)
 (mN Try.prog (vS (eqS .eql 57 false true t117 (.pointer none))) w fun t147 w =>
 mN Try.prog (vS (Instr.fieldAt 62 t7 0)) w fun t148 w =>
 mN Try.prog (vS (Instr.loadAt 60 t148)) w fun t149 w =>
 mN Try.prog (vS (eqS .eql 60 false true t149 (.pointer none))) w fun t150 w =>
 mN Try.prog (vS (eqS .neq 4 false false t147 t150)) w fun t151 w =>
 mIf t151
 (K (.bool false) w)
 (mN Try.prog (vS (eqS .neq 57 false true t117 (.pointer none))) w fun t154 w =>
 mIf t154
 (mN Try.prog (nilS a0) w fun t157 w =>
 mN Try.prog (vS (Instr.fieldAt 98 t157 2)) w fun t158 w =>
 mN Try.prog (uS (Instr.storeAt 57 t158 t117)) w fun _ w =>
 mN Try.prog (vS (Instr.fieldAt 62 t7 0)) w fun t160 w =>
 mN Try.prog (vS (Instr.loadAt 60 t160)) w fun t161 w =>
 mN Try.prog (nilS a0) w fun t162 w =>
 mN Try.prog (vS (Instr.fieldAt 98 t162 3)) w fun t163 w =>
 mN Try.prog (uS (Instr.storeAt 60 t163 t161)) w fun _ w =>
 K (.bool true) w)
 (K (.bool true) w)))) ∧
 mN Try.prog (vS (Instr.alloc 62 true (.tuple #[]))) w fun t7 w =>
 rdN Try.prog (vS (Instr.loadAt 3 t137)) t138 w ∧
 rdN Try.prog (vS (Instr.loadAt 3 t135)) t136 w ∧
 rdN Try.prog (vS (Instr.loadAt 60 t132)) t133 w ∧
 rdN Try.prog (vS (Instr.loadAt 3 t128)) t129 w ∧
 rdN Try.prog (vS (Instr.loadAt 60 t125)) t126 w ∧
 rdN Try.prog (vS (Instr.loadAt 33 t121)) t122 w ∧
 mCall Try.prog 39 #[t122, t139] w fun t140 w =>
 rdN Try.prog (vS (Instr.loadAt 3 t137)) t138 w ∧
 rdN Try.prog (vS (Instr.loadAt 3 t135)) t136 w ∧
 rdN Try.prog (vS (Instr.loadAt 60 t132)) t133 w ∧
 rdN Try.prog (vS (Instr.loadAt 3 t128)) t129 w ∧
 rdN Try.prog (vS (Instr.loadAt 60 t125)) t126 w ∧
 mN Try.prog (uS (Instr.storeAt 62 t7 t140)) w fun _ w =>
 mN Try.prog (vS (Instr.fieldAt 62 t7 1)) w fun t142 w =>
 mN Try.prog (vS (Instr.loadAt 3 t142)) w fun t143 w =>
 mN Try.prog (vS (eqS .neq 3 false false t118 t143)) w fun t144 w =>
 mIf t144
 (K (.bool false) w)
 (mN Try.prog (vS (eqS .eql 57 false true t117 (.pointer none))) w fun t147 w =>
 mN Try.prog (vS (Instr.fieldAt 62 t7 0)) w fun t148 w =>
 mN Try.prog (vS (Instr.loadAt 60 t148)) w fun t149 w =>
 mN Try.prog (vS (eqS .eql 60 false true t149 (.pointer none))) w fun t150 w =>
 mN Try.prog (vS (eqS .neq 4 false false t147 t150)) w fun t151 w =>
 mIf t151
 (K (.bool false) w)
 (mN Try.prog (vS (eqS .neq 57 false true t117 (.pointer none))) w fun t154 w =>
 mIf t154
 (mN Try.prog (nilS a0) w fun t157 w =>
 mN Try.prog (vS (Instr.fieldAt 98 t157 2)) w fun t158 w =>
 mN Try.prog (uS (Instr.storeAt 57 t158 t117)) w fun _ w =>
 mN Try.prog (vS (Instr.fieldAt 62 t7 0)) w fun t160 w =>
 mN Try.prog (vS (Instr.loadAt 60 t160)) w fun t161 w =>
 mN Try.prog (nilS a0) w fun t162 w =>
 mN Try.prog (vS (Instr.fieldAt 98 t162 3)) w fun t163 w =>
 mN Try.prog (uS (Instr.storeAt 60 t163 t161)) w fun _ w =>
 K (.bool true) w)
 (K (.bool true) w))))
 (mN Try.prog (vS (eqS .eql 3 false true t10 (.int .i64 8))) w fun t165 w =>
 mIf t165
 (mDrew w fun w =>
 mP Try.prog (nilS a0) fun t167 =>
 mP Try.prog (vS (Instr.fieldAt 98 t167 0)) fun t168 =>
 mR Try.prog (vS (Instr.loadAt 23 t168)) w fun t169 =>
 mP Try.prog (vS (Instr.fieldAt 100 t3 3)) fun t170 =>
 mR Try.prog (vS (Instr.loadAt 35 t170)) w fun t171 =>
 mP Try.prog (nilS a0) fun t174 =>
 mP Try.prog (vS (Instr.fieldAt 98 t174 1)) fun t175 =>
 mR Try.prog (vS (Instr.loadAt 33 t175)) w fun t176 =>
 mP Try.prog (vS (Instr.fieldAt 100 t3 3)) fun t177 =>
 mR Try.prog (vS (Instr.loadAt 35 t177)) w fun t178 =>
 mCall Try.prog 30 #[t169, t171] w fun t172 w =>
 rdN Try.prog (vS (Instr.loadAt 35 t177)) t178 w ∧
 rdN Try.prog (vS (Instr.loadAt 33 t175)) t176 w ∧
 mCall Try.prog 80 #[t176, t178] w fun t179 w =>
 mP Try.prog (vS (eqS .eql 3 false false t172 t179)) fun t180 =>
 mIf t180
 (mP Try.prog (nilS a0) fun t183 =>
 mP Try.prog (vS (Instr.fieldAt 98 t183 0)) fun t184 =>
 mR Try.prog (vS (Instr.loadAt 23 t184)) w fun t185 =>
 mP Try.prog (nilS a0) fun t188 =>
 mP Try.prog (vS (Instr.fieldAt 98 t188 1)) fun t189 =>
 mR Try.prog (vS (Instr.loadAt 33 t189)) w fun t190 =>
 mCall Try.prog 31 #[t185] w fun t186 w =>
 rdN Try.prog (vS (Instr.loadAt 33 t189)) t190 w ∧
 mCall Try.prog 81 #[t190] w fun t191 w =>
 mP Try.prog (vS (eqS .eql 3 false false t186 t191)) fun t192 =>
 K t192 w)
 (K (.bool false) w))
 (mN Try.prog (vS (eqS .eql 3 false true t10 (.int .i64 9))) w fun t195 w =>
 mIf t195
 (mN Try.prog (vS (Instr.fieldAt 100 t3 1)) w fun t196 w =>
 mN Try.prog (vS (Instr.loadAt 3 t196)) w fun t197 w =>
 mN Try.prog (vS (Instr.fieldAt 100 t3 3)) w fun t198 w =>
 mN Try.prog (vS (Instr.loadAt 35 t198)) w fun t199 w =>
 mN Try.prog (vS (Instr.build 104 #[(0, t197), (2, t199)])) w fun t200 w =>
 mN Try.prog (vS (Instr.alloc 104 true (.tuple #[]))) w fun t8 w =>
 mN Try.prog (uS (Instr.storeAt 104 t8 t200)) w fun _ w =>
 mDrew w fun w =>
 mP Try.prog (nilS a0) fun t202 =>
 mP Try.prog (vS (Instr.fieldAt 98 t202 0)) fun t203 =>
 mR Try.prog (vS (Instr.loadAt 23 t203)) w fun t204 =>
 mP Try.prog (vS (Instr.fieldAt 100 t3 1)) fun t205 =>
 mR Try.prog (vS (Instr.loadAt 3 t205)) w fun t206 =>
 mP Try.prog (vS (Instr.fieldAt 100 t3 3)) fun t207 =>
 mR Try.prog (vS (Instr.loadAt 35 t207)) w fun t208 =>
 mP Try.prog (vS (Instr.build 42 #[(0, t206), (2, t208)])) fun t209 =>
 mP Try.prog (nilS a0) fun t212 =>
 mP Try.prog (vS (Instr.fieldAt 98 t212 1)) fun t213 =>
 mR Try.prog (vS (Instr.loadAt 33 t213)) w fun t214 =>
 mR Try.prog (vS (Instr.loadAt 104 t8)) w fun t215 =>
 mCall Try.prog 26 #[t204, t209] w fun t210 w =>
 rdN Try.prog (vS (Instr.loadAt 104 t8)) t215 w ∧
 rdN Try.prog (vS (Instr.loadAt 33 t213)) t214 w ∧
 rdN Try.prog (vS (Instr.loadAt 35 t207)) t208 w ∧
 rdN Try.prog (vS (Instr.loadAt 3 t205)) t206 w ∧
 mCall Try.prog 82 #[t214, t215] w fun t216 w =>
 rdN Try.prog (vS (Instr.loadAt 35 t207)) t208 w ∧
 rdN Try.prog (vS (Instr.loadAt 3 t205)) t206 w ∧
 mP Try.prog (vS (eqS .eql 3 false false t210 t216)) fun t217 =>
 K t217 w)
 (K (.bool true) w)))))))))

theorem eq58 (a0 a1 : Value) (w : World) (K : Value → World → Prop) : vcF Try.prog cOk (.n .z (.n (.n .z (.n (.n .z (.j [11] [13, 14, 11] .z)) (.n (.n (.d [6, 13] [0, 1, 2, 3, 4, 5, 7, 8, 9, 10, 11, 12, 6, 13, 14, 15]) .z) (.n .z (.n (.n (.d [4, 13] [0, 1, 2, 3, 5, 6, 7, 8, 9, 10, 11, 12, 4, 13, 14, 15]) .z) (.n .z (.n (.n (.d [4, 9] [0, 1, 2, 3, 5, 6, 7, 8, 4, 9, 10, 11]) .z) (.n .z (.n (.n .z (.d [14] [0, 1, 2, 3, 4, 5, 6, 7, 8, 9, 10, 11, 12, 13, 14])) (.n .z (.n .z (.n .z (.n (.n (.d [20] [0, 1, 2, 3, 4, 5, 6, 7, 8, 9, 10, 11, 12, 13, 14, 15, 16, 17, 18, 19, 20, 21, 22, 23, 24, 25]) (.n (.t [21, 22, 23] (.t 0 (.t 1 (.t 2 (.t 3 (.t 4 (.t 5 (.t 6 (.t 7 (.t 8 (.t 9 (.t 10 (.t 11 (.t 12 (.t 13 (.t 14 (.t 15 (.t 16 (.t 17 (.t 18 (.t 19 (.t 20 (.f 21 (.e 22 (.e 23 .z)) (.e 22 (.e 21 (.e 23 .z)))))))))))))))))))))))))) .z)) (.n .z (.n (.n (.d [6, 13, 20, 25] [0, 1, 2, 3, 4, 5, 7, 8, 9, 10, 11, 12, 6, 13, 14, 15, 16, 17, 18, 19, 21, 22, 23, 24, 20, 25, 26, 27, 28]) .z) (.n .z (.n (.n .z (.n (.d [9, 15] [0, 1, 2, 3, 4, 5, 6, 7, 8, 10, 11, 12, 13, 14, 9, 15, 16, 17]) .z)) .z))))))))))))))))) .z)) Try.f58 [a0, a1] w K = sh58 a0 a1 w K := by kernel_rfl

theorem ok58 {a0 a1 : Value} {w : World} {K : Value → World → Prop} (h : sh58 a0 a1 w K) : Calls Try.prog 58 #[a0, a1] w (retK K) :=
  calls_of_vcF (k := (.n .z (.n (.n .z (.n (.n .z (.j [11] [13, 14, 11] .z)) (.n (.n (.d [6, 13] [0, 1, 2, 3, 4, 5, 7, 8, 9, 10, 11, 12, 6, 13, 14, 15]) .z) (.n .z (.n (.n (.d [4, 13] [0, 1, 2, 3, 5, 6, 7, 8, 9, 10, 11, 12, 4, 13, 14, 15]) .z) (.n .z (.n (.n (.d [4, 9] [0, 1, 2, 3, 5, 6, 7, 8, 4, 9, 10, 11]) .z) (.n .z (.n (.n .z (.d [14] [0, 1, 2, 3, 4, 5, 6, 7, 8, 9, 10, 11, 12, 13, 14])) (.n .z (.n .z (.n .z (.n (.n (.d [20] [0, 1, 2, 3, 4, 5, 6, 7, 8, 9, 10, 11, 12, 13, 14, 15, 16, 17, 18, 19, 20, 21, 22, 23, 24, 25]) (.n (.t [21, 22, 23] (.t 0 (.t 1 (.t 2 (.t 3 (.t 4 (.t 5 (.t 6 (.t 7 (.t 8 (.t 9 (.t 10 (.t 11 (.t 12 (.t 13 (.t 14 (.t 15 (.t 16 (.t 17 (.t 18 (.t 19 (.t 20 (.f 21 (.e 22 (.e 23 .z)) (.e 22 (.e 21 (.e 23 .z)))))))))))))))))))))))))) .z)) (.n .z (.n (.n (.d [6, 13, 20, 25] [0, 1, 2, 3, 4, 5, 7, 8, 9, 10, 11, 12, 6, 13, 14, 15, 16, 17, 18, 19, 21, 22, 23, 24, 20, 25, 26, 27, 28]) .z) (.n .z (.n (.n .z (.n (.d [9, 15] [0, 1, 2, 3, 4, 5, 6, 7, 8, 10, 11, 12, 13, 14, 9, 15, 16, 17]) .z)) .z))))))))))))))))) .z))) callsOk mixed Try.func58 ((eq58 a0 a1 w K).symm ▸ h)

/-- recto/rectoref29.Plain -/
def sh59 (a0 : Value) (w : World) (K : Value → World → Prop) : Prop :=
 mN Try.prog (builtin .len #[67] 3 #[false] #[a0]) w fun t7 w =>
 mLoop2 (fun t3 t8 w k =>
 mN Try.prog (vS (binOp .lss 3 t8 t7)) w fun t9 w =>
 mIf t9
 (mN Try.prog (vS (Instr.indexAt 67 a0 t8)) w fun t10 w =>
 mN Try.prog (vS (Instr.loadAt 9 t10)) w fun t11 w =>
 mN Try.prog (builtin .len #[9] 3 #[false] #[t11]) w fun t14 w =>
 mCall Try.prog 108 #[t14] w fun t15 w =>
 mN Try.prog (vS (binOp .add 9 t3 t15)) w fun t16 w =>
 mN Try.prog (vS (binOp .add 9 t16 t11)) w fun t18 w =>
 mN Try.prog (vS (binOp .add 3 t8 (.int .i64 1))) w fun t19 w =>
 k t18 t19 w)
 (K t3 w))
 (.string ⟨#[]⟩) (.int .i64 0) w

theorem eq59 (a0 : Value) (w : World) (K : Value → World → Prop) : vcF Try.prog cOk (.n .z (.n .z (.n (.n .z (.l [3, 8] [9, 10, 11, 5, 12, 13, 14, 15, 16, 17, 18, 3, 19, 8] .z)) .z))) Try.f59 [a0] w K = sh59 a0 w K := by kernel_rfl

theorem ok59 {a0 : Value} {w : World} {K : Value → World → Prop} (h : sh59 a0 w K) : Calls Try.prog 59 #[a0] w (retK K) :=
  calls_of_vcF (k := (.n .z (.n .z (.n (.n .z (.l [3, 8] [9, 10, 11, 5, 12, 13, 14, 15, 16, 17, 18, 3, 19, 8] .z)) .z)))) callsOk mixed Try.func59 ((eq59 a0 w K).symm ▸ h)

/-- recto/rectolaw30.long -/
def sh60 (a0 : Value) (w : World) (K : Value → World → Prop) : Prop :=
 mN Try.prog (builtin .len #[111] 3 #[false] #[a0]) w fun t9 w =>
 mLoop2 (fun t3 t10 w k =>
 mN Try.prog (vS (binOp .lss 3 t10 t9)) w fun t11 w =>
 mIf t11
 (mN Try.prog (vS (Instr.indexAt 111 a0 t10)) w fun t13 w =>
 mN Try.prog (vS (Instr.loadAt 110 t13)) w fun t14 w =>
 mN Try.prog (vS (Instr.alloc 110 true (.tuple #[]))) w fun t5 w =>
 mN Try.prog (uS (Instr.storeAt 110 t5 t14)) w fun _ w =>
 mN Try.prog (vS (binOp .gtr 3 t10 (.int .i64 30))) w fun t16 w =>
 mIf t16
 (K (.bool true) w)
 (mN Try.prog (vS (Instr.fieldAt 110 t5 4)) w fun t18 w =>
 mN Try.prog (vS (Instr.loadAt 35 t18)) w fun t19 w =>
 mN Try.prog (builtin .len #[35] 3 #[false] #[t19]) w fun t20 w =>
 mN Try.prog (vS (binOp .gtr 3 t20 (.int .i64 60))) w fun t21 w =>
 mIf t21
 (K (.bool true) w)
 (mN Try.prog (vS (Instr.fieldAt 110 t5 2)) w fun t24 w =>
 mN Try.prog (vS (Instr.loadAt 67 t24)) w fun t25 w =>
 mN Try.prog (builtin .len #[67] 3 #[false] #[t25]) w fun t26 w =>
 mN Try.prog (vS (binOp .gtr 3 t26 (.int .i64 20))) w fun t27 w =>
 mIf t27
 (K (.bool true) w)
 (mN Try.prog (vS (Instr.fieldAt 110 t5 2)) w fun t29 w =>
 mN Try.prog (vS (Instr.loadAt 67 t29)) w fun t30 w =>
 mN Try.prog (builtin .len #[67] 3 #[false] #[t30]) w fun t31 w =>
 mLoop2 (fun t3 t32 w k1 =>
 mN Try.prog (vS (binOp .lss 3 t32 t31)) w fun t33 w =>
 mIf t33
 (mN Try.prog (vS (Instr.indexAt 67 t30 t32)) w fun t34 w =>
 mN Try.prog (vS (Instr.loadAt 9 t34)) w fun t35 w =>
 mN Try.prog (builtin .len #[9] 3 #[false] #[t35]) w fun t37 w =>
 mN Try.prog (vS (binOp .gtr 3 t37 (.int .i64 70000))) w fun t38 w =>
 mIf t38
 (K (.bool true) w)
 (mN Try.prog (builtin .len #[9] 3 #[false] #[t35]) w fun t41 w =>
 mN Try.prog (vS (binOp .add 3 t3 t41)) w fun t42 w =>
 mN Try.prog (vS (binOp .gtr 3 t42 (.int .i64 140000))) w fun t44 w =>
 mIf t44
 (K (.bool true) w)
 (mN Try.prog (vS (binOp .add 3 t32 (.int .i64 1))) w fun t45 w =>
 k1 t42 t45 w)))
 (mN Try.prog (vS (binOp .add 3 t10 (.int .i64 1))) w fun t46 w =>
 k t3 t46 w))
 t3 (.int .i64 0) w))))
 (K (.bool false) w))
 (.int .i64 0) (.int .i64 0) w

theorem eq60 (a0 : Value) (w : World) (K : Value → World → Prop) : vcF Try.prog cOk (.n .z (.n .z (.n (.n .z (.l [3, 10] [11, 12, 13, 14, 5, 4, 15, 16, 17, 18, 19, 20, 21, 22, 23, 24, 25, 26, 27, 28, 29, 30, 31, 33, 34, 35, 7, 36, 37, 38, 39, 40, 41, 42, 3, 43, 44, 2, 45, 32, 46, 10] (.n .z (.n .z (.n (.n .z (.n .z (.n .z (.l [3, 32] [33, 34, 35, 7, 36, 37, 38, 39, 40, 41, 42, 3, 43, 44, 2, 45, 32] .z)))) .z))))) .z))) Try.f60 [a0] w K = sh60 a0 w K := by kernel_rfl

theorem ok60 {a0 : Value} {w : World} {K : Value → World → Prop} (h : sh60 a0 w K) : Calls Try.prog 60 #[a0] w (retK K) :=
  calls_of_vcF (k := (.n .z (.n .z (.n (.n .z (.l [3, 10] [11, 12, 13, 14, 5, 4, 15, 16, 17, 18, 19, 20, 21, 22, 23, 24, 25, 26, 27, 28, 29, 30, 31, 33, 34, 35, 7, 36, 37, 38, 39, 40, 41, 42, 3, 43, 44, 2, 45, 32, 46, 10] (.n .z (.n .z (.n (.n .z (.n .z (.n .z (.l [3, 32] [33, 34, 35, 7, 36, 37, 38, 39, 40, 41, 42, 3, 43, 44, 2, 45, 32] .z)))) .z))))) .z)))) callsOk mixed Try.func60 ((eq60 a0 w K).symm ▸ h)

/-- recto/rectolaw30.abc -/
def sh61 (w : World) (K : Value → World → Prop) : Prop :=
 mCall Try.prog 17 #[(.int .i64 6)] w fun t13 w =>
 mN Try.prog (vS (Instr.extract t13 0)) w fun t14 w =>
 mN Try.prog (vS (Instr.extract t13 1)) w fun t15 w =>
 mN Try.prog (vS (eqS .neq 24 false true t15 (.int .i64 0))) w fun t17 w =>
 mIf t17
 (K (.bool false) w)
 (mN Try.prog (vS (eqS .eql 23 false true t14 (.pointer none))) w fun t20 w =>
 mIf t20
 (K (.bool false) w)
 (mCall Try.prog 64 #[t14] w fun t24 w =>
 mN Try.prog (vS (Instr.extract t24 0)) w fun t25 w =>
 mN Try.prog (vS (Instr.extract t24 1)) w fun t26 w =>
 mN Try.prog (vS (Instr.buildSlice 67 2 #[(0, (.string ⟨#[97]⟩)), (1, (.string ⟨#[98]⟩))])) w fun t28 w =>
 mCall Try.prog 65 #[t25, t28] w fun t29 w =>
 mCall Try.prog 68 #[t25] w fun t31 w =>
 mN Try.prog (vS (Instr.buildSlice 67 1 #[(0, (.string ⟨#[99]⟩))])) w fun t33 w =>
 mCall Try.prog 67 #[t25, t33] w fun t34 w =>
 mCall Try.prog 72 #[t14] w fun t37 w =>
 mN Try.prog (vS (Instr.extract t37 0)) w fun t38 w =>
 mN Try.prog (vS (Instr.extract t37 1)) w fun t39 w =>
 mN Try.prog (vS (Instr.buildSlice 67 1 #[(0, (.string ⟨#[97, 98]⟩))])) w fun t41 w =>
 mCall Try.prog 62 #[t41] w fun t42 w =>
 mN Try.prog (vS (Instr.extract t42 0)) w fun t43 w =>
 mN Try.prog (vS (Instr.extract t42 1)) w fun t44 w =>
 mN Try.prog (vS (eqS .eql 24 false true t26 (.int .i64 0))) w fun t46 w =>
 mIf t46
 (mN Try.prog (vS (eqS .eql 24 false true t29 (.int .i64 0))) w fun t49 w =>
 mIf t49
 (mN Try.prog (vS (eqS .eql 24 false true t34 (.int .i64 0))) w fun t53 w =>
 mIf t53
 (mN Try.prog (vS (eqS .eql 24 false true t39 (.int .i64 0))) w fun t57 w =>
 mIf t57
 (mN Try.prog (vS (eqS .eql 24 false true t44 (.int .i64 0))) w fun t61 w =>
 mIf t61
 (mN Try.prog (vS (eqS .eql 3 false true t43 (.int .i64 4))) w fun t65 w =>
 mIf t65
 (mN Try.prog (vS (Instr.buildSlice 67 2 #[(0, (.string ⟨#[97]⟩)), (1, (.string ⟨#[98]⟩))])) w fun t69 w =>
 mCall Try.prog 40 #[t31, t69] w fun t70 w =>
 mIf t70
 (mCall Try.prog 68 #[t38] w fun t74 w =>
 mN Try.prog (vS (Instr.buildSlice 67 1 #[(0, (.string ⟨#[99]⟩))])) w fun t75 w =>
 mCall Try.prog 40 #[t74, t75] w fun t76 w =>
 mIf t76
 (mCall Try.prog 70 #[t38] w fun t80 w =>
 mN Try.prog (vS (eqS .eql 3 false true t80 (.int .i64 1))) w fun t81 w =>
 mIf t81
 (mCall Try.prog 69 #[t38] w fun t85 w =>
 mN Try.prog (vS (eqS .eql 3 false true t85 (.int .i64 3))) w fun t86 w =>
 mIf t86
 (mCall Try.prog 66 #[t38] w fun t90 w =>
 mN Try.prog (vS (eqS .eql 3 false true t90 (.int .i64 509))) w fun t91 w =>
 K t91 w)
 (K (.bool false) w))
 (K (.bool false) w))
 (K (.bool false) w))
 (K (.bool false) w))
 (K (.bool false) w))
 (K (.bool false) w))
 (K (.bool false) w))
 (K (.bool false) w))
 (K (.bool false) w))
 (K (.bool false) w)))

theorem eq61 (w : World) (K : Value → World → Prop) : vcF Try.prog cOk .z Try.f61 [] w K = sh61  w K := by kernel_rfl

theorem ok61 {w : World} {K : Value → World → Prop} (h : sh61  w K) : Calls Try.prog 61 #[] w (retK K) :=
  calls_of_vcF (k := .z) callsOk mixed Try.func61 ((eq61  w K).symm ▸ h)

/-- recto/region.Need -/
def sh62 (a0 : Value) (w : World) (K : Value → World → Prop) : Prop :=
 mN Try.prog (builtin .len #[67] 3 #[false] #[a0]) w fun t10 w =>
 mLoop2 (fun t4 t11 w k =>
 mN Try.prog (vS (binOp .lss 3 t11 t10)) w fun t12 w =>
 mIf t12
 (mN Try.prog (vS (Instr.indexAt 67 a0 t11)) w fun t13 w =>
 mN Try.prog (vS (Instr.loadAt 9 t13)) w fun t14 w =>
 mCall Try.prog 100 #[t14] w fun t17 w =>
 mN Try.prog (vS (Instr.extract t17 0)) w fun t18 w =>
 mN Try.prog (vS (Instr.extract t17 1)) w fun t19 w =>
 mN Try.prog (vS (eqS .neq 24 false true t19 (.int .i64 0))) w fun t21 w =>
 mIf t21
 (K (.tuple #[(.int .i64 0), t19]) w)
 (mN Try.prog (builtin .len #[9] 3 #[false] #[t18]) w fun t25 w =>
 mN Try.prog (vS (binOp .add 3 t4 t25)) w fun t26 w =>
 mN Try.prog (vS (binOp .add 3 t11 (.int .i64 1))) w fun t27 w =>
 k t26 t27 w))
 (K (.tuple #[t4, (.int .i64 0)]) w))
 (.int .i64 0) (.int .i64 0) w

theorem eq62 (a0 : Value) (w : World) (K : Value → World → Prop) : vcF Try.prog cOk (.n .z (.n .z (.n (.n .z (.l [4, 11] [12, 13, 14, 6, 16, 17, 15, 18, 19, 7, 8, 20, 21, 22, 2, 3, 23, 24, 25, 26, 4, 27, 11] .z)) .z))) Try.f62 [a0] w K = sh62 a0 w K := by kernel_rfl

theorem ok62 {a0 : Value} {w : World} {K : Value → World → Prop} (h : sh62 a0 w K) : Calls Try.prog 62 #[a0] w (retK K) :=
  calls_of_vcF (k := (.n .z (.n .z (.n (.n .z (.l [4, 11] [12, 13, 14, 6, 16, 17, 15, 18, 19, 7, 8, 20, 21, 22, 2, 3, 23, 24, 25, 26, 4, 27, 11] .z)) .z)))) callsOk mixed Try.func62 ((eq62 a0 w K).symm ▸ h)

/-- recto/rectoref30.Need -/
def sh63 (a0 : Value) (w : World) (K : Value → World → Prop) : Prop :=
 mN Try.prog (builtin .len #[67] 3 #[false] #[a0]) w fun t10 w =>
 mLoop2 (fun t4 t11 w k =>
 mN Try.prog (vS (binOp .lss 3 t11 t10)) w fun t12 w =>
 mIf t12
 (mN Try.prog (vS (Instr.indexAt 67 a0 t11)) w fun t13 w =>
 mN Try.prog (vS (Instr.loadAt 9 t13)) w fun t14 w =>
 mCall Try.prog 109 #[t14] w fun t17 w =>
 mN Try.prog (vS (Instr.extract t17 0)) w fun t18 w =>
 mN Try.prog (vS (Instr.extract t17 1)) w fun t19 w =>
 mN Try.prog (vS (eqS .neq 3 false true t19 (.int .i64 0))) w fun t21 w =>
 mIf t21
 (K (.tuple #[(.int .i64 0), t19]) w)
 (mN Try.prog (builtin .len #[9] 3 #[false] #[t18]) w fun t25 w =>
 mN Try.prog (vS (binOp .add 3 t4 t25)) w fun t26 w =>
 mN Try.prog (vS (binOp .add 3 t11 (.int .i64 1))) w fun t27 w =>
 k t26 t27 w))
 (K (.tuple #[t4, (.int .i64 0)]) w))
 (.int .i64 0) (.int .i64 0) w

theorem eq63 (a0 : Value) (w : World) (K : Value → World → Prop) : vcF Try.prog cOk (.n .z (.n .z (.n (.n .z (.l [4, 11] [12, 13, 14, 6, 16, 17, 15, 18, 19, 7, 8, 20, 21, 22, 2, 3, 23, 24, 25, 26, 4, 27, 11] .z)) .z))) Try.f63 [a0] w K = sh63 a0 w K := by kernel_rfl

theorem ok63 {a0 : Value} {w : World} {K : Value → World → Prop} (h : sh63 a0 w K) : Calls Try.prog 63 #[a0] w (retK K) :=
  calls_of_vcF (k := (.n .z (.n .z (.n (.n .z (.l [4, 11] [12, 13, 14, 6, 16, 17, 15, 18, 19, 7, 8, 20, 21, 22, 2, 3, 23, 24, 25, 26, 4, 27, 11] .z)) .z)))) callsOk mixed Try.func63 ((eq63 a0 w K).symm ▸ h)

/-- recto/region.Format -/
def sh64 (a0 : Value) (w : World) (K : Value → World → Prop) : Prop :=
 mCall Try.prog 52 #[a0] w fun t6 w =>
 mN Try.prog (vS (eqS .neq 24 false true t6 (.int .i64 0))) w fun t8 w =>
 mIf t8
 (K (.tuple #[(.pointer none), t6]) w)
 (mCall Try.prog 72 #[a0] w fun t11 w =>
 mN Try.prog (vS (Instr.extract t11 0)) w fun t12 w =>
 mN Try.prog (vS (Instr.extract t11 1)) w fun t13 w =>
 K (.tuple #[t12, t13]) w)

theorem eq64 (a0 : Value) (w : World) (K : Value → World → Prop) : vcF Try.prog cOk .z Try.f64 [a0] w K = sh64 a0 w K := by kernel_rfl

theorem ok64 {a0 : Value} {w : World} {K : Value → World → Prop} (h : sh64 a0 w K) : Calls Try.prog 64 #[a0] w (retK K) :=
  calls_of_vcF (k := .z) callsOk mixed Try.func64 ((eq64 a0 w K).symm ▸ h)

/-- (*recto/region.Journal).Commit -/
def sh65 (a0 a1 : Value) (w : World) (K : Value → World → Prop) : Prop :=
 mN Try.prog (vS (eqS .eql 116 false true a0 (.pointer none))) w fun t7 w =>
 mIf t7
 (K (.int .i64 7) w)
 (mN Try.prog (nilS a0) w fun t9 w =>
 mN Try.prog (vS (Instr.fieldAt 184 t9 1)) w fun t10 w =>
 mN Try.prog (vS (Instr.fieldAt 182 t10 0)) w fun t11 w =>
 mN Try.prog (vS (Instr.loadAt 57 t11)) w fun t12 w =>
 mCall Try.prog 110 #[t12, a1] w fun t14 w =>
 mN Try.prog (vS (eqS .eql 24 false true t14 (.int .i64 0))) w fun t16 w =>
 mJ (fun (J : Value → World → Prop) =>
 mIf t16
 (mDrew w fun w =>
 mP Try.prog (nilS a0) fun t19 =>
 mP Try.prog (vS (Instr.fieldAt 184 t19 1)) fun t20 =>
 mP Try.prog (vS (Instr.fieldAt 182 t20 0)) fun t21 =>
 mR Try.prog (vS (Instr.loadAt 57 t21)) w fun t22 =>
 mP Try.prog (nilS a0) fun t24 =>
 mP Try.prog (vS (Instr.fieldAt 184 t24 2)) fun t25 =>
 mR Try.prog (vS (Instr.loadAt 3 t25)) w fun t26 =>
 mCall Try.prog 111 #[a0, t22, t26] w fun t27 w =>
 J t27 w)
 (J t14 w))
 (fun t5 w =>
 mN Try.prog (vS (eqS .neq 24 false true t5 (.int .i64 0))) w fun t29 w =>
 mIf t29
 (mN Try.prog (nilS a0) w fun t31 w =>
 mN Try.prog (vS (Instr.fieldAt 184 t31 1)) w fun t32 w =>
 mN Try.prog (vS (Instr.fieldAt 182 t32 0)) w fun t33 w =>
 mN Try.prog (vS (Instr.loadAt 57 t33)) w fun t34 w =>
 mCall Try.prog 55 #[t34] w fun t35 w =>
 K t5 w)
 (mN Try.prog (nilS a0) w fun t38 w =>
 mN Try.prog (vS (Instr.fieldAt 184 t38 1)) w fun t39 w =>
 mN Try.prog (vS (Instr.fieldAt 182 t39 0)) w fun t40 w =>
 mN Try.prog (vS (Instr.loadAt 57 t40)) w fun t41 w =>
 mCall Try.prog 54 #[t41] w fun t42 w =>
 K (.int .i64 0) w)))

theorem eq65 (a0 a1 : Value) (w : World) (K : Value → World → Prop) : vcF Try.prog cOk (.n .z (.n .z (.n .z (.n (.n .z (.j [5] [17, 18, 19, 20, 21, 22, 23, 24, 25, 26, 27, 5] (.n (.d [10] [0, 1, 2, 3, 4, 5, 6, 7, 8, 9, 10, 11]) .z))) .z)))) Try.f65 [a0, a1] w K = sh65 a0 a1 w K := by kernel_rfl

theorem ok65 {a0 a1 : Value} {w : World} {K : Value → World → Prop} (h : sh65 a0 a1 w K) : Calls Try.prog 65 #[a0, a1] w (retK K) :=
  calls_of_vcF (k := (.n .z (.n .z (.n .z (.n (.n .z (.j [5] [17, 18, 19, 20, 21, 22, 23, 24, 25, 26, 27, 5] (.n (.d [10] [0, 1, 2, 3, 4, 5, 6, 7, 8, 9, 10, 11]) .z))) .z))))) callsOk mixed Try.func65 ((eq65 a0 a1 w K).symm ▸ h)

/-- (*recto/region.Journal).Room -/
def sh66 (a0 : Value) (w : World) (K : Value → World → Prop) : Prop :=
 mN Try.prog (vS (eqS .eql 116 false true a0 (.pointer none))) w fun t4 w =>
 mIf t4
 (K (.int .i64 0) w)
 (mN Try.prog (nilS a0) w fun t6 w =>
 mN Try.prog (vS (Instr.fieldAt 184 t6 1)) w fun t7 w =>
 mN Try.prog (vS (Instr.fieldAt 182 t7 0)) w fun t8 w =>
 mN Try.prog (vS (Instr.loadAt 57 t8)) w fun t9 w =>
 mCall Try.prog 44 #[t9] w fun t10 w =>
 K t10 w)

theorem eq66 (a0 : Value) (w : World) (K : Value → World → Prop) : vcF Try.prog cOk .z Try.f66 [a0] w K = sh66 a0 w K := by kernel_rfl

theorem ok66 {a0 : Value} {w : World} {K : Value → World → Prop} (h : sh66 a0 w K) : Calls Try.prog 66 #[a0] w (retK K) :=
  calls_of_vcF (k := .z) callsOk mixed Try.func66 ((eq66 a0 w K).symm ▸ h)

/-- (*recto/region.Journal).Rewrite -/
def sh67 (a0 a1 : Value) (w : World) (K : Value → World → Prop) : Prop :=
 mN Try.prog (vS (eqS .eql 116 false true a0 (.pointer none))) w fun t10 w =>
 mIf t10
 (K (.int .i64 7) w)
 (mDrew w fun w =>
 mP Try.prog (nilS a0) fun t13 =>
 mP Try.prog (vS (Instr.fieldAt 184 t13 0)) fun t14 =>
 mR Try.prog (vS (Instr.loadAt 180 t14)) w fun t15 =>
 mP Try.prog (nilS a0) fun t17 =>
 mP Try.prog (vS (Instr.fieldAt 184 t17 2)) fun t18 =>
 mR Try.prog (vS (Instr.loadAt 3 t18)) w fun t19 =>
 mP Try.prog (vS (binOp .sub 3 (.int .i64 1) t19)) fun t20 =>
 mCall Try.prog 112 #[t15, t20, (.int .i64 0)] w fun t21 w =>
 rdN Try.prog (vS (Instr.loadAt 3 t18)) t19 w ∧
 mP Try.prog (vS (Instr.extract t21 0)) fun t22 =>
 mP Try.prog (vS (Instr.extract t21 1)) fun t23 =>
 mN Try.prog (vS (eqS .neq 24 false true t23 (.int .i64 0))) w fun t25 w =>
 mIf t25
 (K t23 w)
 (mCall Try.prog 110 #[t22, a1] w fun t29 w =>
 mN Try.prog (vS (eqS .neq 24 false true t29 (.int .i64 0))) w fun t31 w =>
 mIf t31
 (K t29 w)
 (mN Try.prog (nilS a0) w fun t36 w =>
 mN Try.prog (vS (Instr.fieldAt 184 t36 2)) w fun t37 w =>
 mN Try.prog (vS (Instr.loadAt 3 t37)) w fun t38 w =>
 mN Try.prog (vS (binOp .sub 3 (.int .i64 1) t38)) w fun t39 w =>
 mCall Try.prog 111 #[a0, t22, t39] w fun t40 w =>
 mN Try.prog (vS (eqS .neq 24 false true t40 (.int .i64 0))) w fun t42 w =>
 mIf t42
 (K t40 w)
 (mCall Try.prog 54 #[t22] w fun t45 w =>
 mN Try.prog (vS (Instr.build 182 #[(0, t22)])) w fun t49 w =>
 mN Try.prog (nilS a0) w fun t51 w =>
 mN Try.prog (vS (Instr.fieldAt 184 t51 2)) w fun t52 w =>
 mN Try.prog (vS (Instr.loadAt 3 t52)) w fun t53 w =>
 mN Try.prog (vS (binOp .sub 3 (.int .i64 1) t53)) w fun t54 w =>
 mN Try.prog (nilS a0) w fun t55 w =>
 mN Try.prog (vS (Instr.fieldAt 184 t55 1)) w fun t56 w =>
 mN Try.prog (uS (Instr.storeAt 182 t56 t49)) w fun _ w =>
 mN Try.prog (nilS a0) w fun t57 w =>
 mN Try.prog (vS (Instr.fieldAt 184 t57 2)) w fun t58 w =>
 mN Try.prog (uS (Instr.storeAt 3 t58 t54)) w fun _ w =>
 K (.int .i64 0) w))))

theorem eq67 (a0 a1 : Value) (w : World) (K : Value → World → Prop) : vcF Try.prog cOk (.n .z (.n .z (.n (.d [9] [0, 1, 2, 3, 4, 5, 6, 7, 8, 9, 10, 11, 12, 13, 14]) .z))) Try.f67 [a0, a1] w K = sh67 a0 a1 w K := by kernel_rfl

theorem ok67 {a0 a1 : Value} {w : World} {K : Value → World → Prop} (h : sh67 a0 a1 w K) : Calls Try.prog 67 #[a0, a1] w (retK K) :=
  calls_of_vcF (k := (.n .z (.n .z (.n (.d [9] [0, 1, 2, 3, 4, 5, 6, 7, 8, 9, 10, 11, 12, 13, 14]) .z)))) callsOk mixed Try.func67 ((eq67 a0 a1 w K).symm ▸ h)

/-- (*recto/region.Journal).Records -/
def sh68 (a0 : Value) (w : World) (K : Value → World → Prop) : Prop :=
 mN Try.prog (vS (eqS .eql 116 false true a0 (.pointer none))) w fun t4 w =>
 mIf t4
 (K (.slice none 0 0) w)
 (mN Try.prog (nilS a0) w fun t6 w =>
 mN Try.prog (vS (Instr.fieldAt 184 t6 1)) w fun t7 w =>
 mN Try.prog (vS (Instr.fieldAt 182 t7 0)) w fun t8 w =>
 mN Try.prog (vS (Instr.loadAt 57 t8)) w fun t9 w =>
 mCall Try.prog 41 #[t9] w fun t10 w =>
 K t10 w)

theorem eq68 (a0 : Value) (w : World) (K : Value → World → Prop) : vcF Try.prog cOk .z Try.f68 [a0] w K = sh68 a0 w K := by kernel_rfl

theorem ok68 {a0 : Value} {w : World} {K : Value → World → Prop} (h : sh68 a0 w K) : Calls Try.prog 68 #[a0] w (retK K) :=
  calls_of_vcF (k := .z) callsOk mixed Try.func68 ((eq68 a0 w K).symm ▸ h)

/-- (*recto/region.Journal).Bytes -/
def sh69 (a0 : Value) (w : World) (K : Value → World → Prop) : Prop :=
 mN Try.prog (vS (eqS .eql 116 false true a0 (.pointer none))) w fun t4 w =>
 mIf t4
 (K (.int .i64 0) w)
 (mN Try.prog (nilS a0) w fun t6 w =>
 mN Try.prog (vS (Instr.fieldAt 184 t6 1)) w fun t7 w =>
 mN Try.prog (vS (Instr.fieldAt 182 t7 0)) w fun t8 w =>
 mN Try.prog (vS (Instr.loadAt 57 t8)) w fun t9 w =>
 mCall Try.prog 43 #[t9] w fun t10 w =>
 K t10 w)

theorem eq69 (a0 : Value) (w : World) (K : Value → World → Prop) : vcF Try.prog cOk .z Try.f69 [a0] w K = sh69 a0 w K := by kernel_rfl

theorem ok69 {a0 : Value} {w : World} {K : Value → World → Prop} (h : sh69 a0 w K) : Calls Try.prog 69 #[a0] w (retK K) :=
  calls_of_vcF (k := .z) callsOk mixed Try.func69 ((eq69 a0 w K).symm ▸ h)

/-- (*recto/region.Journal).Region -/
def sh70 (a0 : Value) (w : World) (K : Value → World → Prop) : Prop :=
 mN Try.prog (vS (eqS .eql 116 false true a0 (.pointer none))) w fun t4 w =>
 mIf t4
 (K (.int .i64 0) w)
 (mN Try.prog (nilS a0) w fun t6 w =>
 mN Try.prog (vS (Instr.fieldAt 184 t6 2)) w fun t7 w =>
 mN Try.prog (vS (Instr.loadAt 3 t7)) w fun t8 w =>
 K t8 w)

theorem eq70 (a0 : Value) (w : World) (K : Value → World → Prop) : vcF Try.prog cOk .z Try.f70 [a0] w K = sh70 a0 w K := by kernel_rfl

theorem ok70 {a0 : Value} {w : World} {K : Value → World → Prop} (h : sh70 a0 w K) : Calls Try.prog 70 #[a0] w (retK K) :=
  calls_of_vcF (k := .z) callsOk mixed Try.func70 ((eq70 a0 w K).symm ▸ h)

/-- recto/rectolaw30.put -/
def sh71 (a0 a1 : Value) (w : World) (K : Value → World → Prop) : Prop :=
 mN Try.prog (builtin .append #[67, 67] 67 #[false, false] #[(.slice none 0 0), a0]) w fun t8 w =>
 mN Try.prog (builtin .append #[67, 67] 67 #[false, false] #[t8, a1]) w fun t11 w =>
 K t11 w

theorem eq71 (a0 a1 : Value) (w : World) (K : Value → World → Prop) : vcF Try.prog cOk .z Try.f71 [a0, a1] w K = sh71 a0 a1 w K := by kernel_rfl

theorem ok71 {a0 a1 : Value} {w : World} {K : Value → World → Prop} (h : sh71 a0 a1 w K) : Calls Try.prog 71 #[a0, a1] w (retK K) :=
  calls_of_vcF (k := .z) callsOk mixed Try.func71 ((eq71 a0 a1 w K).symm ▸ h)

/-- recto/region.Open -/
def sh72 (a0 : Value) (w : World) (K : Value → World → Prop) : Prop :=
 mCall Try.prog 49 #[a0] w fun t11 w =>
 mN Try.prog (vS (Instr.extract t11 0)) w fun t12 w =>
 mN Try.prog (vS (Instr.extract t11 1)) w fun t13 w =>
 mN Try.prog (vS (Instr.extract t11 2)) w fun t14 w =>
 mN Try.prog (vS (Instr.alloc 50 true (.tuple #[]))) w fun t4 w =>
 mN Try.prog (uS (Instr.storeAt 50 t4 t12)) w fun _ w =>
 mN Try.prog (vS (eqS .neq 24 false true t14 (.int .i64 0))) w fun t16 w =>
 mIf t16
 (K (.tuple #[(.pointer none), t14]) w)
 (mN Try.prog (vS (Instr.build 180 #[(0, a0)])) w fun t19 w =>
 mN Try.prog (vS (Instr.alloc 180 true (.tuple #[]))) w fun t7 w =>
 mN Try.prog (uS (Instr.storeAt 180 t7 t19)) w fun _ w =>
 mN Try.prog (vS (Instr.loadAt 180 t7)) w fun t21 w =>
 mN Try.prog (vS (Instr.fieldAt 50 t4 1)) w fun t22 w =>
 mN Try.prog (vS (Instr.loadAt 3 t22)) w fun t23 w =>
 mN Try.prog (vS (Instr.fieldAt 50 t4 2)) w fun t24 w =>
 mN Try.prog (vS (Instr.loadAt 3 t24)) w fun t25 w =>
 mCall Try.prog 112 #[t21, t23, t25] w fun t26 w =>
 mN Try.prog (vS (Instr.extract t26 0)) w fun t27 w =>
 mN Try.prog (vS (Instr.extract t26 1)) w fun t28 w =>
 mN Try.prog (vS (eqS .eql 24 false true t28 (.int .i64 1))) w fun t31 w =>
 mIf t31
 (K (.tuple #[(.pointer none), (.int .i64 290)]) w)
 (mN Try.prog (vS (eqS .neq 24 false true t28 (.int .i64 0))) w fun t34 w =>
 mIf t34
 (K (.tuple #[(.pointer none), t28]) w)
 (mDrew w fun w =>
 mP Try.prog (vS (Instr.fieldAt 50 t4 3)) fun t40 =>
 mR Try.prog (vS (Instr.loadAt 3 t40)) w fun t41 =>
 mCall Try.prog 41 #[t27] w fun t38 w =>
 rdN Try.prog (vS (Instr.loadAt 3 t40)) t41 w ∧
 mP Try.prog (builtin .len #[67] 3 #[false] #[t38]) fun t39 =>
 mP Try.prog (vS (eqS .neq 3 false false t39 t41)) fun t42 =>
 mIf t42
 (K (.tuple #[(.pointer none), (.int .i64 290)]) w)
 (mN Try.prog (vS (Instr.loadAt 180 t7)) w fun t43 w =>
 mN Try.prog (vS (Instr.build 182 #[(0, t27)])) w fun t45 w =>
 mN Try.prog (vS (Instr.fieldAt 50 t4 1)) w fun t46 w =>
 mN Try.prog (vS (Instr.loadAt 3 t46)) w fun t47 w =>
 mN Try.prog (vS (Instr.build 184 #[(0, t43), (1, t45), (2, t47)])) w fun t48 w =>
 mN Try.prog (vS (Instr.box 184 t48)) w fun t49 w =>
 K (.tuple #[t49, (.int .i64 0)]) w))))

theorem eq72 (a0 : Value) (w : World) (K : Value → World → Prop) : vcF Try.prog cOk (.n .z (.n .z (.n .z (.n .z (.n .z (.n (.n .z (.n .z (.n .z (.n .z (.n (.d [1] [0, 3, 4, 1, 2, 5, 6]) .z))))) .z)))))) Try.f72 [a0] w K = sh72 a0 w K := by kernel_rfl

theorem ok72 {a0 : Value} {w : World} {K : Value → World → Prop} (h : sh72 a0 w K) : Calls Try.prog 72 #[a0] w (retK K) :=
  calls_of_vcF (k := (.n .z (.n .z (.n .z (.n .z (.n .z (.n (.n .z (.n .z (.n .z (.n .z (.n (.d [1] [0, 3, 4, 1, 2, 5, 6]) .z))))) .z))))))) callsOk mixed Try.func72 ((eq72 a0 w K).symm ▸ h)

/-- recto/disk.cut -/
def sh73 (a0 : Value) (w : World) (K : Value → World → Prop) : Prop :=
 mN Try.prog (vS (Instr.alloc 124 true (.tuple #[]))) w fun t2 w =>
 mN Try.prog (vS (Instr.alloc 124 true (.tuple #[]))) w fun t3 w =>
 mLoop1 (fun t5 w k =>
 mN Try.prog (vS (binOp .lss 3 t5 (.int .i64 4))) w fun t6 w =>
 mIf t6
 (mN Try.prog (vS (binOp .mul 3 t5 (.int .i64 64))) w fun t11 w =>
 mN Try.prog (vS (binOp .add 3 t5 (.int .i64 1))) w fun t13 w =>
 mN Try.prog (vS (binOp .mul 3 t13 (.int .i64 64))) w fun t14 w =>
 mN Try.prog (vS (Instr.sliceAt 9 a0 (some t11) (some t14) none)) w fun t15 w =>
 mN Try.prog (vS (Instr.indexAt 124 t3 t5)) w fun t16 w =>
 mN Try.prog (uS (Instr.storeAt 9 t16 t15)) w fun _ w =>
 mN Try.prog (vS (binOp .add 3 t5 (.int .i64 1))) w fun t17 w =>
 k t17 w)
 (mN Try.prog (vS (Instr.loadAt 124 t3)) w fun t18 w =>
 mN Try.prog (uS (Instr.storeAt 124 t2 t18)) w fun _ w =>
 mRes Try.prog (cellS 124 t2) w fun r0 =>
 K r0 w))
 (.int .i64 0) w

theorem eq73 (a0 : Value) (w : World) (K : Value → World → Prop) : vcF Try.prog cOk (.n .z (.n .z (.n (.n .z (.l [5] [6, 7, 4, 8, 9, 10, 11, 12, 13, 14, 15, 16, 17, 5] .z)) .z))) Try.f73 [a0] w K = sh73 a0 w K := by kernel_rfl

theorem ok73 {a0 : Value} {w : World} {K : Value → World → Prop} (h : sh73 a0 w K) : Calls Try.prog 73 #[a0] w (retK K) :=
  calls_of_vcF (k := (.n .z (.n .z (.n (.n .z (.l [5] [6, 7, 4, 8, 9, 10, 11, 12, 13, 14, 15, 16, 17, 5] .z)) .z)))) callsOk mixed Try.func73 ((eq73 a0 w K).symm ▸ h)

/-- strings.Repeat -/
def sh74 (a0 a1 : Value) (w : World) (K : Value → World → Prop) : Prop :=
 mN Try.prog (vS (eqS .eql 3 false true a1 (.int .i64 0))) w fun t13 w =>
 mIf t13
 (K (.string ⟨#[]⟩) w)
 (mN Try.prog (vS (eqS .eql 3 false true a1 (.int .i64 1))) w fun t15 w =>
 mIf t15
 (K a0 w)
 (mN Try.prog (vS (binOp .lss 3 a1 (.int .i64 0))) w fun t18 w =>
 mJ (fun (J : World → Prop) =>
 mIf t18
 (mN Try.prog (vS (Instr.makeInterface 9 (.string ⟨#[115, 116, 114, 105, 110, 103, 115, 58, 32, 110, 101, 103, 97, 116, 105, 118, 101, 32, 82, 101, 112, 101, 97, 116, 32, 99, 111, 117, 110, 116]⟩))) w fun t19 w =>
 mN Try.prog (vS (Instr.panic t19)) w fun _ w =>
 J w)
 (J w))
 (fun w =>
 mN Try.prog (builtin .len #[9] 3 #[false] #[a0]) w fun t22 w =>
 mN Try.prog (vS (convert 3 187 t22)) w fun t23 w =>
 mN Try.prog (vS (convert 3 187 a1)) w fun t25 w =>
 mCall Try.prog 113 #[t23, t25] w fun t26 w =>
 mN Try.prog (vS (Instr.extract t26 0)) w fun t27 w =>
 mN Try.prog (vS (Instr.extract t26 1)) w fun t28 w =>
 mJ (fun (J : Value → World → Prop) =>
 mN Try.prog (vS (binOp .gtr 187 t27 (.int .u64 0))) w fun t30 w =>
 mIf t30
 (J (.bool true) w)
 (mN Try.prog (vS (binOp .gtr 187 t28 (.int .u64 9223372036854775807))) w fun t33 w =>
 J t33 w))
 (fun t34 w =>
 mJ (fun (J : World → Prop) =>
 mIf t34
 (mN Try.prog (vS (Instr.makeInterface 9 (.string ⟨#[115, 116, 114, 105, 110, 103, 115, 58, 32, 82, 101, 112, 101, 97, 116, 32, 111, 117, 116, 112, 117, 116, 32, 108, 101, 110, 103, 116, 104, 32, 111, 118, 101, 114, 102, 108, 111, 119]⟩))) w fun t35 w =>
 mN Try.prog (vS (Instr.panic t35)) w fun _ w =>
 J w)
 (J w))
 (fun w =>
 mN Try.prog (vS (convert 187 3 t28)) w fun t37 w =>
 mN Try.prog (builtin .len #[9] 3 #[false] #[a0]) w fun t39 w =>
 mN Try.prog (vS (eqS .eql 3 false true t39 (.int .i64 0))) w fun t40 w =>
 mIf t40
 (K (.string ⟨#[]⟩) w)
 (mN Try.prog (vS (Instr.index 9 a0 (.int .i64 0))) w fun t42 w =>
 mN Try.prog (vS (eqS .eql 5 false true t42 (.int .u8 32))) w fun t44 w =>
 mJ (fun (J : Value → World → Prop) =>
 mIf t44
 (J t44 w)
 (mN Try.prog (vS (eqS .eql 5 false true t42 (.int .u8 45))) w fun t45 w =>
 mIf t45
 (J t45 w)
 (mN Try.prog (vS (eqS .eql 5 false true t42 (.int .u8 48))) w fun t46 w =>
 mIf t46
 (J t46 w)
 (mN Try.prog (vS (eqS .eql 5 false true t42 (.int .u8 61))) w fun t47 w =>
 mIf t47
 (J t47 w)
 (mN Try.prog (vS (eqS .eql 5 false true t42 (.int .u8 9))) w fun t48 w =>
 J t48 w)))))
 (fun t43 w =>
 mJ (fun (J : World → Prop) =>
 mIf t43
 (mJ (fun (J : Value → World → Prop) =>
 mN Try.prog (vS (binOp .leq 3 t37 (.int .i64 128))) w fun t51 w =>
 mIf t51
 (mCall Try.prog 114 #[(.string ⟨#[32, 32, 32, 32, 32, 32, 32, 32, 32, 32, 32, 32, 32, 32, 32, 32, 32, 32, 32, 32, 32, 32, 32, 32, 32, 32, 32, 32, 32, 32, 32, 32, 32, 32, 32, 32, 32, 32, 32, 32, 32, 32, 32, 32, 32, 32, 32, 32, 32, 32, 32, 32, 32, 32, 32, 32, 32, 32, 32, 32, 32, 32, 32, 32, 32, 32, 32, 32, 32, 32, 32, 32, 32, 32, 32, 32, 32, 32, 32, 32, 32, 32, 32, 32, 32, 32, 32, 32, 32, 32, 32, 32, 32, 32, 32, 32, 32, 32, 32, 32, 32, 32, 32, 32, 32, 32, 32, 32, 32, 32, 32, 32, 32, 32, 32, 32, 32, 32, 32, 32, 32, 32, 32, 32, 32, 32, 32, 32]⟩), a0] w fun t54 w =>
 J t54 w)
 (J (.bool false) w))
 (fun t49 w =>
 mIf t49
 (mN Try.prog (vS (Instr.sliceAt 9 (.string ⟨#[32, 32, 32, 32, 32, 32, 32, 32, 32, 32, 32, 32, 32, 32, 32, 32, 32, 32, 32, 32, 32, 32, 32, 32, 32, 32, 32, 32, 32, 32, 32, 32, 32, 32, 32, 32, 32, 32, 32, 32, 32, 32, 32, 32, 32, 32, 32, 32, 32, 32, 32, 32, 32, 32, 32, 32, 32, 32, 32, 32, 32, 32, 32, 32, 32, 32, 32, 32, 32, 32, 32, 32, 32, 32, 32, 32, 32, 32, 32, 32, 32, 32, 32, 32, 32, 32, 32, 32, 32, 32, 32, 32, 32, 32, 32, 32, 32, 32, 32, 32, 32, 32, 32, 32, 32, 32, 32, 32, 32, 32, 32, 32, 32, 32, 32, 32, 32, 32, 32, 32, 32, 32, 32, 32, 32, 32, 32, 32]⟩) none (some t37) none)) w fun t57 w =>
 K t57 w)
 (mJ (fun (J : Value → World → Prop) =>
 mN Try.prog (vS (binOp .leq 3 t37 (.int .i64 128))) w fun t60 w =>
 mIf t60
 (mCall Try.prog 114 #[(.string ⟨#[45, 45, 45, 45, 45, 45, 45, 45, 45, 45, 45, 45, 45, 45, 45, 45, 45, 45, 45, 45, 45, 45, 45, 45, 45, 45, 45, 45, 45, 45, 45, 45, 45, 45, 45, 45, 45, 45, 45, 45, 45, 45, 45, 45, 45, 45, 45, 45, 45, 45, 45, 45, 45, 45, 45, 45, 45, 45, 45, 45, 45, 45, 45, 45, 45, 45, 45, 45, 45, 45, 45, 45, 45, 45, 45, 45, 45, 45, 45, 45, 45, 45, 45, 45, 45, 45, 45, 45, 45, 45, 45, 45, 45, 45, 45, 45, 45, 45, 45, 45, 45, 45, 45, 45, 45, 45, 45, 45, 45, 45, 45, 45, 45, 45, 45, 45, 45, 45, 45, 45, 45, 45, 45, 45, 45, 45, 45, 45]⟩), a0] w fun t63 w =>
 J t63 w)
 (J (.bool false) w))
 (fun t58 w =>
 mIf t58
 (mN Try.prog (vS (Instr.sliceAt 9 (.string ⟨#[45, 45, 45, 45, 45, 45, 45, 45, 45, 45, 45, 45, 45, 45, 45, 45, 45, 45, 45, 45, 45, 45, 45, 45, 45, 45, 45, 45, 45, 45, 45, 45, 45, 45, 45, 45, 45, 45, 45, 45, 45, 45, 45, 45, 45, 45, 45, 45, 45, 45, 45, 45, 45, 45, 45, 45, 45, 45, 45, 45, 45, 45, 45, 45, 45, 45, 45, 45, 45, 45, 45, 45, 45, 45, 45, 45, 45, 45, 45, 45, 45, 45, 45, 45, 45, 45, 45, 45, 45, 45, 45, 45, 45, 45, 45, 45, 45, 45, 45, 45, 45, 45, 45, 45, 45, 45, 45, 45, 45, 45, 45, 45, 45, 45, 45, 45, 45, 45, 45, 45, 45, 45, 45, 45, 45, 45, 45, 45]⟩) none (some t37) none)) w fun t66 w =>
 K t66 w)
 (mJ (fun (J : Value → World → Prop) =>
 mN Try.prog (vS (binOp .leq 3 t37 (.int .i64 64))) w fun t69 w =>
 mIf t69
 (mCall Try.prog 114 #[(.string ⟨#[48, 48, 48, 48, 48, 48, 48, 48, 48, 48, 48, 48, 48, 48, 48, 48, 48, 48, 48, 48, 48, 48, 48, 48, 48, 48, 48, 48, 48, 48, 48, 48, 48, 48, 48, 48, 48, 48, 48, 48, 48, 48, 48, 48, 48, 48, 48, 48, 48, 48, 48, 48, 48, 48, 48, 48, 48, 48, 48, 48, 48, 48, 48, 48]⟩), a0] w fun t72 w =>
 J t72 w)
 (J (.bool false) w))
 (fun t67 w =>
 mIf t67
 (mN Try.prog (vS (Instr.sliceAt 9 (.string ⟨#[48, 48, 48, 48, 48, 48, 48, 48, 48, 48, 48, 48, 48, 48, 48, 48, 48, 48, 48, 48, 48, 48, 48, 48, 48, 48, 48, 48, 48, 48, 48, 48, 48, 48, 48, 48, 48, 48, 48, 48, 48, 48, 48, 48, 48, 48, 48, 48, 48, 48, 48, 48, 48, 48, 48, 48, 48, 48, 48, 48, 48, 48, 48, 48]⟩) none (some t37) none)) w fun t75 w =>
 K t75 w)
 (mJ (fun (J : Value → World → Prop) =>
 mN Try.prog (vS (binOp .leq 3 t37 (.int .i64 128))) w fun t78 w =>
 mIf t78
 (mCall Try.prog 114 #[(.string ⟨#[61, 61, 61, 61, 61, 61, 61, 61, 61, 61, 61, 61, 61, 61, 61, 61, 61, 61, 61, 61, 61, 61, 61, 61, 61, 61, 61, 61, 61, 61, 61, 61, 61, 61, 61, 61, 61, 61, 61, 61, 61, 61, 61, 61, 61, 61, 61, 61, 61, 61, 61, 61, 61, 61, 61, 61, 61, 61, 61, 61, 61, 61, 61, 61, 61, 61, 61, 61, 61, 61, 61, 61, 61, 61, 61, 61, 61, 61, 61, 61, 61, 61, 61, 61, 61, 61, 61, 61, 61, 61, 61, 61, 61, 61, 61, 61, 61, 61, 61, 61, 61, 61, 61, 61, 61, 61, 61, 61, 61, 61, 61, 61, 61, 61, 61, 61, 61, 61, 61, 61, 61, 61, 61, 61, 61, 61, 61, 61]⟩), a0] w fun t81 w =>
 J t81 w)
 (J (.bool false) w))
 (fun t76 w =>
 mIf t76
 (mN Try.prog (vS (Instr.sliceAt 9 (.string ⟨#[61, 61, 61, 61, 61, 61, 61, 61, 61, 61, 61, 61, 61, 61, 61, 61, 61, 61, 61, 61, 61, 61, 61, 61, 61, 61, 61, 61, 61, 61, 61, 61, 61, 61, 61, 61, 61, 61, 61, 61, 61, 61, 61, 61, 61, 61, 61, 61, 61, 61, 61, 61, 61, 61, 61, 61, 61, 61, 61, 61, 61, 61, 61, 61, 61, 61, 61, 61, 61, 61, 61, 61, 61, 61, 61, 61, 61, 61, 61, 61, 61, 61, 61, 61, 61, 61, 61, 61, 61, 61, 61, 61, 61, 61, 61, 61, 61, 61, 61, 61, 61, 61, 61, 61, 61, 61, 61, 61, 61, 61, 61, 61, 61, 61, 61, 61, 61, 61, 61, 61, 61, 61, 61, 61, 61, 61, 61, 61]⟩) none (some t37) none)) w fun t84 w =>
 K t84 w)
 (mN Try.prog (vS (binOp .leq 3 t37 (.int .i64 64))) w fun t87 w =>
 mIf t87
 (mCall Try.prog 114 #[(.string ⟨#[9, 9, 9, 9, 9, 9, 9, 9, 9, 9, 9, 9, 9, 9, 9, 9, 9, 9, 9, 9, 9, 9, 9, 9, 9, 9, 9, 9, 9, 9, 9, 9, 9, 9, 9, 9, 9, 9, 9, 9, 9, 9, 9, 9, 9, 9, 9, 9, 9, 9, 9, 9, 9, 9, 9, 9, 9, 9, 9, 9, 9, 9, 9, 9]⟩), a0] w fun t90 w =>
 mIf t90
 (mN Try.prog (vS (Instr.sliceAt 9 (.string ⟨#[9, 9, 9, 9, 9, 9, 9, 9, 9, 9, 9, 9, 9, 9, 9, 9, 9, 9, 9, 9, 9, 9, 9, 9, 9, 9, 9, 9, 9, 9, 9, 9, 9, 9, 9, 9, 9, 9, 9, 9, 9, 9, 9, 9, 9, 9, 9, 9, 9, 9, 9, 9, 9, 9, 9, 9, 9, 9, 9, 9, 9, 9, 9, 9]⟩) none (some t37) none)) w fun t93 w =>
 K t93 w)
 (J w))
 (J w))))))))))
 (J w))
 (fun w =>
 mN Try.prog (vS (binOp .gtr 3 t37 (.int .i64 8192))) w fun t96 w =>
 mJ (fun (J : Value → World → Prop) =>
 mIf t96
 (mN Try.prog (builtin .len #[9] 3 #[false] #[a0]) w fun t98 w =>
 mN Try.prog (vS (binOp .quo 3 (.int .i64 8192) t98)) w fun t99 w =>
 mN Try.prog (builtin .len #[9] 3 #[false] #[a0]) w fun t101 w =>
 mN Try.prog (vS (binOp .mul 3 t99 t101)) w fun t102 w =>
 mN Try.prog (vS (eqS .eql 3 false true t102 (.int .i64 0))) w fun t104 w =>
 mIf t104
 (mN Try.prog (builtin .len #[9] 3 #[false] #[a0]) w fun t106 w =>
 J t106 w)
 (J t102 w))
 (J t37 w))
 (fun t8 w =>
 mN Try.prog (vS (Instr.alloc 153 true (.tuple #[]))) w fun t9 w =>
 mCall Try.prog 115 #[t9, t37] w fun t108 w =>
 mCall Try.prog 93 #[t9, a0] w fun t110 w =>
 mLoop0 (fun w k =>
 mCall Try.prog 116 #[t9] w fun t111 w =>
 mN Try.prog (vS (binOp .lss 3 t111 t37)) w fun t113 w =>
 mIf t113
 (mCall Try.prog 116 #[t9] w fun t115 w =>
 mN Try.prog (vS (binOp .sub 3 t37 t115)) w fun t116 w =>
 mCall Try.prog 116 #[t9] w fun t117 w =>
 mN Try.prog (builtin .min #[3, 3, 3] 3 #[false, false, false] #[t116, t117, t8]) w fun t119 w =>
 mCall Try.prog 94 #[t9] w fun t120 w =>
 mN Try.prog (vS (Instr.sliceAt 9 t120 none (some t119) none)) w fun t122 w =>
 mCall Try.prog 93 #[t9, t122] w fun t123 w =>
 k w)
 (mCall Try.prog 94 #[t9] w fun t124 w =>
 K t124 w))
 w)))))))))

theorem eq74 (a0 a1 : Value) (w : World) (K : Value → World → Prop) : vcF Try.prog cOk (.n .z (.n .z (.n (.n .z (.j [] [19] .z)) (.n .z (.n (.n (.j [34] [29, 30, 31, 32, 33, 34] .z) (.j [] [35] .z)) (.n .z (.n .z (.n (.n .z (.n (.n .z (.j [43] [45, 46, 47, 48, 43] .z)) (.j [] [50, 51, 52, 53, 54, 55, 49, 56, 57, 59, 60, 61, 62, 63, 64, 58, 65, 66, 68, 69, 70, 71, 72, 73, 67, 74, 75, 77, 78, 79, 80, 81, 82, 76, 83, 84, 86, 87, 88, 89, 90, 91, 85, 92, 93, 4] (.n (.n (.j [49] [50, 51, 52, 53, 54, 55, 49] .z) (.n .z (.n (.j [58] [59, 60, 61, 62, 63, 64, 58] .z) (.n .z (.n (.j [67] [68, 69, 70, 71, 72, 73, 67] .z) (.n .z (.n (.j [76] [77, 78, 79, 80, 81, 82, 76] .z) .z))))))) .z)))) (.n .z (.n (.n .z (.j [8] [97, 98, 99, 100, 101, 102, 103, 104, 105, 106, 8] .z)) (.n .z (.n .z (.n .z (.n (.l [] [111, 112, 113, 114, 115, 116, 117, 118, 119, 10, 120, 121, 122, 123] .z) .z)))))))))))))) Try.f74 [a0, a1] w K = sh74 a0 a1 w K := by kernel_rfl

theorem ok74 {a0 a1 : Value} {w : World} {K : Value → World → Prop} (h : sh74 a0 a1 w K) : Calls Try.prog 74 #[a0, a1] w (retK K) :=
  calls_of_vcF (k := (.n .z (.n .z (.n (.n .z (.j [] [19] .z)) (.n .z (.n (.n (.j [34] [29, 30, 31, 32, 33, 34] .z) (.j [] [35] .z)) (.n .z (.n .z (.n (.n .z (.n (.n .z (.j [43] [45, 46, 47, 48, 43] .z)) (.j [] [50, 51, 52, 53, 54, 55, 49, 56, 57, 59, 60, 61, 62, 63, 64, 58, 65, 66, 68, 69, 70, 71, 72, 73, 67, 74, 75, 77, 78, 79, 80, 81, 82, 76, 83, 84, 86, 87, 88, 89, 90, 91, 85, 92, 93, 4] (.n (.n (.j [49] [50, 51, 52, 53, 54, 55, 49] .z) (.n .z (.n (.j [58] [59, 60, 61, 62, 63, 64, 58] .z) (.n .z (.n (.j [67] [68, 69, 70, 71, 72, 73, 67] .z) (.n .z (.n (.j [76] [77, 78, 79, 80, 81, 82, 76] .z) .z))))))) .z)))) (.n .z (.n (.n .z (.j [8] [97, 98, 99, 100, 101, 102, 103, 104, 105, 106, 8] .z)) (.n .z (.n .z (.n .z (.n (.l [] [111, 112, 113, 114, 115, 116, 117, 118, 119, 10, 120, 121, 122, 123] .z) .z))))))))))))))) callsOk mixed Try.func74 ((eq74 a0 a1 w K).symm ▸ h)

/-- slices.Repeat[[]recto/disk.block,recto/disk.block] -/
def sh75 (a0 a1 : Value) (w : World) (K : Value → World → Prop) : Prop :=
 mN Try.prog (vS (binOp .lss 3 a1 (.int .i64 0))) w fun t10 w =>
 mJ (fun (J : World → Prop) =>
 mIf t10
 (mN Try.prog (vS (Instr.makeInterface 9 (.string ⟨#[99, 97, 110, 110, 111, 116, 32, 98, 101, 32, 110, 101, 103, 97, 116, 105, 118, 101]⟩))) w fun t11 w =>
 mN Try.prog (vS (Instr.panic t11)) w fun _ w =>
 J w)
 (J w))
 (fun w =>
 mN Try.prog (builtin .len #[127] 3 #[false] #[a0]) w fun t14 w =>
 mN Try.prog (vS (convert 3 187 t14)) w fun t15 w =>
 mN Try.prog (vS (convert 3 187 a1)) w fun t17 w =>
 mCall Try.prog 113 #[t15, t17] w fun t18 w =>
 mN Try.prog (vS (Instr.extract t18 0)) w fun t19 w =>
 mN Try.prog (vS (Instr.extract t18 1)) w fun t20 w =>
 mJ (fun (J : Value → World → Prop) =>
 mN Try.prog (vS (binOp .gtr 187 t19 (.int .u64 0))) w fun t22 w =>
 mIf t22
 (J (.bool true) w)
 (mN Try.prog (vS (binOp .gtr 187 t20 (.int .u64 9223372036854775807))) w fun t25 w =>
 J t25 w))
 (fun t26 w =>
 mJ (fun (J : World → Prop) =>
 mIf t26
 (mN Try.prog (vS (Instr.makeInterface 9 (.string ⟨#[116, 104, 101, 32, 114, 101, 115, 117, 108, 116, 32, 111, 102, 32, 40, 108, 101, 110, 40, 120, 41, 32, 42, 32, 99, 111, 117, 110, 116, 41, 32, 111, 118, 101, 114, 102, 108, 111, 119, 115]⟩))) w fun t27 w =>
 mN Try.prog (vS (Instr.panic t27)) w fun _ w =>
 J w)
 (J w))
 (fun w =>
 mN Try.prog (vS (convert 187 3 t20)) w fun t29 w =>
 mN Try.prog (vS (Instr.makeSlice 127 t29 t29)) w fun t30 w =>
 mN Try.prog (builtin .copy #[127, 127] 3 #[false, false] #[t30, a0]) w fun t33 w =>
 mLoop1 (fun t8 w k =>
 mN Try.prog (builtin .len #[127] 3 #[false] #[t30]) w fun t36 w =>
 mN Try.prog (vS (binOp .lss 3 t8 t36)) w fun t37 w =>
 mIf t37
 (mDrew w fun w =>
 mP Try.prog (vS (Instr.sliceAt 127 t30 (some t8) none none)) fun t41 =>
 mP Try.prog (vS (Instr.sliceAt 127 t30 none (some t8) none)) fun t44 =>
 mN Try.prog (builtin .copy #[127, 127] 3 #[false, false] #[t41, t44]) w fun t45 w =>
 mP Try.prog (vS (binOp .add 3 t8 t45)) fun t46 =>
 k t46 w)
 (K t30 w))
 t33 w)))

theorem eq75 (a0 a1 : Value) (w : World) (K : Value → World → Prop) : vcF Try.prog cOk (.n .z (.n (.n .z (.j [] [11] .z)) (.n .z (.n (.n (.j [26] [21, 22, 23, 24, 25, 26] .z) (.j [] [27] .z)) (.n .z (.n .z (.n (.l [8] [34, 35, 36, 37, 38, 39, 40, 41, 42, 43, 44, 45, 46, 8] (.n .z (.d [7, 9] [0, 1, 2, 3, 4, 5, 6, 7, 8, 9]))) .z))))))) Try.f75 [a0, a1] w K = sh75 a0 a1 w K := by kernel_rfl

theorem ok75 {a0 a1 : Value} {w : World} {K : Value → World → Prop} (h : sh75 a0 a1 w K) : Calls Try.prog 75 #[a0, a1] w (retK K) :=
  calls_of_vcF (k := (.n .z (.n (.n .z (.j [] [11] .z)) (.n .z (.n (.n (.j [26] [21, 22, 23, 24, 25, 26] .z) (.j [] [27] .z)) (.n .z (.n .z (.n (.l [8] [34, 35, 36, 37, 38, 39, 40, 41, 42, 43, 44, 45, 46, 8] (.n .z (.d [7, 9] [0, 1, 2, 3, 4, 5, 6, 7, 8, 9]))) .z)))))))) callsOk mixed Try.func75 ((eq75 a0 a1 w K).symm ▸ h)

/-- (*recto/disk.Disk).in -/
def sh76 (a0 a1 : Value) (w : World) (K : Value → World → Prop) : Prop :=
 mN Try.prog (vS (binOp .geq 3 a1 (.int .i64 0))) w fun t6 w =>
 mIf t6
 (mCall Try.prog 32 #[a0] w fun t10 w =>
 mN Try.prog (vS (binOp .lss 3 a1 t10)) w fun t11 w =>
 K t11 w)
 (K (.bool false) w)

theorem eq76 (a0 a1 : Value) (w : World) (K : Value → World → Prop) : vcF Try.prog cOk .z Try.f76 [a0, a1] w K = sh76 a0 a1 w K := by kernel_rfl

theorem ok76 {a0 a1 : Value} {w : World} {K : Value → World → Prop} (h : sh76 a0 a1 w K) : Calls Try.prog 76 #[a0, a1] w (retK K) :=
  calls_of_vcF (k := .z) callsOk mixed Try.func76 ((eq76 a0 a1 w K).symm ▸ h)

/-- (*recto/disk.Disk).goes -/
def sh77 (a0 : Value) (w : World) (K : Value → World → Prop) : Prop :=
 mN Try.prog (nilS a0) w fun t5 w =>
 mN Try.prog (vS (Instr.fieldAt 131 t5 3)) w fun t6 w =>
 mN Try.prog (vS (Instr.loadAt 4 t6)) w fun t7 w =>
 mN Try.prog (vS (Op.unary .not t7)) w fun t8 w =>
 mIf t8
 (K (.tuple #[(.int .i64 0), (.bool false)]) w)
 (mN Try.prog (nilS a0) w fun t10 w =>
 mN Try.prog (vS (Instr.fieldAt 131 t10 4)) w fun t11 w =>
 mN Try.prog (vS (Instr.fieldAt 42 t11 0)) w fun t12 w =>
 mN Try.prog (vS (Instr.loadAt 3 t12)) w fun t13 w =>
 mN Try.prog (vS (binOp .gtr 3 t13 (.int .i64 0))) w fun t14 w =>
 mIf t14
 (mN Try.prog (nilS a0) w fun t16 w =>
 mN Try.prog (vS (Instr.fieldAt 131 t16 4)) w fun t17 w =>
 mN Try.prog (vS (Instr.fieldAt 42 t17 0)) w fun t18 w =>
 mN Try.prog (vS (Instr.loadAt 3 t18)) w fun t19 w =>
 mN Try.prog (vS (binOp .sub 3 t19 (.int .i64 1))) w fun t20 w =>
 mN Try.prog (nilS a0) w fun t21 w =>
 mN Try.prog (vS (Instr.fieldAt 131 t21 4)) w fun t22 w =>
 mN Try.prog (vS (Instr.fieldAt 42 t22 0)) w fun t23 w =>
 mN Try.prog (uS (Instr.storeAt 3 t23 t20)) w fun _ w =>
 K (.tuple #[(.int .i64 0), (.bool false)]) w)
 (mN Try.prog (nilS a0) w fun t25 w =>
 mN Try.prog (vS (Instr.fieldAt 131 t25 3)) w fun t26 w =>
 mN Try.prog (uS (Instr.storeAt 4 t26 (.bool false))) w fun _ w =>
 mN Try.prog (nilS a0) w fun t28 w =>
 mN Try.prog (vS (Instr.fieldAt 131 t28 4)) w fun t29 w =>
 mN Try.prog (vS (Instr.fieldAt 42 t29 1)) w fun t30 w =>
 mN Try.prog (vS (Instr.loadAt 4 t30)) w fun t31 w =>
 mN Try.prog (vS (Op.unary .not t31)) w fun t32 w =>
 mIf t32
 (K (.tuple #[(.int .i64 270), (.bool true)]) w)
 (mN Try.prog (nilS a0) w fun t35 w =>
 mN Try.prog (vS (Instr.fieldAt 131 t35 4)) w fun t36 w =>
 mN Try.prog (vS (Instr.fieldAt 42 t36 2)) w fun t37 w =>
 mN Try.prog (vS (Instr.loadAt 35 t37)) w fun t38 w =>
 mCall Try.prog 84 #[a0, t38] w fun t39 w =>
 K (.tuple #[(.int .i64 271), (.bool true)]) w)))

theorem eq77 (a0 : Value) (w : World) (K : Value → World → Prop) : vcF Try.prog cOk .z Try.f77 [a0] w K = sh77 a0 w K := by kernel_rfl

theorem ok77 {a0 : Value} {w : World} {K : Value → World → Prop} (h : sh77 a0 w K) : Calls Try.prog 77 #[a0] w (retK K) :=
  calls_of_vcF (k := .z) callsOk mixed Try.func77 ((eq77 a0 w K).symm ▸ h)

/-- (recto/disk.block).text -/
def sh78 (a0 : Value) (w : World) (K : Value → World → Prop) : Prop :=
 mN Try.prog (vS (Instr.box 124 a0)) w fun t1 w =>
 mN Try.prog (vS (Instr.sliceAt 124 t1 none none none)) w fun t3 w =>
 mCall Try.prog 117 #[t3, (.string ⟨#[]⟩)] w fun t4 w =>
 K t4 w

theorem eq78 (a0 : Value) (w : World) (K : Value → World → Prop) : vcF Try.prog cOk .z Try.f78 [a0] w K = sh78 a0 w K := by kernel_rfl

theorem ok78 {a0 : Value} {w : World} {K : Value → World → Prop} (h : sh78 a0 w K) : Calls Try.prog 78 #[a0] w (retK K) :=
  calls_of_vcF (k := .z) callsOk mixed Try.func78 ((eq78 a0 w K).symm ▸ h)

/-- (*recto/rectoref27.Disk).Flush -/
def sh79 (a0 : Value) (w : World) (K : Value → World → Prop) : Prop :=
 mN Try.prog (nilS a0) w fun t7 w =>
 mN Try.prog (vS (Instr.fieldAt 106 t7 2)) w fun t8 w =>
 mN Try.prog (vS (Instr.loadAt 4 t8)) w fun t9 w =>
 mIf t9
 (K (.int .i64 271) w)
 (mCall Try.prog 91 #[a0] w fun t11 w =>
 mN Try.prog (vS (eqS .eql 3 false true t11 (.int .i64 0))) w fun t13 w =>
 mIf t13
 (mN Try.prog (nilS a0) w fun t15 w =>
 mN Try.prog (vS (Instr.fieldAt 106 t15 1)) w fun t16 w =>
 mN Try.prog (vS (Instr.loadAt 103 t16)) w fun t17 w =>
 mN Try.prog (builtin .len #[103] 3 #[false] #[t17]) w fun t18 w =>
 mLoop1 (fun t19 w k =>
 mN Try.prog (vS (binOp .lss 3 t19 t18)) w fun t20 w =>
 mIf t20
 (mN Try.prog (vS (Instr.indexAt 103 t17 t19)) w fun t21 w =>
 mN Try.prog (vS (Instr.loadAt 150 t21)) w fun t22 w =>
 mN Try.prog (vS (Instr.alloc 150 true (.tuple #[]))) w fun t5 w =>
 mN Try.prog (uS (Instr.storeAt 150 t5 t22)) w fun _ w =>
 mDrew w fun w =>
 mP Try.prog (nilS a0) fun t24 =>
 mP Try.prog (vS (Instr.fieldAt 106 t24 0)) fun t25 =>
 mR Try.prog (vS (Instr.loadAt 67 t25)) w fun t26 =>
 mP Try.prog (vS (Instr.fieldAt 150 t5 0)) fun t27 =>
 mR Try.prog (vS (Instr.loadAt 3 t27)) w fun t28 =>
 mP Try.prog (vS (Instr.fieldAt 150 t5 1)) fun t29 =>
 mR Try.prog (vS (Instr.loadAt 9 t29)) w fun t30 =>
 mP Try.prog (vS (Instr.indexAt 67 t26 t28)) fun t31 =>
 mN Try.prog (uS (Instr.storeAt 9 t31 t30)) w fun _ w =>
 mN Try.prog (vS (binOp .add 3 t19 (.int .i64 1))) w fun t32 w =>
 k t32 w)
 (mN Try.prog (nilS a0) w fun t34 w =>
 mN Try.prog (vS (Instr.fieldAt 106 t34 1)) w fun t35 w =>
 mN Try.prog (uS (Instr.storeAt 103 t35 (.slice none 0 0))) w fun _ w =>
 K t11 w))
 (.int .i64 0) w)
 (mN Try.prog (nilS a0) w fun t34 w =>
 mN Try.prog (vS (Instr.fieldAt 106 t34 1)) w fun t35 w =>
 mN Try.prog (uS (Instr.storeAt 103 t35 (.slice none 0 0))) w fun _ w =>
 K t11 w))

theorem eq79 (a0 : Value) (w : World) (K : Value → World → Prop) : vcF Try.prog cOk (.n .z (.n .z (.n .z (.n (.n .z (.n (.n .z (.l [19] [20, 21, 22, 5, 23, 24, 25, 26, 27, 28, 29, 30, 31, 32, 19] (.n .z (.n .z (.n (.n .z (.d [9] [0, 1, 2, 3, 4, 5, 6, 7, 8, 9])) .z))))) .z)) .z)))) Try.f79 [a0] w K = sh79 a0 w K := by kernel_rfl

theorem ok79 {a0 : Value} {w : World} {K : Value → World → Prop} (h : sh79 a0 w K) : Calls Try.prog 79 #[a0] w (retK K) :=
  calls_of_vcF (k := (.n .z (.n .z (.n .z (.n (.n .z (.n (.n .z (.l [19] [20, 21, 22, 5, 23, 24, 25, 26, 27, 28, 29, 30, 31, 32, 19] (.n .z (.n .z (.n (.n .z (.d [9] [0, 1, 2, 3, 4, 5, 6, 7, 8, 9])) .z))))) .z)) .z))))) callsOk mixed Try.func79 ((eq79 a0 w K).symm ▸ h)

/-- (*recto/rectoref27.Disk).Crash -/
def sh80 (a0 a1 : Value) (w : World) (K : Value → World → Prop) : Prop :=
 mN Try.prog (nilS a0) w fun t6 w =>
 mN Try.prog (vS (Instr.fieldAt 106 t6 2)) w fun t7 w =>
 mN Try.prog (vS (Instr.loadAt 4 t7)) w fun t8 w =>
 mIf t8
 (K (.int .i64 271) w)
 (mCall Try.prog 118 #[a0, a1] w fun t11 w =>
 K (.int .i64 0) w)

theorem eq80 (a0 a1 : Value) (w : World) (K : Value → World → Prop) : vcF Try.prog cOk .z Try.f80 [a0, a1] w K = sh80 a0 a1 w K := by kernel_rfl

theorem ok80 {a0 a1 : Value} {w : World} {K : Value → World → Prop} (h : sh80 a0 a1 w K) : Calls Try.prog 80 #[a0, a1] w (retK K) :=
  calls_of_vcF (k := .z) callsOk mixed Try.func80 ((eq80 a0 a1 w K).symm ▸ h)

/-- (*recto/rectoref27.Disk).Start -/
def sh81 (a0 : Value) (w : World) (K : Value → World → Prop) : Prop :=
 mN Try.prog (nilS a0) w fun t4 w =>
 mN Try.prog (vS (Instr.fieldAt 106 t4 2)) w fun t5 w =>
 mN Try.prog (vS (Instr.loadAt 4 t5)) w fun t6 w =>
 mN Try.prog (vS (Op.unary .not t6)) w fun t7 w =>
 mIf t7
 (K (.int .i64 7) w)
 (mN Try.prog (nilS a0) w fun t9 w =>
 mN Try.prog (vS (Instr.fieldAt 106 t9 2)) w fun t10 w =>
 mN Try.prog (uS (Instr.storeAt 4 t10 (.bool false))) w fun _ w =>
 K (.int .i64 0) w)

theorem eq81 (a0 : Value) (w : World) (K : Value → World → Prop) : vcF Try.prog cOk .z Try.f81 [a0] w K = sh81 a0 w K := by kernel_rfl

theorem ok81 {a0 : Value} {w : World} {K : Value → World → Prop} (h : sh81 a0 w K) : Calls Try.prog 81 #[a0] w (retK K) :=
  calls_of_vcF (k := .z) callsOk mixed Try.func81 ((eq81 a0 w K).symm ▸ h)

/-- (*recto/rectoref27.Disk).Set -/
def sh82 (a0 a1 : Value) (w : World) (K : Value → World → Prop) : Prop :=
 mN Try.prog (vS (Instr.box 104 a1)) w fun t3 w =>
 mN Try.prog (vS (Instr.fieldAt 104 t3 0)) w fun t5 w =>
 mN Try.prog (vS (Instr.loadAt 3 t5)) w fun t6 w =>
 mN Try.prog (vS (binOp .lss 3 t6 (.int .i64 0))) w fun t7 w =>
 mIf t7
 (K (.int .i64 1) w)
 (mN Try.prog (nilS a0) w fun t9 w =>
 mN Try.prog (vS (Instr.fieldAt 106 t9 2)) w fun t10 w =>
 mN Try.prog (vS (Instr.loadAt 4 t10)) w fun t11 w =>
 mIf t11
 (K (.int .i64 271) w)
 (mN Try.prog (vS (Instr.loadAt 104 t3)) w fun t13 w =>
 mN Try.prog (nilS a0) w fun t14 w =>
 mN Try.prog (vS (Instr.fieldAt 106 t14 4)) w fun t15 w =>
 mN Try.prog (uS (Instr.storeAt 104 t15 t13)) w fun _ w =>
 mN Try.prog (nilS a0) w fun t17 w =>
 mN Try.prog (vS (Instr.fieldAt 106 t17 3)) w fun t18 w =>
 mN Try.prog (uS (Instr.storeAt 4 t18 (.bool true))) w fun _ w =>
 K (.int .i64 0) w))

theorem eq82 (a0 a1 : Value) (w : World) (K : Value → World → Prop) : vcF Try.prog cOk .z Try.f82 [a0, a1] w K = sh82 a0 a1 w K := by kernel_rfl

theorem ok82 {a0 a1 : Value} {w : World} {K : Value → World → Prop} (h : sh82 a0 a1 w K) : Calls Try.prog 82 #[a0, a1] w (retK K) :=
  calls_of_vcF (k := .z) callsOk mixed Try.func82 ((eq82 a0 a1 w K).symm ▸ h)

/-- slices.Clone[[]int,int] -/
def sh83 (a0 : Value) (w : World) (K : Value → World → Prop) : Prop :=
 mN Try.prog (vS (eqS .eql 35 false true a0 (.slice none 0 0))) w fun t4 w =>
 mIf t4
 (K (.slice none 0 0) w)
 (mN Try.prog (vS (Instr.buildSlice 35 0 #[])) w fun t5 w =>
 mN Try.prog (builtin .append #[35, 35] 35 #[false, false] #[t5, a0]) w fun t7 w =>
 K t7 w)

theorem eq83 (a0 : Value) (w : World) (K : Value → World → Prop) : vcF Try.prog cOk .z Try.f83 [a0] w K = sh83 a0 w K := by kernel_rfl

theorem ok83 {a0 : Value} {w : World} {K : Value → World → Prop} (h : sh83 a0 w K) : Calls Try.prog 83 #[a0] w (retK K) :=
  calls_of_vcF (k := .z) callsOk mixed Try.func83 ((eq83 a0 w K).symm ▸ h)

/-- (*recto/disk.Disk).fall -/
def sh84 (a0 a1 : Value) (w : World) (K : Value → World → Prop) : Prop :=
 mN Try.prog (nilS a0) w fun t8 w =>
 mN Try.prog (vS (Instr.fieldAt 131 t8 1)) w fun t9 w =>
 mN Try.prog (vS (Instr.loadAt 129 t9)) w fun t10 w =>
 mN Try.prog (builtin .len #[129] 3 #[false] #[t10]) w fun t11 w =>
 mLoop1 (fun t12 w k =>
 mN Try.prog (vS (binOp .lss 3 t12 t11)) w fun t13 w =>
 mIf t13
 (mN Try.prog (vS (Instr.indexAt 129 t10 t12)) w fun t15 w =>
 mN Try.prog (vS (Instr.loadAt 136 t15)) w fun t16 w =>
 mN Try.prog (vS (Instr.alloc 136 true (.tuple #[]))) w fun t5 w =>
 mN Try.prog (uS (Instr.storeAt 136 t5 t16)) w fun _ w =>
 mN Try.prog (builtin .len #[35] 3 #[false] #[a1]) w fun t19 w =>
 mN Try.prog (vS (binOp .lss 3 t12 t19)) w fun t20 w =>
 mJ (fun (J : Value → World → Prop) =>
 mIf t20
 (mN Try.prog (vS (Instr.indexAt 35 a1 t12)) w fun t23 w =>
 mN Try.prog (vS (Instr.loadAt 3 t23)) w fun t24 w =>
 mN Try.prog (builtin .max #[3, 3] 3 #[false, true] #[t24, (.int .i64 0)]) w fun t25 w =>
 mN Try.prog (builtin .min #[3, 3] 3 #[false, true] #[t25, (.int .i64 4)]) w fun t26 w =>
 J t26 w)
 (J (.int .i64 0) w))
 (fun t6 w =>
 mDrew w fun w =>
 mP Try.prog (nilS a0) fun t28 =>
 mP Try.prog (vS (Instr.fieldAt 131 t28 0)) fun t29 =>
 mR Try.prog (vS (Instr.loadAt 127 t29)) w fun t30 =>
 mP Try.prog (vS (Instr.fieldAt 136 t5 0)) fun t31 =>
 mR Try.prog (vS (Instr.loadAt 3 t31)) w fun t32 =>
 mP Try.prog (vS (Instr.indexAt 127 t30 t32)) fun t33 =>
 mP Try.prog (vS (Instr.sliceAt 124 t33 none (some t6) none)) fun t35 =>
 mP Try.prog (vS (Instr.fieldAt 136 t5 1)) fun t36 =>
 mP Try.prog (vS (Instr.sliceAt 124 t36 none (some t6) none)) fun t38 =>
 mN Try.prog (builtin .copy #[67, 67] 3 #[false, false] #[t35, t38]) w fun t39 w =>
 rdN Try.prog (vS (Instr.loadAt 3 t31)) t32 w ∧
 rdN Try.prog (vS (Instr.loadAt 127 t29)) t30 w ∧
 mN Try.prog (vS (binOp .add 3 t12 (.int .i64 1))) w fun t40 w =>
 k t40 w))
 (mN Try.prog (nilS a0) w fun t44 w =>
 mN Try.prog (vS (Instr.fieldAt 131 t44 1)) w fun t45 w =>
 mN Try.prog (uS (Instr.storeAt 129 t45 (.slice none 0 0))) w fun _ w =>
 mN Try.prog (nilS a0) w fun t46 w =>
 mN Try.prog (vS (Instr.fieldAt 131 t46 2)) w fun t47 w =>
 mN Try.prog (uS (Instr.storeAt 4 t47 (.bool true))) w fun _ w =>
 mN Try.prog (nilS a0) w fun t48 w =>
 mN Try.prog (vS (Instr.fieldAt 131 t48 3)) w fun t49 w =>
 mN Try.prog (uS (Instr.storeAt 4 t49 (.bool false))) w fun _ w =>
 K (.tuple #[]) w))
 (.int .i64 0) w

theorem eq84 (a0 a1 : Value) (w : World) (K : Value → World → Prop) : vcF Try.prog cOk (.n (.n .z (.l [12] [13, 14, 15, 16, 5, 4, 17, 18, 19, 20, 21, 22, 23, 24, 25, 26, 6, 27, 28, 29, 30, 31, 32, 33, 34, 35, 36, 37, 38, 39, 40, 12] (.n .z (.n .z (.n (.n .z (.n .z (.n (.n .z (.j [6] [21, 22, 23, 24, 25, 26, 6] .z)) (.d [12] [0, 1, 2, 3, 4, 5, 6, 7, 8, 9, 10, 11, 12])))) .z))))) .z) Try.f84 [a0, a1] w K = sh84 a0 a1 w K := by kernel_rfl

theorem ok84 {a0 a1 : Value} {w : World} {K : Value → World → Prop} (h : sh84 a0 a1 w K) : Calls Try.prog 84 #[a0, a1] w (retK K) :=
  calls_of_vcF (k := (.n (.n .z (.l [12] [13, 14, 15, 16, 5, 4, 17, 18, 19, 20, 21, 22, 23, 24, 25, 26, 6, 27, 28, 29, 30, 31, 32, 33, 34, 35, 36, 37, 38, 39, 40, 12] (.n .z (.n .z (.n (.n .z (.n .z (.n (.n .z (.j [6] [21, 22, 23, 24, 25, 26, 6] .z)) (.d [12] [0, 1, 2, 3, 4, 5, 6, 7, 8, 9, 10, 11, 12])))) .z))))) .z)) callsOk mixed Try.func84 ((eq84 a0 a1 w K).symm ▸ h)

/-- (recto/slot.Slot).right -/
def sh85 (a0 : Value) (w : World) (K : Value → World → Prop) : Prop :=
 mN Try.prog (vS (Instr.box 50 a0)) w fun t1 w =>
 mN Try.prog (vS (Instr.fieldAt 50 t1 0)) w fun t4 w =>
 mN Try.prog (vS (Instr.loadAt 3 t4)) w fun t5 w =>
 mN Try.prog (vS (binOp .geq 3 t5 (.int .i64 1))) w fun t6 w =>
 mIf t6
 (mN Try.prog (vS (Instr.fieldAt 50 t1 0)) w fun t8 w =>
 mN Try.prog (vS (Instr.loadAt 3 t8)) w fun t9 w =>
 mN Try.prog (vS (binOp .leq 3 t9 (.int .i64 1099511627776))) w fun t10 w =>
 mIf t10
 (mN Try.prog (vS (Instr.fieldAt 50 t1 1)) w fun t13 w =>
 mN Try.prog (vS (Instr.loadAt 3 t13)) w fun t14 w =>
 mN Try.prog (vS (eqS .eql 3 false true t14 (.int .i64 0))) w fun t15 w =>
 mIf t15
 (mN Try.prog (vS (Instr.fieldAt 50 t1 2)) w fun t24 w =>
 mN Try.prog (vS (Instr.loadAt 3 t24)) w fun t25 w =>
 mY Try.prog (callVS (.func (.func 119) #[] #[]) #[t25]) w fun t26 w =>
 mIf t26
 (mN Try.prog (vS (Instr.fieldAt 50 t1 3)) w fun t30 w =>
 mN Try.prog (vS (Instr.loadAt 3 t30)) w fun t31 w =>
 mY Try.prog (callVS (.func (.func 119) #[] #[]) #[t31]) w fun t32 w =>
 K t32 w)
 (K (.bool false) w))
 (mN Try.prog (vS (Instr.fieldAt 50 t1 1)) w fun t17 w =>
 mN Try.prog (vS (Instr.loadAt 3 t17)) w fun t18 w =>
 mN Try.prog (vS (eqS .eql 3 false true t18 (.int .i64 1))) w fun t19 w =>
 mIf t19
 (mN Try.prog (vS (Instr.fieldAt 50 t1 2)) w fun t24 w =>
 mN Try.prog (vS (Instr.loadAt 3 t24)) w fun t25 w =>
 mY Try.prog (callVS (.func (.func 119) #[] #[]) #[t25]) w fun t26 w =>
 mIf t26
 (mN Try.prog (vS (Instr.fieldAt 50 t1 3)) w fun t30 w =>
 mN Try.prog (vS (Instr.loadAt 3 t30)) w fun t31 w =>
 mY Try.prog (callVS (.func (.func 119) #[] #[]) #[t31]) w fun t32 w =>
 K t32 w)
 (K (.bool false) w))
 (K (.bool false) w)))
 (K (.bool false) w))
 (K (.bool false) w)

theorem eq85 (a0 : Value) (w : World) (K : Value → World → Prop) : vcF Try.prog cOk .z Try.f85 [a0] w K = sh85 a0 w K := by kernel_rfl

theorem ok85 {a0 : Value} {w : World} {K : Value → World → Prop} (h : sh85 a0 w K) : Calls Try.prog 85 #[a0] w (retK K) :=
  calls_of_vcF (k := .z) callsOk mixed Try.func85 ((eq85 a0 w K).symm ▸ h)

/-- (recto/slot.Slot).parts -/
def sh86 (a0 : Value) (w : World) (K : Value → World → Prop) : Prop :=
 mN Try.prog (vS (Instr.box 50 a0)) w fun t1 w =>
 mN Try.prog (vS (Instr.alloc 142 true (.tuple #[]))) w fun t2 w =>
 mN Try.prog (vS (Instr.fieldAt 50 t1 0)) w fun t3 w =>
 mN Try.prog (vS (Instr.loadAt 3 t3)) w fun t4 w =>
 mN Try.prog (vS (Instr.fieldAt 50 t1 1)) w fun t5 w =>
 mN Try.prog (vS (Instr.loadAt 3 t5)) w fun t6 w =>
 mN Try.prog (vS (Instr.fieldAt 50 t1 2)) w fun t7 w =>
 mN Try.prog (vS (Instr.loadAt 3 t7)) w fun t8 w =>
 mN Try.prog (vS (Instr.fieldAt 50 t1 3)) w fun t9 w =>
 mN Try.prog (vS (Instr.loadAt 3 t9)) w fun t10 w =>
 mN Try.prog (vS (Instr.build 142 #[(0, t4), (1, t6), (2, t8), (3, t10)])) w fun t11 w =>
 mN Try.prog (uS (Instr.storeAt 142 t2 t11)) w fun _ w =>
 mRes Try.prog (cellS 142 t2) w fun r0 =>
 K r0 w

theorem eq86 (a0 : Value) (w : World) (K : Value → World → Prop) : vcF Try.prog cOk .z Try.f86 [a0] w K = sh86 a0 w K := by kernel_rfl

theorem ok86 {a0 : Value} {w : World} {K : Value → World → Prop} (h : sh86 a0 w K) : Calls Try.prog 86 #[a0] w (retK K) :=
  calls_of_vcF (k := .z) callsOk mixed Try.func86 ((eq86 a0 w K).symm ▸ h)

/-- recto/quill.Num -/
def sh87 (a0 : Value) (w : World) (K : Value → World → Prop) : Prop :=
 mN Try.prog (vS (binOp .lss 3 a0 (.int .i64 0))) w fun t6 w =>
 mIf t6
 (K (.tuple #[(.string ⟨#[]⟩), (.int .i64 1)]) w)
 (mN Try.prog (vS (binOp .gtr 3 a0 (.int .i64 1099511627776))) w fun t9 w =>
 mIf t9
 (K (.tuple #[(.string ⟨#[]⟩), (.int .i64 1)]) w)
 (mCall Try.prog 120 #[a0] w fun t12 w =>
 mN Try.prog (builtin .len #[9] 3 #[false] #[t12]) w fun t14 w =>
 mN Try.prog (vS (convert 3 5 t14)) w fun t15 w =>
 mN Try.prog (vS (Instr.buildSlice 52 1 #[(0, t15)])) w fun t16 w =>
 mN Try.prog (vS (convert 52 9 t16)) w fun t17 w =>
 mN Try.prog (vS (binOp .add 9 t17 t12)) w fun t19 w =>
 K (.tuple #[t19, (.int .i64 0)]) w))

theorem eq87 (a0 : Value) (w : World) (K : Value → World → Prop) : vcF Try.prog cOk .z Try.f87 [a0] w K = sh87 a0 w K := by kernel_rfl

theorem ok87 {a0 : Value} {w : World} {K : Value → World → Prop} (h : sh87 a0 w K) : Calls Try.prog 87 #[a0] w (retK K) :=
  calls_of_vcF (k := .z) callsOk mixed Try.func87 ((eq87 a0 w K).symm ▸ h)

/-- recto/slot.padded -/
def sh88 (a0 : Value) (w : World) (K : Value → World → Prop) : Prop :=
 mN Try.prog (builtin .len #[9] 3 #[false] #[a0]) w fun t5 w =>
 mN Try.prog (vS (binOp .sub 3 (.int .i64 256) t5)) w fun t6 w =>
 mCall Try.prog 74 #[(.string ⟨#[0]⟩), t6] w fun t7 w =>
 mN Try.prog (vS (binOp .add 9 a0 t7)) w fun t8 w =>
 K t8 w

theorem eq88 (a0 : Value) (w : World) (K : Value → World → Prop) : vcF Try.prog cOk .z Try.f88 [a0] w K = sh88 a0 w K := by kernel_rfl

theorem ok88 {a0 : Value} {w : World} {K : Value → World → Prop} (h : sh88 a0 w K) : Calls Try.prog 88 #[a0] w (retK K) :=
  calls_of_vcF (k := .z) callsOk mixed Try.func88 ((eq88 a0 w K).symm ▸ h)

/-- strings.CutPrefix -/
def sh89 (a0 a1 : Value) (w : World) (K : Value → World → Prop) : Prop :=
 mCall Try.prog 121 #[a0, a1] w fun t8 w =>
 mN Try.prog (vS (Instr.extract t8 0)) w fun t9 w =>
 mN Try.prog (vS (Instr.extract t8 1)) w fun t10 w =>
 K (.tuple #[t9, t10]) w

theorem eq89 (a0 a1 : Value) (w : World) (K : Value → World → Prop) : vcF Try.prog cOk .z Try.f89 [a0, a1] w K = sh89 a0 a1 w K := by kernel_rfl

theorem ok89 {a0 a1 : Value} {w : World} {K : Value → World → Prop} (h : sh89 a0 a1 w K) : Calls Try.prog 89 #[a0, a1] w (retK K) :=
  calls_of_vcF (k := .z) callsOk mixed Try.func89 ((eq89 a0 a1 w K).symm ▸ h)

/-- recto/quill.TakeNum -/
def sh90 (a0 : Value) (w : World) (K : Value → World → Prop) : Prop :=
 mN Try.prog (vS (eqS .eql 9 false true a0 (.string ⟨#[]⟩))) w fun t10 w =>
 mIf t10
 (K (.tuple #[(.int .i64 0), (.string ⟨#[]⟩), (.int .i64 4)]) w)
 (mN Try.prog (vS (Instr.index 9 a0 (.int .i64 0))) w fun t13 w =>
 mN Try.prog (vS (convert 5 3 t13)) w fun t14 w =>
 mN Try.prog (vS (binOp .gtr 3 t14 (.int .i64 6))) w fun t15 w =>
 mIf t15
 (K (.tuple #[(.int .i64 0), (.string ⟨#[]⟩), (.int .i64 4)]) w)
 (mN Try.prog (builtin .len #[9] 3 #[false] #[a0]) w fun t19 w =>
 mN Try.prog (vS (binOp .sub 3 t19 (.int .i64 1))) w fun t20 w =>
 mN Try.prog (vS (Instr.index 9 a0 (.int .i64 0))) w fun t22 w =>
 mN Try.prog (vS (convert 5 3 t22)) w fun t23 w =>
 mN Try.prog (vS (binOp .lss 3 t20 t23)) w fun t24 w =>
 mIf t24
 (K (.tuple #[(.int .i64 0), (.string ⟨#[]⟩), (.int .i64 4)]) w)
 (mDrew w fun w =>
 mP Try.prog (vS (Instr.index 9 a0 (.int .i64 0))) fun t28 =>
 mP Try.prog (vS (convert 5 3 t28)) fun t29 =>
 mP Try.prog (vS (binOp .add 3 (.int .i64 1) t29)) fun t30 =>
 mP Try.prog (vS (Instr.sliceAt 9 a0 (some (.int .i64 1)) (some t30) none)) fun t31 =>
 mP Try.prog (vS (Instr.index 9 a0 (.int .i64 0))) fun t34 =>
 mP Try.prog (vS (convert 5 3 t34)) fun t35 =>
 mP Try.prog (vS (binOp .add 3 (.int .i64 1) t35)) fun t36 =>
 mP Try.prog (vS (Instr.sliceAt 9 a0 (some t36) none none)) fun t37 =>
 mN Try.prog (builtin .len #[9] 3 #[false] #[t31]) w fun t39 w =>
 mLoop2 (fun t7 t40 w k =>
 mN Try.prog (vS (binOp .lss 3 t40 t39)) w fun t41 w =>
 mIf t41
 (mN Try.prog (vS (eqS .eql 3 false true t40 (.int .i64 0))) w fun t44 w =>
 mIf t44
 (mN Try.prog (vS (Instr.index 9 t31 t40)) w fun t48 w =>
 mN Try.prog (vS (eqS .eql 5 false true t48 (.int .u8 0))) w fun t49 w =>
 mIf t49
 (K (.tuple #[(.int .i64 0), (.string ⟨#[]⟩), (.int .i64 4)]) w)
 (mN Try.prog (vS (binOp .shl 3 t7 (.int .u64 8))) w fun t52 w =>
 mN Try.prog (vS (Instr.index 9 t31 t40)) w fun t55 w =>
 mN Try.prog (vS (convert 5 3 t55)) w fun t56 w =>
 mN Try.prog (vS (binOp .or 3 t52 t56)) w fun t57 w =>
 mN Try.prog (vS (binOp .add 3 t40 (.int .i64 1))) w fun t58 w =>
 k t57 t58 w))
 (mN Try.prog (vS (binOp .shl 3 t7 (.int .u64 8))) w fun t52 w =>
 mN Try.prog (vS (Instr.index 9 t31 t40)) w fun t55 w =>
 mN Try.prog (vS (convert 5 3 t55)) w fun t56 w =>
 mN Try.prog (vS (binOp .or 3 t52 t56)) w fun t57 w =>
 mN Try.prog (vS (binOp .add 3 t40 (.int .i64 1))) w fun t58 w =>
 k t57 t58 w))
 (mN Try.prog (vS (binOp .gtr 3 t7 (.int .i64 1099511627776))) w fun t60 w =>
 mIf t60
 (K (.tuple #[(.int .i64 0), (.string ⟨#[]⟩), (.int .i64 4)]) w)
 (K (.tuple #[t7, t37, (.int .i64 0)]) w)))
 (.int .i64 0) (.int .i64 0) w)))

theorem eq90 (a0 : Value) (w : World) (K : Value → World → Prop) : vcF Try.prog cOk (.n .z (.n .z (.n (.d [] [0, 1, 2, 3, 4, 5, 6, 7, 8, 9, 10, 11, 12, 13]) (.n .z (.n (.n .z (.l [7, 40] [41, 42, 8, 43, 44, 45, 46, 47, 48, 49, 50, 2, 3, 4, 51, 52, 53, 54, 55, 56, 57, 7, 58, 40] .z)) .z))))) Try.f90 [a0] w K = sh90 a0 w K := by kernel_rfl

theorem ok90 {a0 : Value} {w : World} {K : Value → World → Prop} (h : sh90 a0 w K) : Calls Try.prog 90 #[a0] w (retK K) :=
  calls_of_vcF (k := (.n .z (.n .z (.n (.d [] [0, 1, 2, 3, 4, 5, 6, 7, 8, 9, 10, 11, 12, 13]) (.n .z (.n (.n .z (.l [7, 40] [41, 42, 8, 43, 44, 45, 46, 47, 48, 49, 50, 2, 3, 4, 51, 52, 53, 54, 55, 56, 57, 7, 58, 40] .z)) .z)))))) callsOk mixed Try.func90 ((eq90 a0 w K).symm ▸ h)

/-- (*recto/rectoref27.Disk).goes -/
def sh91 (a0 : Value) (w : World) (K : Value → World → Prop) : Prop :=
 mN Try.prog (nilS a0) w fun t4 w =>
 mN Try.prog (vS (Instr.fieldAt 106 t4 3)) w fun t5 w =>
 mN Try.prog (vS (Instr.loadAt 4 t5)) w fun t6 w =>
 mN Try.prog (vS (Op.unary .not t6)) w fun t7 w =>
 mIf t7
 (K (.int .i64 0) w)
 (mN Try.prog (nilS a0) w fun t9 w =>
 mN Try.prog (vS (Instr.fieldAt 106 t9 4)) w fun t10 w =>
 mN Try.prog (vS (Instr.fieldAt 104 t10 0)) w fun t11 w =>
 mN Try.prog (vS (Instr.loadAt 3 t11)) w fun t12 w =>
 mN Try.prog (vS (binOp .gtr 3 t12 (.int .i64 0))) w fun t13 w =>
 mIf t13
 (mN Try.prog (nilS a0) w fun t16 w =>
 mN Try.prog (vS (Instr.fieldAt 106 t16 4)) w fun t17 w =>
 mN Try.prog (vS (Instr.fieldAt 104 t17 0)) w fun t18 w =>
 mN Try.prog (vS (Instr.loadAt 3 t18)) w fun t19 w =>
 mN Try.prog (vS (binOp .sub 3 t19 (.int .i64 1))) w fun t20 w =>
 mN Try.prog (nilS a0) w fun t21 w =>
 mN Try.prog (vS (Instr.fieldAt 106 t21 4)) w fun t22 w =>
 mN Try.prog (vS (Instr.fieldAt 104 t22 0)) w fun t23 w =>
 mN Try.prog (uS (Instr.storeAt 3 t23 t20)) w fun _ w =>
 K (.int .i64 0) w)
 (mN Try.prog (nilS a0) w fun t25 w =>
 mN Try.prog (vS (Instr.fieldAt 106 t25 3)) w fun t26 w =>
 mN Try.prog (uS (Instr.storeAt 4 t26 (.bool false))) w fun _ w =>
 mN Try.prog (nilS a0) w fun t28 w =>
 mN Try.prog (vS (Instr.fieldAt 106 t28 4)) w fun t29 w =>
 mN Try.prog (vS (Instr.fieldAt 104 t29 1)) w fun t30 w =>
 mN Try.prog (vS (Instr.loadAt 4 t30)) w fun t31 w =>
 mIf t31
 (mN Try.prog (nilS a0) w fun t34 w =>
 mN Try.prog (vS (Instr.fieldAt 106 t34 4)) w fun t35 w =>
 mN Try.prog (vS (Instr.fieldAt 104 t35 2)) w fun t36 w =>
 mN Try.prog (vS (Instr.loadAt 35 t36)) w fun t37 w =>
 mCall Try.prog 118 #[a0, t37] w fun t38 w =>
 K (.int .i64 271) w)
 (K (.int .i64 270) w)))

theorem eq91 (a0 : Value) (w : World) (K : Value → World → Prop) : vcF Try.prog cOk .z Try.f91 [a0] w K = sh91 a0 w K := by kernel_rfl

theorem ok91 {a0 : Value} {w : World} {K : Value → World → Prop} (h : sh91 a0 w K) : Calls Try.prog 91 #[a0] w (retK K) :=
  calls_of_vcF (k := .z) callsOk mixed Try.func91 ((eq91 a0 w K).symm ▸ h)

/-- recto/log.blocksOf -/
def sh92 (a0 : Value) (w : World) (K : Value → World → Prop) : Prop :=
 mN Try.prog (vS (binOp .add 3 a0 (.int .i64 256))) w fun t4 w =>
 mN Try.prog (vS (binOp .sub 3 t4 (.int .i64 1))) w fun t5 w =>
 mN Try.prog (vS (binOp .quo 3 t5 (.int .i64 256))) w fun t6 w =>
 K t6 w

theorem eq92 (a0 : Value) (w : World) (K : Value → World → Prop) : vcF Try.prog cOk .z Try.f92 [a0] w K = sh92 a0 w K := by kernel_rfl

theorem ok92 {a0 : Value} {w : World} {K : Value → World → Prop} (h : sh92 a0 w K) : Calls Try.prog 92 #[a0] w (retK K) :=
  calls_of_vcF (k := .z) callsOk mixed Try.func92 ((eq92 a0 w K).symm ▸ h)

/-- (*strings.Builder).WriteString -/
def sh93 (a0 a1 : Value) (w : World) (K : Value → World → Prop) : Prop :=
 mCall Try.prog 122 #[a0] w fun t7 w =>
 mN Try.prog (nilS a0) w fun t10 w =>
 mN Try.prog (vS (Instr.fieldAt 153 t10 1)) w fun t11 w =>
 mN Try.prog (vS (Instr.loadAt 52 t11)) w fun t12 w =>
 mN Try.prog (builtin .append #[52, 9] 52 #[false, false] #[t12, a1]) w fun t14 w =>
 mN Try.prog (nilS a0) w fun t15 w =>
 mN Try.prog (vS (Instr.fieldAt 153 t15 1)) w fun t16 w =>
 mN Try.prog (uS (Instr.storeAt 52 t16 t14)) w fun _ w =>
 mN Try.prog (builtin .len #[9] 3 #[false] #[a1]) w fun t18 w =>
 K (.tuple #[t18, Go.Value.nilIface]) w

theorem eq93 (a0 a1 : Value) (w : World) (K : Value → World → Prop) : vcF Try.prog cOk .z Try.f93 [a0, a1] w K = sh93 a0 a1 w K := by kernel_rfl

theorem ok93 {a0 a1 : Value} {w : World} {K : Value → World → Prop} (h : sh93 a0 a1 w K) : Calls Try.prog 93 #[a0, a1] w (retK K) :=
  calls_of_vcF (k := .z) callsOk mixed Try.func93 ((eq93 a0 a1 w K).symm ▸ h)

/-- (*strings.Builder).String -/
def sh94 (a0 : Value) (w : World) (K : Value → World → Prop) : Prop :=
 mDrew w fun w =>
 mP Try.prog (nilS a0) fun t4 =>
 mP Try.prog (vS (Instr.fieldAt 153 t4 1)) fun t5 =>
 mR Try.prog (vS (Instr.loadAt 52 t5)) w fun t6 =>
 mP Try.prog (nilS a0) fun t9 =>
 mP Try.prog (vS (Instr.fieldAt 153 t9 1)) fun t10 =>
 mR Try.prog (vS (Instr.loadAt 52 t10)) w fun t11 =>
 mP Try.prog (builtin .len #[52] 3 #[false] #[t11]) fun t12 =>
 mN Try.prog (builtin .unsafeSliceData #[52] 193 #[false] #[t6]) w fun t7 w =>
 rdN Try.prog (vS (Instr.loadAt 52 t10)) t11 w ∧
 mN Try.prog (builtin .unsafeString #[193, 3] 9 #[false, false] #[t7, t12]) w fun t13 w =>
 rdN Try.prog (vS (Instr.loadAt 52 t10)) t11 w ∧
 K t13 w

theorem eq94 (a0 : Value) (w : World) (K : Value → World → Prop) : vcF Try.prog cOk (.n .z (.n (.d [4, 10] [0, 1, 2, 3, 5, 6, 7, 8, 9, 4, 10, 11]) .z)) Try.f94 [a0] w K = sh94 a0 w K := by kernel_rfl

theorem ok94 {a0 : Value} {w : World} {K : Value → World → Prop} (h : sh94 a0 w K) : Calls Try.prog 94 #[a0] w (retK K) :=
  calls_of_vcF (k := (.n .z (.n (.d [4, 10] [0, 1, 2, 3, 5, 6, 7, 8, 9, 4, 10, 11]) .z))) callsOk mixed Try.func94 ((eq94 a0 w K).symm ▸ h)

/-- (*recto/rectoref27.Disk).Read -/
def sh96 (a0 a1 : Value) (w : World) (K : Value → World → Prop) : Prop :=
 mN Try.prog (vS (binOp .lss 3 a1 (.int .i64 0))) w fun t10 w =>
 mIf t10
 (K (.tuple #[(.string ⟨#[]⟩), (.int .i64 1)]) w)
 (mN Try.prog (nilS a0) w fun t14 w =>
 mN Try.prog (vS (Instr.fieldAt 106 t14 0)) w fun t15 w =>
 mN Try.prog (vS (Instr.loadAt 67 t15)) w fun t16 w =>
 mN Try.prog (builtin .len #[67] 3 #[false] #[t16]) w fun t17 w =>
 mN Try.prog (vS (binOp .geq 3 a1 t17)) w fun t18 w =>
 mIf t18
 (K (.tuple #[(.string ⟨#[]⟩), (.int .i64 1)]) w)
 (mN Try.prog (nilS a0) w fun t21 w =>
 mN Try.prog (vS (Instr.fieldAt 106 t21 2)) w fun t22 w =>
 mN Try.prog (vS (Instr.loadAt 4 t22)) w fun t23 w =>
 mIf t23
 (K (.tuple #[(.string ⟨#[]⟩), (.int .i64 271)]) w)
 (mN Try.prog (nilS a0) w fun t25 w =>
 mN Try.prog (vS (Instr.fieldAt 106 t25 0)) w fun t26 w =>
 mN Try.prog (vS (Instr.loadAt 67 t26)) w fun t27 w =>
 mN Try.prog (vS (Instr.indexAt 67 t27 a1)) w fun t29 w =>
 mN Try.prog (vS (Instr.loadAt 9 t29)) w fun t30 w =>
 mN Try.prog (nilS a0) w fun t32 w =>
 mN Try.prog (vS (Instr.fieldAt 106 t32 1)) w fun t33 w =>
 mN Try.prog (vS (Instr.loadAt 103 t33)) w fun t34 w =>
 mN Try.prog (builtin .len #[103] 3 #[false] #[t34]) w fun t35 w =>
 mLoop2 (fun t6 t36 w k =>
 mN Try.prog (vS (binOp .lss 3 t36 t35)) w fun t37 w =>
 mIf t37
 (mN Try.prog (vS (Instr.indexAt 103 t34 t36)) w fun t38 w =>
 mN Try.prog (vS (Instr.loadAt 150 t38)) w fun t39 w =>
 mN Try.prog (vS (Instr.alloc 150 true (.tuple #[]))) w fun t8 w =>
 mN Try.prog (uS (Instr.storeAt 150 t8 t39)) w fun _ w =>
 mN Try.prog (vS (Instr.fieldAt 150 t8 0)) w fun t40 w =>
 mN Try.prog (vS (Instr.loadAt 3 t40)) w fun t41 w =>
 mN Try.prog (vS (eqS .eql 3 false false t41 a1)) w fun t43 w =>
 mIf t43
 (mN Try.prog (vS (Instr.fieldAt 150 t8 1)) w fun t44 w =>
 mN Try.prog (vS (Instr.loadAt 9 t44)) w fun t45 w =>
 mN Try.prog (vS (binOp .add 3 t36 (.int .i64 1))) w fun t46 w =>
 k t45 t46 w)
 (mN Try.prog (vS (binOp .add 3 t36 (.int .i64 1))) w fun t46 w =>
 k t6 t46 w))
 (K (.tuple #[t6, (.int .i64 0)]) w))
 t30 (.int .i64 0) w)))

theorem eq96 (a0 a1 : Value) (w : World) (K : Value → World → Prop) : vcF Try.prog cOk (.n .z (.n .z (.n .z (.n .z (.n (.n .z (.l [6, 36] [37, 38, 39, 8, 40, 41, 42, 43, 44, 45, 6, 46, 36] .z)) .z))))) Try.f96 [a0, a1] w K = sh96 a0 a1 w K := by kernel_rfl

theorem ok96 {a0 a1 : Value} {w : World} {K : Value → World → Prop} (h : sh96 a0 a1 w K) : Calls Try.prog 96 #[a0, a1] w (retK K) :=
  calls_of_vcF (k := (.n .z (.n .z (.n .z (.n .z (.n (.n .z (.l [6, 36] [37, 38, 39, 8, 40, 41, 42, 43, 44, 45, 6, 46, 36] .z)) .z)))))) callsOk mixed Try.func96 ((eq96 a0 a1 w K).symm ▸ h)

/-- recto/rectoref29.Of -/
def sh97 (a0 : Value) (w : World) (K : Value → World → Prop) : Prop :=
 mN Try.prog (vS (Instr.alloc 163 true (.tuple #[]))) w fun t2 w =>
 mN Try.prog (vS (Instr.build 163 #[(1, (.bool true))])) w fun t6 w =>
 mN Try.prog (vS (Instr.alloc 163 true (.tuple #[]))) w fun t3 w =>
 mN Try.prog (uS (Instr.storeAt 163 t3 t6)) w fun _ w =>
 mLoop1 (fun t4 w k =>
 mN Try.prog (vS (eqS .neq 9 false true t4 (.string ⟨#[]⟩))) w fun t9 w =>
 mIf t9
 (mCall Try.prog 123 #[t4] w fun t11 w =>
 mN Try.prog (vS (Instr.alloc 195 true (.tuple #[]))) w fun t5 w =>
 mN Try.prog (uS (Instr.storeAt 195 t5 t11)) w fun _ w =>
 mN Try.prog (vS (Instr.fieldAt 195 t5 4)) w fun t12 w =>
 mN Try.prog (vS (Instr.loadAt 3 t12)) w fun t13 w =>
 mN Try.prog (vS (eqS .neq 3 false true t13 (.int .i64 0))) w fun t14 w =>
 mIf t14
 (mN Try.prog (vS (Instr.build 163 #[])) w fun t15 w =>
 mN Try.prog (uS (Instr.storeAt 163 t2 t15)) w fun _ w =>
 mRes Try.prog (cellS 163 t2) w fun r0 =>
 K r0 w)
 (mN Try.prog (vS (Instr.fieldAt 163 t3 0)) w fun t16 w =>
 mN Try.prog (vS (Instr.loadAt 67 t16)) w fun t17 w =>
 mN Try.prog (vS (Instr.fieldAt 195 t5 1)) w fun t18 w =>
 mN Try.prog (vS (Instr.loadAt 9 t18)) w fun t19 w =>
 mN Try.prog (vS (Instr.buildSlice 67 1 #[(0, t19)])) w fun t20 w =>
 mN Try.prog (builtin .append #[67, 67] 67 #[false, false] #[t17, t20]) w fun t21 w =>
 mN Try.prog (vS (Instr.fieldAt 163 t3 0)) w fun t22 w =>
 mN Try.prog (uS (Instr.storeAt 67 t22 t21)) w fun _ w =>
 mN Try.prog (vS (Instr.fieldAt 195 t5 3)) w fun t23 w =>
 mN Try.prog (vS (Instr.loadAt 9 t23)) w fun t24 w =>
 k t24 w))
 (mN Try.prog (vS (Instr.loadAt 163 t3)) w fun t25 w =>
 mN Try.prog (uS (Instr.storeAt 163 t2 t25)) w fun _ w =>
 mRes Try.prog (cellS 163 t2) w fun r0 =>
 K r0 w))
 a0 w

theorem eq97 (a0 : Value) (w : World) (K : Value → World → Prop) : vcF Try.prog cOk (.n .z (.n .z (.n .z (.n (.l [4] [8, 9, 10, 11, 5, 12, 13, 14, 15, 16, 17, 18, 19, 20, 21, 22, 23, 24, 4] .z) .z)))) Try.f97 [a0] w K = sh97 a0 w K := by kernel_rfl

theorem ok97 {a0 : Value} {w : World} {K : Value → World → Prop} (h : sh97 a0 w K) : Calls Try.prog 97 #[a0] w (retK K) :=
  calls_of_vcF (k := (.n .z (.n .z (.n .z (.n (.l [4] [8, 9, 10, 11, 5, 12, 13, 14, 15, 16, 17, 18, 19, 20, 21, 22, 23, 24, 4] .z) .z))))) callsOk mixed Try.func97 ((eq97 a0 w K).symm ▸ h)

/-- recto/log.each -/
def sh98 (a0 : Value) (w : World) (K : Value → World → Prop) : Prop :=
 mN Try.prog (vS (Instr.box 9 a0)) w fun t1 w =>
 mN Try.prog (vS (Instr.makeFunc (Go.Fn.func 124) #[] #[t1])) w fun t3 w =>
 K t3 w

theorem eq98 (a0 : Value) (w : World) (K : Value → World → Prop) : vcF Try.prog cOk .z Try.f98 [a0] w K = sh98 a0 w K := by kernel_rfl

theorem ok98 {a0 : Value} {w : World} {K : Value → World → Prop} (h : sh98 a0 w K) : Calls Try.prog 98 #[a0] w (retK K) :=
  calls_of_vcF (k := .z) callsOk mixed Try.func98 ((eq98 a0 w K).symm ▸ h)

/-- slices.Clip[[]string,string] -/
def sh99 (a0 : Value) (w : World) (K : Value → World → Prop) : Prop :=
 mN Try.prog (builtin .len #[67] 3 #[false] #[a0]) w fun t5 w =>
 mN Try.prog (builtin .len #[67] 3 #[false] #[a0]) w fun t7 w =>
 mN Try.prog (vS (Instr.sliceAt 67 a0 none (some t5) (some t7))) w fun t8 w =>
 K t8 w

theorem eq99 (a0 : Value) (w : World) (K : Value → World → Prop) : vcF Try.prog cOk .z Try.f99 [a0] w K = sh99 a0 w K := by kernel_rfl

theorem ok99 {a0 : Value} {w : World} {K : Value → World → Prop} (h : sh99 a0 w K) : Calls Try.prog 99 #[a0] w (retK K) :=
  calls_of_vcF (k := .z) callsOk mixed Try.func99 ((eq99 a0 w K).symm ▸ h)

/-- recto/quill.Text -/
def sh100 (a0 : Value) (w : World) (K : Value → World → Prop) : Prop :=
 mN Try.prog (vS (Instr.buildSlice 67 1 #[(0, a0)])) w fun t5 w =>
 mCall Try.prog 126 #[t5] w fun t6 w =>
 mN Try.prog (vS (Instr.extract t6 0)) w fun t7 w =>
 mN Try.prog (vS (Instr.extract t6 1)) w fun t8 w =>
 K (.tuple #[t7, t8]) w

theorem eq100 (a0 : Value) (w : World) (K : Value → World → Prop) : vcF Try.prog cOk .z Try.f100 [a0] w K = sh100 a0 w K := by kernel_rfl

theorem ok100 {a0 : Value} {w : World} {K : Value → World → Prop} (h : sh100 a0 w K) : Calls Try.prog 100 #[a0] w (retK K) :=
  calls_of_vcF (k := .z) callsOk mixed Try.func100 ((eq100 a0 w K).symm ▸ h)

/-- recto/rectoref28.Put -/
def sh101 (a0 a1 : Value) (w : World) (K : Value → World → Prop) : Prop :=
 mN Try.prog (vS (Instr.box 82 a1)) w fun t3 w =>
 mCall Try.prog 50 #[a0] w fun t9 w =>
 mN Try.prog (vS (Instr.alloc 84 true (.tuple #[]))) w fun t5 w =>
 mN Try.prog (uS (Instr.storeAt 84 t5 t9)) w fun _ w =>
 mN Try.prog (vS (Instr.fieldAt 84 t5 2)) w fun t10 w =>
 mN Try.prog (vS (Instr.loadAt 3 t10)) w fun t11 w =>
 mN Try.prog (vS (eqS .neq 3 false true t11 (.int .i64 0))) w fun t12 w =>
 mIf t12
 (mN Try.prog (vS (Instr.fieldAt 84 t5 2)) w fun t13 w =>
 mN Try.prog (vS (Instr.loadAt 3 t13)) w fun t14 w =>
 K t14 w)
 (mN Try.prog (vS (Instr.fieldAt 84 t5 0)) w fun t15 w =>
 mN Try.prog (vS (Instr.fieldAt 82 t15 0)) w fun t16 w =>
 mN Try.prog (vS (Instr.loadAt 3 t16)) w fun t17 w =>
 mN Try.prog (vS (binOp .add 3 t17 (.int .i64 1))) w fun t18 w =>
 mN Try.prog (vS (Instr.fieldAt 82 t3 1)) w fun t19 w =>
 mN Try.prog (vS (Instr.loadAt 3 t19)) w fun t20 w =>
 mN Try.prog (vS (Instr.fieldAt 82 t3 2)) w fun t21 w =>
 mN Try.prog (vS (Instr.loadAt 3 t21)) w fun t22 w =>
 mN Try.prog (vS (Instr.fieldAt 82 t3 3)) w fun t23 w =>
 mN Try.prog (vS (Instr.loadAt 3 t23)) w fun t24 w =>
 mN Try.prog (vS (Instr.build 82 #[(0, t18), (1, t20), (2, t22), (3, t24)])) w fun t25 w =>
 mN Try.prog (vS (Instr.alloc 82 true (.tuple #[]))) w fun t6 w =>
 mN Try.prog (uS (Instr.storeAt 82 t6 t25)) w fun _ w =>
 mN Try.prog (vS (Instr.loadAt 82 t6)) w fun t26 w =>
 mCall Try.prog 127 #[t26] w fun t27 w =>
 mN Try.prog (vS (Op.unary .not t27)) w fun t28 w =>
 mIf t28
 (K (.int .i64 1) w)
 (mDrew w fun w =>
 mP Try.prog (vS (Instr.fieldAt 84 t5 1)) fun t30 =>
 mR Try.prog (vS (Instr.loadAt 3 t30)) w fun t31 =>
 mP Try.prog (vS (binOp .sub 3 (.int .i64 1) t31)) fun t32 =>
 mR Try.prog (vS (Instr.loadAt 82 t6)) w fun t33 =>
 mCall Try.prog 128 #[t33] w fun t34 w =>
 rdN Try.prog (vS (Instr.loadAt 3 t30)) t31 w ∧
 mCall Try.prog 37 #[a0, t32, t34] w fun t35 w =>
 rdN Try.prog (vS (Instr.loadAt 3 t30)) t31 w ∧
 mN Try.prog (vS (eqS .neq 3 false true t35 (.int .i64 0))) w fun t37 w =>
 mIf t37
 (K t35 w)
 (mCall Try.prog 79 #[a0] w fun t40 w =>
 K t40 w)))

theorem eq101 (a0 a1 : Value) (w : World) (K : Value → World → Prop) : vcF Try.prog cOk (.n .z (.n .z (.n .z (.n .z (.n .z (.n (.d [5, 6] [0, 1, 2, 3, 4, 5, 6, 7]) .z)))))) Try.f101 [a0, a1] w K = sh101 a0 a1 w K := by kernel_rfl

theorem ok101 {a0 a1 : Value} {w : World} {K : Value → World → Prop} (h : sh101 a0 a1 w K) : Calls Try.prog 101 #[a0, a1] w (retK K) :=
  calls_of_vcF (k := (.n .z (.n .z (.n .z (.n .z (.n .z (.n (.d [5, 6] [0, 1, 2, 3, 4, 5, 6, 7]) .z))))))) callsOk mixed Try.func101 ((eq101 a0 a1 w K).symm ▸ h)

/-- recto/rectoref28.Format -/
def sh102 (a0 : Value) (w : World) (K : Value → World → Prop) : Prop :=
 mN Try.prog (vS (Instr.build 82 #[(0, (.int .i64 1))])) w fun t6 w =>
 mCall Try.prog 128 #[t6] w fun t7 w =>
 mCall Try.prog 37 #[a0, (.int .i64 0), t7] w fun t8 w =>
 mN Try.prog (vS (eqS .neq 3 false true t8 (.int .i64 0))) w fun t10 w =>
 mIf t10
 (K t8 w)
 (mLoop1 (fun t4 w k =>
 mN Try.prog (builtin .len #[9] 3 #[false] #[t4]) w fun t13 w =>
 mN Try.prog (vS (binOp .lss 3 t13 (.int .i64 256))) w fun t14 w =>
 mIf t14
 (mN Try.prog (vS (binOp .add 9 t4 (.string ⟨#[0]⟩))) w fun t16 w =>
 k t16 w)
 (mCall Try.prog 37 #[a0, (.int .i64 1), t4] w fun t19 w =>
 mN Try.prog (vS (eqS .neq 3 false true t19 (.int .i64 0))) w fun t21 w =>
 mIf t21
 (K t19 w)
 (mCall Try.prog 79 #[a0] w fun t24 w =>
 K t24 w)))
 (.string ⟨#[]⟩) w)

theorem eq102 (a0 : Value) (w : World) (K : Value → World → Prop) : vcF Try.prog cOk (.n .z (.n .z (.n .z (.n .z (.n (.l [4] [12, 13, 14, 15, 16, 4] .z) .z))))) Try.f102 [a0] w K = sh102 a0 w K := by kernel_rfl

theorem ok102 {a0 : Value} {w : World} {K : Value → World → Prop} (h : sh102 a0 w K) : Calls Try.prog 102 #[a0] w (retK K) :=
  calls_of_vcF (k := (.n .z (.n .z (.n .z (.n .z (.n (.l [4] [12, 13, 14, 15, 16, 4] .z) .z)))))) callsOk mixed Try.func102 ((eq102 a0 w K).symm ▸ h)

/-- recto/rectolaw28.fill -/
def sh103 (a0 : Value) (w : World) (K : Value → World → Prop) : Prop :=
 mN Try.prog (vS (Instr.makeSlice 52 (.int .i64 256) (.int .i64 256))) w fun t5 w =>
 mN Try.prog (builtin .len #[52] 3 #[false] #[t5]) w fun t7 w =>
 mLoop1 (fun t8 w k =>
 mN Try.prog (vS (binOp .lss 3 t8 t7)) w fun t9 w =>
 mIf t9
 (mN Try.prog (vS (Instr.indexAt 52 t5 t8)) w fun t14 w =>
 mN Try.prog (uS (Instr.storeAt 5 t14 a0)) w fun _ w =>
 mN Try.prog (vS (binOp .add 3 t8 (.int .i64 1))) w fun t15 w =>
 k t15 w)
 (mN Try.prog (vS (convert 52 9 t5)) w fun t17 w =>
 K t17 w))
 (.int .i64 0) w

theorem eq103 (a0 : Value) (w : World) (K : Value → World → Prop) : vcF Try.prog cOk (.n .z (.n .z (.n (.n .z (.l [8] [9, 10, 4, 11, 12, 13, 14, 15, 8] .z)) .z))) Try.f103 [a0] w K = sh103 a0 w K := by kernel_rfl

theorem ok103 {a0 : Value} {w : World} {K : Value → World → Prop} (h : sh103 a0 w K) : Calls Try.prog 103 #[a0] w (retK K) :=
  calls_of_vcF (k := (.n .z (.n .z (.n (.n .z (.l [8] [9, 10, 4, 11, 12, 13, 14, 15, 8] .z)) .z)))) callsOk mixed Try.func103 ((eq103 a0 w K).symm ▸ h)

/-- recto/rectoref28.Read -/
def sh104 (a0 : Value) (w : World) (K : Value → World → Prop) : Prop :=
 mN Try.prog (vS (Instr.alloc 173 true (.tuple #[]))) w fun t2 w =>
 mN Try.prog (builtin .len #[9] 3 #[false] #[a0]) w fun t9 w =>
 mN Try.prog (vS (eqS .neq 3 false true t9 (.int .i64 256))) w fun t10 w =>
 mIf t10
 (mN Try.prog (vS (Instr.build 173 #[])) w fun t16 w =>
 mN Try.prog (uS (Instr.storeAt 173 t2 t16)) w fun _ w =>
 mRes Try.prog (cellS 173 t2) w fun r0 =>
 K r0 w)
 (mN Try.prog (vS (Instr.sliceAt 9 a0 none (some (.int .i64 4)) none)) w fun t13 w =>
 mN Try.prog (vS (eqS .neq 9 false true t13 (.string ⟨#[114, 99, 116, 111]⟩))) w fun t14 w =>
 mIf t14
 (mN Try.prog (vS (Instr.build 173 #[])) w fun t16 w =>
 mN Try.prog (uS (Instr.storeAt 173 t2 t16)) w fun _ w =>
 mRes Try.prog (cellS 173 t2) w fun r0 =>
 K r0 w)
 (mN Try.prog (vS (Instr.sliceAt 9 a0 (some (.int .i64 4)) none none)) w fun t18 w =>
 mCall Try.prog 129 #[t18] w fun t19 w =>
 mN Try.prog (vS (Instr.alloc 195 true (.tuple #[]))) w fun t3 w =>
 mN Try.prog (uS (Instr.storeAt 195 t3 t19)) w fun _ w =>
 mN Try.prog (vS (Instr.fieldAt 195 t3 3)) w fun t20 w =>
 mN Try.prog (vS (Instr.loadAt 9 t20)) w fun t21 w =>
 mCall Try.prog 129 #[t21] w fun t22 w =>
 mN Try.prog (vS (Instr.alloc 195 true (.tuple #[]))) w fun t4 w =>
 mN Try.prog (uS (Instr.storeAt 195 t4 t22)) w fun _ w =>
 mN Try.prog (vS (Instr.fieldAt 195 t4 3)) w fun t23 w =>
 mN Try.prog (vS (Instr.loadAt 9 t23)) w fun t24 w =>
 mCall Try.prog 129 #[t24] w fun t25 w =>
 mN Try.prog (vS (Instr.alloc 195 true (.tuple #[]))) w fun t5 w =>
 mN Try.prog (uS (Instr.storeAt 195 t5 t25)) w fun _ w =>
 mN Try.prog (vS (Instr.fieldAt 195 t5 3)) w fun t26 w =>
 mN Try.prog (vS (Instr.loadAt 9 t26)) w fun t27 w =>
 mCall Try.prog 129 #[t27] w fun t28 w =>
 mN Try.prog (vS (Instr.alloc 195 true (.tuple #[]))) w fun t6 w =>
 mN Try.prog (uS (Instr.storeAt 195 t6 t28)) w fun _ w =>
 mN Try.prog (vS (Instr.fieldAt 195 t3 0)) w fun t29 w =>
 mN Try.prog (vS (Instr.loadAt 3 t29)) w fun t30 w =>
 mN Try.prog (vS (Instr.fieldAt 195 t4 0)) w fun t31 w =>
 mN Try.prog (vS (Instr.loadAt 3 t31)) w fun t32 w =>
 mN Try.prog (vS (Instr.fieldAt 195 t5 0)) w fun t33 w =>
 mN Try.prog (vS (Instr.loadAt 3 t33)) w fun t34 w =>
 mN Try.prog (vS (Instr.fieldAt 195 t6 0)) w fun t35 w =>
 mN Try.prog (vS (Instr.loadAt 3 t35)) w fun t36 w =>
 mN Try.prog (vS (Instr.build 82 #[(0, t30), (1, t32), (2, t34), (3, t36)])) w fun t37 w =>
 mN Try.prog (vS (Instr.alloc 82 true (.tuple #[]))) w fun t7 w =>
 mN Try.prog (uS (Instr.storeAt 82 t7 t37)) w fun _ w =>
 mDrew w fun w =>
 mP Try.prog (vS (Instr.fieldAt 195 t3 4)) fun t38 =>
 mR Try.prog (vS (Instr.loadAt 3 t38)) w fun t39 =>
 mP Try.prog (vS (eqS .neq 3 false true t39 (.int .i64 0))) fun t40 =>
 mIf t40
 (mN Try.prog (vS (Instr.build 173 #[])) w fun t69 w =>
 mN Try.prog (uS (Instr.storeAt 173 t2 t69)) w fun _ w =>
 mRes Try.prog (cellS 173 t2) w fun r0 =>
 K r0 w)
 (mP Try.prog (vS (Instr.fieldAt 195 t4 4)) fun t42 =>
 mR Try.prog (vS (Instr.loadAt 3 t42)) w fun t43 =>
 mP Try.prog (vS (eqS .neq 3 false true t43 (.int .i64 0))) fun t44 =>
 mIf t44
 (mN Try.prog (vS (Instr.build 173 #[])) w fun t69 w =>
 mN Try.prog (uS (Instr.storeAt 173 t2 t69)) w fun _ w =>
 mRes Try.prog (cellS 173 t2) w fun r0 =>
 K r0 w)
 (mP Try.prog (vS (Instr.fieldAt 195 t5 4)) fun t47 =>
 mR Try.prog (vS (Instr.loadAt 3 t47)) w fun t48 =>
 mP Try.prog (vS (eqS .neq 3 false true t48 (.int .i64 0))) fun t49 =>
 mIf t49
 (mN Try.prog (vS (Instr.build 173 #[])) w fun t69 w =>
 mN Try.prog (uS (Instr.storeAt 173 t2 t69)) w fun _ w =>
 mRes Try.prog (cellS 173 t2) w fun r0 =>
 K r0 w)
 (mP Try.prog (vS (Instr.fieldAt 195 t6 4)) fun t52 =>
 mR Try.prog (vS (Instr.loadAt 3 t52)) w fun t53 =>
 mP Try.prog (vS (eqS .neq 3 false true t53 (.int .i64 0))) fun t54 =>
 mIf t54
 (mN Try.prog (vS (Instr.build 173 #[])) w fun t69 w =>
 mN Try.prog (uS (Instr.storeAt 173 t2 t69)) w fun _ w =>
 mRes Try.prog (cellS 173 t2) w fun r0 =>
 K r0 w)
 (mR Try.prog (vS (Instr.loadAt 82 t7)) w fun t57 =>
 mCall Try.prog 127 #[t57] w fun t58 w =>
 rdN Try.prog (vS (Instr.loadAt 3 t52)) t53 w ∧
 rdN Try.prog (vS (Instr.loadAt 3 t47)) t48 w ∧
 rdN Try.prog (vS (Instr.loadAt 3 t42)) t43 w ∧
 rdN Try.prog (vS (Instr.loadAt 3 t38)) t39 w ∧
 mP Try.prog (vS (Op.unary .not t58)) fun t59 =>
 mIf t59
 (mN Try.prog (vS (Instr.build 173 #[])) w fun t69 w =>
 mN Try.prog (uS (Instr.storeAt 173 t2 t69)) w fun _ w =>
 mRes Try.prog (cellS 173 t2) w fun r0 =>
 K r0 w)
 (mR Try.prog (vS (Instr.loadAt 82 t7)) w fun t62 =>
 mP Try.prog (vS (Instr.sliceAt 9 a0 none (some (.int .i64 64)) none)) fun t66 =>
 mCall Try.prog 128 #[t62] w fun t63 w =>
 rdN Try.prog (vS (Instr.loadAt 3 t52)) t53 w ∧
 rdN Try.prog (vS (Instr.loadAt 3 t47)) t48 w ∧
 rdN Try.prog (vS (Instr.loadAt 3 t42)) t43 w ∧
 rdN Try.prog (vS (Instr.loadAt 3 t38)) t39 w ∧
 mP Try.prog (vS (Instr.sliceAt 9 t63 none (some (.int .i64 64)) none)) fun t64 =>
 mP Try.prog (vS (eqS .neq 9 false false t64 t66)) fun t67 =>
 mIf t67
 (mN Try.prog (vS (Instr.build 173 #[])) w fun t69 w =>
 mN Try.prog (uS (Instr.storeAt 173 t2 t69)) w fun _ w =>
 mRes Try.prog (cellS 173 t2) w fun r0 =>
 K r0 w)
 (mN Try.prog (vS (Instr.loadAt 82 t7)) w fun t70 w =>
 mN Try.prog (vS (Instr.build 173 #[(0, t70), (1, (.bool true))])) w fun t71 w =>
 mN Try.prog (uS (Instr.storeAt 173 t2 t71)) w fun _ w =>
 mRes Try.prog (cellS 173 t2) w fun r0 =>
 K r0 w))))))))

theorem eq104 (a0 : Value) (w : World) (K : Value → World → Prop) : vcF Try.prog cOk (.n .z (.n .z (.n .z (.n .z (.n .z (.n .z (.n .z (.n (.n (.d [20, 25] [0, 1, 2, 3, 4, 5, 6, 7, 8, 9, 10, 11, 12, 13, 14, 15, 16, 17, 18, 19, 20, 21, 22, 23, 24, 27, 28, 25, 26, 29, 30]) .z) .z)))))))) Try.f104 [a0] w K = sh104 a0 w K := by kernel_rfl

theorem ok104 {a0 : Value} {w : World} {K : Value → World → Prop} (h : sh104 a0 w K) : Calls Try.prog 104 #[a0] w (retK K) :=
  calls_of_vcF (k := (.n .z (.n .z (.n .z (.n .z (.n .z (.n .z (.n .z (.n (.n (.d [20, 25] [0, 1, 2, 3, 4, 5, 6, 7, 8, 9, 10, 11, 12, 13, 14, 15, 16, 17, 18, 19, 20, 21, 22, 23, 24, 27, 28, 25, 26, 29, 30]) .z) .z))))))))) callsOk mixed Try.func104 ((eq104 a0 w K).symm ▸ h)

/-- (*recto/rectoref29.Log).Add -/
def sh105 (a0 a1 : Value) (w : World) (K : Value → World → Prop) : Prop :=
 mCall Try.prog 109 #[a1] w fun t9 w =>
 mN Try.prog (vS (Instr.extract t9 0)) w fun t10 w =>
 mN Try.prog (vS (Instr.extract t9 1)) w fun t11 w =>
 mN Try.prog (vS (eqS .neq 3 false true t11 (.int .i64 0))) w fun t13 w =>
 mIf t13
 (K t11 w)
 (mDrew w fun w =>
 mP Try.prog (nilS a0) fun t16 =>
 mP Try.prog (vS (Instr.fieldAt 70 t16 2)) fun t17 =>
 mR Try.prog (vS (Instr.loadAt 67 t17)) w fun t18 =>
 mP Try.prog (builtin .len #[9] 3 #[false] #[t10]) fun t22 =>
 mP Try.prog (nilS a0) fun t25 =>
 mP Try.prog (vS (Instr.fieldAt 70 t25 1)) fun t26 =>
 mR Try.prog (vS (Instr.loadAt 3 t26)) w fun t27 =>
 mP Try.prog (vS (binOp .mul 3 (.int .i64 256) t27)) fun t28 =>
 mCall Try.prog 59 #[t18] w fun t19 w =>
 rdN Try.prog (vS (Instr.loadAt 3 t26)) t27 w ∧
 mP Try.prog (builtin .len #[9] 3 #[false] #[t19]) fun t20 =>
 mP Try.prog (vS (binOp .add 3 t20 t22)) fun t23 =>
 mP Try.prog (vS (binOp .gtr 3 t23 t28)) fun t29 =>
 mIf t29
 (K (.int .i64 5) w)
 (mN Try.prog (nilS a0) w fun t32 w =>
 mN Try.prog (vS (Instr.fieldAt 70 t32 2)) w fun t33 w =>
 mN Try.prog (vS (Instr.loadAt 67 t33)) w fun t34 w =>
 mN Try.prog (vS (Instr.buildSlice 67 1 #[(0, a1)])) w fun t36 w =>
 mN Try.prog (builtin .append #[67, 67] 67 #[false, false] #[t34, t36]) w fun t37 w =>
 mN Try.prog (nilS a0) w fun t38 w =>
 mN Try.prog (vS (Instr.fieldAt 70 t38 2)) w fun t39 w =>
 mN Try.prog (uS (Instr.storeAt 67 t39 t37)) w fun _ w =>
 K (.int .i64 0) w))

theorem eq105 (a0 a1 : Value) (w : World) (K : Value → World → Prop) : vcF Try.prog cOk (.n .z (.n .z (.n .z (.n (.n (.d [4] [0, 1, 2, 3, 6, 7, 9, 10, 11, 12, 13, 4, 5, 8, 14]) .z) .z)))) Try.f105 [a0, a1] w K = sh105 a0 a1 w K := by kernel_rfl

theorem ok105 {a0 a1 : Value} {w : World} {K : Value → World → Prop} (h : sh105 a0 a1 w K) : Calls Try.prog 105 #[a0, a1] w (retK K) :=
  calls_of_vcF (k := (.n .z (.n .z (.n .z (.n (.n (.d [4] [0, 1, 2, 3, 6, 7, 9, 10, 11, 12, 13, 4, 5, 8, 14]) .z) .z))))) callsOk mixed Try.func105 ((eq105 a0 a1 w K).symm ▸ h)

/-- (*recto/rectoref29.Log).Write -/
def sh106 (a0 a1 : Value) (w : World) (K : Value → World → Prop) : Prop :=
 mN Try.prog (nilS a0) w fun t11 w =>
 mN Try.prog (vS (Instr.fieldAt 70 t11 2)) w fun t12 w =>
 mN Try.prog (vS (Instr.loadAt 67 t12)) w fun t13 w =>
 mCall Try.prog 59 #[t13] w fun t14 w =>
 mDrew w fun w =>
 mP Try.prog (nilS a0) fun t16 =>
 mP Try.prog (vS (Instr.fieldAt 70 t16 2)) fun t17 =>
 mR Try.prog (vS (Instr.loadAt 67 t17)) w fun t18 =>
 mP Try.prog (nilS a0) fun t20 =>
 mP Try.prog (vS (Instr.fieldAt 70 t20 3)) fun t21 =>
 mR Try.prog (vS (Instr.loadAt 3 t21)) w fun t22 =>
 mP Try.prog (vS (Instr.sliceAt 67 t18 none (some t22) none)) fun t23 =>
 mCall Try.prog 59 #[t23] w fun t24 w =>
 rdN Try.prog (vS (Instr.loadAt 3 t21)) t22 w ∧
 rdN Try.prog (vS (Instr.loadAt 67 t17)) t18 w ∧
 mP Try.prog (builtin .len #[9] 3 #[false] #[t24]) fun t25 =>
 mLoop1 (fun t7 w k =>
 mN Try.prog (nilS a0) w fun t28 w =>
 mN Try.prog (vS (Instr.fieldAt 70 t28 1)) w fun t29 w =>
 mN Try.prog (vS (Instr.loadAt 3 t29)) w fun t30 w =>
 mN Try.prog (vS (binOp .lss 3 t7 t30)) w fun t31 w =>
 mIf t31
 (mN Try.prog (vS (binOp .mul 3 (.int .i64 256) t7)) w fun t35 w =>
 mN Try.prog (vS (binOp .add 3 t35 (.int .i64 256))) w fun t36 w =>
 mN Try.prog (vS (binOp .leq 3 t36 t25)) w fun t38 w =>
 mIf t38
 (mN Try.prog (vS (binOp .add 3 t7 (.int .i64 1))) w fun t33 w =>
 k t33 w)
 (mN Try.prog (vS (binOp .mul 3 (.int .i64 256) t7)) w fun t41 w =>
 mN Try.prog (builtin .len #[9] 3 #[false] #[t14]) w fun t43 w =>
 mN Try.prog (vS (binOp .geq 3 t41 t43)) w fun t44 w =>
 mIf t44
 (mN Try.prog (vS (binOp .add 3 t7 (.int .i64 1))) w fun t33 w =>
 k t33 w)
 (mN Try.prog (builtin .len #[9] 3 #[false] #[t14]) w fun t49 w =>
 mN Try.prog (vS (eqS .eql 3 false false t25 t49)) w fun t50 w =>
 mIf t50
 (mN Try.prog (vS (binOp .add 3 t7 (.int .i64 1))) w fun t33 w =>
 k t33 w)
 (mN Try.prog (vS (binOp .mul 3 (.int .i64 256) t7)) w fun t54 w =>
 mN Try.prog (vS (Instr.sliceAt 9 t14 (some t54) none none)) w fun t55 w =>
 mN Try.prog (builtin .len #[9] 3 #[false] #[t55]) w fun t57 w =>
 mN Try.prog (vS (binOp .gtr 3 t57 (.int .i64 256))) w fun t58 w =>
 mJ (fun (J : Value → World → Prop) =>
 mIf t58
 (mN Try.prog (vS (Instr.sliceAt 9 t55 none (some (.int .i64 256)) none)) w fun t60 w =>
 J t60 w)
 (J t55 w))
 (fun t8 w =>
 mLoop1 (fun t8 w k1 =>
 mN Try.prog (builtin .len #[9] 3 #[false] #[t8]) w fun t62 w =>
 mN Try.prog (vS (binOp .lss 3 t62 (.int .i64 256))) w fun t63 w =>
 mIf t63
 (mN Try.prog (vS (binOp .add 9 t8 (.string ⟨#[0]⟩))) w fun t65 w =>
 k1 t65 w)
 (mN Try.prog (nilS a0) w fun t68 w =>
 mN Try.prog (vS (Instr.fieldAt 70 t68 0)) w fun t69 w =>
 mN Try.prog (vS (Instr.loadAt 3 t69)) w fun t70 w =>
 mN Try.prog (vS (binOp .add 3 t70 t7)) w fun t72 w =>
 mCall Try.prog 37 #[a1, t72, t8] w fun t74 w =>
 mN Try.prog (vS (eqS .neq 3 false true t74 (.int .i64 0))) w fun t76 w =>
 mIf t76
 (K t74 w)
 (mN Try.prog (vS (binOp .add 3 t7 (.int .i64 1))) w fun t33 w =>
 k t33 w)))
 t8 w)))))
 (K (.int .i64 0) w))
 (.int .i64 0) w

theorem eq106 (a0 a1 : Value) (w : World) (K : Value → World → Prop) : vcF Try.prog cOk (.n .z (.n .z (.n (.d [9] [0, 1, 2, 3, 4, 5, 6, 7, 8, 9, 10, 11]) (.n (.n .z (.l [7] [26, 27, 28, 29, 30, 31, 34, 35, 36, 37, 38, 39, 40, 41, 42, 43, 44, 45, 46, 47, 48, 49, 50, 51, 52, 53, 54, 55, 56, 57, 58, 59, 60, 61, 62, 63, 64, 65, 8, 66, 67, 68, 69, 70, 71, 72, 73, 74, 9, 75, 76, 77, 4, 32, 33, 7] (.n .z (.n (.n .z (.n .z (.n (.n .z (.j [8] [59, 60, 8] .z)) (.n (.l [8] [61, 62, 63, 64, 65, 8] .z) .z)))) .z)))) .z)))) Try.f106 [a0, a1] w K = sh106 a0 a1 w K := by kernel_rfl

theorem ok106 {a0 a1 : Value} {w : World} {K : Value → World → Prop} (h : sh106 a0 a1 w K) : Calls Try.prog 106 #[a0, a1] w (retK K) :=
  calls_of_vcF (k := (.n .z (.n .z (.n (.d [9] [0, 1, 2, 3, 4, 5, 6, 7, 8, 9, 10, 11]) (.n (.n .z (.l [7] [26, 27, 28, 29, 30, 31, 34, 35, 36, 37, 38, 39, 40, 41, 42, 43, 44, 45, 46, 47, 48, 49, 50, 51, 52, 53, 54, 55, 56, 57, 58, 59, 60, 61, 62, 63, 64, 65, 8, 66, 67, 68, 69, 70, 71, 72, 73, 74, 9, 75, 76, 77, 4, 32, 33, 7] (.n .z (.n (.n .z (.n .z (.n (.n .z (.j [8] [59, 60, 8] .z)) (.n (.l [8] [61, 62, 63, 64, 65, 8] .z) .z)))) .z)))) .z))))) callsOk mixed Try.func106 ((eq106 a0 a1 w K).symm ▸ h)

/-- (*recto/rectoref29.Log).Drop -/
def sh107 (a0 : Value) (w : World) (K : Value → World → Prop) : Prop :=
 mDrew w fun w =>
 mP Try.prog (nilS a0) fun t5 =>
 mP Try.prog (vS (Instr.fieldAt 70 t5 2)) fun t6 =>
 mR Try.prog (vS (Instr.loadAt 67 t6)) w fun t7 =>
 mP Try.prog (nilS a0) fun t9 =>
 mP Try.prog (vS (Instr.fieldAt 70 t9 3)) fun t10 =>
 mR Try.prog (vS (Instr.loadAt 3 t10)) w fun t11 =>
 mP Try.prog (vS (Instr.sliceAt 67 t7 none (some t11) none)) fun t12 =>
 mN Try.prog (builtin .append #[67, 67] 67 #[false, false] #[(.slice none 0 0), t12]) w fun t13 w =>
 rdN Try.prog (vS (Instr.loadAt 3 t10)) t11 w ∧
 rdN Try.prog (vS (Instr.loadAt 67 t6)) t7 w ∧
 mN Try.prog (nilS a0) w fun t16 w =>
 mN Try.prog (vS (Instr.fieldAt 70 t16 2)) w fun t17 w =>
 mN Try.prog (uS (Instr.storeAt 67 t17 t13)) w fun _ w =>
 K (.tuple #[]) w

theorem eq107 (a0 : Value) (w : World) (K : Value → World → Prop) : vcF Try.prog cOk (.n .z (.n (.d [10, 11] [0, 1, 2, 3, 4, 5, 6, 7, 8, 9, 10, 11]) .z)) Try.f107 [a0] w K = sh107 a0 w K := by kernel_rfl

theorem ok107 {a0 : Value} {w : World} {K : Value → World → Prop} (h : sh107 a0 w K) : Calls Try.prog 107 #[a0] w (retK K) :=
  calls_of_vcF (k := (.n .z (.n (.d [10, 11] [0, 1, 2, 3, 4, 5, 6, 7, 8, 9, 10, 11]) .z))) callsOk mixed Try.func107 ((eq107 a0 w K).symm ▸ h)

/-- recto/rectoref01.Plain -/
def sh108 (a0 : Value) (w : World) (K : Value → World → Prop) : Prop :=
 mLoop2 (fun t3 t4 w k =>
 mN Try.prog (vS (binOp .gtr 3 t4 (.int .i64 0))) w fun t7 w =>
 mIf t7
 (mN Try.prog (vS (binOp .rem 3 t4 (.int .i64 256))) w fun t11 w =>
 mN Try.prog (vS (convert 3 5 t11)) w fun t12 w =>
 mN Try.prog (vS (Instr.buildSlice 52 1 #[(0, t12)])) w fun t13 w =>
 mN Try.prog (vS (convert 52 9 t13)) w fun t14 w =>
 mN Try.prog (vS (binOp .add 9 t14 t3)) w fun t16 w =>
 mN Try.prog (vS (binOp .quo 3 t4 (.int .i64 256))) w fun t9 w =>
 k t16 t9 w)
 (mCall Try.prog 45 #[a0] w fun t18 w =>
 mN Try.prog (vS (convert 3 5 t18)) w fun t19 w =>
 mN Try.prog (vS (Instr.buildSlice 52 1 #[(0, t19)])) w fun t20 w =>
 mN Try.prog (vS (convert 52 9 t20)) w fun t21 w =>
 mN Try.prog (vS (binOp .add 9 t21 t3)) w fun t23 w =>
 K t23 w))
 (.string ⟨#[]⟩) a0 w

theorem eq108 (a0 : Value) (w : World) (K : Value → World → Prop) : vcF Try.prog cOk (.n .z (.n .z (.n (.n .z (.l [3, 4] [6, 7, 10, 11, 12, 13, 14, 15, 16, 3, 8, 9, 4] .z)) .z))) Try.f108 [a0] w K = sh108 a0 w K := by kernel_rfl

theorem ok108 {a0 : Value} {w : World} {K : Value → World → Prop} (h : sh108 a0 w K) : Calls Try.prog 108 #[a0] w (retK K) :=
  calls_of_vcF (k := (.n .z (.n .z (.n (.n .z (.l [3, 4] [6, 7, 10, 11, 12, 13, 14, 15, 16, 3, 8, 9, 4] .z)) .z)))) callsOk mixed Try.func108 ((eq108 a0 w K).symm ▸ h)

/-- recto/rectoref01.Text -/
def sh109 (a0 : Value) (w : World) (K : Value → World → Prop) : Prop :=
 mN Try.prog (builtin .len #[9] 3 #[false] #[a0]) w fun t5 w =>
 mN Try.prog (vS (binOp .gtr 3 t5 (.int .i64 65536))) w fun t6 w =>
 mIf t6
 (K (.tuple #[(.string ⟨#[]⟩), (.int .i64 2)]) w)
 (mN Try.prog (builtin .len #[9] 3 #[false] #[a0]) w fun t8 w =>
 mCall Try.prog 108 #[t8] w fun t9 w =>
 mN Try.prog (vS (binOp .add 9 t9 a0)) w fun t11 w =>
 K (.tuple #[t11, (.int .i64 0)]) w)

theorem eq109 (a0 : Value) (w : World) (K : Value → World → Prop) : vcF Try.prog cOk .z Try.f109 [a0] w K = sh109 a0 w K := by kernel_rfl

theorem ok109 {a0 : Value} {w : World} {K : Value → World → Prop} (h : sh109 a0 w K) : Calls Try.prog 109 #[a0] w (retK K) :=
  calls_of_vcF (k := .z) callsOk mixed Try.func109 ((eq109 a0 w K).symm ▸ h)

/-- recto/region.fill -/
def sh110 (a0 a1 : Value) (w : World) (K : Value → World → Prop) : Prop :=
 mN Try.prog (builtin .len #[67] 3 #[false] #[a1]) w fun t9 w =>
 mLoop1 (fun t10 w k =>
 mN Try.prog (vS (binOp .lss 3 t10 t9)) w fun t11 w =>
 mIf t11
 (mN Try.prog (vS (Instr.indexAt 67 a1 t10)) w fun t12 w =>
 mN Try.prog (vS (Instr.loadAt 9 t12)) w fun t13 w =>
 mCall Try.prog 46 #[a0, t13] w fun t16 w =>
 mN Try.prog (vS (eqS .neq 24 false true t16 (.int .i64 0))) w fun t18 w =>
 mIf t18
 (K t16 w)
 (mN Try.prog (vS (binOp .add 3 t10 (.int .i64 1))) w fun t20 w =>
 k t20 w))
 (K (.int .i64 0) w))
 (.int .i64 0) w

theorem eq110 (a0 a1 : Value) (w : World) (K : Value → World → Prop) : vcF Try.prog cOk (.n .z (.n (.n .z (.l [10] [11, 12, 13, 6, 14, 15, 16, 7, 17, 18, 19, 4, 20, 10] .z)) .z)) Try.f110 [a0, a1] w K = sh110 a0 a1 w K := by kernel_rfl

theorem ok110 {a0 a1 : Value} {w : World} {K : Value → World → Prop} (h : sh110 a0 a1 w K) : Calls Try.prog 110 #[a0, a1] w (retK K) :=
  calls_of_vcF (k := (.n .z (.n (.n .z (.l [10] [11, 12, 13, 6, 14, 15, 16, 7, 17, 18, 19, 4, 20, 10] .z)) .z))) callsOk mixed Try.func110 ((eq110 a0 a1 w K).symm ▸ h)

/-- (*recto/region.Journal).last -/
def sh111 (a0 a1 a2 : Value) (w : World) (K : Value → World → Prop) : Prop :=
 mCall Try.prog 56 #[a1] w fun t10 w =>
 mN Try.prog (vS (eqS .neq 24 false true t10 (.int .i64 0))) w fun t12 w =>
 mIf t12
 (K t10 w)
 (mN Try.prog (nilS a0) w fun t15 w =>
 mN Try.prog (vS (Instr.fieldAt 184 t15 0)) w fun t16 w =>
 mN Try.prog (vS (Instr.fieldAt 180 t16 0)) w fun t17 w =>
 mN Try.prog (vS (Instr.loadAt 23 t17)) w fun t18 w =>
 mCall Try.prog 22 #[t18] w fun t19 w =>
 mN Try.prog (vS (eqS .neq 24 false true t19 (.int .i64 0))) w fun t21 w =>
 mIf t21
 (K t19 w)
 (mDrew w fun w =>
 mP Try.prog (nilS a0) fun t24 =>
 mP Try.prog (vS (Instr.fieldAt 184 t24 0)) fun t25 =>
 mP Try.prog (vS (Instr.fieldAt 180 t25 0)) fun t26 =>
 mR Try.prog (vS (Instr.loadAt 23 t26)) w fun t27 =>
 mCall Try.prog 43 #[a1] w fun t30 w =>
 rdN Try.prog (vS (Instr.loadAt 23 t26)) t27 w ∧
 mCall Try.prog 41 #[a1] w fun t32 w =>
 rdN Try.prog (vS (Instr.loadAt 23 t26)) t27 w ∧
 mP Try.prog (builtin .len #[67] 3 #[false] #[t32]) fun t33 =>
 mP Try.prog (vS (Instr.build 50 #[(1, a2), (2, t30), (3, t33)])) fun t34 =>
 mCall Try.prog 53 #[t27, t34] w fun t35 w =>
 K t35 w))

theorem eq111 (a0 a1 a2 : Value) (w : World) (K : Value → World → Prop) : vcF Try.prog cOk (.n .z (.n .z (.n .z (.n (.d [7, 9, 12] [0, 1, 2, 3, 4, 5, 6, 8, 7, 9, 10, 11, 12, 13]) .z)))) Try.f111 [a0, a1, a2] w K = sh111 a0 a1 a2 w K := by kernel_rfl

theorem ok111 {a0 a1 a2 : Value} {w : World} {K : Value → World → Prop} (h : sh111 a0 a1 a2 w K) : Calls Try.prog 111 #[a0, a1, a2] w (retK K) :=
  calls_of_vcF (k := (.n .z (.n .z (.n .z (.n (.d [7, 9, 12] [0, 1, 2, 3, 4, 5, 6, 8, 7, 9, 10, 11, 12, 13]) .z))))) callsOk mixed Try.func111 ((eq111 a0 a1 a2 w K).symm ▸ h)

/-- (recto/region.rows).open -/
def sh112 (a0 a1 a2 : Value) (w : World) (K : Value → World → Prop) : Prop :=
 mN Try.prog (vS (Instr.box 180 a0)) w fun t3 w =>
 mDrew w fun w =>
 mP Try.prog (vS (Instr.fieldAt 180 t3 0)) fun t8 =>
 mR Try.prog (vS (Instr.loadAt 23 t8)) w fun t9 =>
 mR Try.prog (vS (Instr.loadAt 180 t3)) w fun t11 =>
 mR Try.prog (vS (Instr.loadAt 180 t3)) w fun t15 =>
 mCall Try.prog 130 #[t11] w fun t12 w =>
 rdN Try.prog (vS (Instr.loadAt 180 t3)) t15 w ∧
 rdN Try.prog (vS (Instr.loadAt 23 t8)) t9 w ∧
 mP Try.prog (vS (binOp .mul 3 a1 t12)) fun t13 =>
 mP Try.prog (vS (binOp .add 3 (.int .i64 2) t13)) fun t14 =>
 mCall Try.prog 130 #[t15] w fun t16 w =>
 rdN Try.prog (vS (Instr.loadAt 23 t8)) t9 w ∧
 mCall Try.prog 38 #[t9, t14, t16, a2] w fun t18 w =>
 mP Try.prog (vS (Instr.extract t18 0)) fun t19 =>
 mP Try.prog (vS (Instr.extract t18 1)) fun t20 =>
 K (.tuple #[t19, t20]) w

theorem eq112 (a0 a1 a2 : Value) (w : World) (K : Value → World → Prop) : vcF Try.prog cOk (.n .z (.n (.d [4, 8, 10] [0, 1, 2, 3, 7, 9, 4, 5, 6, 8, 10, 11, 12, 13, 14]) .z)) Try.f112 [a0, a1, a2] w K = sh112 a0 a1 a2 w K := by kernel_rfl

theorem ok112 {a0 a1 a2 : Value} {w : World} {K : Value → World → Prop} (h : sh112 a0 a1 a2 w K) : Calls Try.prog 112 #[a0, a1, a2] w (retK K) :=
  calls_of_vcF (k := (.n .z (.n (.d [4, 8, 10] [0, 1, 2, 3, 7, 9, 4, 5, 6, 8, 10, 11, 12, 13, 14]) .z))) callsOk mixed Try.func112 ((eq112 a0 a1 a2 w K).symm ▸ h)

/-- math/bits.Mul -/
def sh113 (a0 a1 : Value) (w : World) (K : Value → World → Prop) : Prop :=
 mCall Try.prog 132 #[a0, a1] w fun t25 w =>
 mN Try.prog (vS (Instr.extract t25 0)) w fun t26 w =>
 mN Try.prog (vS (Instr.extract t25 1)) w fun t27 w =>
 K (.tuple #[t26, t27]) w

theorem eq113 (a0 a1 : Value) (w : World) (K : Value → World → Prop) : vcF Try.prog cOk .z Try.f113 [a0, a1] w K = sh113 a0 a1 w K := by kernel_rfl

theorem ok113 {a0 a1 : Value} {w : World} {K : Value → World → Prop} (h : sh113 a0 a1 w K) : Calls Try.prog 113 #[a0, a1] w (retK K) :=
  calls_of_vcF (k := .z) callsOk mixed Try.func113 ((eq113 a0 a1 w K).symm ▸ h)

/-- strings.HasPrefix -/
def sh114 (a0 a1 : Value) (w : World) (K : Value → World → Prop) : Prop :=
 mCall Try.prog 133 #[a0, a1] w fun t7 w =>
 K t7 w

theorem eq114 (a0 a1 : Value) (w : World) (K : Value → World → Prop) : vcF Try.prog cOk .z Try.f114 [a0, a1] w K = sh114 a0 a1 w K := by kernel_rfl

theorem ok114 {a0 a1 : Value} {w : World} {K : Value → World → Prop} (h : sh114 a0 a1 w K) : Calls Try.prog 114 #[a0, a1] w (retK K) :=
  calls_of_vcF (k := .z) callsOk mixed Try.func114 ((eq114 a0 a1 w K).symm ▸ h)

/-- (*strings.Builder).Grow -/
def sh115 (a0 a1 : Value) (w : World) (K : Value → World → Prop) : Prop :=
 mCall Try.prog 122 #[a0] w fun t5 w =>
 mN Try.prog (vS (binOp .lss 3 a1 (.int .i64 0))) w fun t7 w =>
 mJ (fun (J : World → Prop) =>
 mIf t7
 (mN Try.prog (vS (Instr.makeInterface 9 (.string ⟨#[115, 116, 114, 105, 110, 103, 115, 46, 66, 117, 105, 108, 100, 101, 114, 46, 71, 114, 111, 119, 58, 32, 110, 101, 103, 97, 116, 105, 118, 101, 32, 99, 111, 117, 110, 116]⟩))) w fun t8 w =>
 mN Try.prog (vS (Instr.panic t8)) w fun _ w =>
 J w)
 (J w))
 (fun w =>
 mDrew w fun w =>
 mP Try.prog (nilS a0) fun t10 =>
 mP Try.prog (vS (Instr.fieldAt 153 t10 1)) fun t11 =>
 mR Try.prog (vS (Instr.loadAt 52 t11)) w fun t12 =>
 mP Try.prog (builtin .cap #[52] 3 #[false] #[t12]) fun t13 =>
 mP Try.prog (nilS a0) fun t15 =>
 mP Try.prog (vS (Instr.fieldAt 153 t15 1)) fun t16 =>
 mR Try.prog (vS (Instr.loadAt 52 t16)) w fun t17 =>
 mP Try.prog (builtin .len #[52] 3 #[false] #[t17]) fun t18 =>
 mP Try.prog (vS (binOp .sub 3 t13 t18)) fun t19 =>
 mP Try.prog (vS (binOp .lss 3 t19 a1)) fun t21 =>
 mIf t21
 (mCall Try.prog 134 #[a0, a1] w fun t24 w =>
 K (.tuple #[]) w)
 (K (.tuple #[]) w))

theorem eq115 (a0 a1 : Value) (w : World) (K : Value → World → Prop) : vcF Try.prog cOk (.n .z (.n (.n .z (.j [] [8] .z)) (.n (.d [] [0, 1, 2, 3, 4, 5, 6, 7, 8, 9, 10, 11, 12]) .z))) Try.f115 [a0, a1] w K = sh115 a0 a1 w K := by kernel_rfl

theorem ok115 {a0 a1 : Value} {w : World} {K : Value → World → Prop} (h : sh115 a0 a1 w K) : Calls Try.prog 115 #[a0, a1] w (retK K) :=
  calls_of_vcF (k := (.n .z (.n (.n .z (.j [] [8] .z)) (.n (.d [] [0, 1, 2, 3, 4, 5, 6, 7, 8, 9, 10, 11, 12]) .z)))) callsOk mixed Try.func115 ((eq115 a0 a1 w K).symm ▸ h)

/-- (*strings.Builder).Len -/
def sh116 (a0 : Value) (w : World) (K : Value → World → Prop) : Prop :=
 mN Try.prog (nilS a0) w fun t4 w =>
 mN Try.prog (vS (Instr.fieldAt 153 t4 1)) w fun t5 w =>
 mN Try.prog (vS (Instr.loadAt 52 t5)) w fun t6 w =>
 mN Try.prog (builtin .len #[52] 3 #[false] #[t6]) w fun t7 w =>
 K t7 w

theorem eq116 (a0 : Value) (w : World) (K : Value → World → Prop) : vcF Try.prog cOk .z Try.f116 [a0] w K = sh116 a0 w K := by kernel_rfl

theorem ok116 {a0 : Value} {w : World} {K : Value → World → Prop} (h : sh116 a0 w K) : Calls Try.prog 116 #[a0] w (retK K) :=
  calls_of_vcF (k := .z) callsOk mixed Try.func116 ((eq116 a0 w K).symm ▸ h)

/-- strings.Join -/
def sh117 (a0 a1 : Value) (w : World) (K : Value → World → Prop) : Prop :=
 mN Try.prog (builtin .len #[67] 3 #[false] #[a0]) w fun t12 w =>
 mN Try.prog (vS (eqS .eql 3 false true t12 (.int .i64 0))) w fun t14 w =>
 mIf t14
 (K (.string ⟨#[]⟩) w)
 (mN Try.prog (vS (eqS .eql 3 false true t12 (.int .i64 1))) w fun t16 w =>
 mIf t16
 (mN Try.prog (vS (Instr.indexAt 67 a0 (.int .i64 0))) w fun t18 w =>
 mN Try.prog (vS (Instr.loadAt 9 t18)) w fun t19 w =>
 K t19 w)
 (mN Try.prog (builtin .len #[9] 3 #[false] #[a1]) w fun t21 w =>
 mN Try.prog (vS (binOp .gtr 3 t21 (.int .i64 0))) w fun t22 w =>
 mJ (fun (J : Value → World → Prop) =>
 mIf t22
 (mN Try.prog (builtin .len #[9] 3 #[false] #[a1]) w fun t24 w =>
 mN Try.prog (builtin .len #[67] 3 #[false] #[a0]) w fun t26 w =>
 mN Try.prog (vS (binOp .sub 3 t26 (.int .i64 1))) w fun t27 w =>
 mN Try.prog (vS (binOp .quo 3 (.int .i64 9223372036854775807) t27)) w fun t28 w =>
 mN Try.prog (vS (binOp .geq 3 t24 t28)) w fun t29 w =>
 mIf t29
 (mN Try.prog (vS (Instr.makeInterface 9 (.string ⟨#[115, 116, 114, 105, 110, 103, 115, 58, 32, 74, 111, 105, 110, 32, 111, 117, 116, 112, 117, 116, 32, 108, 101, 110, 103, 116, 104, 32, 111, 118, 101, 114, 102, 108, 111, 119]⟩))) w fun t30 w =>
 mN Try.prog (vS (Instr.panic t30)) w fun _ w =>
 mN Try.prog (builtin .len #[9] 3 #[false] #[a1]) w fun t33 w =>
 mN Try.prog (builtin .len #[67] 3 #[false] #[a0]) w fun t35 w =>
 mN Try.prog (vS (binOp .sub 3 t35 (.int .i64 1))) w fun t36 w =>
 mN Try.prog (vS (binOp .mul 3 t33 t36)) w fun t37 w =>
 mN Try.prog (vS (binOp .add 3 (.int .i64 0) t37)) w fun t38 w =>
 J t38 w)
 (mN Try.prog (builtin .len #[9] 3 #[false] #[a1]) w fun t33 w =>
 mN Try.prog (builtin .len #[67] 3 #[false] #[a0]) w fun t35 w =>
 mN Try.prog (vS (binOp .sub 3 t35 (.int .i64 1))) w fun t36 w =>
 mN Try.prog (vS (binOp .mul 3 t33 t36)) w fun t37 w =>
 mN Try.prog (vS (binOp .add 3 (.int .i64 0) t37)) w fun t38 w =>
 J t38 w))
 (J (.int .i64 0) w))
 (fun t5 w =>
 mN Try.prog (builtin .len #[67] 3 #[false] #[a0]) w fun t40 w =>
 mLoop2 (fun t5 t41 w k =>
 mN Try.prog (vS (binOp .lss 3 t41 t40)) w fun t42 w =>
 mIf t42
 (mN Try.prog (vS (Instr.indexAt 67 a0 t41)) w fun t43 w =>
 mN Try.prog (vS (Instr.loadAt 9 t43)) w fun t44 w =>
 mN Try.prog (builtin .len #[9] 3 #[false] #[t44]) w fun t46 w =>
 mN Try.prog (vS (binOp .sub 3 (.int .i64 9223372036854775807) t5)) w fun t48 w =>
 mN Try.prog (vS (binOp .gtr 3 t46 t48)) w fun t49 w =>
 mIf t49
 (mN Try.prog (vS (Instr.makeInterface 9 (.string ⟨#[115, 116, 114, 105, 110, 103, 115, 58, 32, 74, 111, 105, 110, 32, 111, 117, 116, 112, 117, 116, 32, 108, 101, 110, 103, 116, 104, 32, 111, 118, 101, 114, 102, 108, 111, 119]⟩))) w fun t50 w =>
 mN Try.prog (vS (Instr.panic t50)) w fun _ w =>
 mN Try.prog (builtin .len #[9] 3 #[false] #[t44]) w fun t53 w =>
 mN Try.prog (vS (binOp .add 3 t5 t53)) w fun t54 w =>
 mN Try.prog (vS (binOp .add 3 t41 (.int .i64 1))) w fun t55 w =>
 k t54 t55 w)
 (mN Try.prog (builtin .len #[9] 3 #[false] #[t44]) w fun t53 w =>
 mN Try.prog (vS (binOp .add 3 t5 t53)) w fun t54 w =>
 mN Try.prog (vS (binOp .add 3 t41 (.int .i64 1))) w fun t55 w =>
 k t54 t55 w))
 (mN Try.prog (vS (Instr.alloc 153 true (.tuple #[]))) w fun t8 w =>
 mCall Try.prog 115 #[t8, t5] w fun t57 w =>
 mN Try.prog (vS (Instr.indexAt 67 a0 (.int .i64 0))) w fun t59 w =>
 mN Try.prog (vS (Instr.loadAt 9 t59)) w fun t60 w =>
 mCall Try.prog 93 #[t8, t60] w fun t61 w =>
 mN Try.prog (vS (Instr.sliceAt 67 a0 (some (.int .i64 1)) none none)) w fun t63 w =>
 mN Try.prog (builtin .len #[67] 3 #[false] #[t63]) w fun t64 w =>
 mLoop1 (fun t65 w k1 =>
 mN Try.prog (vS (binOp .lss 3 t65 t64)) w fun t66 w =>
 mIf t66
 (mN Try.prog (vS (Instr.indexAt 67 t63 t65)) w fun t67 w =>
 mN Try.prog (vS (Instr.loadAt 9 t67)) w fun t68 w =>
 mCall Try.prog 93 #[t8, a1] w fun t70 w =>
 mCall Try.prog 93 #[t8, t68] w fun t72 w =>
 mN Try.prog (vS (binOp .add 3 t65 (.int .i64 1))) w fun t73 w =>
 k1 t73 w)
 (mCall Try.prog 94 #[t8] w fun t74 w =>
 K t74 w))
 (.int .i64 0) w))
 t5 (.int .i64 0) w)))

theorem eq117 (a0 a1 : Value) (w : World) (K : Value → World → Prop) : vcF Try.prog cOk (.n .z (.n .z (.n .z (.n (.n .z (.j [5] [23, 24, 25, 26, 27, 28, 29, 30, 31, 32, 33, 34, 35, 36, 37, 38, 5] .z)) (.n (.n .z (.l [5, 41] [42, 43, 44, 7, 45, 46, 47, 48, 49, 50, 51, 52, 53, 54, 5, 55, 41] .z)) (.n .z (.n .z (.n .z (.n (.n .z (.l [65] [66, 67, 68, 10, 69, 70, 71, 72, 73, 65] .z)) .z))))))))) Try.f117 [a0, a1] w K = sh117 a0 a1 w K := by kernel_rfl

theorem ok117 {a0 a1 : Value} {w : World} {K : Value → World → Prop} (h : sh117 a0 a1 w K) : Calls Try.prog 117 #[a0, a1] w (retK K) :=
  calls_of_vcF (k := (.n .z (.n .z (.n .z (.n (.n .z (.j [5] [23, 24, 25, 26, 27, 28, 29, 30, 31, 32, 33, 34, 35, 36, 37, 38, 5] .z)) (.n (.n .z (.l [5, 41] [42, 43, 44, 7, 45, 46, 47, 48, 49, 50, 51, 52, 53, 54, 5, 55, 41] .z)) (.n .z (.n .z (.n .z (.n (.n .z (.l [65] [66, 67, 68, 10, 69, 70, 71, 72, 73, 65] .z)) .z)))))))))) callsOk mixed Try.func117 ((eq117 a0 a1 w K).symm ▸ h)

/-- (*recto/rectoref27.Disk).Fall -/
def sh118 (a0 a1 : Value) (w : World) (K : Value → World → Prop) : Prop :=
 mN Try.prog (nilS a0) w fun t8 w =>
 mN Try.prog (vS (Instr.fieldAt 106 t8 1)) w fun t9 w =>
 mN Try.prog (vS (Instr.loadAt 103 t9)) w fun t10 w =>
 mN Try.prog (builtin .len #[103] 3 #[false] #[t10]) w fun t11 w =>
 mLoop1 (fun t12 w k =>
 mN Try.prog (vS (binOp .lss 3 t12 t11)) w fun t13 w =>
 mIf t13
 (mN Try.prog (vS (Instr.indexAt 103 t10 t12)) w fun t15 w =>
 mN Try.prog (vS (Instr.loadAt 150 t15)) w fun t16 w =>
 mN Try.prog (vS (Instr.alloc 150 true (.tuple #[]))) w fun t5 w =>
 mN Try.prog (uS (Instr.storeAt 150 t5 t16)) w fun _ w =>
 mJ (fun (J : Value → World → Prop) =>
 mN Try.prog (builtin .len #[35] 3 #[false] #[a1]) w fun t19 w =>
 mN Try.prog (vS (binOp .lss 3 t12 t19)) w fun t20 w =>
 mIf t20
 (mN Try.prog (vS (Instr.indexAt 35 a1 t12)) w fun t24 w =>
 mN Try.prog (vS (Instr.loadAt 3 t24)) w fun t25 w =>
 mN Try.prog (vS (binOp .gtr 3 t25 (.int .i64 0))) w fun t26 w =>
 J t26 w)
 (J (.bool false) w))
 (fun t27 w =>
 mJ (fun (J : Value → World → Prop) =>
 mIf t27
 (mN Try.prog (vS (Instr.indexAt 35 a1 t12)) w fun t30 w =>
 mN Try.prog (vS (Instr.loadAt 3 t30)) w fun t31 w =>
 J t31 w)
 (J (.int .i64 0) w))
 (fun t6 w =>
 mN Try.prog (vS (binOp .gtr 3 t6 (.int .i64 4))) w fun t33 w =>
 mJ (fun (J : Value → World → Prop) =>
 mIf t33
 (J (.int .i64 4) w)
 (J t6 w))
 (fun t6a w =>
 mDrew w fun w =>
 mP Try.prog (nilS a0) fun t35 =>
 mP Try.prog (vS (Instr.fieldAt 106 t35 0)) fun t36 =>
 mR Try.prog (vS (Instr.loadAt 67 t36)) w fun t37 =>
 mP Try.prog (vS (Instr.fieldAt 150 t5 0)) fun t38 =>
 mR Try.prog (vS (Instr.loadAt 3 t38)) w fun t39 =>
 mP Try.prog (vS (Instr.fieldAt 150 t5 1)) fun t40 =>
 mR Try.prog (vS (Instr.loadAt 9 t40)) w fun t41 =>
 mP Try.prog (vS (binOp .mul 3 (.int .i64 64) t6a)) fun t43 =>
 mP Try.prog (vS (Instr.sliceAt 9 t41 none (some t43) none)) fun t44 =>
 mP Try.prog (nilS a0) fun t46 =>
 mP Try.prog (vS (Instr.fieldAt 106 t46 0)) fun t47 =>
 mR Try.prog (vS (Instr.loadAt 67 t47)) w fun t48 =>
 mP Try.prog (vS (Instr.fieldAt 150 t5 0)) fun t49 =>
 mR Try.prog (vS (Instr.loadAt 3 t49)) w fun t50 =>
 mP Try.prog (vS (Instr.indexAt 67 t48 t50)) fun t51 =>
 mR Try.prog (vS (Instr.loadAt 9 t51)) w fun t52 =>
 mP Try.prog (vS (binOp .mul 3 (.int .i64 64) t6a)) fun t54 =>
 mP Try.prog (vS (Instr.sliceAt 9 t52 (some t54) none none)) fun t55 =>
 mP Try.prog (vS (binOp .add 9 t44 t55)) fun t56 =>
 mP Try.prog (vS (Instr.indexAt 67 t37 t39)) fun t57 =>
 mN Try.prog (uS (Instr.storeAt 9 t57 t56)) w fun _ w =>
 mN Try.prog (vS (binOp .add 3 t12 (.int .i64 1))) w fun t58 w =>
 k t58 w))))
 (mN Try.prog (nilS a0) w fun t60 w =>
 mN Try.prog (vS (Instr.fieldAt 106 t60 1)) w fun t61 w =>
 mN Try.prog (uS (Instr.storeAt 103 t61 (.slice none 0 0))) w fun _ w =>
 mN Try.prog (nilS a0) w fun t63 w =>
 mN Try.prog (vS (Instr.fieldAt 106 t63 2)) w fun t64 w =>
 mN Try.prog (uS (Instr.storeAt 4 t64 (.bool true))) w fun _ w =>
 mN Try.prog (nilS a0) w fun t66 w =>
 mN Try.prog (vS (Instr.fieldAt 106 t66 3)) w fun t67 w =>
 mN Try.prog (uS (Instr.storeAt 4 t67 (.bool false))) w fun _ w =>
 K (.tuple #[]) w))
 (.int .i64 0) w

theorem eq118 (a0 a1 : Value) (w : World) (K : Value → World → Prop) : vcF Try.prog cOk (.n (.n .z (.l [12] [13, 14, 15, 16, 5, 4, 17, 18, 19, 20, 21, 22, 23, 24, 25, 26, 27, 28, 29, 30, 31, 32, 33, 6, 34, 35, 36, 37, 38, 39, 40, 41, 42, 43, 44, 45, 46, 47, 48, 49, 50, 51, 52, 53, 54, 55, 56, 57, 58, 12] (.n .z (.n .z (.n (.n .z (.n .z (.n (.n (.j [27] [17, 18, 19, 20, 21, 22, 23, 24, 25, 26, 27] .z) (.j [6] [28, 29, 30, 31, 6] .z)) (.n (.n .z (.j [6] [6] .z)) (.d [24] [0, 1, 2, 3, 4, 5, 6, 7, 8, 9, 10, 11, 12, 13, 14, 15, 16, 17, 18, 19, 20, 21, 22, 23, 24]))))) .z))))) .z) Try.f118 [a0, a1] w K = sh118 a0 a1 w K := by kernel_rfl

theorem ok118 {a0 a1 : Value} {w : World} {K : Value → World → Prop} (h : sh118 a0 a1 w K) : Calls Try.prog 118 #[a0, a1] w (retK K) :=
  calls_of_vcF (k := (.n (.n .z (.l [12] [13, 14, 15, 16, 5, 4, 17, 18, 19, 20, 21, 22, 23, 24, 25, 26, 27, 28, 29, 30, 31, 32, 33, 6, 34, 35, 36, 37, 38, 39, 40, 41, 42, 43, 44, 45, 46, 47, 48, 49, 50, 51, 52, 53, 54, 55, 56, 57, 58, 12] (.n .z (.n .z (.n (.n .z (.n .z (.n (.n (.j [27] [17, 18, 19, 20, 21, 22, 23, 24, 25, 26, 27] .z) (.j [6] [28, 29, 30, 31, 6] .z)) (.n (.n .z (.j [6] [6] .z)) (.d [24] [0, 1, 2, 3, 4, 5, 6, 7, 8, 9, 10, 11, 12, 13, 14, 15, 16, 17, 18, 19, 20, 21, 22, 23, 24]))))) .z))))) .z)) callsOk mixed Try.func118 ((eq118 a0 a1 w K).symm ▸ h)

/-- (recto/slot.Slot).right$1 -/
def sh119 (a0 : Value) (w : World) (K : Value → World → Prop) : Prop :=
 mN Try.prog (vS (binOp .geq 3 a0 (.int .i64 0))) w fun t4 w =>
 mIf t4
 (mN Try.prog (vS (binOp .leq 3 a0 (.int .i64 65536))) w fun t7 w =>
 K t7 w)
 (K (.bool false) w)

theorem eq119 (a0 : Value) (w : World) (K : Value → World → Prop) : vcF Try.prog cOk .z Try.f119 [a0] w K = sh119 a0 w K := by kernel_rfl

theorem ok119 {a0 : Value} {w : World} {K : Value → World → Prop} (h : sh119 a0 w K) : Calls Try.prog 119 #[a0] w (retK K) :=
  calls_of_vcF (k := .z) callsOk mixed Try.func119 ((eq119 a0 w K).symm ▸ h)

end Go.Proofs.Ythgopkppmppdoaa
