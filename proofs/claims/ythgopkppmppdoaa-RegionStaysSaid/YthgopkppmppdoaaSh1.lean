/-
  The shallow forms of the program's functions, printed by a program (tools/shallow.py) off the loaded functions; each theorem 'eqN' says that the generator of verification conditions comes to this form.
-/
import Derived.Test.YthgopkppmppdoaaProg
import Derived.Test.YthgopkppmppdoaaSh0
set_option linter.unusedVariables false
set_option maxRecDepth 100000
namespace Go.Proofs.Ythgopkppmppdoaa
open Go Go.Proofs Go.Vc

/-- recto/rectolaw27.DiskLasts -/
def sh3 (a0 a1 a2 : Value) (w : World) (K : Value → World → Prop) : Prop :=
 mCall Try.prog 17 #[(.int .i64 16)] w fun t15 w =>
 mN Try.prog (vS (Instr.extract t15 0)) w fun t16 w =>
 mN Try.prog (vS (Instr.extract t15 1)) w fun t17 w =>
 mN Try.prog (vS (eqS .neq 24 false true t17 (.int .i64 0))) w fun t19 w =>
 mIf t19
 (mN Try.prog (vS (eqS .eql 24 false true t17 (.int .i64 0))) w fun t37 w =>
 mIf t37
 (mN Try.prog (vS (eqS .neq 23 false true t16 (.pointer none))) w fun t40 w =>
 mIf t40
 (mCall Try.prog 19 #[] w fun t43 w =>
 K t43 w)
 (K (.bool false) w))
 (K (.bool false) w))
 (mN Try.prog (vS (eqS .eql 23 false true t16 (.pointer none))) w fun t22 w =>
 mIf t22
 (mN Try.prog (vS (eqS .eql 24 false true t17 (.int .i64 0))) w fun t37 w =>
 mIf t37
 (mN Try.prog (vS (eqS .neq 23 false true t16 (.pointer none))) w fun t40 w =>
 mIf t40
 (mCall Try.prog 19 #[] w fun t43 w =>
 K t43 w)
 (K (.bool false) w))
 (K (.bool false) w))
 (mCall Try.prog 18 #[a0] w fun t26 w =>
 mIf t26
 (mN Try.prog (vS (eqS .eql 24 false true t17 (.int .i64 0))) w fun t37 w =>
 mIf t37
 (mN Try.prog (vS (eqS .neq 23 false true t16 (.pointer none))) w fun t40 w =>
 mIf t40
 (mCall Try.prog 19 #[] w fun t43 w =>
 K t43 w)
 (K (.bool false) w))
 (K (.bool false) w))
 (mN Try.prog (vS (binOp .lss 3 a1 (.int .i64 0))) w fun t30 w =>
 mIf t30
 (mN Try.prog (vS (eqS .eql 24 false true t17 (.int .i64 0))) w fun t37 w =>
 mIf t37
 (mN Try.prog (vS (eqS .neq 23 false true t16 (.pointer none))) w fun t40 w =>
 mIf t40
 (mCall Try.prog 19 #[] w fun t43 w =>
 K t43 w)
 (K (.bool false) w))
 (K (.bool false) w))
 (mN Try.prog (vS (binOp .gtr 3 a1 (.int .i64 15))) w fun t34 w =>
 mIf t34
 (mN Try.prog (vS (eqS .eql 24 false true t17 (.int .i64 0))) w fun t37 w =>
 mIf t37
 (mN Try.prog (vS (eqS .neq 23 false true t16 (.pointer none))) w fun t40 w =>
 mIf t40
 (mCall Try.prog 19 #[] w fun t43 w =>
 K t43 w)
 (K (.bool false) w))
 (K (.bool false) w))
 (mCall Try.prog 21 #[a2] w fun t48 w =>
 mCall Try.prog 20 #[t16, a1, t48] w fun t49 w =>
 mCall Try.prog 22 #[t16] w fun t51 w =>
 mN Try.prog (vS (eqS .neq 24 false true t49 (.int .i64 0))) w fun t53 w =>
 mIf t53
 (K (.bool false) w)
 (mN Try.prog (vS (eqS .neq 24 false true t51 (.int .i64 0))) w fun t56 w =>
 mIf t56
 (K (.bool false) w)
 (mCall Try.prog 23 #[t16, a1] w fun t61 w =>
 mCall Try.prog 21 #[a2] w fun t63 w =>
 mN Try.prog (vS (eqS .neq 9 false false t61 t63)) w fun t64 w =>
 mIf t64
 (K (.bool false) w)
 (mCall Try.prog 24 #[(.int .i64 16)] w fun t66 w =>
 mN Try.prog (builtin .len #[22] 3 #[false] #[a0]) w fun t68 w =>
 mLoop1 (fun t69 w k =>
 mN Try.prog (vS (binOp .lss 3 t69 t68)) w fun t70 w =>
 mIf t70
 (mN Try.prog (vS (Instr.indexAt 22 a0 t69)) w fun t71 w =>
 mN Try.prog (vS (Instr.loadAt 37 t71)) w fun t72 w =>
 mN Try.prog (vS (Instr.alloc 37 true (.tuple #[]))) w fun t13 w =>
 mN Try.prog (uS (Instr.storeAt 37 t13 t72)) w fun _ w =>
 mN Try.prog (vS (Instr.fieldAt 37 t13 0)) w fun t73 w =>
 mN Try.prog (vS (Instr.loadAt 3 t73)) w fun t74 w =>
 mN Try.prog (vS (binOp .lss 3 t74 (.int .i64 3))) w fun t75 w =>
 mIf t75
 (mN Try.prog (vS (Instr.fieldAt 37 t13 1)) w fun t77 w =>
 mN Try.prog (vS (Instr.loadAt 3 t77)) w fun t78 w =>
 mN Try.prog (vS (eqS .eql 3 false false t78 a1)) w fun t80 w =>
 mIf t80
 (mN Try.prog (vS (binOp .add 3 t69 (.int .i64 1))) w fun t92 w =>
 k t92 w)
 (mN Try.prog (vS (Instr.loadAt 37 t13)) w fun t84 w =>
 mCall Try.prog 25 #[t16, t66, t84] w fun t85 w =>
 mCall Try.prog 23 #[t16, a1] w fun t88 w =>
 mCall Try.prog 21 #[a2] w fun t90 w =>
 mN Try.prog (vS (eqS .neq 9 false false t88 t90)) w fun t91 w =>
 mIf t91
 (K (.bool false) w)
 (mN Try.prog (vS (binOp .add 3 t69 (.int .i64 1))) w fun t92 w =>
 k t92 w)))
 (mN Try.prog (vS (Instr.loadAt 37 t13)) w fun t84 w =>
 mCall Try.prog 25 #[t16, t66, t84] w fun t85 w =>
 mCall Try.prog 23 #[t16, a1] w fun t88 w =>
 mCall Try.prog 21 #[a2] w fun t90 w =>
 mN Try.prog (vS (eqS .neq 9 false false t88 t90)) w fun t91 w =>
 mIf t91
 (K (.bool false) w)
 (mN Try.prog (vS (binOp .add 3 t69 (.int .i64 1))) w fun t92 w =>
 k t92 w)))
 (mCall Try.prog 19 #[] w fun t93 w =>
 K t93 w))
 (.int .i64 0) w))))))))

theorem eq3 (a0 a1 a2 : Value) (w : World) (K : Value → World → Prop) : vcF Try.prog cOk (.n .z (.n .z (.n .z (.n .z (.n .z (.n .z (.n .z (.n (.n .z (.l [69] [70, 71, 72, 13, 73, 74, 75, 76, 77, 78, 79, 80, 81, 82, 83, 84, 85, 86, 87, 88, 89, 90, 91, 6, 92, 69] .z)) .z)))))))) Try.f3 [a0, a1, a2] w K = sh3 a0 a1 a2 w K := by kernel_rfl

theorem ok3 {a0 a1 a2 : Value} {w : World} {K : Value → World → Prop} (h : sh3 a0 a1 a2 w K) : Calls Try.prog 3 #[a0, a1, a2] w (retK K) :=
  calls_of_vcF (k := (.n .z (.n .z (.n .z (.n .z (.n .z (.n .z (.n .z (.n (.n .z (.l [69] [70, 71, 72, 13, 73, 74, 75, 76, 77, 78, 79, 80, 81, 82, 83, 84, 85, 86, 87, 88, 89, 90, 91, 6, 92, 69] .z)) .z))))))))) callsOk mixed Try.func3 ((eq3 a0 a1 a2 w K).symm ▸ h)

/-- recto/rectolaw27.DiskArms -/
def sh4 (a0 a1 a2 : Value) (w : World) (K : Value → World → Prop) : Prop :=
 mCall Try.prog 17 #[(.int .i64 8)] w fun t19 w =>
 mN Try.prog (vS (Instr.extract t19 0)) w fun t20 w =>
 mN Try.prog (vS (Instr.extract t19 1)) w fun t21 w =>
 mN Try.prog (vS (eqS .neq 24 false true t21 (.int .i64 0))) w fun t23 w =>
 mIf t23
 (mN Try.prog (vS (eqS .eql 24 false true t21 (.int .i64 0))) w fun t34 w =>
 mIf t34
 (mN Try.prog (vS (eqS .neq 23 false true t20 (.pointer none))) w fun t37 w =>
 mIf t37
 (mCall Try.prog 19 #[] w fun t40 w =>
 K t40 w)
 (K (.bool false) w))
 (K (.bool false) w))
 (mN Try.prog (vS (eqS .eql 23 false true t20 (.pointer none))) w fun t26 w =>
 mIf t26
 (mN Try.prog (vS (eqS .eql 24 false true t21 (.int .i64 0))) w fun t34 w =>
 mIf t34
 (mN Try.prog (vS (eqS .neq 23 false true t20 (.pointer none))) w fun t37 w =>
 mIf t37
 (mCall Try.prog 19 #[] w fun t40 w =>
 K t40 w)
 (K (.bool false) w))
 (K (.bool false) w))
 (mN Try.prog (builtin .len #[35] 3 #[false] #[a1]) w fun t30 w =>
 mN Try.prog (vS (binOp .gtr 3 t30 (.int .i64 40))) w fun t31 w =>
 mIf t31
 (mN Try.prog (vS (eqS .eql 24 false true t21 (.int .i64 0))) w fun t34 w =>
 mIf t34
 (mN Try.prog (vS (eqS .neq 23 false true t20 (.pointer none))) w fun t37 w =>
 mIf t37
 (mCall Try.prog 19 #[] w fun t40 w =>
 K t40 w)
 (K (.bool false) w))
 (K (.bool false) w))
 (mN Try.prog (vS (Instr.build 42 #[(0, a0), (1, a2)])) w fun t45 w =>
 mCall Try.prog 26 #[t20, t45] w fun t46 w =>
 mN Try.prog (vS (binOp .lss 3 a0 (.int .i64 0))) w fun t48 w =>
 mIf t48
 (mN Try.prog (vS (eqS .eql 24 false true t46 (.int .i64 1))) w fun t50 w =>
 mIf t50
 (mCall Try.prog 19 #[] w fun t52 w =>
 K t52 w)
 (K (.bool false) w))
 (mN Try.prog (builtin .len #[35] 3 #[false] #[a1]) w fun t55 w =>
 mLoop2 (fun t10 t56 w k =>
 mN Try.prog (vS (binOp .lss 3 t56 t55)) w fun t57 w =>
 mIf t57
 (mN Try.prog (vS (Instr.indexAt 35 a1 t56)) w fun t59 w =>
 mN Try.prog (vS (Instr.loadAt 3 t59)) w fun t60 w =>
 mN Try.prog (vS (binOp .lss 3 t60 (.int .i64 0))) w fun t62 w =>
 mIf t62
 (mCall Try.prog 19 #[] w fun t67 w =>
 K t67 w)
 (mN Try.prog (vS (binOp .gtr 3 t60 (.int .i64 7))) w fun t65 w =>
 mIf t65
 (mCall Try.prog 19 #[] w fun t67 w =>
 K t67 w)
 (mCall Try.prog 21 #[(.int .u8 1)] w fun t70 w =>
 mCall Try.prog 20 #[t20, t60, t70] w fun t71 w =>
 mJ (fun (J : Value → World → Prop) =>
 mN Try.prog (vS (eqS .eql 3 false false t56 a0)) w fun t74 w =>
 mIf t74
 (mN Try.prog (vS (Op.unary .not a2)) w fun t77 w =>
 J t77 w)
 (J (.bool false) w))
 (fun t78 w =>
 mJ (fun (J : Value → World → Prop) =>
 mIf t78
 (J (.int .i64 270) w)
 (J (.int .i64 0) w))
 (fun t14 w =>
 mJ (fun (J : Value → World → Prop) =>
 mIf a2
 (mN Try.prog (vS (binOp .geq 3 t56 a0)) w fun t83 w =>
 J t83 w)
 (J (.bool false) w))
 (fun t84 w =>
 mJ (fun (J : Value → World → Prop) =>
 mIf t84
 (J (.int .i64 271) w)
 (J t14 w))
 (fun t14 w =>
 mIf t10
 (mN Try.prog (vS (eqS .neq 24 false true t46 (.int .i64 0))) w fun t92 w =>
 mIf t92
 (K (.bool false) w)
 (mN Try.prog (vS (eqS .neq 24 false false t71 t14)) w fun t96 w =>
 mIf t96
 (K (.bool false) w)
 (mN Try.prog (vS (binOp .add 3 t56 (.int .i64 1))) w fun t98 w =>
 k (.bool true) t98 w)))
 (mN Try.prog (vS (eqS .eql 3 false false t56 a0)) w fun t89 w =>
 mN Try.prog (vS (eqS .neq 24 false true t46 (.int .i64 0))) w fun t92 w =>
 mIf t92
 (K (.bool false) w)
 (mN Try.prog (vS (eqS .neq 24 false false t71 t14)) w fun t96 w =>
 mIf t96
 (K (.bool false) w)
 (mN Try.prog (vS (binOp .add 3 t56 (.int .i64 1))) w fun t98 w =>
 k t89 t98 w))))))))))
 (mJ (fun (J : Value → World → Prop) =>
 mIf a2
 (J t10 w)
 (J (.bool false) w))
 (fun t102 w =>
 mIf t102
 (mCall Try.prog 27 #[t20] w fun t104 w =>
 mN Try.prog (vS (Op.unary .not t104)) w fun t105 w =>
 mIf t105
 (mCall Try.prog 28 #[t20] w fun t108 w =>
 mN Try.prog (vS (eqS .eql 3 false true t108 (.int .i64 0))) w fun t109 w =>
 mIf t109
 (mCall Try.prog 19 #[] w fun t112 w =>
 K t112 w)
 (K (.bool false) w))
 (K (.bool false) w))
 (mCall Try.prog 22 #[t20] w fun t115 w =>
 mJ (fun (J : Value → World → Prop) =>
 mN Try.prog (vS (Op.unary .not t10)) w fun t117 w =>
 mIf t117
 (mN Try.prog (builtin .len #[35] 3 #[false] #[a1]) w fun t121 w =>
 mN Try.prog (vS (eqS .eql 3 false false a0 t121)) w fun t122 w =>
 J t122 w)
 (J (.bool false) w))
 (fun t16 w =>
 mLoop1 (fun t17 w k1 =>
 mN Try.prog (vS (binOp .lss 3 t17 (.int .i64 8))) w fun t125 w =>
 mIf t125
 (mIf t16
 (mCall Try.prog 23 #[t20, t17] w fun t132 w =>
 mCall Try.prog 21 #[(.int .u8 0)] w fun t133 w =>
 mN Try.prog (vS (eqS .neq 9 false false t132 t133)) w fun t134 w =>
 mIf t134
 (K (.bool false) w)
 (mN Try.prog (vS (binOp .add 3 t17 (.int .i64 1))) w fun t127 w =>
 k1 t127 w))
 (mN Try.prog (vS (binOp .add 3 t17 (.int .i64 1))) w fun t127 w =>
 k1 t127 w))
 (mN Try.prog (vS (eqS .neq 24 false true t115 (.int .i64 0))) w fun t137 w =>
 mN Try.prog (vS (eqS .eql 4 false false t137 t16)) w fun t139 w =>
 mIf t139
 (mCall Try.prog 28 #[t20] w fun t142 w =>
 mN Try.prog (vS (eqS .eql 3 false true t142 (.int .i64 0))) w fun t143 w =>
 mIf t143
 (mCall Try.prog 19 #[] w fun t146 w =>
 K t146 w)
 (K (.bool false) w))
 (K (.bool false) w)))
 (.int .i64 0) w)))))
 (.bool false) (.int .i64 0) w))))

theorem eq4 (a0 a1 a2 : Value) (w : World) (K : Value → World → Prop) : vcF Try.prog cOk (.n .z (.n .z (.n .z (.n .z (.n .z (.n .z (.n (.n .z (.l [10, 56] [57, 58, 59, 60, 11, 12, 61, 62, 63, 64, 65, 66, 67, 68, 69, 70, 71, 13, 72, 73, 74, 75, 76, 77, 78, 79, 80, 81, 82, 83, 84, 14, 85, 86, 87, 88, 89, 90, 10, 91, 92, 93, 94, 95, 96, 97, 6, 98, 56] (.n .z (.n .z (.n (.n .z (.n .z (.n .z (.n .z (.n (.n (.j [78] [72, 73, 74, 75, 76, 77, 78] .z) (.j [14] [14] .z)) (.n (.n (.j [84] [79, 80, 81, 82, 83, 84] .z) (.j [14] [14] .z)) .z)))))) .z))))) (.n (.n (.j [102] [99, 100, 101, 102] .z) .z) (.n .z (.n (.j [16] [116, 117, 118, 119, 120, 121, 122, 123, 16] .z) (.n (.n .z (.l [17] [124, 125, 128, 129, 130, 131, 132, 133, 134, 135, 6, 126, 127, 17] .z)) .z))))))))))) Try.f4 [a0, a1, a2] w K = sh4 a0 a1 a2 w K := by kernel_rfl

theorem ok4 {a0 a1 a2 : Value} {w : World} {K : Value → World → Prop} (h : sh4 a0 a1 a2 w K) : Calls Try.prog 4 #[a0, a1, a2] w (retK K) :=
  calls_of_vcF (k := (.n .z (.n .z (.n .z (.n .z (.n .z (.n .z (.n (.n .z (.l [10, 56] [57, 58, 59, 60, 11, 12, 61, 62, 63, 64, 65, 66, 67, 68, 69, 70, 71, 13, 72, 73, 74, 75, 76, 77, 78, 79, 80, 81, 82, 83, 84, 14, 85, 86, 87, 88, 89, 90, 10, 91, 92, 93, 94, 95, 96, 97, 6, 98, 56] (.n .z (.n .z (.n (.n .z (.n .z (.n .z (.n .z (.n (.n (.j [78] [72, 73, 74, 75, 76, 77, 78] .z) (.j [14] [14] .z)) (.n (.n (.j [84] [79, 80, 81, 82, 83, 84] .z) (.j [14] [14] .z)) .z)))))) .z))))) (.n (.n (.j [102] [99, 100, 101, 102] .z) .z) (.n .z (.n (.j [16] [116, 117, 118, 119, 120, 121, 122, 123, 16] .z) (.n (.n .z (.l [17] [124, 125, 128, 129, 130, 131, 132, 133, 134, 135, 6, 126, 127, 17] .z)) .z)))))))))))) callsOk mixed Try.func4 ((eq4 a0 a1 a2 w K).symm ▸ h)

/-- recto/rectolaw27.DiskNil -/
def sh5 (a0 : Value) (w : World) (K : Value → World → Prop) : Prop :=
 mN Try.prog (vS (Instr.box 37 a0)) w fun t1 w =>
 mN Try.prog (vS (Instr.fieldAt 37 t1 1)) w fun t9 w =>
 mN Try.prog (vS (Instr.loadAt 3 t9)) w fun t10 w =>
 mCall Try.prog 29 #[(.pointer none), t10] w fun t11 w =>
 mN Try.prog (vS (Instr.extract t11 0)) w fun t12 w =>
 mN Try.prog (vS (Instr.extract t11 1)) w fun t13 w =>
 mN Try.prog (vS (Instr.fieldAt 37 t1 1)) w fun t15 w =>
 mN Try.prog (vS (Instr.loadAt 3 t15)) w fun t16 w =>
 mN Try.prog (vS (Instr.build 42 #[(0, t16)])) w fun t17 w =>
 mCall Try.prog 26 #[(.pointer none), t17] w fun t18 w =>
 mDrew w fun w =>
 mP Try.prog (vS (eqS .eql 24 false true t13 (.int .i64 1))) fun t20 =>
 mIf t20
 (mP Try.prog (vS (Instr.fieldAt 37 t1 1)) fun t23 =>
 mR Try.prog (vS (Instr.loadAt 3 t23)) w fun t24 =>
 mCall Try.prog 21 #[(.int .u8 0)] w fun t25 w =>
 rdN Try.prog (vS (Instr.loadAt 3 t23)) t24 w ∧
 mCall Try.prog 20 #[(.pointer none), t24, t25] w fun t26 w =>
 mP Try.prog (vS (eqS .eql 24 false true t26 (.int .i64 1))) fun t27 =>
 mIf t27
 (mCall Try.prog 22 #[(.pointer none)] w fun t31 w =>
 mP Try.prog (vS (eqS .eql 24 false true t31 (.int .i64 271))) fun t32 =>
 mIf t32
 (mP Try.prog (vS (Instr.fieldAt 37 t1 1)) fun t35 =>
 mR Try.prog (vS (Instr.loadAt 3 t35)) w fun t36 =>
 mP Try.prog (vS (binOp .lss 3 t36 (.int .i64 0))) fun t37 =>
 mIf t37
 (mP Try.prog (vS (eqS .eql 24 false true t18 (.int .i64 1))) fun t40 =>
 mIf t40
 (mP Try.prog (vS (Instr.fieldAt 37 t1 4)) fun t54 =>
 mR Try.prog (vS (Instr.loadAt 35 t54)) w fun t55 =>
 mCall Try.prog 30 #[(.pointer none), t55] w fun t56 w =>
 rdN Try.prog (vS (Instr.loadAt 3 t35)) t36 w ∧
 mP Try.prog (vS (eqS .eql 24 false true t56 (.int .i64 271))) fun t57 =>
 mIf t57
 (mCall Try.prog 31 #[(.pointer none)] w fun t61 w =>
 rdN Try.prog (vS (Instr.loadAt 3 t35)) t36 w ∧
 mP Try.prog (vS (eqS .eql 24 false true t61 (.int .i64 7))) fun t62 =>
 mIf t62
 (mCall Try.prog 27 #[(.pointer none)] w fun t66 w =>
 rdN Try.prog (vS (Instr.loadAt 3 t35)) t36 w ∧
 mP Try.prog (vS (Op.unary .not t66)) fun t67 =>
 mIf t67
 (mCall Try.prog 28 #[(.pointer none)] w fun t71 w =>
 rdN Try.prog (vS (Instr.loadAt 3 t35)) t36 w ∧
 mP Try.prog (vS (eqS .eql 3 false true t71 (.int .i64 0))) fun t72 =>
 mIf t72
 (mCall Try.prog 32 #[(.pointer none)] w fun t76 w =>
 rdN Try.prog (vS (Instr.loadAt 3 t35)) t36 w ∧
 mP Try.prog (vS (eqS .eql 3 false true t76 (.int .i64 0))) fun t77 =>
 mIf t77
 (mP Try.prog (vS (Instr.fieldAt 37 t1 1)) fun t81 =>
 mR Try.prog (vS (Instr.loadAt 3 t81)) w fun t82 =>
 mCall Try.prog 23 #[(.pointer none), t82] w fun t83 w =>
 rdN Try.prog (vS (Instr.loadAt 3 t35)) t36 w ∧
 mP Try.prog (vS (eqS .eql 9 false true t83 (.string ⟨#[]⟩))) fun t84 =>
 mIf t84
 (mCall Try.prog 19 #[] w fun t87 w =>
 rdN Try.prog (vS (Instr.loadAt 3 t35)) t36 w ∧
 K t87 w)
 (K (.bool false) w))
 (K (.bool false) w))
 (K (.bool false) w))
 (K (.bool false) w))
 (K (.bool false) w))
 (K (.bool false) w))
 (mP Try.prog (vS (Instr.fieldAt 37 t1 1)) fun t43 =>
 mR Try.prog (vS (Instr.loadAt 3 t43)) w fun t44 =>
 mP Try.prog (vS (binOp .geq 3 t44 (.int .i64 0))) fun t45 =>
 mIf t45
 (mP Try.prog (vS (eqS .eql 24 false true t18 (.int .i64 271))) fun t48 =>
 mIf t48
 (mP Try.prog (vS (Instr.fieldAt 37 t1 4)) fun t54 =>
 mR Try.prog (vS (Instr.loadAt 35 t54)) w fun t55 =>
 mCall Try.prog 30 #[(.pointer none), t55] w fun t56 w =>
 rdN Try.prog (vS (Instr.loadAt 3 t43)) t44 w ∧
 rdN Try.prog (vS (Instr.loadAt 3 t35)) t36 w ∧
 mP Try.prog (vS (eqS .eql 24 false true t56 (.int .i64 271))) fun t57 =>
 mIf t57
 (mCall Try.prog 31 #[(.pointer none)] w fun t61 w =>
 rdN Try.prog (vS (Instr.loadAt 3 t43)) t44 w ∧
 rdN Try.prog (vS (Instr.loadAt 3 t35)) t36 w ∧
 mP Try.prog (vS (eqS .eql 24 false true t61 (.int .i64 7))) fun t62 =>
 mIf t62
 (mCall Try.prog 27 #[(.pointer none)] w fun t66 w =>
 rdN Try.prog (vS (Instr.loadAt 3 t43)) t44 w ∧
 rdN Try.prog (vS (Instr.loadAt 3 t35)) t36 w ∧
 mP Try.prog (vS (Op.unary .not t66)) fun t67 =>
 mIf t67
 (mCall Try.prog 28 #[(.pointer none)] w fun t71 w =>
 rdN Try.prog (vS (Instr.loadAt 3 t43)) t44 w ∧
 rdN Try.prog (vS (Instr.loadAt 3 t35)) t36 w ∧
 mP Try.prog (vS (eqS .eql 3 false true t71 (.int .i64 0))) fun t72 =>
 mIf t72
 (mCall Try.prog 32 #[(.pointer none)] w fun t76 w =>
 rdN Try.prog (vS (Instr.loadAt 3 t43)) t44 w ∧
 rdN Try.prog (vS (Instr.loadAt 3 t35)) t36 w ∧
 mP Try.prog (vS (eqS .eql 3 false true t76 (.int .i64 0))) fun t77 =>
 mIf t77
 (mP Try.prog (vS (Instr.fieldAt 37 t1 1)) fun t81 =>
 mR Try.prog (vS (Instr.loadAt 3 t81)) w fun t82 =>
 mCall Try.prog 23 #[(.pointer none), t82] w fun t83 w =>
 rdN Try.prog (vS (Instr.loadAt 3 t43)) t44 w ∧
 rdN Try.prog (vS (Instr.loadAt 3 t35)) t36 w ∧
 mP Try.prog (vS (eqS .eql 9 false true t83 (.string ⟨#[]⟩))) fun t84 =>
 mIf t84
 (mCall Try.prog 19 #[] w fun t87 w =>
 rdN Try.prog (vS (Instr.loadAt 3 t43)) t44 w ∧
 rdN Try.prog (vS (Instr.loadAt 3 t35)) t36 w ∧
 K t87 w)
 (K (.bool false) w))
 (K (.bool false) w))
 (K (.bool false) w))
 (K (.bool false) w))
 (K (.bool false) w))
 (K (.bool false) w))
 (K (.bool false) w))
 (K (.bool false) w)))
 (mP Try.prog (vS (Instr.fieldAt 37 t1 1)) fun t43 =>
 mR Try.prog (vS (Instr.loadAt 3 t43)) w fun t44 =>
 mP Try.prog (vS (binOp .geq 3 t44 (.int .i64 0))) fun t45 =>
 mIf t45
 (mP Try.prog (vS (eqS .eql 24 false true t18 (.int .i64 271))) fun t48 =>
 mIf t48
 (mP Try.prog (vS (Instr.fieldAt 37 t1 4)) fun t54 =>
 mR Try.prog (vS (Instr.loadAt 35 t54)) w fun t55 =>
 mCall Try.prog 30 #[(.pointer none), t55] w fun t56 w =>
 rdN Try.prog (vS (Instr.loadAt 3 t43)) t44 w ∧
 rdN Try.prog (vS (Instr.loadAt 3 t35)) t36 w ∧
 mP Try.prog (vS (eqS .eql 24 false true t56 (.int .i64 271))) fun t57 =>
 mIf t57
 (mCall Try.prog 31 #[(.pointer none)] w fun t61 w =>
 rdN Try.prog (vS (Instr.loadAt 3 t43)) t44 w ∧
 rdN Try.prog (vS (Instr.loadAt 3 t35)) t36 w ∧
 mP Try.prog (vS (eqS .eql 24 false true t61 (.int .i64 7))) fun t62 =>
 mIf t62
 (mCall Try.prog 27 #[(.pointer none)] w fun t66 w =>
 rdN Try.prog (vS (Instr.loadAt 3 t43)) t44 w ∧
 rdN Try.prog (vS (Instr.loadAt 3 t35)) t36 w ∧
 mP Try.prog (vS (Op.unary .not t66)) fun t67 =>
 mIf t67
 (mCall Try.prog 28 #[(.pointer none)] w fun t71 w =>
 rdN Try.prog (vS (Instr.loadAt 3 t43)) t44 w ∧
 rdN Try.prog (vS (Instr.loadAt 3 t35)) t36 w ∧
 mP Try.prog (vS (eqS .eql 3 false true t71 (.int .i64 0))) fun t72 =>
 mIf t72
 (mCall Try.prog 32 #[(.pointer none)] w fun t76 w =>
 rdN Try.prog (vS (Instr.loadAt 3 t43)) t44 w ∧
 rdN Try.prog (vS (Instr.loadAt 3 t35)) t36 w ∧
 mP Try.prog (vS (eqS .eql 3 false true t76 (.int .i64 0))) fun t77 =>
 mIf t77
 (mP Try.prog (vS (Instr.fieldAt 37 t1 1)) fun t81 =>
 mR Try.prog (vS (Instr.loadAt 3 t81)) w fun t82 =>
 mCall Try.prog 23 #[(.pointer none), t82] w fun t83 w =>
 rdN Try.prog (vS (Instr.loadAt 3 t43)) t44 w ∧
 rdN Try.prog (vS (Instr.loadAt 3 t35)) t36 w ∧
 mP Try.prog (vS (eqS .eql 9 false true t83 (.string ⟨#[]⟩))) fun t84 =>
 mIf t84
 (mCall Try.prog 19 #[] w fun t87 w =>
 rdN Try.prog (vS (Instr.loadAt 3 t43)) t44 w ∧
 rdN Try.prog (vS (Instr.loadAt 3 t35)) t36 w ∧
 K t87 w)
 (K (.bool false) w))
 (K (.bool false) w))
 (K (.bool false) w))
 (K (.bool false) w))
 (K (.bool false) w))
 (K (.bool false) w))
 (K (.bool false) w))
 (K (.bool false) w)))
 (K (.bool false) w))
 (K (.bool false) w))
 (K (.bool false) w)

theorem eq5 (a0 : Value) (w : World) (K : Value → World → Prop) : vcF Try.prog cOk (.n .z (.n .z (.n .z (.n .z (.n (.d [6, 7, 12, 37, 42, 47, 52, 57, 64, 68] [0, 1, 2, 3, 4, 5, 6, 7, 8, 9, 10, 11, 12, 13, 14, 15, 16, 17, 18, 19, 20, 21, 22, 23, 24, 25, 26, 27, 28, 29, 30, 31, 32, 33, 34, 35, 36, 37, 38, 39, 40, 41, 42, 43, 44, 45, 46, 47, 48, 49, 50, 51, 52, 53, 54, 55, 56, 57, 58, 59, 60, 61, 62, 63, 64, 65, 66, 67, 68, 69, 70]) .z))))) Try.f5 [a0] w K = sh5 a0 w K := by kernel_rfl

theorem ok5 {a0 : Value} {w : World} {K : Value → World → Prop} (h : sh5 a0 w K) : Calls Try.prog 5 #[a0] w (retK K) :=
  calls_of_vcF (k := (.n .z (.n .z (.n .z (.n .z (.n (.d [6, 7, 12, 37, 42, 47, 52, 57, 64, 68] [0, 1, 2, 3, 4, 5, 6, 7, 8, 9, 10, 11, 12, 13, 14, 15, 16, 17, 18, 19, 20, 21, 22, 23, 24, 25, 26, 27, 28, 29, 30, 31, 32, 33, 34, 35, 36, 37, 38, 39, 40, 41, 42, 43, 44, 45, 46, 47, 48, 49, 50, 51, 52, 53, 54, 55, 56, 57, 58, 59, 60, 61, 62, 63, 64, 65, 66, 67, 68, 69, 70]) .z)))))) callsOk mixed Try.func5 ((eq5 a0 w K).symm ▸ h)

/-- recto/rectolaw28.SlotBack -/
def sh6 (a0 a1 : Value) (w : World) (K : Value → World → Prop) : Prop :=
 mN Try.prog (vS (Instr.box 50 a0)) w fun t2 w =>
 mN Try.prog (vS (Instr.loadAt 50 t2)) w fun t12 w =>
 mCall Try.prog 33 #[t12] w fun t13 w =>
 mN Try.prog (vS (Instr.extract t13 0)) w fun t14 w =>
 mN Try.prog (vS (Instr.extract t13 1)) w fun t15 w =>
 mN Try.prog (vS (eqS .neq 24 false true t15 (.int .i64 0))) w fun t17 w =>
 mIf t17
 (mN Try.prog (vS (eqS .eql 9 false true t14 (.string ⟨#[]⟩))) w fun t19 w =>
 mIf t19
 (mCall Try.prog 34 #[] w fun t21 w =>
 K t21 w)
 (K (.bool false) w))
 (mN Try.prog (builtin .len #[9] 3 #[false] #[t14]) w fun t24 w =>
 mN Try.prog (vS (eqS .neq 3 false true t24 (.int .i64 256))) w fun t25 w =>
 mIf t25
 (K (.bool false) w)
 (mN Try.prog (vS (convert 9 52 t14)) w fun t27 w =>
 mLoop1 (fun t8 w k =>
 mN Try.prog (vS (binOp .lss 3 t8 (.int .i64 256))) w fun t29 w =>
 mIf t29
 (mN Try.prog (vS (Instr.indexAt 52 t27 t8)) w fun t34 w =>
 mN Try.prog (vS (Instr.loadAt 5 t34)) w fun t35 w =>
 mN Try.prog (vS (eqS .neq 5 false true t35 (.int .u8 0))) w fun t36 w =>
 mIf t36
 (K (.bool false) w)
 (mN Try.prog (vS (Instr.indexAt 52 t27 t8)) w fun t40 w =>
 mN Try.prog (uS (Instr.storeAt 5 t40 a1)) w fun _ w =>
 mN Try.prog (vS (binOp .add 3 t8 (.int .i64 1))) w fun t31 w =>
 k t31 w))
 (mN Try.prog (vS (convert 52 9 t27)) w fun t43 w =>
 mCall Try.prog 35 #[t43] w fun t44 w =>
 mN Try.prog (vS (Instr.extract t44 0)) w fun t45 w =>
 mN Try.prog (vS (Instr.extract t44 1)) w fun t46 w =>
 mN Try.prog (vS (Instr.alloc 50 true (.tuple #[]))) w fun t9 w =>
 mN Try.prog (uS (Instr.storeAt 50 t9 t45)) w fun _ w =>
 mIf t46
 (mN Try.prog (vS (Instr.loadAt 50 t9)) w fun t49 w =>
 mN Try.prog (vS (Instr.loadAt 50 t2)) w fun t50 w =>
 mN Try.prog (vS (eqS .eql 50 false false t49 t50)) w fun t51 w =>
 mIf t51
 (mCall Try.prog 34 #[] w fun t54 w =>
 K t54 w)
 (K (.bool false) w))
 (K (.bool false) w)))
 (.int .i64 64) w))

theorem eq6 (a0 a1 : Value) (w : World) (K : Value → World → Prop) : vcF Try.prog cOk (.n .z (.n .z (.n .z (.n .z (.n .z (.n (.n .z (.l [8] [28, 29, 32, 33, 34, 35, 36, 4, 37, 38, 39, 40, 30, 31, 8] .z)) .z)))))) Try.f6 [a0, a1] w K = sh6 a0 a1 w K := by kernel_rfl

theorem ok6 {a0 a1 : Value} {w : World} {K : Value → World → Prop} (h : sh6 a0 a1 w K) : Calls Try.prog 6 #[a0, a1] w (retK K) :=
  calls_of_vcF (k := (.n .z (.n .z (.n .z (.n .z (.n .z (.n (.n .z (.l [8] [28, 29, 32, 33, 34, 35, 36, 4, 37, 38, 39, 40, 30, 31, 8] .z)) .z))))))) callsOk mixed Try.func6 ((eq6 a0 a1 w K).symm ▸ h)

/-- recto/rectolaw29.LogOpens -/
def sh7 (a0 a1 a2 : Value) (w : World) (K : Value → World → Prop) : Prop :=
 mCall Try.prog 17 #[(.int .i64 6)] w fun t16 w =>
 mN Try.prog (vS (Instr.extract t16 0)) w fun t17 w =>
 mN Try.prog (vS (Instr.extract t16 1)) w fun t18 w =>
 mN Try.prog (vS (eqS .neq 24 false true t18 (.int .i64 0))) w fun t20 w =>
 mIf t20
 (mN Try.prog (vS (eqS .eql 24 false true t18 (.int .i64 0))) w fun t31 w =>
 mIf t31
 (mN Try.prog (vS (eqS .neq 23 false true t17 (.pointer none))) w fun t34 w =>
 mIf t34
 (mCall Try.prog 36 #[] w fun t37 w =>
 K t37 w)
 (K (.bool false) w))
 (K (.bool false) w))
 (mN Try.prog (vS (eqS .eql 23 false true t17 (.pointer none))) w fun t23 w =>
 mIf t23
 (mN Try.prog (vS (eqS .eql 24 false true t18 (.int .i64 0))) w fun t31 w =>
 mIf t31
 (mN Try.prog (vS (eqS .neq 23 false true t17 (.pointer none))) w fun t34 w =>
 mIf t34
 (mCall Try.prog 36 #[] w fun t37 w =>
 K t37 w)
 (K (.bool false) w))
 (K (.bool false) w))
 (mN Try.prog (builtin .len #[9] 3 #[false] #[a0]) w fun t27 w =>
 mN Try.prog (vS (binOp .gtr 3 t27 (.int .i64 1024))) w fun t28 w =>
 mIf t28
 (mN Try.prog (vS (eqS .eql 24 false true t18 (.int .i64 0))) w fun t31 w =>
 mIf t31
 (mN Try.prog (vS (eqS .neq 23 false true t17 (.pointer none))) w fun t34 w =>
 mIf t34
 (mCall Try.prog 36 #[] w fun t37 w =>
 K t37 w)
 (K (.bool false) w))
 (K (.bool false) w))
 (mCall Try.prog 24 #[(.int .i64 6)] w fun t39 w =>
 mLoop1 (fun t10 w k =>
 mN Try.prog (vS (binOp .mul 3 (.int .i64 256) t10)) w fun t41 w =>
 mN Try.prog (builtin .len #[9] 3 #[false] #[a0]) w fun t43 w =>
 mN Try.prog (vS (binOp .lss 3 t41 t43)) w fun t44 w =>
 mIf t44
 (mN Try.prog (vS (binOp .mul 3 (.int .i64 256) t10)) w fun t49 w =>
 mN Try.prog (vS (Instr.sliceAt 9 a0 (some t49) none none)) w fun t50 w =>
 mN Try.prog (builtin .len #[9] 3 #[false] #[t50]) w fun t52 w =>
 mN Try.prog (vS (binOp .gtr 3 t52 (.int .i64 256))) w fun t53 w =>
 mJ (fun (J : Value → World → Prop) =>
 mIf t53
 (mN Try.prog (vS (Instr.sliceAt 9 t50 none (some (.int .i64 256)) none)) w fun t55 w =>
 J t55 w)
 (J t50 w))
 (fun t11 w =>
 mLoop1 (fun t11 w k1 =>
 mN Try.prog (builtin .len #[9] 3 #[false] #[t11]) w fun t57 w =>
 mN Try.prog (vS (binOp .lss 3 t57 (.int .i64 256))) w fun t58 w =>
 mIf t58
 (mN Try.prog (vS (binOp .add 9 t11 (.string ⟨#[0]⟩))) w fun t60 w =>
 k1 t60 w)
 (mN Try.prog (vS (binOp .add 3 (.int .i64 2) t10)) w fun t63 w =>
 mCall Try.prog 20 #[t17, t63, t11] w fun t65 w =>
 mN Try.prog (vS (eqS .neq 24 false true t65 (.int .i64 0))) w fun t66 w =>
 mIf t66
 (K (.bool false) w)
 (mN Try.prog (vS (binOp .add 3 (.int .i64 2) t10)) w fun t70 w =>
 mCall Try.prog 37 #[t39, t70, t11] w fun t72 w =>
 mN Try.prog (vS (eqS .neq 3 false true t72 (.int .i64 0))) w fun t73 w =>
 mIf t73
 (K (.bool false) w)
 (mN Try.prog (vS (binOp .add 3 t10 (.int .i64 1))) w fun t46 w =>
 k t46 w))))
 t11 w))
 (mCall Try.prog 38 #[t17, a1, (.int .i64 4), a2] w fun t79 w =>
 mN Try.prog (vS (Instr.extract t79 0)) w fun t80 w =>
 mN Try.prog (vS (Instr.extract t79 1)) w fun t81 w =>
 mN Try.prog (vS (Instr.build 65 #[(0, a1), (1, (.int .i64 4)), (2, a2)])) w fun t85 w =>
 mCall Try.prog 39 #[t39, t85] w fun t86 w =>
 mN Try.prog (vS (Instr.alloc 62 true (.tuple #[]))) w fun t14 w =>
 mN Try.prog (uS (Instr.storeAt 62 t14 t86)) w fun _ w =>
 mN Try.prog (vS (Instr.fieldAt 62 t14 1)) w fun t88 w =>
 mN Try.prog (vS (Instr.loadAt 3 t88)) w fun t89 w =>
 mN Try.prog (vS (eqS .neq 3 false false t81 t89)) w fun t90 w =>
 mIf t90
 (K (.bool false) w)
 (mN Try.prog (vS (eqS .eql 57 false true t80 (.pointer none))) w fun t93 w =>
 mN Try.prog (vS (Instr.fieldAt 62 t14 0)) w fun t94 w =>
 mN Try.prog (vS (Instr.loadAt 60 t94)) w fun t95 w =>
 mN Try.prog (vS (eqS .eql 60 false true t95 (.pointer none))) w fun t96 w =>
 mN Try.prog (vS (eqS .neq 4 false false t93 t96)) w fun t97 w =>
 mIf t97
 (K (.bool false) w)
 (mDrew w fun w =>
 mP Try.prog (vS (eqS .eql 57 false true t80 (.pointer none))) fun t100 =>
 mIf t100
 (mCall Try.prog 36 #[] w fun t118 w =>
 K t118 w)
 (mP Try.prog (vS (Instr.fieldAt 62 t14 0)) fun t104 =>
 mR Try.prog (vS (Instr.loadAt 60 t104)) w fun t105 =>
 mP Try.prog (nilS t105) fun t106 =>
 mP Try.prog (vS (Instr.fieldAt 70 t106 2)) fun t107 =>
 mR Try.prog (vS (Instr.loadAt 67 t107)) w fun t108 =>
 mCall Try.prog 41 #[t80] w fun t103 w =>
 rdN Try.prog (vS (Instr.loadAt 67 t107)) t108 w ∧
 rdN Try.prog (vS (Instr.loadAt 60 t104)) t105 w ∧
 mCall Try.prog 40 #[t103, t108] w fun t109 w =>
 rdN Try.prog (vS (Instr.loadAt 60 t104)) t105 w ∧
 mIf t109
 (mCall Try.prog 42 #[t80] w fun t112 w =>
 rdN Try.prog (vS (Instr.loadAt 60 t104)) t105 w ∧
 mP Try.prog (vS (eqS .eql 3 false false t112 a2)) fun t114 =>
 mIf t114
 (mCall Try.prog 36 #[] w fun t118 w =>
 rdN Try.prog (vS (Instr.loadAt 60 t104)) t105 w ∧
 K t118 w)
 (K (.bool false) w))
 (K (.bool false) w))))))
 (.int .i64 0) w)))

theorem eq7 (a0 a1 a2 : Value) (w : World) (K : Value → World → Prop) : vcF Try.prog cOk (.n .z (.n .z (.n .z (.n .z (.n (.n .z (.l [10] [40, 41, 42, 43, 44, 47, 48, 49, 50, 51, 52, 53, 54, 55, 56, 57, 58, 59, 60, 11, 61, 62, 63, 64, 65, 66, 67, 68, 69, 70, 71, 72, 73, 74, 6, 45, 46, 10] (.n .z (.n (.n .z (.n (.n .z (.j [11] [54, 55, 11] .z)) (.n (.l [11] [56, 57, 58, 59, 60, 11] .z) .z))) .z)))) (.n .z (.n .z (.n .z (.n (.d [4, 10, 13, 19] [0, 1, 2, 3, 5, 6, 7, 8, 9, 4, 10, 11, 12, 14, 13, 15, 16, 17, 18, 19, 20, 21]) .z))))))))) Try.f7 [a0, a1, a2] w K = sh7 a0 a1 a2 w K := by kernel_rfl

theorem ok7 {a0 a1 a2 : Value} {w : World} {K : Value → World → Prop} (h : sh7 a0 a1 a2 w K) : Calls Try.prog 7 #[a0, a1, a2] w (retK K) :=
  calls_of_vcF (k := (.n .z (.n .z (.n .z (.n .z (.n (.n .z (.l [10] [40, 41, 42, 43, 44, 47, 48, 49, 50, 51, 52, 53, 54, 55, 56, 57, 58, 59, 60, 11, 61, 62, 63, 64, 65, 66, 67, 68, 69, 70, 71, 72, 73, 74, 6, 45, 46, 10] (.n .z (.n (.n .z (.n (.n .z (.j [11] [54, 55, 11] .z)) (.n (.l [11] [56, 57, 58, 59, 60, 11] .z) .z))) .z)))) (.n .z (.n .z (.n .z (.n (.d [4, 10, 13, 19] [0, 1, 2, 3, 5, 6, 7, 8, 9, 4, 10, 11, 12, 14, 13, 15, 16, 17, 18, 19, 20, 21]) .z)))))))))) callsOk mixed Try.func7 ((eq7 a0 a1 a2 w K).symm ▸ h)

/-- recto/rectolaw29.LogRoom -/
def sh8 (a0 a1 : Value) (w : World) (K : Value → World → Prop) : Prop :=
 mCall Try.prog 17 #[(.int .i64 8)] w fun t16 w =>
 mN Try.prog (vS (Instr.extract t16 0)) w fun t17 w =>
 mN Try.prog (vS (Instr.extract t16 1)) w fun t18 w =>
 mN Try.prog (vS (eqS .neq 24 false true t18 (.int .i64 0))) w fun t20 w =>
 mIf t20
 (mN Try.prog (vS (eqS .eql 24 false true t18 (.int .i64 0))) w fun t39 w =>
 mIf t39
 (mN Try.prog (vS (eqS .neq 23 false true t17 (.pointer none))) w fun t42 w =>
 mIf t42
 (mCall Try.prog 36 #[] w fun t45 w =>
 K t45 w)
 (K (.bool false) w))
 (K (.bool false) w))
 (mN Try.prog (vS (eqS .eql 23 false true t17 (.pointer none))) w fun t23 w =>
 mIf t23
 (mN Try.prog (vS (eqS .eql 24 false true t18 (.int .i64 0))) w fun t39 w =>
 mIf t39
 (mN Try.prog (vS (eqS .neq 23 false true t17 (.pointer none))) w fun t42 w =>
 mIf t42
 (mCall Try.prog 36 #[] w fun t45 w =>
 K t45 w)
 (K (.bool false) w))
 (K (.bool false) w))
 (mN Try.prog (vS (binOp .lss 3 a0 (.int .i64 1))) w fun t27 w =>
 mIf t27
 (mN Try.prog (vS (eqS .eql 24 false true t18 (.int .i64 0))) w fun t39 w =>
 mIf t39
 (mN Try.prog (vS (eqS .neq 23 false true t17 (.pointer none))) w fun t42 w =>
 mIf t42
 (mCall Try.prog 36 #[] w fun t45 w =>
 K t45 w)
 (K (.bool false) w))
 (K (.bool false) w))
 (mN Try.prog (vS (binOp .gtr 3 a0 (.int .i64 6))) w fun t31 w =>
 mIf t31
 (mN Try.prog (vS (eqS .eql 24 false true t18 (.int .i64 0))) w fun t39 w =>
 mIf t39
 (mN Try.prog (vS (eqS .neq 23 false true t17 (.pointer none))) w fun t42 w =>
 mIf t42
 (mCall Try.prog 36 #[] w fun t45 w =>
 K t45 w)
 (K (.bool false) w))
 (K (.bool false) w))
 (mN Try.prog (builtin .len #[67] 3 #[false] #[a1]) w fun t35 w =>
 mN Try.prog (vS (binOp .gtr 3 t35 (.int .i64 60))) w fun t36 w =>
 mIf t36
 (mN Try.prog (vS (eqS .eql 24 false true t18 (.int .i64 0))) w fun t39 w =>
 mIf t39
 (mN Try.prog (vS (eqS .neq 23 false true t17 (.pointer none))) w fun t42 w =>
 mIf t42
 (mCall Try.prog 36 #[] w fun t45 w =>
 K t45 w)
 (K (.bool false) w))
 (K (.bool false) w))
 (mCall Try.prog 38 #[t17, (.int .i64 2), a0, (.int .i64 0)] w fun t50 w =>
 mN Try.prog (vS (Instr.extract t50 0)) w fun t51 w =>
 mN Try.prog (vS (Instr.extract t50 1)) w fun t52 w =>
 mN Try.prog (vS (eqS .neq 24 false true t52 (.int .i64 0))) w fun t54 w =>
 mIf t54
 (K (.bool false) w)
 (mN Try.prog (vS (eqS .eql 57 false true t51 (.pointer none))) w fun t57 w =>
 mIf t57
 (K (.bool false) w)
 (mN Try.prog (builtin .len #[67] 3 #[false] #[a1]) w fun t60 w =>
 mLoop1 (fun t61 w k =>
 mN Try.prog (vS (binOp .lss 3 t61 t60)) w fun t62 w =>
 mIf t62
 (mN Try.prog (vS (Instr.indexAt 67 a1 t61)) w fun t63 w =>
 mN Try.prog (vS (Instr.loadAt 9 t63)) w fun t64 w =>
 mN Try.prog (builtin .len #[9] 3 #[false] #[t64]) w fun t66 w =>
 mN Try.prog (vS (binOp .gtr 3 t66 (.int .i64 70000))) w fun t67 w =>
 mIf t67
 (mCall Try.prog 36 #[] w fun t68 w =>
 K t68 w)
 (mCall Try.prog 43 #[t51] w fun t70 w =>
 mCall Try.prog 44 #[t51] w fun t72 w =>
 mN Try.prog (builtin .len #[9] 3 #[false] #[t64]) w fun t74 w =>
 mN Try.prog (vS (binOp .add 3 t74 (.int .i64 1))) w fun t75 w =>
 mN Try.prog (builtin .len #[9] 3 #[false] #[t64]) w fun t77 w =>
 mCall Try.prog 45 #[t77] w fun t78 w =>
 mN Try.prog (vS (binOp .add 3 t75 t78)) w fun t79 w =>
 mCall Try.prog 46 #[t51, t64] w fun t82 w =>
 mN Try.prog (vS (binOp .add 3 t70 t72)) w fun t85 w =>
 mN Try.prog (vS (binOp .mul 3 (.int .i64 256) a0)) w fun t87 w =>
 mN Try.prog (vS (eqS .neq 3 false false t85 t87)) w fun t88 w =>
 mIf t88
 (K (.bool false) w)
 (mN Try.prog (builtin .len #[9] 3 #[false] #[t64]) w fun t91 w =>
 mN Try.prog (vS (binOp .gtr 3 t91 (.int .i64 65536))) w fun t92 w =>
 mIf t92
 (mN Try.prog (vS (eqS .neq 24 false true t82 (.int .i64 2))) w fun t95 w =>
 mIf t95
 (K (.bool false) w)
 (mN Try.prog (builtin .len #[9] 3 #[false] #[t64]) w fun t100 w =>
 mN Try.prog (vS (binOp .leq 3 t100 (.int .i64 65536))) w fun t101 w =>
 mIf t101
 (mN Try.prog (vS (eqS .eql 24 false true t82 (.int .i64 0))) w fun t104 w =>
 mN Try.prog (vS (binOp .leq 3 t79 t72)) w fun t107 w =>
 mN Try.prog (vS (eqS .neq 4 false false t104 t107)) w fun t108 w =>
 mIf t108
 (K (.bool false) w)
 (mN Try.prog (vS (eqS .eql 24 false true t82 (.int .i64 0))) w fun t113 w =>
 mIf t113
 (mCall Try.prog 43 #[t51] w fun t116 w =>
 mN Try.prog (vS (binOp .add 3 t70 t79)) w fun t119 w =>
 mN Try.prog (vS (eqS .neq 3 false false t116 t119)) w fun t120 w =>
 mIf t120
 (K (.bool false) w)
 (mN Try.prog (vS (eqS .neq 24 false true t82 (.int .i64 0))) w fun t125 w =>
 mIf t125
 (mCall Try.prog 43 #[t51] w fun t128 w =>
 mN Try.prog (vS (eqS .neq 3 false false t128 t70)) w fun t130 w =>
 mIf t130
 (K (.bool false) w)
 (mN Try.prog (vS (binOp .add 3 t61 (.int .i64 1))) w fun t133 w =>
 k t133 w))
 (mN Try.prog (vS (binOp .add 3 t61 (.int .i64 1))) w fun t133 w =>
 k t133 w)))
 (mN Try.prog (vS (eqS .neq 24 false true t82 (.int .i64 0))) w fun t125 w =>
 mIf t125
 (mCall Try.prog 43 #[t51] w fun t128 w =>
 mN Try.prog (vS (eqS .neq 3 false false t128 t70)) w fun t130 w =>
 mIf t130
 (K (.bool false) w)
 (mN Try.prog (vS (binOp .add 3 t61 (.int .i64 1))) w fun t133 w =>
 k t133 w))
 (mN Try.prog (vS (binOp .add 3 t61 (.int .i64 1))) w fun t133 w =>
 k t133 w))))
 (mN Try.prog (vS (eqS .eql 24 false true t82 (.int .i64 0))) w fun t113 w =>
 mIf t113
 (mCall Try.prog 43 #[t51] w fun t116 w =>
 mN Try.prog (vS (binOp .add 3 t70 t79)) w fun t119 w =>
 mN Try.prog (vS (eqS .neq 3 false false t116 t119)) w fun t120 w =>
 mIf t120
 (K (.bool false) w)
 (mN Try.prog (vS (eqS .neq 24 false true t82 (.int .i64 0))) w fun t125 w =>
 mIf t125
 (mCall Try.prog 43 #[t51] w fun t128 w =>
 mN Try.prog (vS (eqS .neq 3 false false t128 t70)) w fun t130 w =>
 mIf t130
 (K (.bool false) w)
 (mN Try.prog (vS (binOp .add 3 t61 (.int .i64 1))) w fun t133 w =>
 k t133 w))
 (mN Try.prog (vS (binOp .add 3 t61 (.int .i64 1))) w fun t133 w =>
 k t133 w)))
 (mN Try.prog (vS (eqS .neq 24 false true t82 (.int .i64 0))) w fun t125 w =>
 mIf t125
 (mCall Try.prog 43 #[t51] w fun t128 w =>
 mN Try.prog (vS (eqS .neq 3 false false t128 t70)) w fun t130 w =>
 mIf t130
 (K (.bool false) w)
 (mN Try.prog (vS (binOp .add 3 t61 (.int .i64 1))) w fun t133 w =>
 k t133 w))
 (mN Try.prog (vS (binOp .add 3 t61 (.int .i64 1))) w fun t133 w =>
 k t133 w)))))
 (mN Try.prog (builtin .len #[9] 3 #[false] #[t64]) w fun t100 w =>
 mN Try.prog (vS (binOp .leq 3 t100 (.int .i64 65536))) w fun t101 w =>
 mIf t101
 (mN Try.prog (vS (eqS .eql 24 false true t82 (.int .i64 0))) w fun t104 w =>
 mN Try.prog (vS (binOp .leq 3 t79 t72)) w fun t107 w =>
 mN Try.prog (vS (eqS .neq 4 false false t104 t107)) w fun t108 w =>
 mIf t108
 (K (.bool false) w)
 (mN Try.prog (vS (eqS .eql 24 false true t82 (.int .i64 0))) w fun t113 w =>
 mIf t113
 (mCall Try.prog 43 #[t51] w fun t116 w =>
 mN Try.prog (vS (binOp .add 3 t70 t79)) w fun t119 w =>
 mN Try.prog (vS (eqS .neq 3 false false t116 t119)) w fun t120 w =>
 mIf t120
 (K (.bool false) w)
 (mN Try.prog (vS (eqS .neq 24 false true t82 (.int .i64 0))) w fun t125 w =>
 mIf t125
 (mCall Try.prog 43 #[t51] w fun t128 w =>
 mN Try.prog (vS (eqS .neq 3 false false t128 t70)) w fun t130 w =>
 mIf t130
 (K (.bool false) w)
 (mN Try.prog (vS (binOp .add 3 t61 (.int .i64 1))) w fun t133 w =>
 k t133 w))
 (mN Try.prog (vS (binOp .add 3 t61 (.int .i64 1))) w fun t133 w =>
 k t133 w)))
 (mN Try.prog (vS (eqS .neq 24 false true t82 (.int .i64 0))) w fun t125 w =>
 mIf t125
 (mCall Try.prog 43 #[t51] w fun t128 w =>
 mN Try.prog (vS (eqS .neq 3 false false t128 t70)) w fun t130 w =>
 mIf t130
 (K (.bool false) w)
 (mN Try.prog (vS (binOp .add 3 t61 (.int .i64 1))) w fun t133 w =>
 k t133 w))
 (mN Try.prog (vS (binOp .add 3 t61 (.int .i64 1))) w fun t133 w =>
 k t133 w))))
 (mN Try.prog (vS (eqS .eql 24 false true t82 (.int .i64 0))) w fun t113 w =>
 mIf t113
 (mCall Try.prog 43 #[t51] w fun t116 w =>
 mN Try.prog (vS (binOp .add 3 t70 t79)) w fun t119 w =>
 mN Try.prog (vS (eqS .neq 3 false false t116 t119)) w fun t120 w =>
 mIf t120
 (K (.bool false) w)
 (mN Try.prog (vS (eqS .neq 24 false true t82 (.int .i64 0))) w fun t125 w =>
 mIf t125
 (mCall Try.prog 43 #[t51] w fun t128 w =>
 mN Try.prog (vS (eqS .neq 3 false false t128 t70)) w fun t130 w =>
 mIf t130
 (K (.bool false) w)
 (mN Try.prog (vS (binOp .add 3 t61 (.int .i64 1))) w fun t133 w =>
 k t133 w))
 (mN Try.prog (vS (binOp .add 3 t61 (.int .i64 1))) w fun t133 w =>
 k t133 w)))
 (mN Try.prog (vS (eqS .neq 24 false true t82 (.int .i64 0))) w fun t125 w =>
 mIf t125
 (mCall Try.prog 43 #[t51] w fun t128 w =>
 mN Try.prog (vS (eqS .neq 3 false false t128 t70)) w fun t130 w =>
 mIf t130
 (K (.bool false) w)
 (mN Try.prog (vS (binOp .add 3 t61 (.int .i64 1))) w fun t133 w =>
 k t133 w))
 (mN Try.prog (vS (binOp .add 3 t61 (.int .i64 1))) w fun t133 w =>
 k t133 w)))))))
 (mCall Try.prog 36 #[] w fun t134 w =>
 K t134 w))
 (.int .i64 0) w)))))))

theorem eq8 (a0 a1 : Value) (w : World) (K : Value → World → Prop) : vcF Try.prog cOk (.n .z (.n .z (.n .z (.n .z (.n .z (.n (.n .z (.l [61] [62, 63, 64, 10, 65, 66, 67, 68, 69, 70, 11, 71, 72, 12, 73, 74, 75, 76, 77, 78, 79, 13, 80, 81, 82, 14, 83, 84, 85, 86, 87, 88, 89, 90, 91, 92, 93, 94, 95, 96, 97, 98, 99, 100, 101, 102, 103, 104, 105, 106, 107, 108, 109, 110, 111, 112, 113, 114, 115, 116, 117, 118, 119, 120, 121, 122, 123, 124, 125, 126, 127, 128, 129, 130, 131, 132, 4, 133, 61] .z)) .z)))))) Try.f8 [a0, a1] w K = sh8 a0 a1 w K := by kernel_rfl

theorem ok8 {a0 a1 : Value} {w : World} {K : Value → World → Prop} (h : sh8 a0 a1 w K) : Calls Try.prog 8 #[a0, a1] w (retK K) :=
  calls_of_vcF (k := (.n .z (.n .z (.n .z (.n .z (.n .z (.n (.n .z (.l [61] [62, 63, 64, 10, 65, 66, 67, 68, 69, 70, 11, 71, 72, 12, 73, 74, 75, 76, 77, 78, 79, 13, 80, 81, 82, 14, 83, 84, 85, 86, 87, 88, 89, 90, 91, 92, 93, 94, 95, 96, 97, 98, 99, 100, 101, 102, 103, 104, 105, 106, 107, 108, 109, 110, 111, 112, 113, 114, 115, 116, 117, 118, 119, 120, 121, 122, 123, 124, 125, 126, 127, 128, 129, 130, 131, 132, 4, 133, 61] .z)) .z))))))) callsOk mixed Try.func8 ((eq8 a0 a1 w K).symm ▸ h)

/-- recto/rectolaw28.SlotSteps -/
def sh9 (a0 : Value) (w : World) (K : Value → World → Prop) : Prop :=
 mCall Try.prog 17 #[(.int .i64 4)] w fun t13 w =>
 mN Try.prog (vS (Instr.extract t13 0)) w fun t14 w =>
 mN Try.prog (vS (Instr.extract t13 1)) w fun t15 w =>
 mN Try.prog (vS (eqS .neq 24 false true t15 (.int .i64 0))) w fun t17 w =>
 mIf t17
 (mN Try.prog (vS (eqS .eql 24 false true t15 (.int .i64 0))) w fun t27 w =>
 mIf t27
 (mN Try.prog (vS (eqS .neq 23 false true t14 (.pointer none))) w fun t30 w =>
 mIf t30
 (mCall Try.prog 34 #[] w fun t33 w =>
 K t33 w)
 (K (.bool false) w))
 (K (.bool false) w))
 (mN Try.prog (vS (eqS .eql 23 false true t14 (.pointer none))) w fun t20 w =>
 mIf t20
 (mN Try.prog (vS (eqS .eql 24 false true t15 (.int .i64 0))) w fun t27 w =>
 mIf t27
 (mN Try.prog (vS (eqS .neq 23 false true t14 (.pointer none))) w fun t30 w =>
 mIf t30
 (mCall Try.prog 34 #[] w fun t33 w =>
 K t33 w)
 (K (.bool false) w))
 (K (.bool false) w))
 (mCall Try.prog 47 #[a0] w fun t24 w =>
 mIf t24
 (mN Try.prog (vS (eqS .eql 24 false true t15 (.int .i64 0))) w fun t27 w =>
 mIf t27
 (mN Try.prog (vS (eqS .neq 23 false true t14 (.pointer none))) w fun t30 w =>
 mIf t30
 (mCall Try.prog 34 #[] w fun t33 w =>
 K t33 w)
 (K (.bool false) w))
 (K (.bool false) w))
 (mCall Try.prog 24 #[(.int .i64 4)] w fun t35 w =>
 mN Try.prog (builtin .len #[75] 3 #[false] #[a0]) w fun t37 w =>
 mLoop1 (fun t38 w k =>
 mN Try.prog (vS (binOp .lss 3 t38 t37)) w fun t39 w =>
 mIf t39
 (mN Try.prog (vS (Instr.indexAt 75 a0 t38)) w fun t40 w =>
 mN Try.prog (vS (Instr.loadAt 78 t40)) w fun t41 w =>
 mN Try.prog (vS (Instr.alloc 78 true (.tuple #[]))) w fun t7 w =>
 mN Try.prog (uS (Instr.storeAt 78 t7 t41)) w fun _ w =>
 mN Try.prog (vS (Instr.loadAt 78 t7)) w fun t44 w =>
 mCall Try.prog 48 #[t14, t35, t44] w fun t45 w =>
 mN Try.prog (vS (Op.unary .not t45)) w fun t46 w =>
 mIf t46
 (K (.bool false) w)
 (mCall Try.prog 49 #[t14] w fun t49 w =>
 mN Try.prog (vS (Instr.extract t49 0)) w fun t50 w =>
 mN Try.prog (vS (Instr.extract t49 1)) w fun t51 w =>
 mN Try.prog (vS (Instr.extract t49 2)) w fun t52 w =>
 mN Try.prog (vS (Instr.alloc 50 true (.tuple #[]))) w fun t8 w =>
 mN Try.prog (uS (Instr.storeAt 50 t8 t50)) w fun _ w =>
 mCall Try.prog 50 #[t35] w fun t54 w =>
 mN Try.prog (vS (Instr.alloc 84 true (.tuple #[]))) w fun t11 w =>
 mN Try.prog (uS (Instr.storeAt 84 t11 t54)) w fun _ w =>
 mDrew w fun w =>
 mP Try.prog (vS (Instr.fieldAt 84 t11 2)) fun t56 =>
 mR Try.prog (vS (Instr.loadAt 3 t56)) w fun t57 =>
 mP Try.prog (vS (eqS .neq 3 false false t52 t57)) fun t58 =>
 mIf t58
 (K (.bool false) w)
 (mR Try.prog (vS (Instr.loadAt 50 t8)) w fun t60 =>
 mP Try.prog (vS (Instr.fieldAt 84 t11 0)) fun t62 =>
 mR Try.prog (vS (Instr.loadAt 82 t62)) w fun t63 =>
 mCall Try.prog 51 #[t60] w fun t61 w =>
 rdN Try.prog (vS (Instr.loadAt 82 t62)) t63 w ∧
 rdN Try.prog (vS (Instr.loadAt 3 t56)) t57 w ∧
 mP Try.prog (vS (eqS .neq 82 false false t61 t63)) fun t64 =>
 mIf t64
 (K (.bool false) w)
 (mP Try.prog (vS (Instr.fieldAt 84 t11 1)) fun t68 =>
 mR Try.prog (vS (Instr.loadAt 3 t68)) w fun t69 =>
 mP Try.prog (vS (eqS .neq 3 false false t51 t69)) fun t70 =>
 mIf t70
 (K (.bool false) w)
 (mN Try.prog (vS (binOp .add 3 t38 (.int .i64 1))) w fun t72 w =>
 k t72 w)))))
 (mCall Try.prog 34 #[] w fun t73 w =>
 K t73 w))
 (.int .i64 0) w)))

theorem eq9 (a0 : Value) (w : World) (K : Value → World → Prop) : vcF Try.prog cOk (.n .z (.n .z (.n .z (.n .z (.n (.n .z (.l [38] [39, 40, 41, 7, 42, 43, 44, 45, 46, 48, 49, 47, 50, 51, 52, 8, 9, 10, 53, 54, 11, 55, 56, 57, 58, 59, 60, 61, 62, 63, 64, 65, 66, 67, 68, 69, 70, 71, 2, 72, 38] (.n .z (.n .z (.n (.n .z (.n .z (.n .z (.n .z (.n (.d [6] [0, 1, 2, 3, 4, 5, 7, 8, 6, 9, 10, 11, 12, 13, 14, 15, 16]) .z))))) .z))))) .z))))) Try.f9 [a0] w K = sh9 a0 w K := by kernel_rfl

theorem ok9 {a0 : Value} {w : World} {K : Value → World → Prop} (h : sh9 a0 w K) : Calls Try.prog 9 #[a0] w (retK K) :=
  calls_of_vcF (k := (.n .z (.n .z (.n .z (.n .z (.n (.n .z (.l [38] [39, 40, 41, 7, 42, 43, 44, 45, 46, 48, 49, 47, 50, 51, 52, 8, 9, 10, 53, 54, 11, 55, 56, 57, 58, 59, 60, 61, 62, 63, 64, 65, 66, 67, 68, 69, 70, 71, 2, 72, 38] (.n .z (.n .z (.n (.n .z (.n .z (.n .z (.n .z (.n (.d [6] [0, 1, 2, 3, 4, 5, 7, 8, 6, 9, 10, 11, 12, 13, 14, 15, 16]) .z))))) .z))))) .z)))))) callsOk mixed Try.func9 ((eq9 a0 w K).symm ▸ h)

/-- recto/rectolaw28.SlotLasts -/
def sh10 (a0 a1 a2 : Value) (w : World) (K : Value → World → Prop) : Prop :=
 mCall Try.prog 17 #[(.int .i64 4)] w fun t20 w =>
 mN Try.prog (vS (Instr.extract t20 0)) w fun t21 w =>
 mN Try.prog (vS (Instr.extract t20 1)) w fun t22 w =>
 mN Try.prog (vS (eqS .neq 24 false true t22 (.int .i64 0))) w fun t24 w =>
 mIf t24
 (mN Try.prog (vS (eqS .eql 24 false true t22 (.int .i64 0))) w fun t50 w =>
 mIf t50
 (mN Try.prog (vS (eqS .neq 23 false true t21 (.pointer none))) w fun t53 w =>
 mIf t53
 (mCall Try.prog 34 #[] w fun t56 w =>
 K t56 w)
 (K (.bool false) w))
 (K (.bool false) w))
 (mN Try.prog (vS (eqS .eql 23 false true t21 (.pointer none))) w fun t27 w =>
 mIf t27
 (mN Try.prog (vS (eqS .eql 24 false true t22 (.int .i64 0))) w fun t50 w =>
 mIf t50
 (mN Try.prog (vS (eqS .neq 23 false true t21 (.pointer none))) w fun t53 w =>
 mIf t53
 (mCall Try.prog 34 #[] w fun t56 w =>
 K t56 w)
 (K (.bool false) w))
 (K (.bool false) w))
 (mN Try.prog (builtin .len #[87] 3 #[false] #[a0]) w fun t31 w =>
 mN Try.prog (vS (binOp .gtr 3 t31 (.int .i64 40))) w fun t32 w =>
 mIf t32
 (mN Try.prog (vS (eqS .eql 24 false true t22 (.int .i64 0))) w fun t50 w =>
 mIf t50
 (mN Try.prog (vS (eqS .neq 23 false true t21 (.pointer none))) w fun t53 w =>
 mIf t53
 (mCall Try.prog 34 #[] w fun t56 w =>
 K t56 w)
 (K (.bool false) w))
 (K (.bool false) w))
 (mN Try.prog (builtin .len #[88] 3 #[false] #[a1]) w fun t36 w =>
 mN Try.prog (vS (binOp .gtr 3 t36 (.int .i64 40))) w fun t37 w =>
 mIf t37
 (mN Try.prog (vS (eqS .eql 24 false true t22 (.int .i64 0))) w fun t50 w =>
 mIf t50
 (mN Try.prog (vS (eqS .neq 23 false true t21 (.pointer none))) w fun t53 w =>
 mIf t53
 (mCall Try.prog 34 #[] w fun t56 w =>
 K t56 w)
 (K (.bool false) w))
 (K (.bool false) w))
 (mN Try.prog (builtin .len #[35] 3 #[false] #[a2]) w fun t41 w =>
 mN Try.prog (vS (binOp .gtr 3 t41 (.int .i64 60))) w fun t42 w =>
 mIf t42
 (mN Try.prog (vS (eqS .eql 24 false true t22 (.int .i64 0))) w fun t50 w =>
 mIf t50
 (mN Try.prog (vS (eqS .neq 23 false true t21 (.pointer none))) w fun t53 w =>
 mIf t53
 (mCall Try.prog 34 #[] w fun t56 w =>
 K t56 w)
 (K (.bool false) w))
 (K (.bool false) w))
 (mCall Try.prog 52 #[t21] w fun t46 w =>
 mN Try.prog (vS (eqS .neq 24 false true t46 (.int .i64 0))) w fun t47 w =>
 mIf t47
 (mN Try.prog (vS (eqS .eql 24 false true t22 (.int .i64 0))) w fun t50 w =>
 mIf t50
 (mN Try.prog (vS (eqS .neq 23 false true t21 (.pointer none))) w fun t53 w =>
 mIf t53
 (mCall Try.prog 34 #[] w fun t56 w =>
 K t56 w)
 (K (.bool false) w))
 (K (.bool false) w))
 (mN Try.prog (builtin .len #[87] 3 #[false] #[a0]) w fun t59 w =>
 mLoop1 (fun t60 w k =>
 mN Try.prog (vS (binOp .lss 3 t60 t59)) w fun t61 w =>
 mIf t61
 (mN Try.prog (vS (Instr.indexAt 87 a0 t60)) w fun t63 w =>
 mN Try.prog (vS (Instr.loadAt 50 t63)) w fun t64 w =>
 mN Try.prog (vS (Instr.alloc 50 true (.tuple #[]))) w fun t10 w =>
 mN Try.prog (uS (Instr.storeAt 50 t10 t64)) w fun _ w =>
 mCall Try.prog 49 #[t21] w fun t67 w =>
 mN Try.prog (vS (Instr.extract t67 0)) w fun t68 w =>
 mN Try.prog (vS (Instr.extract t67 1)) w fun t69 w =>
 mN Try.prog (vS (Instr.extract t67 2)) w fun t70 w =>
 mN Try.prog (vS (Instr.alloc 50 true (.tuple #[]))) w fun t11 w =>
 mN Try.prog (uS (Instr.storeAt 50 t11 t68)) w fun _ w =>
 mN Try.prog (vS (eqS .neq 24 false true t70 (.int .i64 0))) w fun t72 w =>
 mIf t72
 (K (.bool false) w)
 (mN Try.prog (builtin .len #[88] 3 #[false] #[a1]) w fun t75 w =>
 mN Try.prog (vS (binOp .lss 3 t60 t75)) w fun t76 w =>
 mJ (fun (J : World → Prop) =>
 mIf t76
 (mN Try.prog (vS (Instr.indexAt 88 a1 t60)) w fun t79 w =>
 mN Try.prog (vS (Instr.fieldAt 42 t79 2)) w fun t80 w =>
 mN Try.prog (vS (Instr.loadAt 35 t80)) w fun t81 w =>
 mN Try.prog (builtin .len #[35] 3 #[false] #[t81]) w fun t82 w =>
 mN Try.prog (vS (binOp .gtr 3 t82 (.int .i64 60))) w fun t83 w =>
 mIf t83
 (mCall Try.prog 34 #[] w fun t84 w =>
 K t84 w)
 (mN Try.prog (vS (Instr.indexAt 88 a1 t60)) w fun t88 w =>
 mN Try.prog (vS (Instr.loadAt 42 t88)) w fun t89 w =>
 mCall Try.prog 26 #[t21, t89] w fun t90 w =>
 J w))
 (J w))
 (fun w =>
 mN Try.prog (vS (Instr.loadAt 50 t10)) w fun t92 w =>
 mCall Try.prog 53 #[t21, t92] w fun t93 w =>
 mCall Try.prog 27 #[t21] w fun t95 w =>
 mN Try.prog (vS (Op.unary .not t95)) w fun t96 w =>
 mJ (fun (J : World → Prop) =>
 mIf t96
 (mCall Try.prog 31 #[t21] w fun t98 w =>
 J w)
 (J w))
 (fun w =>
 mCall Try.prog 30 #[t21, a2] w fun t101 w =>
 mN Try.prog (vS (eqS .neq 24 false true t101 (.int .i64 0))) w fun t102 w =>
 mIf t102
 (K (.bool false) w)
 (mCall Try.prog 31 #[t21] w fun t105 w =>
 mN Try.prog (vS (eqS .neq 24 false true t105 (.int .i64 0))) w fun t106 w =>
 mIf t106
 (K (.bool false) w)
 (mCall Try.prog 49 #[t21] w fun t110 w =>
 mN Try.prog (vS (Instr.extract t110 0)) w fun t111 w =>
 mN Try.prog (vS (Instr.extract t110 1)) w fun t112 w =>
 mN Try.prog (vS (Instr.extract t110 2)) w fun t113 w =>
 mN Try.prog (vS (Instr.alloc 50 true (.tuple #[]))) w fun t15 w =>
 mN Try.prog (uS (Instr.storeAt 50 t15 t111)) w fun _ w =>
 mN Try.prog (vS (Instr.fieldAt 50 t11 0)) w fun t114 w =>
 mN Try.prog (vS (Instr.loadAt 3 t114)) w fun t115 w =>
 mN Try.prog (vS (binOp .add 3 t115 (.int .i64 1))) w fun t116 w =>
 mN Try.prog (vS (Instr.fieldAt 50 t10 1)) w fun t117 w =>
 mN Try.prog (vS (Instr.loadAt 3 t117)) w fun t118 w =>
 mN Try.prog (vS (Instr.fieldAt 50 t10 2)) w fun t119 w =>
 mN Try.prog (vS (Instr.loadAt 3 t119)) w fun t120 w =>
 mN Try.prog (vS (Instr.fieldAt 50 t10 3)) w fun t121 w =>
 mN Try.prog (vS (Instr.loadAt 3 t121)) w fun t122 w =>
 mN Try.prog (vS (Instr.build 50 #[(0, t116), (1, t118), (2, t120), (3, t122)])) w fun t123 w =>
 mN Try.prog (vS (Instr.alloc 50 true (.tuple #[]))) w fun t18 w =>
 mN Try.prog (uS (Instr.storeAt 50 t18 t123)) w fun _ w =>
 mN Try.prog (vS (eqS .neq 24 false true t113 (.int .i64 0))) w fun t125 w =>
 mIf t125
 (K (.bool false) w)
 (mN Try.prog (vS (Instr.loadAt 50 t15)) w fun t127 w =>
 mN Try.prog (vS (Instr.loadAt 50 t18)) w fun t128 w =>
 mN Try.prog (vS (eqS .neq 50 false false t127 t128)) w fun t129 w =>
 mIf t129
 (mN Try.prog (vS (Instr.loadAt 50 t15)) w fun t131 w =>
 mN Try.prog (vS (Instr.loadAt 50 t11)) w fun t132 w =>
 mN Try.prog (vS (eqS .neq 50 false false t131 t132)) w fun t133 w =>
 mIf t133
 (K (.bool false) w)
 (mN Try.prog (vS (eqS .eql 24 false true t93 (.int .i64 0))) w fun t136 w =>
 mIf t136
 (K (.bool false) w)
 (mN Try.prog (vS (Instr.loadAt 50 t15)) w fun t141 w =>
 mN Try.prog (vS (Instr.loadAt 50 t18)) w fun t142 w =>
 mN Try.prog (vS (eqS .eql 50 false false t141 t142)) w fun t143 w =>
 mIf t143
 (mN Try.prog (vS (Instr.fieldAt 50 t15 0)) w fun t145 w =>
 mN Try.prog (vS (Instr.loadAt 3 t145)) w fun t146 w =>
 mN Try.prog (vS (Instr.fieldAt 50 t11 0)) w fun t147 w =>
 mN Try.prog (vS (Instr.loadAt 3 t147)) w fun t148 w =>
 mN Try.prog (vS (binOp .add 3 t148 (.int .i64 1))) w fun t149 w =>
 mN Try.prog (vS (eqS .neq 3 false false t146 t149)) w fun t150 w =>
 mIf t150
 (K (.bool false) w)
 (mN Try.prog (vS (binOp .add 3 t60 (.int .i64 1))) w fun t153 w =>
 k t153 w))
 (mN Try.prog (vS (binOp .add 3 t60 (.int .i64 1))) w fun t153 w =>
 k t153 w))))
 (mN Try.prog (vS (Instr.loadAt 50 t15)) w fun t141 w =>
 mN Try.prog (vS (Instr.loadAt 50 t18)) w fun t142 w =>
 mN Try.prog (vS (eqS .eql 50 false false t141 t142)) w fun t143 w =>
 mIf t143
 (mN Try.prog (vS (Instr.fieldAt 50 t15 0)) w fun t145 w =>
 mN Try.prog (vS (Instr.loadAt 3 t145)) w fun t146 w =>
 mN Try.prog (vS (Instr.fieldAt 50 t11 0)) w fun t147 w =>
 mN Try.prog (vS (Instr.loadAt 3 t147)) w fun t148 w =>
 mN Try.prog (vS (binOp .add 3 t148 (.int .i64 1))) w fun t149 w =>
 mN Try.prog (vS (eqS .neq 3 false false t146 t149)) w fun t150 w =>
 mIf t150
 (K (.bool false) w)
 (mN Try.prog (vS (binOp .add 3 t60 (.int .i64 1))) w fun t153 w =>
 k t153 w))
 (mN Try.prog (vS (binOp .add 3 t60 (.int .i64 1))) w fun t153 w =>
 k t153 w)))))))))
 (mCall Try.prog 34 #[] w fun t154 w =>
 K t154 w))
 (.int .i64 0) w))))))

theorem eq10 (a0 a1 a2 : Value) (w : World) (K : Value → World → Prop) : vcF Try.prog cOk (.n .z (.n .z (.n .z (.n (.n .z (.l [60] [61, 62, 63, 64, 10, 9, 66, 67, 65, 68, 69, 70, 11, 12, 13, 71, 72, 73, 74, 75, 76, 77, 78, 79, 80, 81, 82, 83, 84, 85, 86, 87, 88, 89, 90, 91, 92, 93, 14, 94, 95, 96, 97, 98, 99, 100, 101, 102, 103, 104, 105, 106, 107, 109, 110, 108, 111, 112, 113, 15, 16, 17, 114, 115, 116, 117, 118, 119, 120, 121, 122, 123, 18, 124, 125, 126, 127, 128, 129, 130, 131, 132, 133, 134, 135, 136, 137, 138, 139, 140, 141, 142, 143, 144, 145, 146, 147, 148, 149, 150, 151, 152, 6, 153, 60] (.n .z (.n .z (.n (.n .z (.n .z (.n .z (.n (.n .z (.j [] [77, 78, 79, 80, 81, 82, 83, 84, 6, 85, 86, 87, 88, 89, 90] .z)) (.n .z (.n (.n .z (.j [] [97, 98] .z)) .z)))))) .z))))) .z)))) Try.f10 [a0, a1, a2] w K = sh10 a0 a1 a2 w K := by kernel_rfl

theorem ok10 {a0 a1 a2 : Value} {w : World} {K : Value → World → Prop} (h : sh10 a0 a1 a2 w K) : Calls Try.prog 10 #[a0, a1, a2] w (retK K) :=
  calls_of_vcF (k := (.n .z (.n .z (.n .z (.n (.n .z (.l [60] [61, 62, 63, 64, 10, 9, 66, 67, 65, 68, 69, 70, 11, 12, 13, 71, 72, 73, 74, 75, 76, 77, 78, 79, 80, 81, 82, 83, 84, 85, 86, 87, 88, 89, 90, 91, 92, 93, 14, 94, 95, 96, 97, 98, 99, 100, 101, 102, 103, 104, 105, 106, 107, 109, 110, 108, 111, 112, 113, 15, 16, 17, 114, 115, 116, 117, 118, 119, 120, 121, 122, 123, 18, 124, 125, 126, 127, 128, 129, 130, 131, 132, 133, 134, 135, 136, 137, 138, 139, 140, 141, 142, 143, 144, 145, 146, 147, 148, 149, 150, 151, 152, 6, 153, 60] (.n .z (.n .z (.n (.n .z (.n .z (.n .z (.n (.n .z (.j [] [77, 78, 79, 80, 81, 82, 83, 84, 6, 85, 86, 87, 88, 89, 90] .z)) (.n .z (.n (.n .z (.j [] [97, 98] .z)) .z)))))) .z))))) .z))))) callsOk mixed Try.func10 ((eq10 a0 a1 a2 w K).symm ▸ h)

/-- recto/rectolaw29.LogNil -/
def sh11 (a0 : Value) (w : World) (K : Value → World → Prop) : Prop :=
 mCall Try.prog 54 #[(.pointer none)] w fun t7 w =>
 mCall Try.prog 55 #[(.pointer none)] w fun t9 w =>
 mCall Try.prog 38 #[(.pointer none), (.int .i64 0), (.int .i64 1), (.int .i64 0)] w fun t11 w =>
 mN Try.prog (vS (Instr.extract t11 0)) w fun t12 w =>
 mN Try.prog (vS (Instr.extract t11 1)) w fun t13 w =>
 mN Try.prog (vS (eqS .eql 24 false true t13 (.int .i64 1))) w fun t15 w =>
 mIf t15
 (mCall Try.prog 46 #[(.pointer none), a0] w fun t19 w =>
 mN Try.prog (vS (eqS .eql 24 false true t19 (.int .i64 7))) w fun t20 w =>
 mIf t20
 (mCall Try.prog 56 #[(.pointer none)] w fun t24 w =>
 mN Try.prog (vS (eqS .eql 24 false true t24 (.int .i64 7))) w fun t25 w =>
 mIf t25
 (mCall Try.prog 41 #[(.pointer none)] w fun t29 w =>
 mN Try.prog (builtin .len #[67] 3 #[false] #[t29]) w fun t30 w =>
 mN Try.prog (vS (eqS .eql 3 false true t30 (.int .i64 0))) w fun t31 w =>
 mIf t31
 (mCall Try.prog 43 #[(.pointer none)] w fun t35 w =>
 mN Try.prog (vS (eqS .eql 3 false true t35 (.int .i64 0))) w fun t36 w =>
 mIf t36
 (mCall Try.prog 42 #[(.pointer none)] w fun t40 w =>
 mN Try.prog (vS (eqS .eql 3 false true t40 (.int .i64 0))) w fun t41 w =>
 mIf t41
 (mCall Try.prog 44 #[(.pointer none)] w fun t45 w =>
 mN Try.prog (vS (eqS .eql 3 false true t45 (.int .i64 0))) w fun t46 w =>
 mIf t46
 (mCall Try.prog 36 #[] w fun t49 w =>
 K t49 w)
 (K (.bool false) w))
 (K (.bool false) w))
 (K (.bool false) w))
 (K (.bool false) w))
 (K (.bool false) w))
 (K (.bool false) w))
 (K (.bool false) w)

theorem eq11 (a0 : Value) (w : World) (K : Value → World → Prop) : vcF Try.prog cOk .z Try.f11 [a0] w K = sh11 a0 w K := by kernel_rfl

theorem ok11 {a0 : Value} {w : World} {K : Value → World → Prop} (h : sh11 a0 w K) : Calls Try.prog 11 #[a0] w (retK K) :=
  calls_of_vcF (k := .z) callsOk mixed Try.func11 ((eq11 a0 w K).symm ▸ h)

/-- recto/rectolaw29.LogLasts -/
def sh12 (a0 a1 a2 : Value) (w : World) (K : Value → World → Prop) : Prop :=
 mCall Try.prog 17 #[(.int .i64 8)] w fun t20 w =>
 mN Try.prog (vS (Instr.extract t20 0)) w fun t21 w =>
 mN Try.prog (vS (Instr.extract t20 1)) w fun t22 w =>
 mN Try.prog (vS (eqS .neq 24 false true t22 (.int .i64 0))) w fun t24 w =>
 mIf t24
 (mN Try.prog (vS (eqS .eql 24 false true t22 (.int .i64 0))) w fun t45 w =>
 mIf t45
 (mN Try.prog (vS (eqS .neq 23 false true t21 (.pointer none))) w fun t48 w =>
 mIf t48
 (mCall Try.prog 36 #[] w fun t51 w =>
 K t51 w)
 (K (.bool false) w))
 (K (.bool false) w))
 (mN Try.prog (vS (eqS .eql 23 false true t21 (.pointer none))) w fun t27 w =>
 mIf t27
 (mN Try.prog (vS (eqS .eql 24 false true t22 (.int .i64 0))) w fun t45 w =>
 mIf t45
 (mN Try.prog (vS (eqS .neq 23 false true t21 (.pointer none))) w fun t48 w =>
 mIf t48
 (mCall Try.prog 36 #[] w fun t51 w =>
 K t51 w)
 (K (.bool false) w))
 (K (.bool false) w))
 (mN Try.prog (builtin .len #[67] 3 #[false] #[a0]) w fun t31 w =>
 mN Try.prog (vS (binOp .gtr 3 t31 (.int .i64 30))) w fun t32 w =>
 mIf t32
 (mN Try.prog (vS (eqS .eql 24 false true t22 (.int .i64 0))) w fun t45 w =>
 mIf t45
 (mN Try.prog (vS (eqS .neq 23 false true t21 (.pointer none))) w fun t48 w =>
 mIf t48
 (mCall Try.prog 36 #[] w fun t51 w =>
 K t51 w)
 (K (.bool false) w))
 (K (.bool false) w))
 (mN Try.prog (builtin .len #[67] 3 #[false] #[a1]) w fun t36 w =>
 mN Try.prog (vS (binOp .gtr 3 t36 (.int .i64 30))) w fun t37 w =>
 mIf t37
 (mN Try.prog (vS (eqS .eql 24 false true t22 (.int .i64 0))) w fun t45 w =>
 mIf t45
 (mN Try.prog (vS (eqS .neq 23 false true t21 (.pointer none))) w fun t48 w =>
 mIf t48
 (mCall Try.prog 36 #[] w fun t51 w =>
 K t51 w)
 (K (.bool false) w))
 (K (.bool false) w))
 (mN Try.prog (builtin .len #[35] 3 #[false] #[a2]) w fun t41 w =>
 mN Try.prog (vS (binOp .gtr 3 t41 (.int .i64 40))) w fun t42 w =>
 mIf t42
 (mN Try.prog (vS (eqS .eql 24 false true t22 (.int .i64 0))) w fun t45 w =>
 mIf t45
 (mN Try.prog (vS (eqS .neq 23 false true t21 (.pointer none))) w fun t48 w =>
 mIf t48
 (mCall Try.prog 36 #[] w fun t51 w =>
 K t51 w)
 (K (.bool false) w))
 (K (.bool false) w))
 (mCall Try.prog 38 #[t21, (.int .i64 2), (.int .i64 6), (.int .i64 0)] w fun t55 w =>
 mN Try.prog (vS (Instr.extract t55 0)) w fun t56 w =>
 mN Try.prog (vS (Instr.extract t55 1)) w fun t57 w =>
 mN Try.prog (vS (eqS .neq 24 false true t57 (.int .i64 0))) w fun t59 w =>
 mIf t59
 (K (.bool false) w)
 (mN Try.prog (vS (eqS .eql 57 false true t56 (.pointer none))) w fun t62 w =>
 mIf t62
 (K (.bool false) w)
 (mN Try.prog (builtin .len #[67] 3 #[false] #[a0]) w fun t65 w =>
 mLoop2 (fun t11 t66 w k =>
 mN Try.prog (vS (binOp .lss 3 t66 t65)) w fun t67 w =>
 mIf t67
 (mN Try.prog (vS (Instr.indexAt 67 a0 t66)) w fun t68 w =>
 mN Try.prog (vS (Instr.loadAt 9 t68)) w fun t69 w =>
 mN Try.prog (builtin .len #[9] 3 #[false] #[t69]) w fun t71 w =>
 mN Try.prog (vS (binOp .gtr 3 t71 (.int .i64 70000))) w fun t72 w =>
 mIf t72
 (mCall Try.prog 36 #[] w fun t73 w =>
 K t73 w)
 (mCall Try.prog 46 #[t56, t69] w fun t76 w =>
 mN Try.prog (vS (eqS .eql 24 false true t76 (.int .i64 0))) w fun t77 w =>
 mIf t77
 (mN Try.prog (vS (Instr.buildSlice 67 1 #[(0, t69)])) w fun t80 w =>
 mN Try.prog (builtin .append #[67, 67] 67 #[false, false] #[t11, t80]) w fun t81 w =>
 mN Try.prog (vS (binOp .add 3 t66 (.int .i64 1))) w fun t82 w =>
 k t81 t82 w)
 (mN Try.prog (vS (binOp .add 3 t66 (.int .i64 1))) w fun t82 w =>
 k t11 t82 w)))
 (mCall Try.prog 56 #[t56] w fun t84 w =>
 mN Try.prog (vS (eqS .neq 24 false true t84 (.int .i64 0))) w fun t85 w =>
 mIf t85
 (K (.bool false) w)
 (mCall Try.prog 22 #[t21] w fun t88 w =>
 mN Try.prog (vS (eqS .neq 24 false true t88 (.int .i64 0))) w fun t89 w =>
 mIf t89
 (K (.bool false) w)
 (mCall Try.prog 54 #[t56] w fun t92 w =>
 mCall Try.prog 42 #[t56] w fun t94 w =>
 mN Try.prog (builtin .len #[67] 3 #[false] #[a1]) w fun t96 w =>
 mLoop1 (fun t97 w k1 =>
 mN Try.prog (vS (binOp .lss 3 t97 t96)) w fun t98 w =>
 mIf t98
 (mN Try.prog (vS (Instr.indexAt 67 a1 t97)) w fun t99 w =>
 mN Try.prog (vS (Instr.loadAt 9 t99)) w fun t100 w =>
 mN Try.prog (builtin .len #[9] 3 #[false] #[t100]) w fun t102 w =>
 mN Try.prog (vS (binOp .gtr 3 t102 (.int .i64 70000))) w fun t103 w =>
 mIf t103
 (mCall Try.prog 36 #[] w fun t104 w =>
 K t104 w)
 (mCall Try.prog 46 #[t56, t100] w fun t107 w =>
 mCall Try.prog 56 #[t56] w fun t109 w =>
 mN Try.prog (vS (eqS .neq 24 false true t109 (.int .i64 0))) w fun t110 w =>
 mIf t110
 (K (.bool false) w)
 (mN Try.prog (vS (binOp .add 3 t97 (.int .i64 1))) w fun t111 w =>
 k1 t111 w)))
 (mCall Try.prog 30 #[t21, a2] w fun t114 w =>
 mN Try.prog (vS (eqS .neq 24 false true t114 (.int .i64 0))) w fun t115 w =>
 mIf t115
 (K (.bool false) w)
 (mCall Try.prog 31 #[t21] w fun t118 w =>
 mN Try.prog (vS (eqS .neq 24 false true t118 (.int .i64 0))) w fun t119 w =>
 mIf t119
 (K (.bool false) w)
 (mCall Try.prog 38 #[t21, (.int .i64 2), (.int .i64 6), t94] w fun t124 w =>
 mN Try.prog (vS (Instr.extract t124 0)) w fun t125 w =>
 mN Try.prog (vS (Instr.extract t124 1)) w fun t126 w =>
 mN Try.prog (vS (eqS .eql 24 false true t126 (.int .i64 0))) w fun t128 w =>
 mIf t128
 (mN Try.prog (vS (eqS .neq 57 false true t125 (.pointer none))) w fun t131 w =>
 mIf t131
 (mCall Try.prog 41 #[t125] w fun t135 w =>
 mCall Try.prog 40 #[t135, t11] w fun t137 w =>
 mIf t137
 (mCall Try.prog 42 #[t125] w fun t141 w =>
 mN Try.prog (vS (eqS .eql 3 false false t141 t94)) w fun t143 w =>
 mIf t143
 (mCall Try.prog 43 #[t125] w fun t147 w =>
 mN Try.prog (vS (eqS .eql 3 false false t147 t94)) w fun t149 w =>
 mIf t149
 (mCall Try.prog 36 #[] w fun t152 w =>
 K t152 w)
 (K (.bool false) w))
 (K (.bool false) w))
 (K (.bool false) w))
 (K (.bool false) w))
 (K (.bool false) w)))))
 (.int .i64 0) w))))
 (.slice none 0 0) (.int .i64 0) w)))))))

theorem eq12 (a0 a1 a2 : Value) (w : World) (K : Value → World → Prop) : vcF Try.prog cOk (.n .z (.n .z (.n .z (.n .z (.n .z (.n .z (.n (.n .z (.l [11, 66] [67, 68, 69, 13, 70, 71, 72, 73, 6, 74, 75, 76, 77, 78, 79, 80, 81, 11, 82, 66] .z)) (.n .z (.n .z (.n .z (.n (.n .z (.l [97] [98, 99, 100, 16, 101, 102, 103, 104, 105, 106, 107, 108, 109, 110, 6, 111, 97] .z)) .z))))))))))) Try.f12 [a0, a1, a2] w K = sh12 a0 a1 a2 w K := by kernel_rfl

theorem ok12 {a0 a1 a2 : Value} {w : World} {K : Value → World → Prop} (h : sh12 a0 a1 a2 w K) : Calls Try.prog 12 #[a0, a1, a2] w (retK K) :=
  calls_of_vcF (k := (.n .z (.n .z (.n .z (.n .z (.n .z (.n .z (.n (.n .z (.l [11, 66] [67, 68, 69, 13, 70, 71, 72, 73, 6, 74, 75, 76, 77, 78, 79, 80, 81, 11, 82, 66] .z)) (.n .z (.n .z (.n .z (.n (.n .z (.l [97] [98, 99, 100, 16, 101, 102, 103, 104, 105, 106, 107, 108, 109, 110, 6, 111, 97] .z)) .z)))))))))))) callsOk mixed Try.func12 ((eq12 a0 a1 a2 w K).symm ▸ h)

/-- recto/rectolaw29.LogSteps -/
def sh13 (a0 a1 a2 : Value) (w : World) (K : Value → World → Prop) : Prop :=
 mCall Try.prog 17 #[(.int .i64 8)] w fun t20 w =>
 mN Try.prog (vS (Instr.extract t20 0)) w fun t21 w =>
 mN Try.prog (vS (Instr.extract t20 1)) w fun t22 w =>
 mN Try.prog (vS (eqS .neq 24 false true t22 (.int .i64 0))) w fun t24 w =>
 mIf t24
 (mN Try.prog (vS (eqS .eql 24 false true t22 (.int .i64 0))) w fun t34 w =>
 mIf t34
 (mN Try.prog (vS (eqS .neq 23 false true t21 (.pointer none))) w fun t37 w =>
 mIf t37
 (mCall Try.prog 36 #[] w fun t40 w =>
 K t40 w)
 (K (.bool false) w))
 (K (.bool false) w))
 (mN Try.prog (vS (eqS .eql 23 false true t21 (.pointer none))) w fun t27 w =>
 mIf t27
 (mN Try.prog (vS (eqS .eql 24 false true t22 (.int .i64 0))) w fun t34 w =>
 mIf t34
 (mN Try.prog (vS (eqS .neq 23 false true t21 (.pointer none))) w fun t37 w =>
 mIf t37
 (mCall Try.prog 36 #[] w fun t40 w =>
 K t40 w)
 (K (.bool false) w))
 (K (.bool false) w))
 (mCall Try.prog 57 #[a2] w fun t31 w =>
 mIf t31
 (mN Try.prog (vS (eqS .eql 24 false true t22 (.int .i64 0))) w fun t34 w =>
 mIf t34
 (mN Try.prog (vS (eqS .neq 23 false true t21 (.pointer none))) w fun t37 w =>
 mIf t37
 (mCall Try.prog 36 #[] w fun t40 w =>
 K t40 w)
 (K (.bool false) w))
 (K (.bool false) w))
 (mCall Try.prog 24 #[(.int .i64 8)] w fun t42 w =>
 mCall Try.prog 38 #[t21, a0, a1, (.int .i64 0)] w fun t47 w =>
 mN Try.prog (vS (Instr.extract t47 0)) w fun t48 w =>
 mN Try.prog (vS (Instr.extract t47 1)) w fun t49 w =>
 mN Try.prog (vS (Instr.build 65 #[(0, a0), (1, a1)])) w fun t53 w =>
 mCall Try.prog 39 #[t42, t53] w fun t54 w =>
 mN Try.prog (vS (Instr.alloc 62 true (.tuple #[]))) w fun t12 w =>
 mN Try.prog (uS (Instr.storeAt 62 t12 t54)) w fun _ w =>
 mN Try.prog (vS (Instr.fieldAt 62 t12 1)) w fun t56 w =>
 mN Try.prog (vS (Instr.loadAt 3 t56)) w fun t57 w =>
 mN Try.prog (vS (eqS .neq 3 false false t49 t57)) w fun t58 w =>
 mIf t58
 (K (.bool false) w)
 (mN Try.prog (vS (eqS .eql 57 false true t48 (.pointer none))) w fun t61 w =>
 mN Try.prog (vS (Instr.fieldAt 62 t12 0)) w fun t62 w =>
 mN Try.prog (vS (Instr.loadAt 60 t62)) w fun t63 w =>
 mN Try.prog (vS (eqS .eql 60 false true t63 (.pointer none))) w fun t64 w =>
 mN Try.prog (vS (eqS .neq 4 false false t61 t64)) w fun t65 w =>
 mIf t65
 (K (.bool false) w)
 (mN Try.prog (vS (eqS .eql 57 false true t48 (.pointer none))) w fun t68 w =>
 mIf t68
 (mCall Try.prog 36 #[] w fun t69 w =>
 K t69 w)
 (mN Try.prog (vS (Instr.fieldAt 62 t12 0)) w fun t73 w =>
 mN Try.prog (vS (Instr.loadAt 60 t73)) w fun t74 w =>
 mN Try.prog (vS (Instr.build 98 #[(0, t21), (1, t42), (2, t48), (3, t74)])) w fun t75 w =>
 mN Try.prog (vS (Instr.box 98 t75)) w fun t76 w =>
 mN Try.prog (builtin .len #[94] 3 #[false] #[a2]) w fun t78 w =>
 mLoop1 (fun t79 w k =>
 mN Try.prog (vS (binOp .lss 3 t79 t78)) w fun t80 w =>
 mIf t80
 (mN Try.prog (vS (Instr.indexAt 94 a2 t79)) w fun t81 w =>
 mN Try.prog (vS (Instr.loadAt 100 t81)) w fun t82 w =>
 mN Try.prog (vS (Instr.alloc 100 true (.tuple #[]))) w fun t15 w =>
 mN Try.prog (uS (Instr.storeAt 100 t15 t82)) w fun _ w =>
 mN Try.prog (vS (Instr.loadAt 100 t15)) w fun t84 w =>
 mCall Try.prog 58 #[t76, t84] w fun t85 w =>
 mN Try.prog (vS (Op.unary .not t85)) w fun t86 w =>
 mIf t86
 (K (.bool false) w)
 (mN Try.prog (nilS t76) w fun t88 w =>
 mN Try.prog (vS (Instr.fieldAt 98 t88 3)) w fun t89 w =>
 mN Try.prog (vS (Instr.loadAt 60 t89)) w fun t90 w =>
 mN Try.prog (nilS t90) w fun t91 w =>
 mN Try.prog (vS (Instr.fieldAt 70 t91 2)) w fun t92 w =>
 mN Try.prog (vS (Instr.loadAt 67 t92)) w fun t93 w =>
 mCall Try.prog 59 #[t93] w fun t94 w =>
 mDrew w fun w =>
 mP Try.prog (nilS t76) fun t96 =>
 mP Try.prog (vS (Instr.fieldAt 98 t96 3)) fun t97 =>
 mR Try.prog (vS (Instr.loadAt 60 t97)) w fun t98 =>
 mP Try.prog (nilS t98) fun t99 =>
 mP Try.prog (vS (Instr.fieldAt 70 t99 2)) fun t100 =>
 mR Try.prog (vS (Instr.loadAt 67 t100)) w fun t101 =>
 mP Try.prog (nilS t76) fun t103 =>
 mP Try.prog (vS (Instr.fieldAt 98 t103 3)) fun t104 =>
 mR Try.prog (vS (Instr.loadAt 60 t104)) w fun t105 =>
 mP Try.prog (nilS t105) fun t106 =>
 mP Try.prog (vS (Instr.fieldAt 70 t106 3)) fun t107 =>
 mR Try.prog (vS (Instr.loadAt 3 t107)) w fun t108 =>
 mP Try.prog (vS (Instr.sliceAt 67 t101 none (some t108) none)) fun t109 =>
 mCall Try.prog 59 #[t109] w fun t110 w =>
 rdN Try.prog (vS (Instr.loadAt 3 t107)) t108 w ∧
 rdN Try.prog (vS (Instr.loadAt 60 t104)) t105 w ∧
 rdN Try.prog (vS (Instr.loadAt 67 t100)) t101 w ∧
 rdN Try.prog (vS (Instr.loadAt 60 t97)) t98 w ∧
 mP Try.prog (builtin .len #[9] 3 #[false] #[t110]) fun t111 =>
 mDrew w fun w =>
 mP Try.prog (nilS t76) fun t113 =>
 mP Try.prog (vS (Instr.fieldAt 98 t113 2)) fun t114 =>
 mR Try.prog (vS (Instr.loadAt 57 t114)) w fun t115 =>
 mP Try.prog (nilS t76) fun t118 =>
 mP Try.prog (vS (Instr.fieldAt 98 t118 3)) fun t119 =>
 mR Try.prog (vS (Instr.loadAt 60 t119)) w fun t120 =>
 mP Try.prog (nilS t120) fun t121 =>
 mP Try.prog (vS (Instr.fieldAt 70 t121 2)) fun t122 =>
 mR Try.prog (vS (Instr.loadAt 67 t122)) w fun t123 =>
 mCall Try.prog 41 #[t115] w fun t116 w =>
 rdN Try.prog (vS (Instr.loadAt 67 t122)) t123 w ∧
 rdN Try.prog (vS (Instr.loadAt 60 t119)) t120 w ∧
 mCall Try.prog 40 #[t116, t123] w fun t124 w =>
 rdN Try.prog (vS (Instr.loadAt 60 t119)) t120 w ∧
 mP Try.prog (vS (Op.unary .not t124)) fun t125 =>
 mIf t125
 (K (.bool false) w)
 (mP Try.prog (nilS t76) fun t128 =>
 mP Try.prog (vS (Instr.fieldAt 98 t128 2)) fun t129 =>
 mR Try.prog (vS (Instr.loadAt 57 t129)) w fun t130 =>
 mP Try.prog (builtin .len #[9] 3 #[false] #[t94]) fun t133 =>
 mCall Try.prog 43 #[t130] w fun t131 w =>
 rdN Try.prog (vS (Instr.loadAt 60 t119)) t120 w ∧
 mP Try.prog (vS (eqS .neq 3 false false t131 t133)) fun t134 =>
 mIf t134
 (K (.bool false) w)
 (mP Try.prog (nilS t76) fun t138 =>
 mP Try.prog (vS (Instr.fieldAt 98 t138 2)) fun t139 =>
 mR Try.prog (vS (Instr.loadAt 57 t139)) w fun t140 =>
 mCall Try.prog 42 #[t140] w fun t141 w =>
 rdN Try.prog (vS (Instr.loadAt 60 t119)) t120 w ∧
 mP Try.prog (vS (eqS .neq 3 false false t141 t111)) fun t143 =>
 mIf t143
 (K (.bool false) w)
 (mP Try.prog (nilS t76) fun t147 =>
 mP Try.prog (vS (Instr.fieldAt 98 t147 2)) fun t148 =>
 mR Try.prog (vS (Instr.loadAt 57 t148)) w fun t149 =>
 mP Try.prog (vS (binOp .mul 3 (.int .i64 256) a1)) fun t152 =>
 mP Try.prog (builtin .len #[9] 3 #[false] #[t94]) fun t154 =>
 mP Try.prog (vS (binOp .sub 3 t152 t154)) fun t155 =>
 mCall Try.prog 44 #[t149] w fun t150 w =>
 rdN Try.prog (vS (Instr.loadAt 60 t119)) t120 w ∧
 mP Try.prog (vS (eqS .neq 3 false false t150 t155)) fun t156 =>
 mIf t156
 (K (.bool false) w)
 (mN Try.prog (nilS t42) w fun t159 w =>
 mN Try.prog (vS (Instr.fieldAt 106 t159 0)) w fun t160 w =>
 mN Try.prog (vS (Instr.loadAt 67 t160)) w fun t161 w =>
 mN Try.prog (builtin .len #[67] 3 #[false] #[t161]) w fun t162 w =>
 mLoop1 (fun t163 w k1 =>
 mN Try.prog (vS (binOp .lss 3 t163 t162)) w fun t164 w =>
 mIf t164
 (mDrew w fun w =>
 mP Try.prog (nilS t42) fun t170 =>
 mP Try.prog (vS (Instr.fieldAt 106 t170 0)) fun t171 =>
 mR Try.prog (vS (Instr.loadAt 67 t171)) w fun t172 =>
 mP Try.prog (vS (Instr.indexAt 67 t172 t163)) fun t174 =>
 mR Try.prog (vS (Instr.loadAt 9 t174)) w fun t175 =>
 mCall Try.prog 23 #[t21, t163] w fun t168 w =>
 rdN Try.prog (vS (Instr.loadAt 9 t174)) t175 w ∧
 rdN Try.prog (vS (Instr.loadAt 67 t171)) t172 w ∧
 mP Try.prog (vS (eqS .neq 9 false false t168 t175)) fun t176 =>
 mIf t176
 (K (.bool false) w)
 (mN Try.prog (vS (binOp .add 3 t163 (.int .i64 1))) w fun t177 w =>
 k1 t177 w))
 (mN Try.prog (vS (binOp .add 3 t79 (.int .i64 1))) w fun t178 w =>
 k t178 w))
 (.int .i64 0) w))))))
 (mCall Try.prog 36 #[] w fun t179 w =>
 K t179 w))
 (.int .i64 0) w))))))

theorem eq13 (a0 a1 a2 : Value) (w : World) (K : Value → World → Prop) : vcF Try.prog cOk (.n .z (.n .z (.n .z (.n .z (.n .z (.n .z (.n .z (.n .z (.n .z (.n (.n .z (.l [79] [80, 81, 82, 15, 83, 84, 85, 86, 87, 88, 89, 90, 91, 92, 93, 94, 16, 95, 96, 97, 98, 99, 100, 101, 102, 103, 104, 105, 106, 107, 108, 109, 110, 111, 17, 112, 113, 114, 115, 116, 117, 118, 119, 120, 121, 122, 123, 124, 125, 126, 127, 128, 129, 130, 131, 132, 133, 134, 135, 136, 137, 138, 139, 140, 141, 142, 143, 144, 145, 146, 147, 148, 149, 150, 151, 152, 153, 154, 155, 156, 157, 158, 159, 160, 161, 162, 164, 165, 18, 166, 167, 168, 169, 170, 171, 172, 173, 174, 175, 176, 6, 177, 163, 178, 79] (.n .z (.n .z (.n (.n .z (.n .z (.n .z (.n (.d [15] [0, 1, 2, 3, 4, 5, 6, 7, 8, 9, 10, 11, 12, 13, 14, 15, 16, 17]) (.n (.n (.d [4, 12, 19, 29, 38] [0, 1, 2, 3, 5, 6, 7, 8, 9, 10, 11, 4, 12, 13, 14, 15, 16, 17, 18, 20, 21, 19, 22, 23, 24, 25, 26, 27, 28, 30, 29, 31, 32, 33, 34, 35, 36, 37, 39, 40, 41, 42, 43, 38, 44, 45]) .z) (.n .z (.l [163] [164, 165, 18, 166, 167, 168, 169, 170, 171, 172, 173, 174, 175, 176, 6, 177, 163] (.n .z (.n .z (.n (.n .z (.n (.d [2] [0, 1, 3, 4, 5, 6, 7, 8, 9, 2, 10]) .z)) .z)))))))))) .z))))) .z)))))))))) Try.f13 [a0, a1, a2] w K = sh13 a0 a1 a2 w K := by kernel_rfl

theorem ok13 {a0 a1 a2 : Value} {w : World} {K : Value → World → Prop} (h : sh13 a0 a1 a2 w K) : Calls Try.prog 13 #[a0, a1, a2] w (retK K) :=
  calls_of_vcF (k := (.n .z (.n .z (.n .z (.n .z (.n .z (.n .z (.n .z (.n .z (.n .z (.n (.n .z (.l [79] [80, 81, 82, 15, 83, 84, 85, 86, 87, 88, 89, 90, 91, 92, 93, 94, 16, 95, 96, 97, 98, 99, 100, 101, 102, 103, 104, 105, 106, 107, 108, 109, 110, 111, 17, 112, 113, 114, 115, 116, 117, 118, 119, 120, 121, 122, 123, 124, 125, 126, 127, 128, 129, 130, 131, 132, 133, 134, 135, 136, 137, 138, 139, 140, 141, 142, 143, 144, 145, 146, 147, 148, 149, 150, 151, 152, 153, 154, 155, 156, 157, 158, 159, 160, 161, 162, 164, 165, 18, 166, 167, 168, 169, 170, 171, 172, 173, 174, 175, 176, 6, 177, 163, 178, 79] (.n .z (.n .z (.n (.n .z (.n .z (.n .z (.n (.d [15] [0, 1, 2, 3, 4, 5, 6, 7, 8, 9, 10, 11, 12, 13, 14, 15, 16, 17]) (.n (.n (.d [4, 12, 19, 29, 38] [0, 1, 2, 3, 5, 6, 7, 8, 9, 10, 11, 4, 12, 13, 14, 15, 16, 17, 18, 20, 21, 19, 22, 23, 24, 25, 26, 27, 28, 30, 29, 31, 32, 33, 34, 35, 36, 37, 39, 40, 41, 42, 43, 38, 44, 45]) .z) (.n .z (.l [163] [164, 165, 18, 166, 167, 168, 169, 170, 171, 172, 173, 174, 175, 176, 6, 177, 163] (.n .z (.n .z (.n (.n .z (.n (.d [2] [0, 1, 3, 4, 5, 6, 7, 8, 9, 2, 10]) .z)) .z)))))))))) .z))))) .z))))))))))) callsOk mixed Try.func13 ((eq13 a0 a1 a2 w K).symm ▸ h)

/-- recto/rectolaw30.RegionNeeds -/
def sh14 (a0 a1 : Value) (w : World) (K : Value → World → Prop) : Prop :=
 mCall Try.prog 17 #[(.int .i64 8)] w fun t16 w =>
 mN Try.prog (vS (Instr.extract t16 0)) w fun t17 w =>
 mN Try.prog (vS (Instr.extract t16 1)) w fun t18 w =>
 mN Try.prog (vS (eqS .neq 24 false true t18 (.int .i64 0))) w fun t20 w =>
 mIf t20
 (mN Try.prog (vS (eqS .eql 24 false true t18 (.int .i64 0))) w fun t34 w =>
 mIf t34
 (mN Try.prog (vS (eqS .neq 23 false true t17 (.pointer none))) w fun t37 w =>
 mIf t37
 (mCall Try.prog 61 #[] w fun t40 w =>
 K t40 w)
 (K (.bool false) w))
 (K (.bool false) w))
 (mN Try.prog (vS (eqS .eql 23 false true t17 (.pointer none))) w fun t23 w =>
 mIf t23
 (mN Try.prog (vS (eqS .eql 24 false true t18 (.int .i64 0))) w fun t34 w =>
 mIf t34
 (mN Try.prog (vS (eqS .neq 23 false true t17 (.pointer none))) w fun t37 w =>
 mIf t37
 (mCall Try.prog 61 #[] w fun t40 w =>
 K t40 w)
 (K (.bool false) w))
 (K (.bool false) w))
 (mN Try.prog (vS (Instr.build 110 #[(2, a0)])) w fun t27 w =>
 mN Try.prog (vS (Instr.build 110 #[(2, a1)])) w fun t29 w =>
 mN Try.prog (vS (Instr.buildSlice 111 2 #[(0, t27), (1, t29)])) w fun t30 w =>
 mCall Try.prog 60 #[t30] w fun t31 w =>
 mIf t31
 (mN Try.prog (vS (eqS .eql 24 false true t18 (.int .i64 0))) w fun t34 w =>
 mIf t34
 (mN Try.prog (vS (eqS .neq 23 false true t17 (.pointer none))) w fun t37 w =>
 mIf t37
 (mCall Try.prog 61 #[] w fun t40 w =>
 K t40 w)
 (K (.bool false) w))
 (K (.bool false) w))
 (mCall Try.prog 62 #[a0] w fun t44 w =>
 mN Try.prog (vS (Instr.extract t44 0)) w fun t45 w =>
 mN Try.prog (vS (Instr.extract t44 1)) w fun t46 w =>
 mCall Try.prog 63 #[a0] w fun t49 w =>
 mN Try.prog (vS (Instr.extract t49 0)) w fun t50 w =>
 mN Try.prog (vS (Instr.extract t49 1)) w fun t51 w =>
 mCall Try.prog 64 #[t17] w fun t54 w =>
 mN Try.prog (vS (Instr.extract t54 0)) w fun t55 w =>
 mN Try.prog (vS (Instr.extract t54 1)) w fun t56 w =>
 mN Try.prog (vS (eqS .neq 3 false false t45 t50)) w fun t59 w =>
 mIf t59
 (K (.bool false) w)
 (mN Try.prog (vS (eqS .neq 3 false false t46 t51)) w fun t63 w =>
 mIf t63
 (K (.bool false) w)
 (mN Try.prog (vS (eqS .neq 24 false true t56 (.int .i64 0))) w fun t67 w =>
 mIf t67
 (K (.bool false) w)
 (mN Try.prog (vS (eqS .eql 116 false true t55 (.pointer none))) w fun t71 w =>
 mIf t71
 (K (.bool false) w)
 (mCall Try.prog 65 #[t55, a1] w fun t75 w =>
 mCall Try.prog 66 #[t55] w fun t77 w =>
 mCall Try.prog 65 #[t55, a0] w fun t80 w =>
 mN Try.prog (vS (eqS .neq 24 false true t46 (.int .i64 0))) w fun t82 w =>
 mIf t82
 (mN Try.prog (vS (eqS .neq 24 false true t80 (.int .i64 0))) w fun t84 w =>
 mIf t84
 (mCall Try.prog 66 #[t55] w fun t87 w =>
 mN Try.prog (vS (eqS .eql 3 false false t87 t77)) w fun t89 w =>
 mIf t89
 (mCall Try.prog 61 #[] w fun t92 w =>
 K t92 w)
 (K (.bool false) w))
 (K (.bool false) w))
 (mN Try.prog (vS (eqS .eql 24 false true t80 (.int .i64 0))) w fun t95 w =>
 mN Try.prog (vS (binOp .leq 3 t45 t77)) w fun t98 w =>
 mN Try.prog (vS (eqS .eql 4 false false t95 t98)) w fun t99 w =>
 mIf t99
 (mN Try.prog (vS (eqS .eql 24 false true t80 (.int .i64 0))) w fun t102 w =>
 mIf t102
 (mCall Try.prog 66 #[t55] w fun t105 w =>
 mN Try.prog (vS (binOp .sub 3 t77 t45)) w fun t108 w =>
 mN Try.prog (vS (eqS .eql 3 false false t105 t108)) w fun t109 w =>
 mIf t109
 (mCall Try.prog 61 #[] w fun t123 w =>
 K t123 w)
 (mN Try.prog (vS (eqS .eql 24 false true t80 (.int .i64 5))) w fun t113 w =>
 mIf t113
 (mCall Try.prog 66 #[t55] w fun t116 w =>
 mN Try.prog (vS (eqS .eql 3 false false t116 t77)) w fun t118 w =>
 mIf t118
 (mCall Try.prog 61 #[] w fun t123 w =>
 K t123 w)
 (K (.bool false) w))
 (K (.bool false) w)))
 (mN Try.prog (vS (eqS .eql 24 false true t80 (.int .i64 5))) w fun t113 w =>
 mIf t113
 (mCall Try.prog 66 #[t55] w fun t116 w =>
 mN Try.prog (vS (eqS .eql 3 false false t116 t77)) w fun t118 w =>
 mIf t118
 (mCall Try.prog 61 #[] w fun t123 w =>
 K t123 w)
 (K (.bool false) w))
 (K (.bool false) w)))
 (K (.bool false) w)))))))))

theorem eq14 (a0 a1 : Value) (w : World) (K : Value → World → Prop) : vcF Try.prog cOk .z Try.f14 [a0, a1] w K = sh14 a0 a1 w K := by kernel_rfl

theorem ok14 {a0 a1 : Value} {w : World} {K : Value → World → Prop} (h : sh14 a0 a1 w K) : Calls Try.prog 14 #[a0, a1] w (retK K) :=
  calls_of_vcF (k := .z) callsOk mixed Try.func14 ((eq14 a0 a1 w K).symm ▸ h)

/-- recto/rectolaw30.RegionNil -/
def sh15 (a0 : Value) (w : World) (K : Value → World → Prop) : Prop :=
 mCall Try.prog 65 #[(.pointer none), a0] w fun t6 w =>
 mN Try.prog (vS (eqS .eql 24 false true t6 (.int .i64 7))) w fun t7 w =>
 mIf t7
 (mCall Try.prog 67 #[(.pointer none), a0] w fun t11 w =>
 mN Try.prog (vS (eqS .eql 24 false true t11 (.int .i64 7))) w fun t12 w =>
 mIf t12
 (mCall Try.prog 68 #[(.pointer none)] w fun t16 w =>
 mN Try.prog (builtin .len #[67] 3 #[false] #[t16]) w fun t17 w =>
 mN Try.prog (vS (eqS .eql 3 false true t17 (.int .i64 0))) w fun t18 w =>
 mIf t18
 (mCall Try.prog 69 #[(.pointer none)] w fun t22 w =>
 mN Try.prog (vS (eqS .eql 3 false true t22 (.int .i64 0))) w fun t23 w =>
 mIf t23
 (mCall Try.prog 66 #[(.pointer none)] w fun t27 w =>
 mN Try.prog (vS (eqS .eql 3 false true t27 (.int .i64 0))) w fun t28 w =>
 mIf t28
 (mCall Try.prog 70 #[(.pointer none)] w fun t32 w =>
 mN Try.prog (vS (eqS .eql 3 false true t32 (.int .i64 0))) w fun t33 w =>
 mIf t33
 (mCall Try.prog 61 #[] w fun t36 w =>
 K t36 w)
 (K (.bool false) w))
 (K (.bool false) w))
 (K (.bool false) w))
 (K (.bool false) w))
 (K (.bool false) w))
 (K (.bool false) w)

theorem eq15 (a0 : Value) (w : World) (K : Value → World → Prop) : vcF Try.prog cOk .z Try.f15 [a0] w K = sh15 a0 w K := by kernel_rfl

theorem ok15 {a0 : Value} {w : World} {K : Value → World → Prop} (h : sh15 a0 w K) : Calls Try.prog 15 #[a0] w (retK K) :=
  calls_of_vcF (k := .z) callsOk mixed Try.func15 ((eq15 a0 w K).symm ▸ h)

/-- recto/rectolaw30.RegionStays -/
def sh16 (a0 a1 a2 : Value) (w : World) (K : Value → World → Prop) : Prop :=
 mN Try.prog (vS (Instr.box 110 a1)) w fun t4 w =>
 mCall Try.prog 17 #[(.int .i64 12)] w fun t17 w =>
 mN Try.prog (vS (Instr.extract t17 0)) w fun t18 w =>
 mN Try.prog (vS (Instr.extract t17 1)) w fun t19 w =>
 mN Try.prog (vS (eqS .neq 24 false true t19 (.int .i64 0))) w fun t21 w =>
 mIf t21
 (mN Try.prog (vS (eqS .eql 24 false true t19 (.int .i64 0))) w fun t36 w =>
 mIf t36
 (mN Try.prog (vS (eqS .neq 23 false true t18 (.pointer none))) w fun t39 w =>
 mIf t39
 (mCall Try.prog 61 #[] w fun t42 w =>
 K t42 w)
 (K (.bool false) w))
 (K (.bool false) w))
 (mN Try.prog (vS (eqS .eql 23 false true t18 (.pointer none))) w fun t24 w =>
 mIf t24
 (mN Try.prog (vS (eqS .eql 24 false true t19 (.int .i64 0))) w fun t36 w =>
 mIf t36
 (mN Try.prog (vS (eqS .neq 23 false true t18 (.pointer none))) w fun t39 w =>
 mIf t39
 (mCall Try.prog 61 #[] w fun t42 w =>
 K t42 w)
 (K (.bool false) w))
 (K (.bool false) w))
 (mN Try.prog (vS (Instr.build 110 #[(2, a0)])) w fun t28 w =>
 mN Try.prog (vS (Instr.loadAt 110 t4)) w fun t29 w =>
 mN Try.prog (vS (Instr.build 110 #[(2, a2)])) w fun t31 w =>
 mN Try.prog (vS (Instr.buildSlice 111 3 #[(0, t28), (1, t29), (2, t31)])) w fun t32 w =>
 mCall Try.prog 60 #[t32] w fun t33 w =>
 mIf t33
 (mN Try.prog (vS (eqS .eql 24 false true t19 (.int .i64 0))) w fun t36 w =>
 mIf t36
 (mN Try.prog (vS (eqS .neq 23 false true t18 (.pointer none))) w fun t39 w =>
 mIf t39
 (mCall Try.prog 61 #[] w fun t42 w =>
 K t42 w)
 (K (.bool false) w))
 (K (.bool false) w))
 (mCall Try.prog 64 #[t18] w fun t46 w =>
 mN Try.prog (vS (Instr.extract t46 0)) w fun t47 w =>
 mN Try.prog (vS (Instr.extract t46 1)) w fun t48 w =>
 mN Try.prog (vS (eqS .neq 24 false true t48 (.int .i64 0))) w fun t50 w =>
 mIf t50
 (K (.bool false) w)
 (mN Try.prog (vS (eqS .eql 116 false true t47 (.pointer none))) w fun t53 w =>
 mIf t53
 (K (.bool false) w)
 (mCall Try.prog 65 #[t47, a0] w fun t57 w =>
 mCall Try.prog 68 #[t47] w fun t59 w =>
 mN Try.prog (vS (Instr.fieldAt 110 t4 1)) w fun t61 w =>
 mN Try.prog (vS (Instr.loadAt 3 t61)) w fun t62 w =>
 mN Try.prog (vS (Instr.build 42 #[(0, t62)])) w fun t63 w =>
 mCall Try.prog 26 #[t18, t63] w fun t64 w =>
 mN Try.prog (vS (Instr.fieldAt 110 t4 2)) w fun t66 w =>
 mN Try.prog (vS (Instr.loadAt 67 t66)) w fun t67 w =>
 mCall Try.prog 65 #[t47, t67] w fun t68 w =>
 mJ (fun (J : Value → World → Prop) =>
 mN Try.prog (vS (eqS .neq 24 false true t68 (.int .i64 0))) w fun t70 w =>
 mIf t70
 (mCall Try.prog 68 #[t47] w fun t73 w =>
 mCall Try.prog 40 #[t73, t59] w fun t75 w =>
 mN Try.prog (vS (Op.unary .not t75)) w fun t76 w =>
 J t76 w)
 (J (.bool false) w))
 (fun t77 w =>
 mIf t77
 (K (.bool false) w)
 (mCall Try.prog 68 #[t47] w fun t79 w =>
 mN Try.prog (vS (Instr.build 42 #[(0, (.int .i64 1099511627776))])) w fun t81 w =>
 mCall Try.prog 26 #[t18, t81] w fun t82 w =>
 mCall Try.prog 65 #[t47, a2] w fun t85 w =>
 mN Try.prog (vS (eqS .eql 24 false true t85 (.int .i64 0))) w fun t86 w =>
 mJ (fun (J : Value → World → Prop) =>
 mIf t86
 (mCall Try.prog 71 #[t79, a2] w fun t89 w =>
 J t89 w)
 (J t79 w))
 (fun t13 w =>
 mCall Try.prog 68 #[t47] w fun t91 w =>
 mCall Try.prog 40 #[t91, t13] w fun t93 w =>
 mN Try.prog (vS (Op.unary .not t93)) w fun t94 w =>
 mIf t94
 (K (.bool false) w)
 (mN Try.prog (vS (Instr.fieldAt 110 t4 4)) w fun t97 w =>
 mN Try.prog (vS (Instr.loadAt 35 t97)) w fun t98 w =>
 mCall Try.prog 30 #[t18, t98] w fun t99 w =>
 mN Try.prog (vS (eqS .neq 24 false true t99 (.int .i64 0))) w fun t100 w =>
 mIf t100
 (K (.bool false) w)
 (mCall Try.prog 31 #[t18] w fun t104 w =>
 mN Try.prog (vS (eqS .neq 24 false true t104 (.int .i64 0))) w fun t105 w =>
 mIf t105
 (K (.bool false) w)
 (mCall Try.prog 72 #[t18] w fun t109 w =>
 mN Try.prog (vS (Instr.extract t109 0)) w fun t110 w =>
 mN Try.prog (vS (Instr.extract t109 1)) w fun t111 w =>
 mN Try.prog (vS (eqS .eql 24 false true t111 (.int .i64 0))) w fun t113 w =>
 mIf t113
 (mN Try.prog (vS (eqS .neq 116 false true t110 (.pointer none))) w fun t116 w =>
 mIf t116
 (mCall Try.prog 68 #[t110] w fun t120 w =>
 mCall Try.prog 40 #[t120, t13] w fun t122 w =>
 mIf t122
 (mCall Try.prog 61 #[] w fun t125 w =>
 K t125 w)
 (K (.bool false) w))
 (K (.bool false) w))
 (K (.bool false) w))))))))))))

theorem eq16 (a0 a1 a2 : Value) (w : World) (K : Value → World → Prop) : vcF Try.prog cOk (.n .z (.n .z (.n .z (.n .z (.n .z (.n .z (.n .z (.n .z (.n .z (.n (.n (.j [77] [69, 70, 71, 72, 73, 74, 75, 76, 77] .z) .z) (.n .z (.n .z (.n (.n .z (.j [13] [87, 88, 89, 13] .z)) .z))))))))))))) Try.f16 [a0, a1, a2] w K = sh16 a0 a1 a2 w K := by kernel_rfl

theorem ok16 {a0 a1 a2 : Value} {w : World} {K : Value → World → Prop} (h : sh16 a0 a1 a2 w K) : Calls Try.prog 16 #[a0, a1, a2] w (retK K) :=
  calls_of_vcF (k := (.n .z (.n .z (.n .z (.n .z (.n .z (.n .z (.n .z (.n .z (.n .z (.n (.n (.j [77] [69, 70, 71, 72, 73, 74, 75, 76, 77] .z) .z) (.n .z (.n .z (.n (.n .z (.j [13] [87, 88, 89, 13] .z)) .z)))))))))))))) callsOk mixed Try.func16 ((eq16 a0 a1 a2 w K).symm ▸ h)

/-- recto/disk.New -/
def sh17 (a0 : Value) (w : World) (K : Value → World → Prop) : Prop :=
 mN Try.prog (vS (binOp .lss 3 a0 (.int .i64 4))) w fun t6 w =>
 mIf t6
 (K (.tuple #[(.pointer none), (.int .i64 1)]) w)
 (mN Try.prog (vS (binOp .gtr 3 a0 (.int .i64 128))) w fun t9 w =>
 mIf t9
 (K (.tuple #[(.pointer none), (.int .i64 1)]) w)
 (mCall Try.prog 74 #[(.string ⟨#[0]⟩), (.int .i64 256)] w fun t11 w =>
 mCall Try.prog 73 #[t11] w fun t12 w =>
 mN Try.prog (vS (Instr.alloc 124 true (.tuple #[]))) w fun t4 w =>
 mN Try.prog (uS (Instr.storeAt 124 t4 t12)) w fun _ w =>
 mN Try.prog (vS (Instr.loadAt 124 t4)) w fun t13 w =>
 mN Try.prog (vS (Instr.buildSlice 127 1 #[(0, t13)])) w fun t14 w =>
 mCall Try.prog 75 #[t14, a0] w fun t16 w =>
 mN Try.prog (vS (Instr.build 131 #[(0, t16)])) w fun t17 w =>
 mN Try.prog (vS (Instr.box 131 t17)) w fun t18 w =>
 K (.tuple #[t18, (.int .i64 0)]) w))

theorem eq17 (a0 : Value) (w : World) (K : Value → World → Prop) : vcF Try.prog cOk .z Try.f17 [a0] w K = sh17 a0 w K := by kernel_rfl

theorem ok17 {a0 : Value} {w : World} {K : Value → World → Prop} (h : sh17 a0 w K) : Calls Try.prog 17 #[a0] w (retK K) :=
  calls_of_vcF (k := .z) callsOk mixed Try.func17 ((eq17 a0 w K).symm ▸ h)

/-- recto/rectolaw27.long -/
def sh18 (a0 : Value) (w : World) (K : Value → World → Prop) : Prop :=
 mN Try.prog (builtin .len #[22] 3 #[false] #[a0]) w fun t6 w =>
 mLoop1 (fun t7 w k =>
 mN Try.prog (vS (binOp .lss 3 t7 t6)) w fun t8 w =>
 mIf t8
 (mN Try.prog (vS (Instr.indexAt 22 a0 t7)) w fun t10 w =>
 mN Try.prog (vS (Instr.loadAt 37 t10)) w fun t11 w =>
 mN Try.prog (vS (Instr.alloc 37 true (.tuple #[]))) w fun t4 w =>
 mN Try.prog (uS (Instr.storeAt 37 t4 t11)) w fun _ w =>
 mN Try.prog (vS (binOp .gtr 3 t7 (.int .i64 60))) w fun t13 w =>
 mIf t13
 (K (.bool true) w)
 (mN Try.prog (vS (Instr.fieldAt 37 t4 4)) w fun t15 w =>
 mN Try.prog (vS (Instr.loadAt 35 t15)) w fun t16 w =>
 mN Try.prog (builtin .len #[35] 3 #[false] #[t16]) w fun t17 w =>
 mN Try.prog (vS (binOp .gtr 3 t17 (.int .i64 60))) w fun t18 w =>
 mIf t18
 (K (.bool true) w)
 (mN Try.prog (vS (binOp .add 3 t7 (.int .i64 1))) w fun t20 w =>
 k t20 w)))
 (K (.bool false) w))
 (.int .i64 0) w

theorem eq18 (a0 : Value) (w : World) (K : Value → World → Prop) : vcF Try.prog cOk (.n .z (.n (.n .z (.l [7] [8, 9, 10, 11, 4, 3, 12, 13, 14, 15, 16, 17, 18, 19, 2, 20, 7] .z)) .z)) Try.f18 [a0] w K = sh18 a0 w K := by kernel_rfl

theorem ok18 {a0 : Value} {w : World} {K : Value → World → Prop} (h : sh18 a0 w K) : Calls Try.prog 18 #[a0] w (retK K) :=
  calls_of_vcF (k := (.n .z (.n (.n .z (.l [7] [8, 9, 10, 11, 4, 3, 12, 13, 14, 15, 16, 17, 18, 19, 2, 20, 7] .z)) .z))) callsOk mixed Try.func18 ((eq18 a0 w K).symm ▸ h)

/-- recto/rectolaw27.torn -/
def sh19 (w : World) (K : Value → World → Prop) : Prop :=
 mCall Try.prog 17 #[(.int .i64 4)] w fun t9 w =>
 mN Try.prog (vS (Instr.extract t9 0)) w fun t10 w =>
 mN Try.prog (vS (Instr.extract t9 1)) w fun t11 w =>
 mCall Try.prog 21 #[(.int .u8 7)] w fun t13 w =>
 mCall Try.prog 20 #[t10, (.int .i64 1), t13] w fun t14 w =>
 mN Try.prog (vS (Instr.buildSlice 35 1 #[(0, (.int .i64 2))])) w fun t16 w =>
 mCall Try.prog 30 #[t10, t16] w fun t17 w =>
 mCall Try.prog 31 #[t10] w fun t19 w =>
 mCall Try.prog 29 #[t10, (.int .i64 1)] w fun t22 w =>
 mN Try.prog (vS (Instr.extract t22 0)) w fun t23 w =>
 mN Try.prog (vS (Instr.extract t22 1)) w fun t24 w =>
 mDrew w fun w =>
 mP Try.prog (vS (eqS .eql 24 false true t11 (.int .i64 0))) fun t26 =>
 mIf t26
 (mP Try.prog (vS (eqS .eql 24 false true t14 (.int .i64 0))) fun t29 =>
 mIf t29
 (mP Try.prog (vS (eqS .eql 24 false true t17 (.int .i64 0))) fun t33 =>
 mIf t33
 (mP Try.prog (vS (eqS .eql 24 false true t19 (.int .i64 0))) fun t37 =>
 mIf t37
 (mP Try.prog (vS (eqS .eql 24 false true t24 (.int .i64 0))) fun t41 =>
 mIf t41
 (mCall Try.prog 21 #[(.int .u8 7)] w fun t45 w =>
 mP Try.prog (vS (Instr.sliceAt 9 t45 none (some (.int .i64 128)) none)) fun t46 =>
 mCall Try.prog 21 #[(.int .u8 0)] w fun t47 w =>
 mP Try.prog (vS (Instr.sliceAt 9 t47 none (some (.int .i64 128)) none)) fun t48 =>
 mP Try.prog (vS (binOp .add 9 t46 t48)) fun t49 =>
 mP Try.prog (vS (eqS .eql 9 false false t23 t49)) fun t50 =>
 mIf t50
 (mCall Try.prog 27 #[t10] w fun t54 w =>
 mIf t54
 (mCall Try.prog 28 #[t10] w fun t58 w =>
 mP Try.prog (vS (eqS .eql 3 false true t58 (.int .i64 0))) fun t59 =>
 mIf t59
 (mCall Try.prog 32 #[t10] w fun t63 w =>
 mP Try.prog (vS (eqS .eql 3 false true t63 (.int .i64 4))) fun t64 =>
 K t64 w)
 (K (.bool false) w))
 (K (.bool false) w))
 (K (.bool false) w))
 (K (.bool false) w))
 (K (.bool false) w))
 (K (.bool false) w))
 (K (.bool false) w))
 (K (.bool false) w)

theorem eq19 (w : World) (K : Value → World → Prop) : vcF Try.prog cOk (.n .z (.n .z (.n .z (.n .z (.n .z (.n .z (.n (.d [20, 22, 29, 33, 38] [0, 1, 2, 3, 4, 5, 6, 7, 8, 9, 10, 11, 12, 13, 14, 15, 16, 17, 18, 19, 20, 21, 22, 23, 24, 25, 26, 27, 28, 29, 30, 31, 32, 33, 34, 35, 36, 37, 38, 39, 40, 41]) .z))))))) Try.f19 [] w K = sh19  w K := by kernel_rfl

theorem ok19 {w : World} {K : Value → World → Prop} (h : sh19  w K) : Calls Try.prog 19 #[] w (retK K) :=
  calls_of_vcF (k := (.n .z (.n .z (.n .z (.n .z (.n .z (.n .z (.n (.d [20, 22, 29, 33, 38] [0, 1, 2, 3, 4, 5, 6, 7, 8, 9, 10, 11, 12, 13, 14, 15, 16, 17, 18, 19, 20, 21, 22, 23, 24, 25, 26, 27, 28, 29, 30, 31, 32, 33, 34, 35, 36, 37, 38, 39, 40, 41]) .z)))))))) callsOk mixed Try.func19 ((eq19  w K).symm ▸ h)

/-- (*recto/disk.Disk).Write -/
def sh20 (a0 a1 a2 : Value) (w : World) (K : Value → World → Prop) : Prop :=
 mCall Try.prog 76 #[a0, a1] w fun t12 w =>
 mN Try.prog (vS (Op.unary .not t12)) w fun t13 w =>
 mIf t13
 (K (.int .i64 1) w)
 (mN Try.prog (builtin .len #[9] 3 #[false] #[a2]) w fun t16 w =>
 mN Try.prog (vS (eqS .neq 3 false true t16 (.int .i64 256))) w fun t17 w =>
 mIf t17
 (K (.int .i64 1) w)
 (mCall Try.prog 27 #[a0] w fun t21 w =>
 mN Try.prog (vS (Op.unary .not t21)) w fun t22 w =>
 mIf t22
 (K (.int .i64 271) w)
 (mCall Try.prog 77 #[a0] w fun t25 w =>
 mN Try.prog (vS (Instr.extract t25 0)) w fun t26 w =>
 mN Try.prog (vS (Instr.extract t25 1)) w fun t27 w =>
 mIf t27
 (K t26 w)
 (mDrew w fun w =>
 mP Try.prog (nilS a0) fun t32 =>
 mP Try.prog (vS (Instr.fieldAt 131 t32 1)) fun t33 =>
 mR Try.prog (vS (Instr.loadAt 129 t33)) w fun t34 =>
 mCall Try.prog 73 #[a2] w fun t37 w =>
 rdN Try.prog (vS (Instr.loadAt 129 t33)) t34 w ∧
 mP Try.prog (vS (Instr.build 136 #[(0, a1), (1, t37)])) fun t38 =>
 mN Try.prog (vS (Instr.buildSlice 129 1 #[(0, t38)])) w fun t39 w =>
 rdN Try.prog (vS (Instr.loadAt 129 t33)) t34 w ∧
 mN Try.prog (builtin .append #[129, 129] 129 #[false, false] #[t34, t39]) w fun t40 w =>
 mP Try.prog (nilS a0) fun t41 =>
 mP Try.prog (vS (Instr.fieldAt 131 t41 1)) fun t42 =>
 mN Try.prog (uS (Instr.storeAt 129 t42 t40)) w fun _ w =>
 K (.int .i64 0) w))))

theorem eq20 (a0 a1 a2 : Value) (w : World) (K : Value → World → Prop) : vcF Try.prog cOk (.n .z (.n .z (.n .z (.n (.d [7, 9, 10, 13] [0, 1, 2, 3, 4, 5, 6, 7, 8, 9, 10, 11, 12, 13]) .z)))) Try.f20 [a0, a1, a2] w K = sh20 a0 a1 a2 w K := by kernel_rfl

theorem ok20 {a0 a1 a2 : Value} {w : World} {K : Value → World → Prop} (h : sh20 a0 a1 a2 w K) : Calls Try.prog 20 #[a0, a1, a2] w (retK K) :=
  calls_of_vcF (k := (.n .z (.n .z (.n .z (.n (.d [7, 9, 10, 13] [0, 1, 2, 3, 4, 5, 6, 7, 8, 9, 10, 11, 12, 13]) .z))))) callsOk mixed Try.func20 ((eq20 a0 a1 a2 w K).symm ▸ h)

/-- recto/rectolaw27.fill -/
def sh21 (a0 : Value) (w : World) (K : Value → World → Prop) : Prop :=
 mN Try.prog (vS (Instr.makeSlice 52 (.int .i64 256) (.int .i64 256))) w fun t5 w =>
 mN Try.prog (builtin .len #[52] 3 #[false] #[t5]) w fun t7 w =>
 mLoop1 (fun t8 w k =>
 mN Try.prog (vS (binOp .lss 3 t8 t7)) w fun t9 w =>
 mIf t9
 (mN Try.prog (vS (Instr.indexAt 52 t5 t8)) w fun t14 w =>
 mN Try.prog (uS (Instr.storeAt 5 t14 a0)) w fun _ w =>
 mN Try.prog (vS (binOp .add 3 t8 (.int .i64 1))) w fun t15 w =>
 k t15 w)
 (mN Try.prog (vS (convert 52 9 t5)) w fun t17 w =>
 K t17 w))
 (.int .i64 0) w

theorem eq21 (a0 : Value) (w : World) (K : Value → World → Prop) : vcF Try.prog cOk (.n .z (.n .z (.n (.n .z (.l [8] [9, 10, 4, 11, 12, 13, 14, 15, 8] .z)) .z))) Try.f21 [a0] w K = sh21 a0 w K := by kernel_rfl

theorem ok21 {a0 : Value} {w : World} {K : Value → World → Prop} (h : sh21 a0 w K) : Calls Try.prog 21 #[a0] w (retK K) :=
  calls_of_vcF (k := (.n .z (.n .z (.n (.n .z (.l [8] [9, 10, 4, 11, 12, 13, 14, 15, 8] .z)) .z)))) callsOk mixed Try.func21 ((eq21 a0 w K).symm ▸ h)

/-- (*recto/disk.Disk).Flush -/
def sh22 (a0 : Value) (w : World) (K : Value → World → Prop) : Prop :=
 mCall Try.prog 27 #[a0] w fun t8 w =>
 mN Try.prog (vS (Op.unary .not t8)) w fun t9 w =>
 mIf t9
 (K (.int .i64 271) w)
 (mCall Try.prog 77 #[a0] w fun t12 w =>
 mN Try.prog (vS (Instr.extract t12 0)) w fun t13 w =>
 mN Try.prog (vS (Instr.extract t12 1)) w fun t14 w =>
 mN Try.prog (vS (Op.unary .not t14)) w fun t16 w =>
 mIf t16
 (mN Try.prog (nilS a0) w fun t18 w =>
 mN Try.prog (vS (Instr.fieldAt 131 t18 1)) w fun t19 w =>
 mN Try.prog (vS (Instr.loadAt 129 t19)) w fun t20 w =>
 mN Try.prog (builtin .len #[129] 3 #[false] #[t20]) w fun t21 w =>
 mLoop1 (fun t22 w k =>
 mN Try.prog (vS (binOp .lss 3 t22 t21)) w fun t23 w =>
 mIf t23
 (mN Try.prog (vS (Instr.indexAt 129 t20 t22)) w fun t24 w =>
 mN Try.prog (vS (Instr.loadAt 136 t24)) w fun t25 w =>
 mN Try.prog (vS (Instr.alloc 136 true (.tuple #[]))) w fun t6 w =>
 mN Try.prog (uS (Instr.storeAt 136 t6 t25)) w fun _ w =>
 mDrew w fun w =>
 mP Try.prog (nilS a0) fun t27 =>
 mP Try.prog (vS (Instr.fieldAt 131 t27 0)) fun t28 =>
 mR Try.prog (vS (Instr.loadAt 127 t28)) w fun t29 =>
 mP Try.prog (vS (Instr.fieldAt 136 t6 0)) fun t30 =>
 mR Try.prog (vS (Instr.loadAt 3 t30)) w fun t31 =>
 mP Try.prog (vS (Instr.fieldAt 136 t6 1)) fun t32 =>
 mR Try.prog (vS (Instr.loadAt 124 t32)) w fun t33 =>
 mP Try.prog (vS (Instr.indexAt 127 t29 t31)) fun t34 =>
 mN Try.prog (uS (Instr.storeAt 124 t34 t33)) w fun _ w =>
 mN Try.prog (vS (binOp .add 3 t22 (.int .i64 1))) w fun t35 w =>
 k t35 w)
 (mN Try.prog (nilS a0) w fun t37 w =>
 mN Try.prog (vS (Instr.fieldAt 131 t37 1)) w fun t38 w =>
 mN Try.prog (uS (Instr.storeAt 129 t38 (.slice none 0 0))) w fun _ w =>
 K t13 w))
 (.int .i64 0) w)
 (mN Try.prog (nilS a0) w fun t37 w =>
 mN Try.prog (vS (Instr.fieldAt 131 t37 1)) w fun t38 w =>
 mN Try.prog (uS (Instr.storeAt 129 t38 (.slice none 0 0))) w fun _ w =>
 K t13 w))

theorem eq22 (a0 : Value) (w : World) (K : Value → World → Prop) : vcF Try.prog cOk (.n .z (.n .z (.n .z (.n (.n .z (.n (.n .z (.l [22] [23, 24, 25, 6, 26, 27, 28, 29, 30, 31, 32, 33, 34, 35, 22] (.n .z (.n .z (.n (.n .z (.d [9] [0, 1, 2, 3, 4, 5, 6, 7, 8, 9])) .z))))) .z)) .z)))) Try.f22 [a0] w K = sh22 a0 w K := by kernel_rfl

theorem ok22 {a0 : Value} {w : World} {K : Value → World → Prop} (h : sh22 a0 w K) : Calls Try.prog 22 #[a0] w (retK K) :=
  calls_of_vcF (k := (.n .z (.n .z (.n .z (.n (.n .z (.n (.n .z (.l [22] [23, 24, 25, 6, 26, 27, 28, 29, 30, 31, 32, 33, 34, 35, 22] (.n .z (.n .z (.n (.n .z (.d [9] [0, 1, 2, 3, 4, 5, 6, 7, 8, 9])) .z))))) .z)) .z))))) callsOk mixed Try.func22 ((eq22 a0 w K).symm ▸ h)

/-- (*recto/disk.Disk).Lasts -/
def sh23 (a0 a1 : Value) (w : World) (K : Value → World → Prop) : Prop :=
 mCall Try.prog 76 #[a0, a1] w fun t7 w =>
 mN Try.prog (vS (Op.unary .not t7)) w fun t8 w =>
 mIf t8
 (K (.string ⟨#[]⟩) w)
 (mN Try.prog (nilS a0) w fun t10 w =>
 mN Try.prog (vS (Instr.fieldAt 131 t10 0)) w fun t11 w =>
 mN Try.prog (vS (Instr.loadAt 127 t11)) w fun t12 w =>
 mN Try.prog (vS (Instr.indexAt 127 t12 a1)) w fun t14 w =>
 mN Try.prog (vS (Instr.loadAt 124 t14)) w fun t15 w =>
 mCall Try.prog 78 #[t15] w fun t16 w =>
 K t16 w)

theorem eq23 (a0 a1 : Value) (w : World) (K : Value → World → Prop) : vcF Try.prog cOk .z Try.f23 [a0, a1] w K = sh23 a0 a1 w K := by kernel_rfl

theorem ok23 {a0 a1 : Value} {w : World} {K : Value → World → Prop} (h : sh23 a0 a1 w K) : Calls Try.prog 23 #[a0, a1] w (retK K) :=
  calls_of_vcF (k := .z) callsOk mixed Try.func23 ((eq23 a0 a1 w K).symm ▸ h)

/-- recto/rectoref27.New -/
def sh24 (a0 : Value) (w : World) (K : Value → World → Prop) : Prop :=
 mLoop2 (fun t3 t4 w k =>
 mN Try.prog (vS (binOp .lss 3 t4 (.int .i64 256))) w fun t8 w =>
 mIf t8
 (mN Try.prog (vS (binOp .add 9 t3 (.string ⟨#[0]⟩))) w fun t12 w =>
 mN Try.prog (vS (binOp .add 3 t4 (.int .i64 1))) w fun t10 w =>
 k t12 t10 w)
 (mN Try.prog (vS (Instr.build 106 #[])) w fun t13 w =>
 mN Try.prog (vS (Instr.box 106 t13)) w fun t14 w =>
 mLoop1 (fun t6 w k1 =>
 mN Try.prog (vS (binOp .lss 3 t6 a0)) w fun t17 w =>
 mIf t17
 (mN Try.prog (nilS t14) w fun t22 w =>
 mN Try.prog (vS (Instr.fieldAt 106 t22 0)) w fun t23 w =>
 mN Try.prog (vS (Instr.loadAt 67 t23)) w fun t24 w =>
 mN Try.prog (vS (Instr.buildSlice 67 1 #[(0, t3)])) w fun t26 w =>
 mN Try.prog (builtin .append #[67, 67] 67 #[false, false] #[t24, t26]) w fun t27 w =>
 mN Try.prog (nilS t14) w fun t28 w =>
 mN Try.prog (vS (Instr.fieldAt 106 t28 0)) w fun t29 w =>
 mN Try.prog (uS (Instr.storeAt 67 t29 t27)) w fun _ w =>
 mN Try.prog (vS (binOp .add 3 t6 (.int .i64 1))) w fun t19 w =>
 k1 t19 w)
 (K t14 w))
 (.int .i64 0) w))
 (.string ⟨#[]⟩) (.int .i64 0) w

theorem eq24 (a0 : Value) (w : World) (K : Value → World → Prop) : vcF Try.prog cOk (.n .z (.n .z (.n (.n .z (.l [3, 4] [7, 8, 11, 12, 3, 9, 10, 4] .z)) (.n .z (.n (.n .z (.l [6] [15, 16, 17, 20, 21, 22, 23, 24, 25, 26, 27, 28, 29, 18, 19, 6] .z)) .z))))) Try.f24 [a0] w K = sh24 a0 w K := by kernel_rfl

theorem ok24 {a0 : Value} {w : World} {K : Value → World → Prop} (h : sh24 a0 w K) : Calls Try.prog 24 #[a0] w (retK K) :=
  calls_of_vcF (k := (.n .z (.n .z (.n (.n .z (.l [3, 4] [7, 8, 11, 12, 3, 9, 10, 4] .z)) (.n .z (.n (.n .z (.l [6] [15, 16, 17, 20, 21, 22, 23, 24, 25, 26, 27, 28, 29, 18, 19, 6] .z)) .z)))))) callsOk mixed Try.func24 ((eq24 a0 w K).symm ▸ h)

/-- recto/rectolaw27.does -/
def sh25 (a0 a1 a2 : Value) (w : World) (K : Value → World → Prop) : Prop :=
 mN Try.prog (vS (Instr.box 37 a2)) w fun t5 w =>
 mN Try.prog (vS (Instr.fieldAt 37 t5 0)) w fun t7 w =>
 mN Try.prog (vS (Instr.loadAt 3 t7)) w fun t8 w =>
 mN Try.prog (vS (eqS .eql 3 false true t8 (.int .i64 0))) w fun t10 w =>
 mJ (fun (J : Value → World → Prop) =>
 mIf t10
 (J t10 w)
 (mN Try.prog (vS (eqS .eql 3 false true t8 (.int .i64 1))) w fun t11 w =>
 mIf t11
 (J t11 w)
 (mN Try.prog (vS (eqS .eql 3 false true t8 (.int .i64 2))) w fun t12 w =>
 J t12 w)))
 (fun t9 w =>
 mIf t9
 (mDrew w fun w =>
 mP Try.prog (vS (Instr.fieldAt 37 t5 1)) fun t14 =>
 mR Try.prog (vS (Instr.loadAt 3 t14)) w fun t15 =>
 mP Try.prog (vS (Instr.fieldAt 37 t5 2)) fun t16 =>
 mR Try.prog (vS (Instr.loadAt 5 t16)) w fun t17 =>
 mP Try.prog (vS (Instr.fieldAt 37 t5 1)) fun t21 =>
 mR Try.prog (vS (Instr.loadAt 3 t21)) w fun t22 =>
 mP Try.prog (vS (Instr.fieldAt 37 t5 2)) fun t23 =>
 mR Try.prog (vS (Instr.loadAt 5 t23)) w fun t24 =>
 mCall Try.prog 21 #[t17] w fun t18 w =>
 rdN Try.prog (vS (Instr.loadAt 5 t23)) t24 w ∧
 rdN Try.prog (vS (Instr.loadAt 3 t21)) t22 w ∧
 rdN Try.prog (vS (Instr.loadAt 3 t14)) t15 w ∧
 mCall Try.prog 20 #[a0, t15, t18] w fun t19 w =>
 rdN Try.prog (vS (Instr.loadAt 5 t23)) t24 w ∧
 rdN Try.prog (vS (Instr.loadAt 3 t21)) t22 w ∧
 mCall Try.prog 21 #[t24] w fun t25 w =>
 rdN Try.prog (vS (Instr.loadAt 3 t21)) t22 w ∧
 mCall Try.prog 37 #[a1, t22, t25] w fun t26 w =>
 mP Try.prog (vS (eqS .eql 3 false false t19 t26)) fun t27 =>
 K t27 w)
 (mN Try.prog (vS (eqS .eql 3 false true t8 (.int .i64 3))) w fun t29 w =>
 mIf t29
 (mCall Try.prog 22 #[a0] w fun t31 w =>
 mCall Try.prog 79 #[a1] w fun t33 w =>
 mN Try.prog (vS (eqS .eql 3 false false t31 t33)) w fun t34 w =>
 K t34 w)
 (mN Try.prog (vS (eqS .eql 3 false true t8 (.int .i64 4))) w fun t36 w =>
 mIf t36
 (mDrew w fun w =>
 mP Try.prog (vS (Instr.fieldAt 37 t5 4)) fun t38 =>
 mR Try.prog (vS (Instr.loadAt 35 t38)) w fun t39 =>
 mP Try.prog (vS (Instr.fieldAt 37 t5 4)) fun t42 =>
 mR Try.prog (vS (Instr.loadAt 35 t42)) w fun t43 =>
 mCall Try.prog 30 #[a0, t39] w fun t40 w =>
 rdN Try.prog (vS (Instr.loadAt 35 t42)) t43 w ∧
 mCall Try.prog 80 #[a1, t43] w fun t44 w =>
 mP Try.prog (vS (eqS .eql 3 false false t40 t44)) fun t45 =>
 K t45 w)
 (mN Try.prog (vS (eqS .eql 3 false true t8 (.int .i64 5))) w fun t47 w =>
 mIf t47
 (mCall Try.prog 31 #[a0] w fun t49 w =>
 mCall Try.prog 81 #[a1] w fun t51 w =>
 mN Try.prog (vS (eqS .eql 3 false false t49 t51)) w fun t52 w =>
 K t52 w)
 (mN Try.prog (vS (eqS .eql 3 false true t8 (.int .i64 6))) w fun t54 w =>
 mIf t54
 (mDrew w fun w =>
 mP Try.prog (vS (Instr.fieldAt 37 t5 1)) fun t56 =>
 mR Try.prog (vS (Instr.loadAt 3 t56)) w fun t57 =>
 mP Try.prog (vS (Instr.fieldAt 37 t5 3)) fun t58 =>
 mR Try.prog (vS (Instr.loadAt 4 t58)) w fun t59 =>
 mP Try.prog (vS (Instr.fieldAt 37 t5 4)) fun t60 =>
 mR Try.prog (vS (Instr.loadAt 35 t60)) w fun t61 =>
 mP Try.prog (vS (Instr.build 42 #[(0, t57), (1, t59), (2, t61)])) fun t62 =>
 mP Try.prog (vS (Instr.fieldAt 37 t5 1)) fun t65 =>
 mR Try.prog (vS (Instr.loadAt 3 t65)) w fun t66 =>
 mP Try.prog (vS (Instr.fieldAt 37 t5 3)) fun t67 =>
 mR Try.prog (vS (Instr.loadAt 4 t67)) w fun t68 =>
 mP Try.prog (vS (Instr.fieldAt 37 t5 4)) fun t69 =>
 mR Try.prog (vS (Instr.loadAt 35 t69)) w fun t70 =>
 mP Try.prog (vS (Instr.build 104 #[(0, t66), (1, t68), (2, t70)])) fun t71 =>
 mCall Try.prog 26 #[a0, t62] w fun t63 w =>
 rdN Try.prog (vS (Instr.loadAt 35 t69)) t70 w ∧
 rdN Try.prog (vS (Instr.loadAt 4 t67)) t68 w ∧
 rdN Try.prog (vS (Instr.loadAt 3 t65)) t66 w ∧
 rdN Try.prog (vS (Instr.loadAt 35 t60)) t61 w ∧
 rdN Try.prog (vS (Instr.loadAt 4 t58)) t59 w ∧
 rdN Try.prog (vS (Instr.loadAt 3 t56)) t57 w ∧
 mCall Try.prog 82 #[a1, t71] w fun t72 w =>
 rdN Try.prog (vS (Instr.loadAt 35 t69)) t70 w ∧
 rdN Try.prog (vS (Instr.loadAt 4 t67)) t68 w ∧
 rdN Try.prog (vS (Instr.loadAt 3 t65)) t66 w ∧
 rdN Try.prog (vS (Instr.loadAt 35 t60)) t61 w ∧
 rdN Try.prog (vS (Instr.loadAt 4 t58)) t59 w ∧
 rdN Try.prog (vS (Instr.loadAt 3 t56)) t57 w ∧
 mP Try.prog (vS (eqS .eql 3 false false t63 t72)) fun t73 =>
 K t73 w)
 (mN Try.prog (vS (eqS .eql 3 false true t8 (.int .i64 7))) w fun t75 w =>
 mIf t75
 (mN Try.prog (vS (Instr.fieldAt 37 t5 1)) w fun t77 w =>
 mN Try.prog (vS (Instr.loadAt 3 t77)) w fun t78 w =>
 mCall Try.prog 20 #[a0, t78, (.string ⟨#[120]⟩)] w fun t79 w =>
 mN Try.prog (vS (eqS .eql 24 false true t79 (.int .i64 1))) w fun t80 w =>
 K t80 w)
 (K (.bool true) w)))))))

theorem eq25 (a0 a1 a2 : Value) (w : World) (K : Value → World → Prop) : vcF Try.prog cOk (.n .z (.n (.n .z (.n (.n .z (.j [9] [11, 12, 9] .z)) (.n (.n (.d [5, 6, 12, 13] [0, 1, 2, 3, 4, 7, 8, 9, 10, 11, 5, 6, 12, 13, 14, 15]) .z) (.n .z (.n .z (.n .z (.n (.n (.d [3, 7] [0, 1, 2, 4, 5, 6, 3, 7, 8, 9]) .z) (.n .z (.n .z (.n .z (.n (.n (.d [8, 17] [0, 1, 2, 3, 4, 5, 6, 7, 9, 10, 11, 12, 13, 14, 15, 16, 8, 17, 18, 19]) .z) .z))))))))))) .z)) Try.f25 [a0, a1, a2] w K = sh25 a0 a1 a2 w K := by kernel_rfl

theorem ok25 {a0 a1 a2 : Value} {w : World} {K : Value → World → Prop} (h : sh25 a0 a1 a2 w K) : Calls Try.prog 25 #[a0, a1, a2] w (retK K) :=
  calls_of_vcF (k := (.n .z (.n (.n .z (.n (.n .z (.j [9] [11, 12, 9] .z)) (.n (.n (.d [5, 6, 12, 13] [0, 1, 2, 3, 4, 7, 8, 9, 10, 11, 5, 6, 12, 13, 14, 15]) .z) (.n .z (.n .z (.n .z (.n (.n (.d [3, 7] [0, 1, 2, 4, 5, 6, 3, 7, 8, 9]) .z) (.n .z (.n .z (.n .z (.n (.n (.d [8, 17] [0, 1, 2, 3, 4, 5, 6, 7, 9, 10, 11, 12, 13, 14, 15, 16, 8, 17, 18, 19]) .z) .z))))))))))) .z))) callsOk mixed Try.func25 ((eq25 a0 a1 a2 w K).symm ▸ h)

/-- (*recto/disk.Disk).Set -/
def sh26 (a0 a1 : Value) (w : World) (K : Value → World → Prop) : Prop :=
 mN Try.prog (vS (Instr.box 42 a1)) w fun t3 w =>
 mN Try.prog (vS (Instr.fieldAt 42 t3 0)) w fun t6 w =>
 mN Try.prog (vS (Instr.loadAt 3 t6)) w fun t7 w =>
 mN Try.prog (vS (binOp .lss 3 t7 (.int .i64 0))) w fun t8 w =>
 mIf t8
 (K (.int .i64 1) w)
 (mCall Try.prog 27 #[a0] w fun t11 w =>
 mN Try.prog (vS (Op.unary .not t11)) w fun t12 w =>
 mIf t12
 (K (.int .i64 271) w)
 (mN Try.prog (vS (Instr.fieldAt 42 t3 2)) w fun t13 w =>
 mN Try.prog (vS (Instr.loadAt 35 t13)) w fun t14 w =>
 mCall Try.prog 83 #[t14] w fun t15 w =>
 mN Try.prog (vS (Instr.fieldAt 42 t3 2)) w fun t16 w =>
 mN Try.prog (uS (Instr.storeAt 35 t16 t15)) w fun _ w =>
 mN Try.prog (vS (Instr.loadAt 42 t3)) w fun t19 w =>
 mN Try.prog (nilS a0) w fun t20 w =>
 mN Try.prog (vS (Instr.fieldAt 131 t20 4)) w fun t21 w =>
 mN Try.prog (uS (Instr.storeAt 42 t21 t19)) w fun _ w =>
 mN Try.prog (nilS a0) w fun t22 w =>
 mN Try.prog (vS (Instr.fieldAt 131 t22 3)) w fun t23 w =>
 mN Try.prog (uS (Instr.storeAt 4 t23 (.bool true))) w fun _ w =>
 K (.int .i64 0) w))

theorem eq26 (a0 a1 : Value) (w : World) (K : Value → World → Prop) : vcF Try.prog cOk .z Try.f26 [a0, a1] w K = sh26 a0 a1 w K := by kernel_rfl

theorem ok26 {a0 a1 : Value} {w : World} {K : Value → World → Prop} (h : sh26 a0 a1 w K) : Calls Try.prog 26 #[a0, a1] w (retK K) :=
  calls_of_vcF (k := .z) callsOk mixed Try.func26 ((eq26 a0 a1 w K).symm ▸ h)

/-- (*recto/disk.Disk).Up -/
def sh27 (a0 : Value) (w : World) (K : Value → World → Prop) : Prop :=
 mN Try.prog (vS (eqS .neq 23 false true a0 (.pointer none))) w fun t4 w =>
 mIf t4
 (mN Try.prog (nilS a0) w fun t7 w =>
 mN Try.prog (vS (Instr.fieldAt 131 t7 2)) w fun t8 w =>
 mN Try.prog (vS (Instr.loadAt 4 t8)) w fun t9 w =>
 mN Try.prog (vS (Op.unary .not t9)) w fun t10 w =>
 K t10 w)
 (K (.bool false) w)

theorem eq27 (a0 : Value) (w : World) (K : Value → World → Prop) : vcF Try.prog cOk .z Try.f27 [a0] w K = sh27 a0 w K := by kernel_rfl

theorem ok27 {a0 : Value} {w : World} {K : Value → World → Prop} (h : sh27 a0 w K) : Calls Try.prog 27 #[a0] w (retK K) :=
  calls_of_vcF (k := .z) callsOk mixed Try.func27 ((eq27 a0 w K).symm ▸ h)

/-- (*recto/disk.Disk).Waits -/
def sh28 (a0 : Value) (w : World) (K : Value → World → Prop) : Prop :=
 mN Try.prog (vS (eqS .eql 23 false true a0 (.pointer none))) w fun t4 w =>
 mIf t4
 (K (.int .i64 0) w)
 (mN Try.prog (nilS a0) w fun t6 w =>
 mN Try.prog (vS (Instr.fieldAt 131 t6 1)) w fun t7 w =>
 mN Try.prog (vS (Instr.loadAt 129 t7)) w fun t8 w =>
 mN Try.prog (builtin .len #[129] 3 #[false] #[t8]) w fun t9 w =>
 K t9 w)

theorem eq28 (a0 : Value) (w : World) (K : Value → World → Prop) : vcF Try.prog cOk .z Try.f28 [a0] w K = sh28 a0 w K := by kernel_rfl

theorem ok28 {a0 : Value} {w : World} {K : Value → World → Prop} (h : sh28 a0 w K) : Calls Try.prog 28 #[a0] w (retK K) :=
  calls_of_vcF (k := .z) callsOk mixed Try.func28 ((eq28 a0 w K).symm ▸ h)

/-- (*recto/disk.Disk).Read -/
def sh29 (a0 a1 : Value) (w : World) (K : Value → World → Prop) : Prop :=
 mCall Try.prog 76 #[a0, a1] w fun t12 w =>
 mN Try.prog (vS (Op.unary .not t12)) w fun t13 w =>
 mIf t13
 (K (.tuple #[(.string ⟨#[]⟩), (.int .i64 1)]) w)
 (mCall Try.prog 27 #[a0] w fun t16 w =>
 mN Try.prog (vS (Op.unary .not t16)) w fun t17 w =>
 mIf t17
 (K (.tuple #[(.string ⟨#[]⟩), (.int .i64 271)]) w)
 (mN Try.prog (nilS a0) w fun t19 w =>
 mN Try.prog (vS (Instr.fieldAt 131 t19 0)) w fun t20 w =>
 mN Try.prog (vS (Instr.loadAt 127 t20)) w fun t21 w =>
 mN Try.prog (vS (Instr.indexAt 127 t21 a1)) w fun t23 w =>
 mN Try.prog (vS (Instr.loadAt 124 t23)) w fun t24 w =>
 mN Try.prog (vS (Instr.alloc 124 true (.tuple #[]))) w fun t6 w =>
 mN Try.prog (uS (Instr.storeAt 124 t6 t24)) w fun _ w =>
 mN Try.prog (nilS a0) w fun t26 w =>
 mN Try.prog (vS (Instr.fieldAt 131 t26 1)) w fun t27 w =>
 mN Try.prog (vS (Instr.loadAt 129 t27)) w fun t28 w =>
 mN Try.prog (builtin .len #[129] 3 #[false] #[t28]) w fun t29 w =>
 mLoop1 (fun t30 w k =>
 mN Try.prog (vS (binOp .lss 3 t30 t29)) w fun t31 w =>
 mIf t31
 (mN Try.prog (vS (Instr.indexAt 129 t28 t30)) w fun t32 w =>
 mN Try.prog (vS (Instr.loadAt 136 t32)) w fun t33 w =>
 mN Try.prog (vS (Instr.alloc 136 true (.tuple #[]))) w fun t8 w =>
 mN Try.prog (uS (Instr.storeAt 136 t8 t33)) w fun _ w =>
 mN Try.prog (vS (Instr.fieldAt 136 t8 0)) w fun t34 w =>
 mN Try.prog (vS (Instr.loadAt 3 t34)) w fun t35 w =>
 mN Try.prog (vS (eqS .eql 3 false false t35 a1)) w fun t37 w =>
 mIf t37
 (mN Try.prog (vS (Instr.fieldAt 136 t8 1)) w fun t38 w =>
 mN Try.prog (vS (Instr.loadAt 124 t38)) w fun t39 w =>
 mN Try.prog (uS (Instr.storeAt 124 t6 t39)) w fun _ w =>
 mN Try.prog (vS (binOp .add 3 t30 (.int .i64 1))) w fun t40 w =>
 k t40 w)
 (mN Try.prog (vS (binOp .add 3 t30 (.int .i64 1))) w fun t40 w =>
 k t40 w))
 (mN Try.prog (vS (Instr.loadAt 124 t6)) w fun t41 w =>
 mCall Try.prog 78 #[t41] w fun t42 w =>
 K (.tuple #[t42, (.int .i64 0)]) w))
 (.int .i64 0) w))

theorem eq29 (a0 a1 : Value) (w : World) (K : Value → World → Prop) : vcF Try.prog cOk (.n .z (.n .z (.n .z (.n (.n .z (.l [30] [31, 32, 33, 8, 34, 35, 36, 37, 38, 39, 40, 30] .z)) .z)))) Try.f29 [a0, a1] w K = sh29 a0 a1 w K := by kernel_rfl

theorem ok29 {a0 a1 : Value} {w : World} {K : Value → World → Prop} (h : sh29 a0 a1 w K) : Calls Try.prog 29 #[a0, a1] w (retK K) :=
  calls_of_vcF (k := (.n .z (.n .z (.n .z (.n (.n .z (.l [30] [31, 32, 33, 8, 34, 35, 36, 37, 38, 39, 40, 30] .z)) .z))))) callsOk mixed Try.func29 ((eq29 a0 a1 w K).symm ▸ h)

/-- (*recto/disk.Disk).Crash -/
def sh30 (a0 a1 : Value) (w : World) (K : Value → World → Prop) : Prop :=
 mCall Try.prog 27 #[a0] w fun t6 w =>
 mN Try.prog (vS (Op.unary .not t6)) w fun t7 w =>
 mIf t7
 (K (.int .i64 271) w)
 (mCall Try.prog 84 #[a0, a1] w fun t10 w =>
 K (.int .i64 0) w)

theorem eq30 (a0 a1 : Value) (w : World) (K : Value → World → Prop) : vcF Try.prog cOk .z Try.f30 [a0, a1] w K = sh30 a0 a1 w K := by kernel_rfl

theorem ok30 {a0 a1 : Value} {w : World} {K : Value → World → Prop} (h : sh30 a0 a1 w K) : Calls Try.prog 30 #[a0, a1] w (retK K) :=
  calls_of_vcF (k := .z) callsOk mixed Try.func30 ((eq30 a0 a1 w K).symm ▸ h)

/-- (*recto/disk.Disk).Start -/
def sh31 (a0 : Value) (w : World) (K : Value → World → Prop) : Prop :=
 mN Try.prog (vS (eqS .eql 23 false true a0 (.pointer none))) w fun t4 w =>
 mIf t4
 (K (.int .i64 7) w)
 (mN Try.prog (nilS a0) w fun t7 w =>
 mN Try.prog (vS (Instr.fieldAt 131 t7 2)) w fun t8 w =>
 mN Try.prog (vS (Instr.loadAt 4 t8)) w fun t9 w =>
 mN Try.prog (vS (Op.unary .not t9)) w fun t10 w =>
 mIf t10
 (K (.int .i64 7) w)
 (mN Try.prog (nilS a0) w fun t13 w =>
 mN Try.prog (vS (Instr.fieldAt 131 t13 2)) w fun t14 w =>
 mN Try.prog (uS (Instr.storeAt 4 t14 (.bool false))) w fun _ w =>
 K (.int .i64 0) w))

theorem eq31 (a0 : Value) (w : World) (K : Value → World → Prop) : vcF Try.prog cOk .z Try.f31 [a0] w K = sh31 a0 w K := by kernel_rfl

theorem ok31 {a0 : Value} {w : World} {K : Value → World → Prop} (h : sh31 a0 w K) : Calls Try.prog 31 #[a0] w (retK K) :=
  calls_of_vcF (k := .z) callsOk mixed Try.func31 ((eq31 a0 w K).symm ▸ h)

/-- (*recto/disk.Disk).Blocks -/
def sh32 (a0 : Value) (w : World) (K : Value → World → Prop) : Prop :=
 mN Try.prog (vS (eqS .eql 23 false true a0 (.pointer none))) w fun t4 w =>
 mIf t4
 (K (.int .i64 0) w)
 (mN Try.prog (nilS a0) w fun t6 w =>
 mN Try.prog (vS (Instr.fieldAt 131 t6 0)) w fun t7 w =>
 mN Try.prog (vS (Instr.loadAt 127 t7)) w fun t8 w =>
 mN Try.prog (builtin .len #[127] 3 #[false] #[t8]) w fun t9 w =>
 K t9 w)

theorem eq32 (a0 : Value) (w : World) (K : Value → World → Prop) : vcF Try.prog cOk .z Try.f32 [a0] w K = sh32 a0 w K := by kernel_rfl

theorem ok32 {a0 : Value} {w : World} {K : Value → World → Prop} (h : sh32 a0 w K) : Calls Try.prog 32 #[a0] w (retK K) :=
  calls_of_vcF (k := .z) callsOk mixed Try.func32 ((eq32 a0 w K).symm ▸ h)

/-- recto/slot.Block -/
def sh33 (a0 : Value) (w : World) (K : Value → World → Prop) : Prop :=
 mN Try.prog (vS (Instr.box 50 a0)) w fun t1 w =>
 mN Try.prog (vS (Instr.loadAt 50 t1)) w fun t9 w =>
 mCall Try.prog 85 #[t9] w fun t10 w =>
 mN Try.prog (vS (Op.unary .not t10)) w fun t11 w =>
 mIf t11
 (K (.tuple #[(.string ⟨#[]⟩), (.int .i64 1)]) w)
 (mN Try.prog (vS (Instr.loadAt 50 t1)) w fun t12 w =>
 mCall Try.prog 86 #[t12] w fun t13 w =>
 mLoop2 (fun t4 t14 w k =>
 mN Try.prog (vS (binOp .lss 3 t14 (.int .i64 4))) w fun t15 w =>
 mIf t15
 (mN Try.prog (vS (Instr.index 142 t13 t14)) w fun t16 w =>
 mCall Try.prog 87 #[t16] w fun t19 w =>
 mN Try.prog (vS (Instr.extract t19 0)) w fun t20 w =>
 mN Try.prog (vS (Instr.extract t19 1)) w fun t21 w =>
 mN Try.prog (vS (binOp .add 9 t4 t20)) w fun t24 w =>
 mN Try.prog (vS (binOp .add 3 t14 (.int .i64 1))) w fun t25 w =>
 k t24 t25 w)
 (mCall Try.prog 88 #[t4] w fun t27 w =>
 K (.tuple #[t27, (.int .i64 0)]) w))
 (.string ⟨#[114, 99, 116, 111]⟩) (.int .i64 0) w)

theorem eq33 (a0 : Value) (w : World) (K : Value → World → Prop) : vcF Try.prog cOk (.n .z (.n .z (.n .z (.n (.n .z (.l [4, 14] [15, 16, 6, 18, 19, 17, 20, 21, 7, 8, 22, 23, 24, 4, 25, 14] .z)) .z)))) Try.f33 [a0] w K = sh33 a0 w K := by kernel_rfl

theorem ok33 {a0 : Value} {w : World} {K : Value → World → Prop} (h : sh33 a0 w K) : Calls Try.prog 33 #[a0] w (retK K) :=
  calls_of_vcF (k := (.n .z (.n .z (.n .z (.n (.n .z (.l [4, 14] [15, 16, 6, 18, 19, 17, 20, 21, 7, 8, 22, 23, 24, 4, 25, 14] .z)) .z))))) callsOk mixed Try.func33 ((eq33 a0 w K).symm ▸ h)

/-- recto/rectolaw28.two -/
def sh34 (w : World) (K : Value → World → Prop) : Prop :=
 mCall Try.prog 17 #[(.int .i64 4)] w fun t9 w =>
 mN Try.prog (vS (Instr.extract t9 0)) w fun t10 w =>
 mN Try.prog (vS (Instr.extract t9 1)) w fun t11 w =>
 mN Try.prog (vS (eqS .neq 24 false true t11 (.int .i64 0))) w fun t13 w =>
 mIf t13
 (K (.bool false) w)
 (mN Try.prog (vS (eqS .eql 23 false true t10 (.pointer none))) w fun t16 w =>
 mIf t16
 (K (.bool false) w)
 (mCall Try.prog 52 #[t10] w fun t19 w =>
 mN Try.prog (vS (Instr.build 50 #[(1, (.int .i64 1)), (2, (.int .i64 5))])) w fun t21 w =>
 mCall Try.prog 53 #[t10, t21] w fun t22 w =>
 mCall Try.prog 49 #[t10] w fun t25 w =>
 mN Try.prog (vS (Instr.extract t25 0)) w fun t26 w =>
 mN Try.prog (vS (Instr.extract t25 1)) w fun t27 w =>
 mN Try.prog (vS (Instr.extract t25 2)) w fun t28 w =>
 mN Try.prog (vS (Instr.alloc 50 true (.tuple #[]))) w fun t5 w =>
 mN Try.prog (uS (Instr.storeAt 50 t5 t26)) w fun _ w =>
 mN Try.prog (vS (eqS .eql 24 false true t19 (.int .i64 0))) w fun t30 w =>
 mIf t30
 (mN Try.prog (vS (eqS .eql 24 false true t22 (.int .i64 0))) w fun t33 w =>
 mIf t33
 (mN Try.prog (vS (eqS .eql 24 false true t28 (.int .i64 0))) w fun t37 w =>
 mIf t37
 (mN Try.prog (vS (Instr.loadAt 50 t5)) w fun t40 w =>
 mN Try.prog (vS (Instr.build 50 #[(0, (.int .i64 2)), (1, (.int .i64 1)), (2, (.int .i64 5))])) w fun t41 w =>
 mN Try.prog (vS (eqS .eql 50 false false t40 t41)) w fun t42 w =>
 mIf t42
 (mN Try.prog (vS (eqS .eql 3 false true t27 (.int .i64 1))) w fun t46 w =>
 K t46 w)
 (K (.bool false) w))
 (K (.bool false) w))
 (K (.bool false) w))
 (K (.bool false) w)))

theorem eq34 (w : World) (K : Value → World → Prop) : vcF Try.prog cOk .z Try.f34 [] w K = sh34  w K := by kernel_rfl

theorem ok34 {w : World} {K : Value → World → Prop} (h : sh34  w K) : Calls Try.prog 34 #[] w (retK K) :=
  calls_of_vcF (k := .z) callsOk mixed Try.func34 ((eq34  w K).symm ▸ h)

/-- recto/slot.Read -/
def sh35 (a0 : Value) (w : World) (K : Value → World → Prop) : Prop :=
 mN Try.prog (vS (Instr.alloc 50 true (.tuple #[]))) w fun t2 w =>
 mN Try.prog (builtin .len #[9] 3 #[false] #[a0]) w fun t13 w =>
 mN Try.prog (vS (eqS .neq 3 false true t13 (.int .i64 256))) w fun t14 w =>
 mIf t14
 (mN Try.prog (vS (Instr.build 50 #[])) w fun t15 w =>
 mN Try.prog (uS (Instr.storeAt 50 t2 t15)) w fun _ w =>
 mRes Try.prog (cellS 50 t2) w fun r0 =>
 K (.tuple #[r0, (.bool false)]) w)
 (mCall Try.prog 89 #[a0, (.string ⟨#[114, 99, 116, 111]⟩)] w fun t18 w =>
 mN Try.prog (vS (Instr.extract t18 0)) w fun t19 w =>
 mN Try.prog (vS (Instr.extract t18 1)) w fun t20 w =>
 mN Try.prog (vS (Op.unary .not t20)) w fun t22 w =>
 mIf t22
 (mN Try.prog (vS (Instr.build 50 #[])) w fun t23 w =>
 mN Try.prog (uS (Instr.storeAt 50 t2 t23)) w fun _ w =>
 mRes Try.prog (cellS 50 t2) w fun r0 =>
 K (.tuple #[r0, (.bool false)]) w)
 (mN Try.prog (vS (Instr.alloc 142 true (.tuple #[]))) w fun t6 w =>
 mLoop2 (fun t4 t24 w k =>
 mN Try.prog (vS (binOp .lss 3 t24 (.int .i64 4))) w fun t25 w =>
 mIf t25
 (mCall Try.prog 90 #[t4] w fun t30 w =>
 mN Try.prog (vS (Instr.extract t30 0)) w fun t31 w =>
 mN Try.prog (vS (Instr.extract t30 1)) w fun t32 w =>
 mN Try.prog (vS (Instr.extract t30 2)) w fun t33 w =>
 mN Try.prog (vS (Instr.indexAt 142 t6 t24)) w fun t34 w =>
 mN Try.prog (uS (Instr.storeAt 3 t34 t31)) w fun _ w =>
 mN Try.prog (vS (eqS .neq 24 false true t33 (.int .i64 0))) w fun t36 w =>
 mIf t36
 (mN Try.prog (vS (Instr.build 50 #[])) w fun t37 w =>
 mN Try.prog (uS (Instr.storeAt 50 t2 t37)) w fun _ w =>
 mRes Try.prog (cellS 50 t2) w fun r0 =>
 K (.tuple #[r0, (.bool false)]) w)
 (mN Try.prog (vS (binOp .add 3 t24 (.int .i64 1))) w fun t38 w =>
 k t32 t38 w))
 (mN Try.prog (vS (Instr.indexAt 142 t6 (.int .i64 0))) w fun t39 w =>
 mN Try.prog (vS (Instr.loadAt 3 t39)) w fun t40 w =>
 mN Try.prog (vS (Instr.indexAt 142 t6 (.int .i64 1))) w fun t41 w =>
 mN Try.prog (vS (Instr.loadAt 3 t41)) w fun t42 w =>
 mN Try.prog (vS (Instr.indexAt 142 t6 (.int .i64 2))) w fun t43 w =>
 mN Try.prog (vS (Instr.loadAt 3 t43)) w fun t44 w =>
 mN Try.prog (vS (Instr.indexAt 142 t6 (.int .i64 3))) w fun t45 w =>
 mN Try.prog (vS (Instr.loadAt 3 t45)) w fun t46 w =>
 mN Try.prog (vS (Instr.build 50 #[(0, t40), (1, t42), (2, t44), (3, t46)])) w fun t47 w =>
 mN Try.prog (vS (Instr.alloc 50 true (.tuple #[]))) w fun t9 w =>
 mN Try.prog (uS (Instr.storeAt 50 t9 t47)) w fun _ w =>
 mN Try.prog (vS (Instr.loadAt 50 t9)) w fun t49 w =>
 mCall Try.prog 33 #[t49] w fun t50 w =>
 mN Try.prog (vS (Instr.extract t50 0)) w fun t51 w =>
 mN Try.prog (vS (Instr.extract t50 1)) w fun t52 w =>
 mDrew w fun w =>
 mP Try.prog (vS (eqS .neq 24 false true t52 (.int .i64 0))) fun t54 =>
 mIf t54
 (mN Try.prog (vS (Instr.build 50 #[])) w fun t62 w =>
 mN Try.prog (uS (Instr.storeAt 50 t2 t62)) w fun _ w =>
 mRes Try.prog (cellS 50 t2) w fun r0 =>
 K (.tuple #[r0, (.bool false)]) w)
 (mP Try.prog (vS (Instr.sliceAt 9 t51 none (some (.int .i64 64)) none)) fun t57 =>
 mP Try.prog (vS (Instr.sliceAt 9 a0 none (some (.int .i64 64)) none)) fun t59 =>
 mP Try.prog (vS (eqS .neq 9 false false t57 t59)) fun t60 =>
 mIf t60
 (mN Try.prog (vS (Instr.build 50 #[])) w fun t62 w =>
 mN Try.prog (uS (Instr.storeAt 50 t2 t62)) w fun _ w =>
 mRes Try.prog (cellS 50 t2) w fun r0 =>
 K (.tuple #[r0, (.bool false)]) w)
 (mN Try.prog (vS (Instr.loadAt 50 t9)) w fun t63 w =>
 mN Try.prog (uS (Instr.storeAt 50 t2 t63)) w fun _ w =>
 mRes Try.prog (cellS 50 t2) w fun r0 =>
 K (.tuple #[r0, (.bool true)]) w))))
 t19 (.int .i64 0) w))

theorem eq35 (a0 : Value) (w : World) (K : Value → World → Prop) : vcF Try.prog cOk (.n .z (.n .z (.n .z (.n .z (.n .z (.n (.n .z (.l [4, 24] [25, 26, 7, 28, 29, 30, 27, 31, 32, 33, 34, 4, 8, 35, 36, 37, 3, 38, 24] .z)) (.n .z (.n (.n .z (.n (.d [] [0, 1, 2, 3, 4, 5, 6, 7, 8]) .z)) .z)))))))) Try.f35 [a0] w K = sh35 a0 w K := by kernel_rfl

theorem ok35 {a0 : Value} {w : World} {K : Value → World → Prop} (h : sh35 a0 w K) : Calls Try.prog 35 #[a0] w (retK K) :=
  calls_of_vcF (k := (.n .z (.n .z (.n .z (.n .z (.n .z (.n (.n .z (.l [4, 24] [25, 26, 7, 28, 29, 30, 27, 31, 32, 33, 34, 4, 8, 35, 36, 37, 3, 38, 24] .z)) (.n .z (.n (.n .z (.n (.d [] [0, 1, 2, 3, 4, 5, 6, 7, 8]) .z)) .z))))))))) callsOk mixed Try.func35 ((eq35 a0 w K).symm ▸ h)

/-- recto/rectolaw29.ab -/
def sh36 (w : World) (K : Value → World → Prop) : Prop :=
 mCall Try.prog 17 #[(.int .i64 4)] w fun t12 w =>
 mN Try.prog (vS (Instr.extract t12 0)) w fun t13 w =>
 mN Try.prog (vS (Instr.extract t12 1)) w fun t14 w =>
 mN Try.prog (vS (eqS .neq 24 false true t14 (.int .i64 0))) w fun t16 w =>
 mIf t16
 (K (.bool false) w)
 (mN Try.prog (vS (eqS .eql 23 false true t13 (.pointer none))) w fun t19 w =>
 mIf t19
 (K (.bool false) w)
 (mCall Try.prog 38 #[t13, (.int .i64 2), (.int .i64 2), (.int .i64 0)] w fun t23 w =>
 mN Try.prog (vS (Instr.extract t23 0)) w fun t24 w =>
 mN Try.prog (vS (Instr.extract t23 1)) w fun t25 w =>
 mN Try.prog (vS (eqS .neq 24 false true t25 (.int .i64 0))) w fun t27 w =>
 mIf t27
 (K (.bool false) w)
 (mN Try.prog (vS (eqS .eql 57 false true t24 (.pointer none))) w fun t30 w =>
 mIf t30
 (K (.bool false) w)
 (mCall Try.prog 46 #[t24, (.string ⟨#[97, 98]⟩)] w fun t33 w =>
 mCall Try.prog 42 #[t24] w fun t35 w =>
 mCall Try.prog 56 #[t24] w fun t37 w =>
 mCall Try.prog 22 #[t13] w fun t39 w =>
 mCall Try.prog 54 #[t24] w fun t41 w =>
 mCall Try.prog 38 #[t13, (.int .i64 2), (.int .i64 2), (.int .i64 4)] w fun t44 w =>
 mN Try.prog (vS (Instr.extract t44 0)) w fun t45 w =>
 mN Try.prog (vS (Instr.extract t44 1)) w fun t46 w =>
 mN Try.prog (vS (eqS .eql 24 false true t33 (.int .i64 0))) w fun t48 w =>
 mIf t48
 (mN Try.prog (vS (eqS .eql 24 false true t37 (.int .i64 0))) w fun t51 w =>
 mIf t51
 (mN Try.prog (vS (eqS .eql 24 false true t39 (.int .i64 0))) w fun t55 w =>
 mIf t55
 (mN Try.prog (vS (eqS .eql 24 false true t46 (.int .i64 0))) w fun t59 w =>
 mIf t59
 (mN Try.prog (vS (eqS .eql 3 false true t35 (.int .i64 0))) w fun t63 w =>
 mIf t63
 (mCall Try.prog 43 #[t24] w fun t67 w =>
 mN Try.prog (vS (eqS .eql 3 false true t67 (.int .i64 4))) w fun t68 w =>
 mIf t68
 (mCall Try.prog 42 #[t24] w fun t72 w =>
 mN Try.prog (vS (eqS .eql 3 false true t72 (.int .i64 4))) w fun t73 w =>
 mIf t73
 (mCall Try.prog 44 #[t24] w fun t77 w =>
 mN Try.prog (vS (eqS .eql 3 false true t77 (.int .i64 508))) w fun t78 w =>
 mIf t78
 (mCall Try.prog 41 #[t45] w fun t82 w =>
 mN Try.prog (vS (Instr.buildSlice 67 1 #[(0, (.string ⟨#[97, 98]⟩))])) w fun t83 w =>
 mCall Try.prog 40 #[t82, t83] w fun t84 w =>
 K t84 w)
 (K (.bool false) w))
 (K (.bool false) w))
 (K (.bool false) w))
 (K (.bool false) w))
 (K (.bool false) w))
 (K (.bool false) w))
 (K (.bool false) w))
 (K (.bool false) w)))))

theorem eq36 (w : World) (K : Value → World → Prop) : vcF Try.prog cOk .z Try.f36 [] w K = sh36  w K := by kernel_rfl

theorem ok36 {w : World} {K : Value → World → Prop} (h : sh36  w K) : Calls Try.prog 36 #[] w (retK K) :=
  calls_of_vcF (k := .z) callsOk mixed Try.func36 ((eq36  w K).symm ▸ h)

/-- (*recto/rectoref27.Disk).Write -/
def sh37 (a0 a1 a2 : Value) (w : World) (K : Value → World → Prop) : Prop :=
 mN Try.prog (vS (binOp .lss 3 a1 (.int .i64 0))) w fun t9 w =>
 mIf t9
 (K (.int .i64 1) w)
 (mN Try.prog (nilS a0) w fun t13 w =>
 mN Try.prog (vS (Instr.fieldAt 106 t13 0)) w fun t14 w =>
 mN Try.prog (vS (Instr.loadAt 67 t14)) w fun t15 w =>
 mN Try.prog (builtin .len #[67] 3 #[false] #[t15]) w fun t16 w =>
 mN Try.prog (vS (binOp .geq 3 a1 t16)) w fun t17 w =>
 mIf t17
 (K (.int .i64 1) w)
 (mN Try.prog (builtin .len #[9] 3 #[false] #[a2]) w fun t21 w =>
 mN Try.prog (vS (eqS .neq 3 false true t21 (.int .i64 256))) w fun t22 w =>
 mIf t22
 (K (.int .i64 1) w)
 (mN Try.prog (nilS a0) w fun t25 w =>
 mN Try.prog (vS (Instr.fieldAt 106 t25 2)) w fun t26 w =>
 mN Try.prog (vS (Instr.loadAt 4 t26)) w fun t27 w =>
 mIf t27
 (K (.int .i64 271) w)
 (mCall Try.prog 91 #[a0] w fun t29 w =>
 mN Try.prog (vS (eqS .eql 3 false true t29 (.int .i64 0))) w fun t31 w =>
 mIf t31
 (mN Try.prog (nilS a0) w fun t34 w =>
 mN Try.prog (vS (Instr.fieldAt 106 t34 1)) w fun t35 w =>
 mN Try.prog (vS (Instr.loadAt 103 t35)) w fun t36 w =>
 mN Try.prog (vS (Instr.build 150 #[(0, a1), (1, a2)])) w fun t39 w =>
 mN Try.prog (vS (Instr.buildSlice 103 1 #[(0, t39)])) w fun t40 w =>
 mN Try.prog (builtin .append #[103, 103] 103 #[false, false] #[t36, t40]) w fun t41 w =>
 mN Try.prog (nilS a0) w fun t42 w =>
 mN Try.prog (vS (Instr.fieldAt 106 t42 1)) w fun t43 w =>
 mN Try.prog (uS (Instr.storeAt 103 t43 t41)) w fun _ w =>
 K t29 w)
 (K t29 w)))))

theorem eq37 (a0 a1 a2 : Value) (w : World) (K : Value → World → Prop) : vcF Try.prog cOk .z Try.f37 [a0, a1, a2] w K = sh37 a0 a1 a2 w K := by kernel_rfl

theorem ok37 {a0 a1 a2 : Value} {w : World} {K : Value → World → Prop} (h : sh37 a0 a1 a2 w K) : Calls Try.prog 37 #[a0, a1, a2] w (retK K) :=
  calls_of_vcF (k := .z) callsOk mixed Try.func37 ((eq37 a0 a1 a2 w K).symm ▸ h)

/-- recto/log.Open -/
def sh38 (a0 a1 a2 a3 : Value) (w : World) (K : Value → World → Prop) : Prop :=
 mN Try.prog (vS (binOp .lss 3 a1 (.int .i64 0))) w fun t16 w =>
 mIf t16
 (K (.tuple #[(.pointer none), (.int .i64 1)]) w)
 (mN Try.prog (vS (binOp .lss 3 a2 (.int .i64 1))) w fun t19 w =>
 mIf t19
 (K (.tuple #[(.pointer none), (.int .i64 1)]) w)
 (mCall Try.prog 32 #[a0] w fun t24 w =>
 mN Try.prog (vS (binOp .gtr 3 a2 t24)) w fun t25 w =>
 mIf t25
 (K (.tuple #[(.pointer none), (.int .i64 1)]) w)
 (mCall Try.prog 32 #[a0] w fun t30 w =>
 mN Try.prog (vS (binOp .sub 3 t30 a2)) w fun t32 w =>
 mN Try.prog (vS (binOp .gtr 3 a1 t32)) w fun t33 w =>
 mIf t33
 (K (.tuple #[(.pointer none), (.int .i64 1)]) w)
 (mN Try.prog (vS (binOp .lss 3 a3 (.int .i64 0))) w fun t37 w =>
 mIf t37
 (K (.tuple #[(.pointer none), (.int .i64 1)]) w)
 (mN Try.prog (vS (binOp .mul 3 a2 (.int .i64 256))) w fun t42 w =>
 mN Try.prog (vS (binOp .gtr 3 a3 t42)) w fun t43 w =>
 mIf t43
 (K (.tuple #[(.pointer none), (.int .i64 1)]) w)
 (mN Try.prog (vS (Instr.alloc 153 true (.tuple #[]))) w fun t10 w =>
 mCall Try.prog 92 #[a3] w fun t46 w =>
 mLoop1 (fun t47 w k =>
 mN Try.prog (vS (binOp .lss 3 t47 t46)) w fun t48 w =>
 mIf t48
 (mN Try.prog (vS (binOp .add 3 a1 t47)) w fun t54 w =>
 mCall Try.prog 29 #[a0, t54] w fun t55 w =>
 mN Try.prog (vS (Instr.extract t55 0)) w fun t56 w =>
 mN Try.prog (vS (Instr.extract t55 1)) w fun t57 w =>
 mN Try.prog (vS (eqS .neq 24 false true t57 (.int .i64 0))) w fun t59 w =>
 mIf t59
 (K (.tuple #[(.pointer none), t57]) w)
 (mCall Try.prog 93 #[t10, t56] w fun t62 w =>
 mN Try.prog (vS (binOp .add 3 t47 (.int .i64 1))) w fun t63 w =>
 k t63 w))
 (mCall Try.prog 94 #[t10] w fun t64 w =>
 mN Try.prog (vS (Instr.sliceAt 9 t64 none (some a3) none)) w fun t66 w =>
 mCall Try.prog 95 #[t66] w fun t68 w =>
 mN Try.prog (vS (Op.unary .not t68)) w fun t69 w =>
 mIf t69
 (K (.tuple #[(.pointer none), (.int .i64 290)]) w)
 (mN Try.prog (vS (Instr.build 159 #[(0, a0), (1, a1), (2, a2), (3, t66), (4, a3)])) w fun t75 w =>
 mN Try.prog (vS (Instr.box 159 t75)) w fun t76 w =>
 K (.tuple #[t76, (.int .i64 0)]) w)))
 (.int .i64 0) w))))))

theorem eq38 (a0 a1 a2 a3 : Value) (w : World) (K : Value → World → Prop) : vcF Try.prog cOk (.n .z (.n .z (.n .z (.n (.n .z (.l [47] [48, 49, 11, 51, 52, 53, 54, 55, 50, 56, 57, 12, 13, 58, 59, 60, 8, 9, 61, 62, 63, 47] .z)) .z)))) Try.f38 [a0, a1, a2, a3] w K = sh38 a0 a1 a2 a3 w K := by kernel_rfl

theorem ok38 {a0 a1 a2 a3 : Value} {w : World} {K : Value → World → Prop} (h : sh38 a0 a1 a2 a3 w K) : Calls Try.prog 38 #[a0, a1, a2, a3] w (retK K) :=
  calls_of_vcF (k := (.n .z (.n .z (.n .z (.n (.n .z (.l [47] [48, 49, 11, 51, 52, 53, 54, 55, 50, 56, 57, 12, 13, 58, 59, 60, 8, 9, 61, 62, 63, 47] .z)) .z))))) callsOk mixed Try.func38 ((eq38 a0 a1 a2 a3 w K).symm ▸ h)

/-- recto/rectoref29.Open -/
def sh39 (a0 a1 : Value) (w : World) (K : Value → World → Prop) : Prop :=
 mN Try.prog (vS (Instr.box 65 a1)) w fun t3 w =>
 mN Try.prog (vS (Instr.alloc 62 true (.tuple #[]))) w fun t4 w =>
 mDrew w fun w =>
 mP Try.prog (vS (Instr.fieldAt 65 t3 0)) fun t10 =>
 mR Try.prog (vS (Instr.loadAt 3 t10)) w fun t11 =>
 mP Try.prog (vS (binOp .lss 3 t11 (.int .i64 0))) fun t12 =>
 mIf t12
 (mN Try.prog (vS (Instr.build 62 #[(1, (.int .i64 1))])) w fun t54 w =>
 mN Try.prog (uS (Instr.storeAt 62 t4 t54)) w fun _ w =>
 mRes Try.prog (cellS 62 t4) w fun r0 =>
 K r0 w)
 (mP Try.prog (vS (Instr.fieldAt 65 t3 1)) fun t14 =>
 mR Try.prog (vS (Instr.loadAt 3 t14)) w fun t15 =>
 mP Try.prog (vS (binOp .lss 3 t15 (.int .i64 1))) fun t16 =>
 mIf t16
 (mN Try.prog (vS (Instr.build 62 #[(1, (.int .i64 1))])) w fun t54 w =>
 mN Try.prog (uS (Instr.storeAt 62 t4 t54)) w fun _ w =>
 mRes Try.prog (cellS 62 t4) w fun r0 =>
 K r0 w)
 (mP Try.prog (vS (Instr.fieldAt 65 t3 1)) fun t19 =>
 mR Try.prog (vS (Instr.loadAt 3 t19)) w fun t20 =>
 mP Try.prog (nilS a0) fun t22 =>
 mP Try.prog (vS (Instr.fieldAt 106 t22 0)) fun t23 =>
 mR Try.prog (vS (Instr.loadAt 67 t23)) w fun t24 =>
 mP Try.prog (builtin .len #[67] 3 #[false] #[t24]) fun t25 =>
 mP Try.prog (vS (binOp .gtr 3 t20 t25)) fun t26 =>
 mIf t26
 (mN Try.prog (vS (Instr.build 62 #[(1, (.int .i64 1))])) w fun t54 w =>
 mN Try.prog (uS (Instr.storeAt 62 t4 t54)) w fun _ w =>
 mRes Try.prog (cellS 62 t4) w fun r0 =>
 K r0 w)
 (mP Try.prog (vS (Instr.fieldAt 65 t3 0)) fun t29 =>
 mR Try.prog (vS (Instr.loadAt 3 t29)) w fun t30 =>
 mP Try.prog (nilS a0) fun t32 =>
 mP Try.prog (vS (Instr.fieldAt 106 t32 0)) fun t33 =>
 mR Try.prog (vS (Instr.loadAt 67 t33)) w fun t34 =>
 mP Try.prog (builtin .len #[67] 3 #[false] #[t34]) fun t35 =>
 mP Try.prog (vS (Instr.fieldAt 65 t3 1)) fun t36 =>
 mR Try.prog (vS (Instr.loadAt 3 t36)) w fun t37 =>
 mP Try.prog (vS (binOp .sub 3 t35 t37)) fun t38 =>
 mP Try.prog (vS (binOp .gtr 3 t30 t38)) fun t39 =>
 mIf t39
 (mN Try.prog (vS (Instr.build 62 #[(1, (.int .i64 1))])) w fun t54 w =>
 mN Try.prog (uS (Instr.storeAt 62 t4 t54)) w fun _ w =>
 mRes Try.prog (cellS 62 t4) w fun r0 =>
 K r0 w)
 (mP Try.prog (vS (Instr.fieldAt 65 t3 2)) fun t42 =>
 mR Try.prog (vS (Instr.loadAt 3 t42)) w fun t43 =>
 mP Try.prog (vS (binOp .lss 3 t43 (.int .i64 0))) fun t44 =>
 mIf t44
 (mN Try.prog (vS (Instr.build 62 #[(1, (.int .i64 1))])) w fun t54 w =>
 mN Try.prog (uS (Instr.storeAt 62 t4 t54)) w fun _ w =>
 mRes Try.prog (cellS 62 t4) w fun r0 =>
 K r0 w)
 (mP Try.prog (vS (Instr.fieldAt 65 t3 2)) fun t47 =>
 mR Try.prog (vS (Instr.loadAt 3 t47)) w fun t48 =>
 mP Try.prog (vS (Instr.fieldAt 65 t3 1)) fun t49 =>
 mR Try.prog (vS (Instr.loadAt 3 t49)) w fun t50 =>
 mP Try.prog (vS (binOp .mul 3 (.int .i64 256) t50)) fun t51 =>
 mP Try.prog (vS (binOp .gtr 3 t48 t51)) fun t52 =>
 mIf t52
 (mN Try.prog (vS (Instr.build 62 #[(1, (.int .i64 1))])) w fun t54 w =>
 mN Try.prog (uS (Instr.storeAt 62 t4 t54)) w fun _ w =>
 mRes Try.prog (cellS 62 t4) w fun r0 =>
 K r0 w)
 (mN Try.prog (vS (Instr.fieldAt 65 t3 0)) w fun t55 w =>
 mN Try.prog (vS (Instr.loadAt 3 t55)) w fun t56 w =>
 mLoop2 (fun t5 t6 w k =>
 mN Try.prog (builtin .len #[9] 3 #[false] #[t5]) w fun t58 w =>
 mN Try.prog (vS (Instr.fieldAt 65 t3 2)) w fun t59 w =>
 mN Try.prog (vS (Instr.loadAt 3 t59)) w fun t60 w =>
 mN Try.prog (vS (binOp .lss 3 t58 t60)) w fun t61 w =>
 mIf t61
 (mCall Try.prog 96 #[a0, t6] w fun t65 w =>
 mN Try.prog (vS (Instr.extract t65 0)) w fun t66 w =>
 mN Try.prog (vS (Instr.extract t65 1)) w fun t67 w =>
 mN Try.prog (vS (eqS .neq 3 false true t67 (.int .i64 0))) w fun t69 w =>
 mIf t69
 (mN Try.prog (vS (Instr.build 62 #[(1, t67)])) w fun t71 w =>
 mN Try.prog (uS (Instr.storeAt 62 t4 t71)) w fun _ w =>
 mRes Try.prog (cellS 62 t4) w fun r0 =>
 K r0 w)
 (mN Try.prog (vS (binOp .add 9 t5 t66)) w fun t74 w =>
 mN Try.prog (vS (binOp .add 3 t6 (.int .i64 1))) w fun t76 w =>
 k t74 t76 w))
 (mN Try.prog (vS (Instr.fieldAt 65 t3 2)) w fun t78 w =>
 mN Try.prog (vS (Instr.loadAt 3 t78)) w fun t79 w =>
 mN Try.prog (vS (Instr.sliceAt 9 t5 none (some t79) none)) w fun t80 w =>
 mCall Try.prog 97 #[t80] w fun t81 w =>
 mN Try.prog (vS (Instr.alloc 163 true (.tuple #[]))) w fun t9 w =>
 mN Try.prog (uS (Instr.storeAt 163 t9 t81)) w fun _ w =>
 mN Try.prog (vS (Instr.fieldAt 163 t9 1)) w fun t82 w =>
 mN Try.prog (vS (Instr.loadAt 4 t82)) w fun t83 w =>
 mN Try.prog (vS (Op.unary .not t83)) w fun t84 w =>
 mIf t84
 (mN Try.prog (vS (Instr.build 62 #[(1, (.int .i64 290))])) w fun t85 w =>
 mN Try.prog (uS (Instr.storeAt 62 t4 t85)) w fun _ w =>
 mRes Try.prog (cellS 62 t4) w fun r0 =>
 K r0 w)
 (mN Try.prog (vS (Instr.fieldAt 65 t3 0)) w fun t86 w =>
 mN Try.prog (vS (Instr.loadAt 3 t86)) w fun t87 w =>
 mN Try.prog (vS (Instr.fieldAt 65 t3 1)) w fun t88 w =>
 mN Try.prog (vS (Instr.loadAt 3 t88)) w fun t89 w =>
 mN Try.prog (vS (Instr.fieldAt 163 t9 0)) w fun t90 w =>
 mN Try.prog (vS (Instr.loadAt 67 t90)) w fun t91 w =>
 mN Try.prog (vS (Instr.fieldAt 163 t9 0)) w fun t92 w =>
 mN Try.prog (vS (Instr.loadAt 67 t92)) w fun t93 w =>
 mN Try.prog (builtin .len #[67] 3 #[false] #[t93]) w fun t94 w =>
 mN Try.prog (vS (Instr.build 70 #[(0, t87), (1, t89), (2, t91), (3, t94)])) w fun t95 w =>
 mN Try.prog (vS (Instr.box 70 t95)) w fun t96 w =>
 mN Try.prog (vS (Instr.build 62 #[(0, t96)])) w fun t97 w =>
 mN Try.prog (uS (Instr.storeAt 62 t4 t97)) w fun _ w =>
 mRes Try.prog (cellS 62 t4) w fun r0 =>
 K r0 w)))
 (.string ⟨#[]⟩) t56 w))))))

theorem eq39 (a0 a1 : Value) (w : World) (K : Value → World → Prop) : vcF Try.prog cOk (.n .z (.n (.n (.d [] [0, 1, 2, 3, 4, 5, 6, 7, 8, 9, 10, 11, 12, 13, 14, 15, 16, 17, 18, 19, 20, 21, 22, 23, 24, 25, 26, 27, 28, 29, 30, 31, 32, 33, 34, 35, 36, 37, 38, 39, 40, 41, 42, 43]) .z) (.n .z (.n .z (.n (.l [5, 6] [57, 58, 59, 60, 61, 63, 64, 65, 62, 66, 67, 7, 8, 68, 69, 70, 71, 72, 73, 74, 5, 75, 76, 6] .z) .z))))) Try.f39 [a0, a1] w K = sh39 a0 a1 w K := by kernel_rfl

theorem ok39 {a0 a1 : Value} {w : World} {K : Value → World → Prop} (h : sh39 a0 a1 w K) : Calls Try.prog 39 #[a0, a1] w (retK K) :=
  calls_of_vcF (k := (.n .z (.n (.n (.d [] [0, 1, 2, 3, 4, 5, 6, 7, 8, 9, 10, 11, 12, 13, 14, 15, 16, 17, 18, 19, 20, 21, 22, 23, 24, 25, 26, 27, 28, 29, 30, 31, 32, 33, 34, 35, 36, 37, 38, 39, 40, 41, 42, 43]) .z) (.n .z (.n .z (.n (.l [5, 6] [57, 58, 59, 60, 61, 63, 64, 65, 62, 66, 67, 7, 8, 68, 69, 70, 71, 72, 73, 74, 5, 75, 76, 6] .z) .z)))))) callsOk mixed Try.func39 ((eq39 a0 a1 w K).symm ▸ h)

/-- recto/rectoplain.Texts -/
def sh40 (a0 a1 : Value) (w : World) (K : Value → World → Prop) : Prop :=
 mN Try.prog (builtin .len #[67] 3 #[false] #[a0]) w fun t7 w =>
 mLoop1 (fun t8 w k =>
 mN Try.prog (vS (binOp .lss 3 t8 t7)) w fun t9 w =>
 mIf t9
 (mDrew w fun w =>
 mP Try.prog (builtin .len #[67] 3 #[false] #[a1]) fun t13 =>
 mP Try.prog (vS (binOp .geq 3 t8 t13)) fun t14 =>
 mIf t14
 (K (.bool false) w)
 (mP Try.prog (vS (Instr.indexAt 67 a0 t8)) fun t18 =>
 mR Try.prog (vS (Instr.loadAt 9 t18)) w fun t19 =>
 mP Try.prog (vS (Instr.indexAt 67 a1 t8)) fun t22 =>
 mR Try.prog (vS (Instr.loadAt 9 t22)) w fun t23 =>
 mP Try.prog (vS (eqS .neq 9 false false t19 t23)) fun t24 =>
 mIf t24
 (K (.bool false) w)
 (mN Try.prog (vS (binOp .add 3 t8 (.int .i64 1))) w fun t26 w =>
 k t26 w)))
 (mN Try.prog (builtin .len #[67] 3 #[false] #[a0]) w fun t28 w =>
 mN Try.prog (builtin .len #[67] 3 #[false] #[a1]) w fun t30 w =>
 mN Try.prog (vS (eqS .eql 3 false false t28 t30)) w fun t31 w =>
 K t31 w))
 (.int .i64 0) w

theorem eq40 (a0 a1 : Value) (w : World) (K : Value → World → Prop) : vcF Try.prog cOk (.n .z (.n (.n .z (.l [8] [9, 10, 5, 11, 12, 13, 14, 15, 16, 17, 18, 19, 20, 21, 22, 23, 24, 25, 4, 26, 8] (.n .z (.n .z (.n (.n .z (.n (.d [] [0, 1, 2, 3, 4, 5, 6, 7, 8, 9, 10, 11, 12, 13, 14]) .z)) .z))))) .z)) Try.f40 [a0, a1] w K = sh40 a0 a1 w K := by kernel_rfl

theorem ok40 {a0 a1 : Value} {w : World} {K : Value → World → Prop} (h : sh40 a0 a1 w K) : Calls Try.prog 40 #[a0, a1] w (retK K) :=
  calls_of_vcF (k := (.n .z (.n (.n .z (.l [8] [9, 10, 5, 11, 12, 13, 14, 15, 16, 17, 18, 19, 20, 21, 22, 23, 24, 25, 4, 26, 8] (.n .z (.n .z (.n (.n .z (.n (.d [] [0, 1, 2, 3, 4, 5, 6, 7, 8, 9, 10, 11, 12, 13, 14]) .z)) .z))))) .z))) callsOk mixed Try.func40 ((eq40 a0 a1 w K).symm ▸ h)

/-- (*recto/log.Log).Sealed -/
def sh42 (a0 : Value) (w : World) (K : Value → World → Prop) : Prop :=
 mN Try.prog (vS (eqS .eql 57 false true a0 (.pointer none))) w fun t4 w =>
 mIf t4
 (K (.int .i64 0) w)
 (mN Try.prog (nilS a0) w fun t6 w =>
 mN Try.prog (vS (Instr.fieldAt 159 t6 4)) w fun t7 w =>
 mN Try.prog (vS (Instr.loadAt 3 t7)) w fun t8 w =>
 K t8 w)

theorem eq42 (a0 : Value) (w : World) (K : Value → World → Prop) : vcF Try.prog cOk .z Try.f42 [a0] w K = sh42 a0 w K := by kernel_rfl

theorem ok42 {a0 : Value} {w : World} {K : Value → World → Prop} (h : sh42 a0 w K) : Calls Try.prog 42 #[a0] w (retK K) :=
  calls_of_vcF (k := .z) callsOk mixed Try.func42 ((eq42 a0 w K).symm ▸ h)

/-- (*recto/log.Log).Bytes -/
def sh43 (a0 : Value) (w : World) (K : Value → World → Prop) : Prop :=
 mN Try.prog (vS (eqS .eql 57 false true a0 (.pointer none))) w fun t4 w =>
 mIf t4
 (K (.int .i64 0) w)
 (mN Try.prog (nilS a0) w fun t6 w =>
 mN Try.prog (vS (Instr.fieldAt 159 t6 3)) w fun t7 w =>
 mN Try.prog (vS (Instr.loadAt 9 t7)) w fun t8 w =>
 mN Try.prog (builtin .len #[9] 3 #[false] #[t8]) w fun t9 w =>
 K t9 w)

theorem eq43 (a0 : Value) (w : World) (K : Value → World → Prop) : vcF Try.prog cOk .z Try.f43 [a0] w K = sh43 a0 w K := by kernel_rfl

theorem ok43 {a0 : Value} {w : World} {K : Value → World → Prop} (h : sh43 a0 w K) : Calls Try.prog 43 #[a0] w (retK K) :=
  calls_of_vcF (k := .z) callsOk mixed Try.func43 ((eq43 a0 w K).symm ▸ h)

/-- (*recto/log.Log).Room -/
def sh44 (a0 : Value) (w : World) (K : Value → World → Prop) : Prop :=
 mN Try.prog (vS (eqS .eql 57 false true a0 (.pointer none))) w fun t4 w =>
 mIf t4
 (K (.int .i64 0) w)
 (mDrew w fun w =>
 mP Try.prog (nilS a0) fun t6 =>
 mP Try.prog (vS (Instr.fieldAt 159 t6 2)) fun t7 =>
 mR Try.prog (vS (Instr.loadAt 3 t7)) w fun t8 =>
 mP Try.prog (vS (binOp .mul 3 t8 (.int .i64 256))) fun t9 =>
 mP Try.prog (nilS a0) fun t11 =>
 mP Try.prog (vS (Instr.fieldAt 159 t11 3)) fun t12 =>
 mR Try.prog (vS (Instr.loadAt 9 t12)) w fun t13 =>
 mP Try.prog (builtin .len #[9] 3 #[false] #[t13]) fun t14 =>
 mP Try.prog (vS (binOp .sub 3 t9 t14)) fun t15 =>
 K t15 w)

theorem eq44 (a0 : Value) (w : World) (K : Value → World → Prop) : vcF Try.prog cOk (.n .z (.n .z (.n (.d [] [0, 1, 2, 3, 4, 5, 6, 7, 8, 9, 10, 11]) .z))) Try.f44 [a0] w K = sh44 a0 w K := by kernel_rfl

theorem ok44 {a0 : Value} {w : World} {K : Value → World → Prop} (h : sh44 a0 w K) : Calls Try.prog 44 #[a0] w (retK K) :=
  calls_of_vcF (k := (.n .z (.n .z (.n (.d [] [0, 1, 2, 3, 4, 5, 6, 7, 8, 9, 10, 11]) .z)))) callsOk mixed Try.func44 ((eq44 a0 w K).symm ▸ h)

/-- recto/rectoref01.Size -/
def sh45 (a0 : Value) (w : World) (K : Value → World → Prop) : Prop :=
 mLoop2 (fun t3 t4 w k =>
 mN Try.prog (vS (binOp .gtr 3 t4 (.int .i64 0))) w fun t7 w =>
 mIf t7
 (mN Try.prog (vS (binOp .add 3 t3 (.int .i64 1))) w fun t11 w =>
 mN Try.prog (vS (binOp .quo 3 t4 (.int .i64 256))) w fun t9 w =>
 k t11 t9 w)
 (K t3 w))
 (.int .i64 0) a0 w

theorem eq45 (a0 : Value) (w : World) (K : Value → World → Prop) : vcF Try.prog cOk (.n .z (.n .z (.n (.n .z (.l [3, 4] [6, 7, 10, 11, 3, 8, 9, 4] .z)) .z))) Try.f45 [a0] w K = sh45 a0 w K := by kernel_rfl

theorem ok45 {a0 : Value} {w : World} {K : Value → World → Prop} (h : sh45 a0 w K) : Calls Try.prog 45 #[a0] w (retK K) :=
  calls_of_vcF (k := (.n .z (.n .z (.n (.n .z (.l [3, 4] [6, 7, 10, 11, 3, 8, 9, 4] .z)) .z)))) callsOk mixed Try.func45 ((eq45 a0 w K).symm ▸ h)

/-- (*recto/log.Log).Add -/
def sh46 (a0 a1 : Value) (w : World) (K : Value → World → Prop) : Prop :=
 mN Try.prog (vS (eqS .eql 57 false true a0 (.pointer none))) w fun t8 w =>
 mIf t8
 (K (.int .i64 7) w)
 (mCall Try.prog 100 #[a1] w fun t11 w =>
 mN Try.prog (vS (Instr.extract t11 0)) w fun t12 w =>
 mN Try.prog (vS (Instr.extract t11 1)) w fun t13 w =>
 mN Try.prog (vS (eqS .neq 24 false true t13 (.int .i64 0))) w fun t16 w =>
 mIf t16
 (K t13 w)
 (mN Try.prog (builtin .len #[9] 3 #[false] #[t12]) w fun t20 w =>
 mCall Try.prog 44 #[a0] w fun t22 w =>
 mN Try.prog (vS (binOp .gtr 3 t20 t22)) w fun t23 w =>
 mIf t23
 (K (.int .i64 5) w)
 (mN Try.prog (nilS a0) w fun t25 w =>
 mN Try.prog (vS (Instr.fieldAt 159 t25 3)) w fun t26 w =>
 mN Try.prog (vS (Instr.loadAt 9 t26)) w fun t27 w =>
 mN Try.prog (vS (binOp .add 9 t27 t12)) w fun t29 w =>
 mN Try.prog (nilS a0) w fun t30 w =>
 mN Try.prog (vS (Instr.fieldAt 159 t30 3)) w fun t31 w =>
 mN Try.prog (uS (Instr.storeAt 9 t31 t29)) w fun _ w =>
 K (.int .i64 0) w)))

theorem eq46 (a0 a1 : Value) (w : World) (K : Value → World → Prop) : vcF Try.prog cOk .z Try.f46 [a0, a1] w K = sh46 a0 a1 w K := by kernel_rfl

theorem ok46 {a0 a1 : Value} {w : World} {K : Value → World → Prop} (h : sh46 a0 a1 w K) : Calls Try.prog 46 #[a0, a1] w (retK K) :=
  calls_of_vcF (k := .z) callsOk mixed Try.func46 ((eq46 a0 a1 w K).symm ▸ h)

/-- recto/rectolaw28.long -/
def sh47 (a0 : Value) (w : World) (K : Value → World → Prop) : Prop :=
 mN Try.prog (builtin .len #[75] 3 #[false] #[a0]) w fun t6 w =>
 mLoop1 (fun t7 w k =>
 mN Try.prog (vS (binOp .lss 3 t7 t6)) w fun t8 w =>
 mIf t8
 (mN Try.prog (vS (Instr.indexAt 75 a0 t7)) w fun t10 w =>
 mN Try.prog (vS (Instr.loadAt 78 t10)) w fun t11 w =>
 mN Try.prog (vS (Instr.alloc 78 true (.tuple #[]))) w fun t4 w =>
 mN Try.prog (uS (Instr.storeAt 78 t4 t11)) w fun _ w =>
 mN Try.prog (vS (binOp .gtr 3 t7 (.int .i64 40))) w fun t13 w =>
 mIf t13
 (K (.bool true) w)
 (mN Try.prog (vS (Instr.fieldAt 78 t4 5)) w fun t15 w =>
 mN Try.prog (vS (Instr.loadAt 35 t15)) w fun t16 w =>
 mN Try.prog (builtin .len #[35] 3 #[false] #[t16]) w fun t17 w =>
 mN Try.prog (vS (binOp .gtr 3 t17 (.int .i64 60))) w fun t18 w =>
 mIf t18
 (K (.bool true) w)
 (mN Try.prog (vS (binOp .add 3 t7 (.int .i64 1))) w fun t20 w =>
 k t20 w)))
 (K (.bool false) w))
 (.int .i64 0) w

theorem eq47 (a0 : Value) (w : World) (K : Value → World → Prop) : vcF Try.prog cOk (.n .z (.n (.n .z (.l [7] [8, 9, 10, 11, 4, 3, 12, 13, 14, 15, 16, 17, 18, 19, 2, 20, 7] .z)) .z)) Try.f47 [a0] w K = sh47 a0 w K := by kernel_rfl

theorem ok47 {a0 : Value} {w : World} {K : Value → World → Prop} (h : sh47 a0 w K) : Calls Try.prog 47 #[a0] w (retK K) :=
  calls_of_vcF (k := (.n .z (.n (.n .z (.l [7] [8, 9, 10, 11, 4, 3, 12, 13, 14, 15, 16, 17, 18, 19, 2, 20, 7] .z)) .z))) callsOk mixed Try.func47 ((eq47 a0 w K).symm ▸ h)

/-- recto/rectolaw28.does -/
def sh48 (a0 a1 a2 : Value) (w : World) (K : Value → World → Prop) : Prop :=
 mN Try.prog (vS (Instr.box 78 a2)) w fun t5 w =>
 mN Try.prog (vS (Instr.fieldAt 78 t5 0)) w fun t7 w =>
 mN Try.prog (vS (Instr.loadAt 3 t7)) w fun t8 w =>
 mN Try.prog (vS (eqS .eql 3 false true t8 (.int .i64 0))) w fun t10 w =>
 mJ (fun (J : Value → World → Prop) =>
 mIf t10
 (J t10 w)
 (mN Try.prog (vS (eqS .eql 3 false true t8 (.int .i64 1))) w fun t11 w =>
 J t11 w))
 (fun t9 w =>
 mIf t9
 (mDrew w fun w =>
 mP Try.prog (vS (Instr.fieldAt 78 t5 2)) fun t13 =>
 mR Try.prog (vS (Instr.loadAt 50 t13)) w fun t14 =>
 mP Try.prog (vS (Instr.fieldAt 78 t5 2)) fun t17 =>
 mR Try.prog (vS (Instr.loadAt 50 t17)) w fun t18 =>
 mCall Try.prog 53 #[a0, t14] w fun t15 w =>
 rdN Try.prog (vS (Instr.loadAt 50 t17)) t18 w ∧
 mCall Try.prog 51 #[t18] w fun t19 w =>
 mCall Try.prog 101 #[a1, t19] w fun t20 w =>
 mP Try.prog (vS (eqS .eql 3 false false t15 t20)) fun t21 =>
 K t21 w)
 (mN Try.prog (vS (eqS .eql 3 false true t8 (.int .i64 3))) w fun t23 w =>
 mIf t23
 (mCall Try.prog 52 #[a0] w fun t25 w =>
 mCall Try.prog 102 #[a1] w fun t27 w =>
 mN Try.prog (vS (eqS .eql 3 false false t25 t27)) w fun t28 w =>
 K t28 w)
 (mN Try.prog (vS (eqS .eql 3 false true t8 (.int .i64 4))) w fun t30 w =>
 mIf t30
 (mDrew w fun w =>
 mP Try.prog (vS (Instr.fieldAt 78 t5 1)) fun t32 =>
 mR Try.prog (vS (Instr.loadAt 3 t32)) w fun t33 =>
 mP Try.prog (vS (Instr.fieldAt 78 t5 3)) fun t34 =>
 mR Try.prog (vS (Instr.loadAt 5 t34)) w fun t35 =>
 mP Try.prog (vS (Instr.fieldAt 78 t5 1)) fun t39 =>
 mR Try.prog (vS (Instr.loadAt 3 t39)) w fun t40 =>
 mP Try.prog (vS (Instr.fieldAt 78 t5 3)) fun t41 =>
 mR Try.prog (vS (Instr.loadAt 5 t41)) w fun t42 =>
 mCall Try.prog 103 #[t35] w fun t36 w =>
 rdN Try.prog (vS (Instr.loadAt 5 t41)) t42 w ∧
 rdN Try.prog (vS (Instr.loadAt 3 t39)) t40 w ∧
 rdN Try.prog (vS (Instr.loadAt 3 t32)) t33 w ∧
 mCall Try.prog 20 #[a0, t33, t36] w fun t37 w =>
 rdN Try.prog (vS (Instr.loadAt 5 t41)) t42 w ∧
 rdN Try.prog (vS (Instr.loadAt 3 t39)) t40 w ∧
 mCall Try.prog 103 #[t42] w fun t43 w =>
 rdN Try.prog (vS (Instr.loadAt 3 t39)) t40 w ∧
 mCall Try.prog 37 #[a1, t40, t43] w fun t44 w =>
 mP Try.prog (vS (eqS .eql 3 false false t37 t44)) fun t45 =>
 K t45 w)
 (mN Try.prog (vS (eqS .eql 3 false true t8 (.int .i64 5))) w fun t47 w =>
 mIf t47
 (mCall Try.prog 22 #[a0] w fun t49 w =>
 mCall Try.prog 79 #[a1] w fun t51 w =>
 mN Try.prog (vS (eqS .eql 3 false false t49 t51)) w fun t52 w =>
 K t52 w)
 (mN Try.prog (vS (eqS .eql 3 false true t8 (.int .i64 6))) w fun t54 w =>
 mIf t54
 (mDrew w fun w =>
 mP Try.prog (vS (Instr.fieldAt 78 t5 5)) fun t56 =>
 mR Try.prog (vS (Instr.loadAt 35 t56)) w fun t57 =>
 mP Try.prog (vS (Instr.fieldAt 78 t5 5)) fun t60 =>
 mR Try.prog (vS (Instr.loadAt 35 t60)) w fun t61 =>
 mCall Try.prog 30 #[a0, t57] w fun t58 w =>
 rdN Try.prog (vS (Instr.loadAt 35 t60)) t61 w ∧
 mCall Try.prog 80 #[a1, t61] w fun t62 w =>
 mP Try.prog (vS (eqS .eql 3 false false t58 t62)) fun t63 =>
 K t63 w)
 (mN Try.prog (vS (eqS .eql 3 false true t8 (.int .i64 7))) w fun t65 w =>
 mIf t65
 (mCall Try.prog 31 #[a0] w fun t67 w =>
 mCall Try.prog 81 #[a1] w fun t69 w =>
 mN Try.prog (vS (eqS .eql 3 false false t67 t69)) w fun t70 w =>
 K t70 w)
 (mN Try.prog (vS (eqS .eql 3 false true t8 (.int .i64 8))) w fun t72 w =>
 mIf t72
 (mDrew w fun w =>
 mP Try.prog (vS (Instr.fieldAt 78 t5 1)) fun t74 =>
 mR Try.prog (vS (Instr.loadAt 3 t74)) w fun t75 =>
 mP Try.prog (vS (Instr.fieldAt 78 t5 4)) fun t76 =>
 mR Try.prog (vS (Instr.loadAt 4 t76)) w fun t77 =>
 mP Try.prog (vS (Instr.fieldAt 78 t5 5)) fun t78 =>
 mR Try.prog (vS (Instr.loadAt 35 t78)) w fun t79 =>
 mP Try.prog (vS (Instr.build 42 #[(0, t75), (1, t77), (2, t79)])) fun t80 =>
 mP Try.prog (vS (Instr.fieldAt 78 t5 1)) fun t83 =>
 mR Try.prog (vS (Instr.loadAt 3 t83)) w fun t84 =>
 mP Try.prog (vS (Instr.fieldAt 78 t5 4)) fun t85 =>
 mR Try.prog (vS (Instr.loadAt 4 t85)) w fun t86 =>
 mP Try.prog (vS (Instr.fieldAt 78 t5 5)) fun t87 =>
 mR Try.prog (vS (Instr.loadAt 35 t87)) w fun t88 =>
 mP Try.prog (vS (Instr.build 104 #[(0, t84), (1, t86), (2, t88)])) fun t89 =>
 mCall Try.prog 26 #[a0, t80] w fun t81 w =>
 rdN Try.prog (vS (Instr.loadAt 35 t87)) t88 w ∧
 rdN Try.prog (vS (Instr.loadAt 4 t85)) t86 w ∧
 rdN Try.prog (vS (Instr.loadAt 3 t83)) t84 w ∧
 rdN Try.prog (vS (Instr.loadAt 35 t78)) t79 w ∧
 rdN Try.prog (vS (Instr.loadAt 4 t76)) t77 w ∧
 rdN Try.prog (vS (Instr.loadAt 3 t74)) t75 w ∧
 mCall Try.prog 82 #[a1, t89] w fun t90 w =>
 rdN Try.prog (vS (Instr.loadAt 35 t87)) t88 w ∧
 rdN Try.prog (vS (Instr.loadAt 4 t85)) t86 w ∧
 rdN Try.prog (vS (Instr.loadAt 3 t83)) t84 w ∧
 rdN Try.prog (vS (Instr.loadAt 35 t78)) t79 w ∧
 rdN Try.prog (vS (Instr.loadAt 4 t76)) t77 w ∧
 rdN Try.prog (vS (Instr.loadAt 3 t74)) t75 w ∧
 mP Try.prog (vS (eqS .eql 3 false false t81 t90)) fun t91 =>
 K t91 w)
 (K (.bool true) w))))))))

theorem eq48 (a0 a1 a2 : Value) (w : World) (K : Value → World → Prop) : vcF Try.prog cOk (.n .z (.n (.n .z (.n (.n .z (.j [9] [11, 9] .z)) (.n (.n (.d [3, 7, 8] [0, 1, 2, 4, 5, 6, 3, 7, 8, 9, 10]) .z) (.n .z (.n .z (.n .z (.n (.n (.d [5, 6, 12, 13] [0, 1, 2, 3, 4, 7, 8, 9, 10, 11, 5, 6, 12, 13, 14, 15]) .z) (.n .z (.n .z (.n .z (.n (.n (.d [3, 7] [0, 1, 2, 4, 5, 6, 3, 7, 8, 9]) .z) (.n .z (.n .z (.n .z (.n (.n (.d [8, 17] [0, 1, 2, 3, 4, 5, 6, 7, 9, 10, 11, 12, 13, 14, 15, 16, 8, 17, 18, 19]) .z) .z))))))))))))))) .z)) Try.f48 [a0, a1, a2] w K = sh48 a0 a1 a2 w K := by kernel_rfl

theorem ok48 {a0 a1 a2 : Value} {w : World} {K : Value → World → Prop} (h : sh48 a0 a1 a2 w K) : Calls Try.prog 48 #[a0, a1, a2] w (retK K) :=
  calls_of_vcF (k := (.n .z (.n (.n .z (.n (.n .z (.j [9] [11, 9] .z)) (.n (.n (.d [3, 7, 8] [0, 1, 2, 4, 5, 6, 3, 7, 8, 9, 10]) .z) (.n .z (.n .z (.n .z (.n (.n (.d [5, 6, 12, 13] [0, 1, 2, 3, 4, 7, 8, 9, 10, 11, 5, 6, 12, 13, 14, 15]) .z) (.n .z (.n .z (.n .z (.n (.n (.d [3, 7] [0, 1, 2, 4, 5, 6, 3, 7, 8, 9]) .z) (.n .z (.n .z (.n .z (.n (.n (.d [8, 17] [0, 1, 2, 3, 4, 5, 6, 7, 9, 10, 11, 12, 13, 14, 15, 16, 8, 17, 18, 19]) .z) .z))))))))))))))) .z))) callsOk mixed Try.func48 ((eq48 a0 a1 a2 w K).symm ▸ h)

end Go.Proofs.Ythgopkppmppdoaa
