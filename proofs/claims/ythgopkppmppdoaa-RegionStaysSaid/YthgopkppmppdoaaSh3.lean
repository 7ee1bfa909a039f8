/-
  The shallow forms of the program's functions, printed by a program (tools/shallow.py) off the loaded functions; each theorem 'eqN' says that the generator of verification conditions comes to this form.
-/
import Derived.Test.YthgopkppmppdoaaProg
import Derived.Test.YthgopkppmppdoaaSh0
set_option linter.unusedVariables false
set_option maxRecDepth 100000
namespace Go.Proofs.Ythgopkppmppdoaa
open Go Go.Proofs Go.Vc

/-- recto/quill.digits -/
def sh120 (a0 : Value) (w : World) (K : Value → World → Prop) : Prop :=
 mN Try.prog (vS (eqS .eql 3 false true a0 (.int .i64 0))) w fun t4 w =>
 mIf t4
 (K (.string ⟨#[]⟩) w)
 (mDrew w fun w =>
 mP Try.prog (vS (binOp .shr 3 a0 (.int .u64 8))) fun t6 =>
 mP Try.prog (vS (convert 3 5 a0)) fun t9 =>
 (mCall Try.prog 120 #[t6] w fun t7 w =>
 mN Try.prog (vS (Instr.buildSlice 52 1 #[(0, t9)])) w fun t10 w =>
 mN Try.prog (vS (convert 52 9 t10)) w fun t11 w =>
 mP Try.prog (vS (binOp .add 9 t7 t11)) fun t12 =>
 K t12 w) ∧
 mN Try.prog (vS (Instr.buildSlice 52 1 #[(0, t9)])) w fun t10 w =>
 (mCall Try.prog 120 #[t6] w fun t7 w =>
 mN Try.prog (vS (convert 52 9 t10)) w fun t11 w =>
 mP Try.prog (vS (binOp .add 9 t7 t11)) fun t12 =>
 K t12 w) ∧
 mN Try.prog (vS (convert 52 9 t10)) w fun t11 w =>
 mCall Try.prog 120 #[t6] w fun t7 w =>
 mP Try.prog (vS (binOp .add 9 t7 t11)) fun t12 =>
 K t12 w)

theorem eq120 (a0 : Value) (w : World) (K : Value → World → Prop) : vcF Try.prog cOk (.n .z (.n .z (.n (.t [2, 5, 6] (.t 0 (.t 1 (.t 3 (.t 4 (.f 2 (.e 5 (.e 6 (.t 7 (.t 8 .z)))) (.e 5 (.f 2 (.e 6 (.t 7 (.t 8 .z))) (.e 6 (.e 2 (.t 7 (.t 8 .z)))))))))))) .z))) Try.f120 [a0] w K = sh120 a0 w K := by kernel_rfl

theorem ok120 {a0 : Value} {w : World} {K : Value → World → Prop} (h : sh120 a0 w K) : Calls Try.prog 120 #[a0] w (retK K) :=
  calls_of_vcF (k := (.n .z (.n .z (.n (.t [2, 5, 6] (.t 0 (.t 1 (.t 3 (.t 4 (.f 2 (.e 5 (.e 6 (.t 7 (.t 8 .z)))) (.e 5 (.f 2 (.e 6 (.t 7 (.t 8 .z))) (.e 6 (.e 2 (.t 7 (.t 8 .z)))))))))))) .z)))) callsOk mixed Try.func120 ((eq120 a0 w K).symm ▸ h)

/-- internal/stringslite.CutPrefix -/
def sh121 (a0 a1 : Value) (w : World) (K : Value → World → Prop) : Prop :=
 mCall Try.prog 133 #[a0, a1] w fun t8 w =>
 mN Try.prog (vS (Op.unary .not t8)) w fun t9 w =>
 mIf t9
 (K (.tuple #[a0, (.bool false)]) w)
 (mN Try.prog (builtin .len #[9] 3 #[false] #[a1]) w fun t13 w =>
 mN Try.prog (vS (Instr.sliceAt 9 a0 (some t13) none none)) w fun t14 w =>
 K (.tuple #[t14, (.bool true)]) w)

theorem eq121 (a0 a1 : Value) (w : World) (K : Value → World → Prop) : vcF Try.prog cOk .z Try.f121 [a0, a1] w K = sh121 a0 a1 w K := by kernel_rfl

theorem ok121 {a0 a1 : Value} {w : World} {K : Value → World → Prop} (h : sh121 a0 a1 w K) : Calls Try.prog 121 #[a0, a1] w (retK K) :=
  calls_of_vcF (k := .z) callsOk mixed Try.func121 ((eq121 a0 a1 w K).symm ▸ h)

/-- (*strings.Builder).copyCheck -/
def sh122 (a0 : Value) (w : World) (K : Value → World → Prop) : Prop :=
 mN Try.prog (nilS a0) w fun t3 w =>
 mN Try.prog (vS (Instr.fieldAt 153 t3 0)) w fun t4 w =>
 mN Try.prog (vS (Instr.loadAt 151 t4)) w fun t5 w =>
 mN Try.prog (vS (eqS .eql 151 false true t5 (.pointer none))) w fun t6 w =>
 mIf t6
 (mN Try.prog (vS (convert 151 208 a0)) w fun t9 w =>
 mN Try.prog (callFunc 135 #[t9]) w fun t10 w =>
 mN Try.prog (vS (convert 208 151 t10)) w fun t11 w =>
 mN Try.prog (nilS a0) w fun t12 w =>
 mN Try.prog (vS (Instr.fieldAt 153 t12 0)) w fun t13 w =>
 mN Try.prog (uS (Instr.storeAt 151 t13 t11)) w fun _ w =>
 K (.tuple #[]) w)
 (mN Try.prog (nilS a0) w fun t15 w =>
 mN Try.prog (vS (Instr.fieldAt 153 t15 0)) w fun t16 w =>
 mN Try.prog (vS (Instr.loadAt 151 t16)) w fun t17 w =>
 mN Try.prog (vS (eqS .neq 151 false false t17 a0)) w fun t19 w =>
 mIf t19
 (False)
 (K (.tuple #[]) w))

theorem eq122 (a0 : Value) (w : World) (K : Value → World → Prop) : vcF Try.prog cOk .z Try.f122 [a0] w K = sh122 a0 w K := by kernel_rfl

theorem ok122 {a0 : Value} {w : World} {K : Value → World → Prop} (h : sh122 a0 w K) : Calls Try.prog 122 #[a0] w (retK K) :=
  calls_of_vcF (k := .z) callsOk mixed Try.func122 ((eq122 a0 w K).symm ▸ h)

/-- recto/rectoref01.TakeText -/
def sh123 (a0 : Value) (w : World) (K : Value → World → Prop) : Prop :=
 mN Try.prog (vS (Instr.alloc 195 true (.tuple #[]))) w fun t2 w =>
 mCall Try.prog 136 #[a0, (.int .i64 0)] w fun t5 w =>
 mN Try.prog (vS (Instr.alloc 211 true (.tuple #[]))) w fun t3 w =>
 mN Try.prog (uS (Instr.storeAt 211 t3 t5)) w fun _ w =>
 mN Try.prog (vS (Instr.fieldAt 211 t3 1)) w fun t6 w =>
 mN Try.prog (vS (Instr.loadAt 3 t6)) w fun t7 w =>
 mN Try.prog (vS (binOp .lss 3 t7 (.int .i64 0))) w fun t8 w =>
 mIf t8
 (mN Try.prog (vS (Instr.build 195 #[(4, (.int .i64 4))])) w fun t24 w =>
 mN Try.prog (uS (Instr.storeAt 195 t2 t24)) w fun _ w =>
 mRes Try.prog (cellS 195 t2) w fun r0 =>
 K r0 w)
 (mN Try.prog (vS (Instr.fieldAt 211 t3 0)) w fun t10 w =>
 mN Try.prog (vS (Instr.loadAt 3 t10)) w fun t11 w =>
 mN Try.prog (vS (binOp .gtr 3 t11 (.int .i64 65536))) w fun t12 w =>
 mIf t12
 (mN Try.prog (vS (Instr.build 195 #[(4, (.int .i64 4))])) w fun t24 w =>
 mN Try.prog (uS (Instr.storeAt 195 t2 t24)) w fun _ w =>
 mRes Try.prog (cellS 195 t2) w fun r0 =>
 K r0 w)
 (mN Try.prog (vS (Instr.fieldAt 211 t3 0)) w fun t15 w =>
 mN Try.prog (vS (Instr.loadAt 3 t15)) w fun t16 w =>
 mN Try.prog (builtin .len #[9] 3 #[false] #[a0]) w fun t18 w =>
 mN Try.prog (vS (Instr.fieldAt 211 t3 1)) w fun t19 w =>
 mN Try.prog (vS (Instr.loadAt 3 t19)) w fun t20 w =>
 mN Try.prog (vS (binOp .sub 3 t18 t20)) w fun t21 w =>
 mN Try.prog (vS (binOp .gtr 3 t16 t21)) w fun t22 w =>
 mIf t22
 (mN Try.prog (vS (Instr.build 195 #[(4, (.int .i64 4))])) w fun t24 w =>
 mN Try.prog (uS (Instr.storeAt 195 t2 t24)) w fun _ w =>
 mRes Try.prog (cellS 195 t2) w fun r0 =>
 K r0 w)
 (mDrew w fun w =>
 mP Try.prog (vS (Instr.fieldAt 211 t3 1)) fun t26 =>
 mR Try.prog (vS (Instr.loadAt 3 t26)) w fun t27 =>
 mP Try.prog (vS (Instr.fieldAt 211 t3 1)) fun t28 =>
 mR Try.prog (vS (Instr.loadAt 3 t28)) w fun t29 =>
 mP Try.prog (vS (Instr.fieldAt 211 t3 0)) fun t30 =>
 mR Try.prog (vS (Instr.loadAt 3 t30)) w fun t31 =>
 mP Try.prog (vS (binOp .add 3 t29 t31)) fun t32 =>
 mP Try.prog (vS (Instr.sliceAt 9 a0 (some t27) (some t32) none)) fun t33 =>
 mP Try.prog (vS (Instr.fieldAt 211 t3 1)) fun t35 =>
 mR Try.prog (vS (Instr.loadAt 3 t35)) w fun t36 =>
 mP Try.prog (vS (Instr.fieldAt 211 t3 0)) fun t37 =>
 mR Try.prog (vS (Instr.loadAt 3 t37)) w fun t38 =>
 mP Try.prog (vS (binOp .add 3 t36 t38)) fun t39 =>
 mP Try.prog (vS (Instr.sliceAt 9 a0 (some t39) none none)) fun t40 =>
 mP Try.prog (vS (Instr.build 195 #[(1, t33), (3, t40)])) fun t41 =>
 mN Try.prog (uS (Instr.storeAt 195 t2 t41)) w fun _ w =>
 mRes Try.prog (cellS 195 t2) w fun r0 =>
 K r0 w)))

theorem eq123 (a0 : Value) (w : World) (K : Value → World → Prop) : vcF Try.prog cOk (.n .z (.n .z (.n .z (.n (.d [17] [0, 1, 2, 3, 4, 5, 6, 7, 8, 9, 10, 11, 12, 13, 14, 15, 16, 17]) .z)))) Try.f123 [a0] w K = sh123 a0 w K := by kernel_rfl

theorem ok123 {a0 : Value} {w : World} {K : Value → World → Prop} (h : sh123 a0 w K) : Calls Try.prog 123 #[a0] w (retK K) :=
  calls_of_vcF (k := (.n .z (.n .z (.n .z (.n (.d [17] [0, 1, 2, 3, 4, 5, 6, 7, 8, 9, 10, 11, 12, 13, 14, 15, 16, 17]) .z))))) callsOk mixed Try.func123 ((eq123 a0 w K).symm ▸ h)

/-- recto/log.each$1 -/
def sh124 (a0 a1 : Value) (w : World) (K : Value → World → Prop) : Prop :=
 mLoop0 (fun w k =>
 mN Try.prog (vS (Instr.loadAt 9 a1)) w fun t6 w =>
 mN Try.prog (vS (eqS .neq 9 false true t6 (.string ⟨#[]⟩))) w fun t7 w =>
 mIf t7
 (mN Try.prog (vS (Instr.loadAt 9 a1)) w fun t9 w =>
 mCall Try.prog 125 #[t9] w fun t10 w =>
 mN Try.prog (vS (Instr.extract t10 0)) w fun t11 w =>
 mN Try.prog (vS (Instr.extract t10 1)) w fun t12 w =>
 mN Try.prog (vS (Instr.extract t10 2)) w fun t13 w =>
 mN Try.prog (vS (eqS .neq 24 false true t13 (.int .i64 0))) w fun t15 w =>
 mIf t15
 (K (.tuple #[]) w)
 (mY Try.prog (callVS a0 #[t11, t12]) w fun t20 w =>
 mN Try.prog (vS (Op.unary .not t20)) w fun t21 w =>
 mIf t21
 (K (.tuple #[]) w)
 (mN Try.prog (uS (Instr.storeAt 9 a1 t12)) w fun _ w =>
 k w)))
 (K (.tuple #[]) w))
 w

theorem eq124 (a0 a1 : Value) (w : World) (K : Value → World → Prop) : vcF Try.prog cOk (.l [] [6, 7, 9, 10, 8, 11, 12, 13, 3, 4, 5, 14, 15, 16, 17, 18, 19, 20, 21, 22, 23] .z) Try.f124 [a0, a1] w K = sh124 a0 a1 w K := by kernel_rfl

theorem ok124 {a0 a1 : Value} {w : World} {K : Value → World → Prop} (h : sh124 a0 a1 w K) : Calls Try.prog 124 #[a0, a1] w (retK K) :=
  calls_of_vcF (k := (.l [] [6, 7, 9, 10, 8, 11, 12, 13, 3, 4, 5, 14, 15, 16, 17, 18, 19, 20, 21, 22, 23] .z)) callsOk mixed Try.func124 ((eq124 a0 a1 w K).symm ▸ h)

/-- recto/quill.TakeText -/
def sh125 (a0 : Value) (w : World) (K : Value → World → Prop) : Prop :=
 mCall Try.prog 90 #[a0] w fun t10 w =>
 mN Try.prog (vS (Instr.extract t10 0)) w fun t11 w =>
 mN Try.prog (vS (Instr.extract t10 1)) w fun t12 w =>
 mN Try.prog (vS (Instr.extract t10 2)) w fun t13 w =>
 mN Try.prog (vS (eqS .neq 24 false true t13 (.int .i64 0))) w fun t15 w =>
 mIf t15
 (K (.tuple #[(.string ⟨#[]⟩), (.string ⟨#[]⟩), (.int .i64 4)]) w)
 (mN Try.prog (vS (binOp .gtr 3 t11 (.int .i64 65536))) w fun t18 w =>
 mIf t18
 (K (.tuple #[(.string ⟨#[]⟩), (.string ⟨#[]⟩), (.int .i64 4)]) w)
 (mN Try.prog (builtin .len #[9] 3 #[false] #[t12]) w fun t23 w =>
 mN Try.prog (vS (binOp .gtr 3 t11 t23)) w fun t24 w =>
 mIf t24
 (K (.tuple #[(.string ⟨#[]⟩), (.string ⟨#[]⟩), (.int .i64 4)]) w)
 (mDrew w fun w =>
 mP Try.prog (vS (Instr.sliceAt 9 t12 none (some t11) none)) fun t28 =>
 mP Try.prog (vS (Instr.sliceAt 9 t12 (some t11) none none)) fun t31 =>
 K (.tuple #[t28, t31, (.int .i64 0)]) w)))

theorem eq125 (a0 : Value) (w : World) (K : Value → World → Prop) : vcF Try.prog cOk (.n .z (.n .z (.n .z (.n (.d [] [0, 1, 2, 3, 4, 5, 6, 7, 8]) .z)))) Try.f125 [a0] w K = sh125 a0 w K := by kernel_rfl

theorem ok125 {a0 : Value} {w : World} {K : Value → World → Prop} (h : sh125 a0 w K) : Calls Try.prog 125 #[a0] w (retK K) :=
  calls_of_vcF (k := (.n .z (.n .z (.n .z (.n (.d [] [0, 1, 2, 3, 4, 5, 6, 7, 8]) .z))))) callsOk mixed Try.func125 ((eq125 a0 w K).symm ▸ h)

/-- recto/quill.joined -/
def sh126 (a0 : Value) (w : World) (K : Value → World → Prop) : Prop :=
 mN Try.prog (vS (Instr.alloc 153 true (.tuple #[]))) w fun t4 w =>
 mN Try.prog (builtin .len #[67] 3 #[false] #[a0]) w fun t10 w =>
 mLoop1 (fun t11 w k =>
 mN Try.prog (vS (binOp .lss 3 t11 t10)) w fun t12 w =>
 mIf t12
 (mN Try.prog (vS (Instr.indexAt 67 a0 t11)) w fun t13 w =>
 mN Try.prog (vS (Instr.loadAt 9 t13)) w fun t14 w =>
 mN Try.prog (builtin .len #[9] 3 #[false] #[t14]) w fun t16 w =>
 mN Try.prog (vS (binOp .gtr 3 t16 (.int .i64 65536))) w fun t17 w =>
 mIf t17
 (K (.tuple #[(.string ⟨#[]⟩), (.int .i64 2)]) w)
 (mN Try.prog (builtin .len #[9] 3 #[false] #[t14]) w fun t20 w =>
 mCall Try.prog 87 #[t20] w fun t21 w =>
 mN Try.prog (vS (Instr.extract t21 0)) w fun t22 w =>
 mN Try.prog (vS (Instr.extract t21 1)) w fun t23 w =>
 mN Try.prog (vS (binOp .add 9 t22 t14)) w fun t26 w =>
 mCall Try.prog 93 #[t4, t26] w fun t27 w =>
 mN Try.prog (vS (binOp .add 3 t11 (.int .i64 1))) w fun t28 w =>
 k t28 w))
 (mCall Try.prog 94 #[t4] w fun t29 w =>
 K (.tuple #[t29, (.int .i64 0)]) w))
 (.int .i64 0) w

theorem eq126 (a0 : Value) (w : World) (K : Value → World → Prop) : vcF Try.prog cOk (.n .z (.n .z (.n (.n .z (.l [11] [12, 13, 14, 6, 15, 16, 17, 2, 3, 19, 20, 21, 18, 22, 23, 7, 8, 24, 25, 26, 27, 28, 11] .z)) .z))) Try.f126 [a0] w K = sh126 a0 w K := by kernel_rfl

theorem ok126 {a0 : Value} {w : World} {K : Value → World → Prop} (h : sh126 a0 w K) : Calls Try.prog 126 #[a0] w (retK K) :=
  calls_of_vcF (k := (.n .z (.n .z (.n (.n .z (.l [11] [12, 13, 14, 6, 15, 16, 17, 2, 3, 19, 20, 21, 18, 22, 23, 7, 8, 24, 25, 26, 27, 28, 11] .z)) .z)))) callsOk mixed Try.func126 ((eq126 a0 w K).symm ▸ h)

/-- recto/rectoref28.Right -/
def sh127 (a0 : Value) (w : World) (K : Value → World → Prop) : Prop :=
 mN Try.prog (vS (Instr.box 82 a0)) w fun t1 w =>
 mN Try.prog (vS (Instr.fieldAt 82 t1 0)) w fun t3 w =>
 mN Try.prog (vS (Instr.loadAt 3 t3)) w fun t4 w =>
 mN Try.prog (vS (binOp .gtr 3 t4 (.int .i64 0))) w fun t5 w =>
 mIf t5
 (mN Try.prog (vS (Instr.fieldAt 82 t1 0)) w fun t7 w =>
 mN Try.prog (vS (Instr.loadAt 3 t7)) w fun t8 w =>
 mN Try.prog (vS (binOp .leq 3 t8 (.int .i64 1099511627776))) w fun t9 w =>
 mIf t9
 (mN Try.prog (vS (Instr.fieldAt 82 t1 1)) w fun t12 w =>
 mN Try.prog (vS (Instr.loadAt 3 t12)) w fun t13 w =>
 mN Try.prog (vS (binOp .geq 3 t13 (.int .i64 0))) w fun t14 w =>
 mIf t14
 (mN Try.prog (vS (Instr.fieldAt 82 t1 1)) w fun t17 w =>
 mN Try.prog (vS (Instr.loadAt 3 t17)) w fun t18 w =>
 mN Try.prog (vS (binOp .lss 3 t18 (.int .i64 2))) w fun t19 w =>
 mIf t19
 (mN Try.prog (vS (Instr.fieldAt 82 t1 2)) w fun t22 w =>
 mN Try.prog (vS (Instr.loadAt 3 t22)) w fun t23 w =>
 mN Try.prog (vS (binOp .geq 3 t23 (.int .i64 0))) w fun t24 w =>
 mIf t24
 (mN Try.prog (vS (Instr.fieldAt 82 t1 2)) w fun t27 w =>
 mN Try.prog (vS (Instr.loadAt 3 t27)) w fun t28 w =>
 mN Try.prog (vS (binOp .leq 3 t28 (.int .i64 65536))) w fun t29 w =>
 mIf t29
 (mN Try.prog (vS (Instr.fieldAt 82 t1 3)) w fun t32 w =>
 mN Try.prog (vS (Instr.loadAt 3 t32)) w fun t33 w =>
 mN Try.prog (vS (binOp .geq 3 t33 (.int .i64 0))) w fun t34 w =>
 mIf t34
 (mN Try.prog (vS (Instr.fieldAt 82 t1 3)) w fun t37 w =>
 mN Try.prog (vS (Instr.loadAt 3 t37)) w fun t38 w =>
 mN Try.prog (vS (binOp .leq 3 t38 (.int .i64 65536))) w fun t39 w =>
 K t39 w)
 (K (.bool false) w))
 (K (.bool false) w))
 (K (.bool false) w))
 (K (.bool false) w))
 (K (.bool false) w))
 (K (.bool false) w))
 (K (.bool false) w)

theorem eq127 (a0 : Value) (w : World) (K : Value → World → Prop) : vcF Try.prog cOk .z Try.f127 [a0] w K = sh127 a0 w K := by kernel_rfl

theorem ok127 {a0 : Value} {w : World} {K : Value → World → Prop} (h : sh127 a0 w K) : Calls Try.prog 127 #[a0] w (retK K) :=
  calls_of_vcF (k := .z) callsOk mixed Try.func127 ((eq127 a0 w K).symm ▸ h)

/-- recto/rectoref28.Plain -/
def sh128 (a0 : Value) (w : World) (K : Value → World → Prop) : Prop :=
 mN Try.prog (vS (Instr.box 82 a0)) w fun t1 w =>
 mDrew w fun w =>
 mP Try.prog (vS (Instr.fieldAt 82 t1 0)) fun t4 =>
 mR Try.prog (vS (Instr.loadAt 3 t4)) w fun t5 =>
 mP Try.prog (vS (Instr.fieldAt 82 t1 1)) fun t8 =>
 mR Try.prog (vS (Instr.loadAt 3 t8)) w fun t9 =>
 mP Try.prog (vS (Instr.fieldAt 82 t1 2)) fun t12 =>
 mR Try.prog (vS (Instr.loadAt 3 t12)) w fun t13 =>
 mP Try.prog (vS (Instr.fieldAt 82 t1 3)) fun t16 =>
 mR Try.prog (vS (Instr.loadAt 3 t16)) w fun t17 =>
 mCall Try.prog 108 #[t5] w fun t6 w =>
 rdN Try.prog (vS (Instr.loadAt 3 t16)) t17 w ∧
 rdN Try.prog (vS (Instr.loadAt 3 t12)) t13 w ∧
 rdN Try.prog (vS (Instr.loadAt 3 t8)) t9 w ∧
 mP Try.prog (vS (binOp .add 9 (.string ⟨#[114, 99, 116, 111]⟩) t6)) fun t7 =>
 mCall Try.prog 108 #[t9] w fun t10 w =>
 rdN Try.prog (vS (Instr.loadAt 3 t16)) t17 w ∧
 rdN Try.prog (vS (Instr.loadAt 3 t12)) t13 w ∧
 mP Try.prog (vS (binOp .add 9 t7 t10)) fun t11 =>
 mCall Try.prog 108 #[t13] w fun t14 w =>
 rdN Try.prog (vS (Instr.loadAt 3 t16)) t17 w ∧
 mP Try.prog (vS (binOp .add 9 t11 t14)) fun t15 =>
 mCall Try.prog 108 #[t17] w fun t18 w =>
 mP Try.prog (vS (binOp .add 9 t15 t18)) fun t19 =>
 mLoop1 (fun t3 w k =>
 mN Try.prog (builtin .len #[9] 3 #[false] #[t3]) w fun t21 w =>
 mN Try.prog (vS (binOp .lss 3 t21 (.int .i64 256))) w fun t22 w =>
 mIf t22
 (mN Try.prog (vS (binOp .add 9 t3 (.string ⟨#[0]⟩))) w fun t24 w =>
 k t24 w)
 (K t3 w))
 t19 w

theorem eq128 (a0 : Value) (w : World) (K : Value → World → Prop) : vcF Try.prog cOk (.n .z (.n (.d [2, 6, 10, 14] [0, 1, 4, 5, 8, 9, 12, 13, 2, 3, 6, 7, 10, 11, 14, 15, 16]) (.n (.l [3] [20, 21, 22, 23, 24, 3] .z) .z))) Try.f128 [a0] w K = sh128 a0 w K := by kernel_rfl

theorem ok128 {a0 : Value} {w : World} {K : Value → World → Prop} (h : sh128 a0 w K) : Calls Try.prog 128 #[a0] w (retK K) :=
  calls_of_vcF (k := (.n .z (.n (.d [2, 6, 10, 14] [0, 1, 4, 5, 8, 9, 12, 13, 2, 3, 6, 7, 10, 11, 14, 15, 16]) (.n (.l [3] [20, 21, 22, 23, 24, 3] .z) .z)))) callsOk mixed Try.func128 ((eq128 a0 w K).symm ▸ h)

/-- recto/rectoref01.TakeNum -/
def sh129 (a0 : Value) (w : World) (K : Value → World → Prop) : Prop :=
 mN Try.prog (vS (Instr.alloc 195 true (.tuple #[]))) w fun t2 w =>
 mCall Try.prog 136 #[a0, (.int .i64 0)] w fun t5 w =>
 mN Try.prog (vS (Instr.alloc 211 true (.tuple #[]))) w fun t3 w =>
 mN Try.prog (uS (Instr.storeAt 211 t3 t5)) w fun _ w =>
 mN Try.prog (vS (Instr.fieldAt 211 t3 1)) w fun t6 w =>
 mN Try.prog (vS (Instr.loadAt 3 t6)) w fun t7 w =>
 mN Try.prog (vS (binOp .lss 3 t7 (.int .i64 0))) w fun t8 w =>
 mIf t8
 (mN Try.prog (vS (Instr.build 195 #[(4, (.int .i64 4))])) w fun t9 w =>
 mN Try.prog (uS (Instr.storeAt 195 t2 t9)) w fun _ w =>
 mRes Try.prog (cellS 195 t2) w fun r0 =>
 K r0 w)
 (mDrew w fun w =>
 mP Try.prog (vS (Instr.fieldAt 211 t3 0)) fun t10 =>
 mR Try.prog (vS (Instr.loadAt 3 t10)) w fun t11 =>
 mP Try.prog (vS (Instr.fieldAt 211 t3 1)) fun t13 =>
 mR Try.prog (vS (Instr.loadAt 3 t13)) w fun t14 =>
 mP Try.prog (vS (Instr.sliceAt 9 a0 (some t14) none none)) fun t15 =>
 mP Try.prog (vS (Instr.build 195 #[(0, t11), (3, t15)])) fun t16 =>
 mN Try.prog (uS (Instr.storeAt 195 t2 t16)) w fun _ w =>
 mRes Try.prog (cellS 195 t2) w fun r0 =>
 K r0 w)

theorem eq129 (a0 : Value) (w : World) (K : Value → World → Prop) : vcF Try.prog cOk (.n .z (.n .z (.n .z (.n (.d [7] [0, 1, 2, 3, 4, 5, 6, 7]) .z)))) Try.f129 [a0] w K = sh129 a0 w K := by kernel_rfl

theorem ok129 {a0 : Value} {w : World} {K : Value → World → Prop} (h : sh129 a0 w K) : Calls Try.prog 129 #[a0] w (retK K) :=
  calls_of_vcF (k := (.n .z (.n .z (.n .z (.n (.d [7] [0, 1, 2, 3, 4, 5, 6, 7]) .z))))) callsOk mixed Try.func129 ((eq129 a0 w K).symm ▸ h)

/-- (recto/region.rows).half -/
def sh130 (a0 : Value) (w : World) (K : Value → World → Prop) : Prop :=
 mN Try.prog (vS (Instr.box 180 a0)) w fun t1 w =>
 mN Try.prog (vS (Instr.fieldAt 180 t1 0)) w fun t3 w =>
 mN Try.prog (vS (Instr.loadAt 23 t3)) w fun t4 w =>
 mCall Try.prog 32 #[t4] w fun t5 w =>
 mN Try.prog (vS (binOp .sub 3 t5 (.int .i64 2))) w fun t6 w =>
 mN Try.prog (vS (binOp .quo 3 t6 (.int .i64 2))) w fun t7 w =>
 mN Try.prog (builtin .max #[3, 3] 3 #[true, false] #[(.int .i64 0), t7]) w fun t8 w =>
 K t8 w

theorem eq130 (a0 : Value) (w : World) (K : Value → World → Prop) : vcF Try.prog cOk .z Try.f130 [a0] w K = sh130 a0 w K := by kernel_rfl

theorem ok130 {a0 : Value} {w : World} {K : Value → World → Prop} (h : sh130 a0 w K) : Calls Try.prog 130 #[a0] w (retK K) :=
  calls_of_vcF (k := .z) callsOk mixed Try.func130 ((eq130 a0 w K).symm ▸ h)

/-- math/bits.Mul32 -/
def sh131 (a0 a1 : Value) (w : World) (K : Value → World → Prop) : Prop :=
 mN Try.prog (vS (convert 202 205 a0)) w fun t8 w =>
 mN Try.prog (vS (convert 202 205 a1)) w fun t10 w =>
 mN Try.prog (vS (binOp .mul 205 t8 t10)) w fun t11 w =>
 mN Try.prog (vS (binOp .shr 205 t11 (.int .u64 32))) w fun t13 w =>
 mN Try.prog (vS (convert 205 202 t13)) w fun t14 w =>
 mN Try.prog (vS (convert 205 202 t11)) w fun t16 w =>
 K (.tuple #[t14, t16]) w

theorem eq131 (a0 a1 : Value) (w : World) (K : Value → World → Prop) : vcF Try.prog cOk .z Try.f131 [a0, a1] w K = sh131 a0 a1 w K := by kernel_rfl

theorem ok131 {a0 a1 : Value} {w : World} {K : Value → World → Prop} (h : sh131 a0 a1 w K) : Calls Try.prog 131 #[a0, a1] w (retK K) :=
  calls_of_vcF (k := .z) callsOk mixed Try.func131 ((eq131 a0 a1 w K).symm ▸ h)

/-- math/bits.Mul64 -/
def sh132 (a0 a1 : Value) (w : World) (K : Value → World → Prop) : Prop :=
 mN Try.prog (vS (binOp .and 205 a0 (.int .u64 4294967295))) w fun t15 w =>
 mN Try.prog (vS (binOp .shr 205 a0 (.int .u64 32))) w fun t17 w =>
 mN Try.prog (vS (binOp .and 205 a1 (.int .u64 4294967295))) w fun t19 w =>
 mN Try.prog (vS (binOp .shr 205 a1 (.int .u64 32))) w fun t21 w =>
 mN Try.prog (vS (binOp .mul 205 t15 t19)) w fun t24 w =>
 mN Try.prog (vS (binOp .mul 205 t17 t19)) w fun t27 w =>
 mN Try.prog (vS (binOp .shr 205 t24 (.int .u64 32))) w fun t29 w =>
 mN Try.prog (vS (binOp .add 205 t27 t29)) w fun t30 w =>
 mN Try.prog (vS (binOp .and 205 t30 (.int .u64 4294967295))) w fun t32 w =>
 mN Try.prog (vS (binOp .shr 205 t30 (.int .u64 32))) w fun t34 w =>
 mN Try.prog (vS (binOp .mul 205 t15 t21)) w fun t38 w =>
 mN Try.prog (vS (binOp .add 205 t32 t38)) w fun t39 w =>
 mN Try.prog (vS (binOp .mul 205 t17 t21)) w fun t42 w =>
 mN Try.prog (vS (binOp .add 205 t42 t34)) w fun t44 w =>
 mN Try.prog (vS (binOp .shr 205 t39 (.int .u64 32))) w fun t46 w =>
 mN Try.prog (vS (binOp .add 205 t44 t46)) w fun t47 w =>
 mN Try.prog (vS (binOp .mul 205 a0 a1)) w fun t50 w =>
 K (.tuple #[t47, t50]) w

theorem eq132 (a0 a1 : Value) (w : World) (K : Value → World → Prop) : vcF Try.prog cOk .z Try.f132 [a0, a1] w K = sh132 a0 a1 w K := by kernel_rfl

theorem ok132 {a0 a1 : Value} {w : World} {K : Value → World → Prop} (h : sh132 a0 a1 w K) : Calls Try.prog 132 #[a0, a1] w (retK K) :=
  calls_of_vcF (k := .z) callsOk mixed Try.func132 ((eq132 a0 a1 w K).symm ▸ h)

/-- internal/stringslite.HasPrefix -/
def sh133 (a0 a1 : Value) (w : World) (K : Value → World → Prop) : Prop :=
 mN Try.prog (builtin .len #[9] 3 #[false] #[a0]) w fun t6 w =>
 mN Try.prog (builtin .len #[9] 3 #[false] #[a1]) w fun t8 w =>
 mN Try.prog (vS (binOp .geq 3 t6 t8)) w fun t9 w =>
 mIf t9
 (mN Try.prog (builtin .len #[9] 3 #[false] #[a1]) w fun t13 w =>
 mN Try.prog (vS (Instr.sliceAt 9 a0 none (some t13) none)) w fun t14 w =>
 mN Try.prog (vS (eqS .eql 9 false false t14 a1)) w fun t16 w =>
 K t16 w)
 (K (.bool false) w)

theorem eq133 (a0 a1 : Value) (w : World) (K : Value → World → Prop) : vcF Try.prog cOk .z Try.f133 [a0, a1] w K = sh133 a0 a1 w K := by kernel_rfl

theorem ok133 {a0 a1 : Value} {w : World} {K : Value → World → Prop} (h : sh133 a0 a1 w K) : Calls Try.prog 133 #[a0, a1] w (retK K) :=
  calls_of_vcF (k := .z) callsOk mixed Try.func133 ((eq133 a0 a1 w K).symm ▸ h)

/-- (*strings.Builder).grow -/
def sh134 (a0 a1 : Value) (w : World) (K : Value → World → Prop) : Prop :=
 mDrew w fun w =>
 mP Try.prog (nilS a0) fun t6 =>
 mP Try.prog (vS (Instr.fieldAt 153 t6 1)) fun t7 =>
 mR Try.prog (vS (Instr.loadAt 52 t7)) w fun t8 =>
 mP Try.prog (builtin .cap #[52] 3 #[false] #[t8]) fun t9 =>
 mP Try.prog (vS (binOp .mul 3 (.int .i64 2) t9)) fun t10 =>
 mP Try.prog (vS (binOp .add 3 t10 a1)) fun t12 =>
 mP Try.prog (nilS a0) fun t15 =>
 mP Try.prog (vS (Instr.fieldAt 153 t15 1)) fun t16 =>
 mR Try.prog (vS (Instr.loadAt 52 t16)) w fun t17 =>
 mP Try.prog (builtin .len #[52] 3 #[false] #[t17]) fun t18 =>
 mN Try.prog (callFunc 137 #[t12]) w fun t13 w =>
 rdN Try.prog (vS (Instr.loadAt 52 t16)) t17 w ∧
 rdN Try.prog (vS (Instr.loadAt 52 t7)) t8 w ∧
 mP Try.prog (vS (Instr.sliceAt 52 t13 none (some t18) none)) fun t19 =>
 mN Try.prog (nilS a0) w fun t22 w =>
 mN Try.prog (vS (Instr.fieldAt 153 t22 1)) w fun t23 w =>
 mN Try.prog (vS (Instr.loadAt 52 t23)) w fun t24 w =>
 mN Try.prog (builtin .copy #[52, 52] 3 #[false, false] #[t19, t24]) w fun t25 w =>
 mN Try.prog (nilS a0) w fun t28 w =>
 mN Try.prog (vS (Instr.fieldAt 153 t28 1)) w fun t29 w =>
 mN Try.prog (uS (Instr.storeAt 52 t29 t19)) w fun _ w =>
 K (.tuple #[]) w

theorem eq134 (a0 a1 : Value) (w : World) (K : Value → World → Prop) : vcF Try.prog cOk (.n (.d [8] [0, 1, 2, 3, 4, 5, 6, 7, 9, 10, 11, 12, 13, 8, 14, 15]) .z) Try.f134 [a0, a1] w K = sh134 a0 a1 w K := by kernel_rfl

theorem ok134 {a0 a1 : Value} {w : World} {K : Value → World → Prop} (h : sh134 a0 a1 w K) : Calls Try.prog 134 #[a0, a1] w (retK K) :=
  calls_of_vcF (k := (.n (.d [8] [0, 1, 2, 3, 4, 5, 6, 7, 9, 10, 11, 12, 13, 8, 14, 15]) .z)) callsOk mixed Try.func134 ((eq134 a0 a1 w K).symm ▸ h)

/-- recto/rectoref01.num -/
def sh136 (a0 a1 : Value) (w : World) (K : Value → World → Prop) : Prop :=
 mN Try.prog (vS (Instr.alloc 211 true (.tuple #[]))) w fun t4 w =>
 mN Try.prog (builtin .len #[9] 3 #[false] #[a0]) w fun t10 w =>
 mN Try.prog (vS (binOp .geq 3 a1 t10)) w fun t11 w =>
 mIf t11
 (mN Try.prog (vS (Instr.build 211 #[(0, (.int .i64 0)), (1, (.int .i64 (-1)))])) w fun t18 w =>
 mN Try.prog (uS (Instr.storeAt 211 t4 t18)) w fun _ w =>
 mRes Try.prog (cellS 211 t4) w fun r0 =>
 K r0 w)
 (mN Try.prog (vS (Instr.index 9 a0 a1)) w fun t15 w =>
 mN Try.prog (vS (binOp .gtr 5 t15 (.int .u8 6))) w fun t16 w =>
 mIf t16
 (mN Try.prog (vS (Instr.build 211 #[(0, (.int .i64 0)), (1, (.int .i64 (-1)))])) w fun t18 w =>
 mN Try.prog (uS (Instr.storeAt 211 t4 t18)) w fun _ w =>
 mRes Try.prog (cellS 211 t4) w fun r0 =>
 K r0 w)
 (mN Try.prog (vS (Instr.index 9 a0 a1)) w fun t21 w =>
 mN Try.prog (vS (convert 5 3 t21)) w fun t22 w =>
 mJ (fun (J : Value → World → Prop) =>
 mN Try.prog (builtin .len #[9] 3 #[false] #[a0]) w fun t25 w =>
 mN Try.prog (vS (binOp .sub 3 t25 a1)) w fun t27 w =>
 mN Try.prog (vS (binOp .sub 3 t27 (.int .i64 1))) w fun t28 w =>
 mN Try.prog (vS (binOp .gtr 3 t22 t28)) w fun t29 w =>
 mIf t29
 (J (.bool true) w)
 (mN Try.prog (vS (binOp .gtr 3 t22 (.int .i64 0))) w fun t32 w =>
 mIf t32
 (mN Try.prog (vS (binOp .add 3 a1 (.int .i64 1))) w fun t36 w =>
 mN Try.prog (vS (Instr.index 9 a0 t36)) w fun t37 w =>
 mN Try.prog (vS (eqS .eql 5 false true t37 (.int .u8 0))) w fun t38 w =>
 J t38 w)
 (J (.bool false) w)))
 (fun t40 w =>
 mIf t40
 (mN Try.prog (vS (Instr.build 211 #[(0, (.int .i64 0)), (1, (.int .i64 (-1)))])) w fun t41 w =>
 mN Try.prog (uS (Instr.storeAt 211 t4 t41)) w fun _ w =>
 mRes Try.prog (cellS 211 t4) w fun r0 =>
 K r0 w)
 (mLoop2 (fun t6 t7 w k =>
 mN Try.prog (vS (binOp .lss 3 t7 t22)) w fun t44 w =>
 mIf t44
 (mN Try.prog (vS (binOp .mul 3 t6 (.int .i64 256))) w fun t48 w =>
 mN Try.prog (vS (binOp .add 3 a1 (.int .i64 1))) w fun t51 w =>
 mN Try.prog (vS (binOp .add 3 t51 t7)) w fun t53 w =>
 mN Try.prog (vS (Instr.index 9 a0 t53)) w fun t54 w =>
 mN Try.prog (vS (convert 5 3 t54)) w fun t55 w =>
 mN Try.prog (vS (binOp .add 3 t48 t55)) w fun t56 w =>
 mN Try.prog (vS (binOp .add 3 t7 (.int .i64 1))) w fun t46 w =>
 k t56 t46 w)
 (mN Try.prog (vS (binOp .gtr 3 t6 (.int .i64 1099511627776))) w fun t58 w =>
 mIf t58
 (mN Try.prog (vS (Instr.build 211 #[(0, (.int .i64 0)), (1, (.int .i64 (-1)))])) w fun t59 w =>
 mN Try.prog (uS (Instr.storeAt 211 t4 t59)) w fun _ w =>
 mRes Try.prog (cellS 211 t4) w fun r0 =>
 K r0 w)
 (mN Try.prog (vS (binOp .add 3 a1 (.int .i64 1))) w fun t62 w =>
 mN Try.prog (vS (binOp .add 3 t62 t22)) w fun t64 w =>
 mN Try.prog (vS (Instr.build 211 #[(0, t6), (1, t64)])) w fun t65 w =>
 mN Try.prog (uS (Instr.storeAt 211 t4 t65)) w fun _ w =>
 mRes Try.prog (cellS 211 t4) w fun r0 =>
 K r0 w)))
 (.int .i64 0) (.int .i64 0) w))))

theorem eq136 (a0 a1 : Value) (w : World) (K : Value → World → Prop) : vcF Try.prog cOk (.n .z (.n .z (.n .z (.n (.n (.j [40] [23, 24, 25, 26, 27, 28, 29, 30, 31, 32, 33, 34, 35, 36, 37, 38, 39, 40] .z) .z) (.n .z (.n (.n .z (.l [6, 7] [42, 43, 44, 47, 48, 49, 50, 51, 52, 53, 54, 55, 56, 6, 45, 46, 7] .z)) .z)))))) Try.f136 [a0, a1] w K = sh136 a0 a1 w K := by kernel_rfl

theorem ok136 {a0 a1 : Value} {w : World} {K : Value → World → Prop} (h : sh136 a0 a1 w K) : Calls Try.prog 136 #[a0, a1] w (retK K) :=
  calls_of_vcF (k := (.n .z (.n .z (.n .z (.n (.n (.j [40] [23, 24, 25, 26, 27, 28, 29, 30, 31, 32, 33, 34, 35, 36, 37, 38, 39, 40] .z) .z) (.n .z (.n (.n .z (.l [6, 7] [42, 43, 44, 47, 48, 49, 50, 51, 52, 53, 54, 55, 56, 6, 45, 46, 7] .z)) .z))))))) callsOk mixed Try.func136 ((eq136 a0 a1 w K).symm ▸ h)

end Go.Proofs.Ythgopkppmppdoaa
