/-
  Rules of rewriting for the plain operations, printed by a program (tools/rules.py).
-/
import Derived.Test.YthgopkppmppdoaaSh0
import Derived.Test.YthgopkppmppdoaaLib
import Derived.Laws.BitsLemmas
set_option linter.unusedVariables false
namespace Go.Proofs.Ythgopkppmppdoaa
open Go Go.Proofs Go.Vc

theorem n_nil (a : Addr) (w : World) (K : Value → World → Prop) : mN Try.prog (nilS (.pointer (some a))) w K = K (.pointer (some a)) w := mN_eq (r_nil w a)
theorem p_nil (a : Addr) (K : Value → Prop) : mP Try.prog (nilS (.pointer (some a))) K = K (.pointer (some a)) := mP_eq (fun w => r_nil w a)
theorem n_not (b : Bool) (w : World) (K : Value → World → Prop) : mN Try.prog (vS (Op.unary .not (.bool b))) w K = K (.bool (!b)) w := mN_eq (vS_run (r_not w b))
theorem p_not (b : Bool) (K : Value → Prop) : mP Try.prog (vS (Op.unary .not (.bool b))) K = K (.bool (!b)) := mP_eq (fun w => vS_run (r_not w b))
theorem n_add (T : TypeId) (k : IntKind) (a b : Int) (w : World) (K : Value → World → Prop) : mN Try.prog (vS (binOp .add T (.int k a) (.int k b))) w K = K (.int k (k.wrap (a + b))) w := mN_eq (vS_run (r_add w T k a b))
theorem p_add (T : TypeId) (k : IntKind) (a b : Int) (K : Value → Prop) : mP Try.prog (vS (binOp .add T (.int k a) (.int k b))) K = K (.int k (k.wrap (a + b))) := mP_eq (fun w => vS_run (r_add w T k a b))
theorem n_sub (T : TypeId) (k : IntKind) (a b : Int) (w : World) (K : Value → World → Prop) : mN Try.prog (vS (binOp .sub T (.int k a) (.int k b))) w K = K (.int k (k.wrap (a - b))) w := mN_eq (vS_run (r_sub w T k a b))
theorem p_sub (T : TypeId) (k : IntKind) (a b : Int) (K : Value → Prop) : mP Try.prog (vS (binOp .sub T (.int k a) (.int k b))) K = K (.int k (k.wrap (a - b))) := mP_eq (fun w => vS_run (r_sub w T k a b))
theorem n_mul (T : TypeId) (k : IntKind) (a b : Int) (w : World) (K : Value → World → Prop) : mN Try.prog (vS (binOp .mul T (.int k a) (.int k b))) w K = K (.int k (k.wrap (a * b))) w := mN_eq (vS_run (r_mul w T k a b))
theorem p_mul (T : TypeId) (k : IntKind) (a b : Int) (K : Value → Prop) : mP Try.prog (vS (binOp .mul T (.int k a) (.int k b))) K = K (.int k (k.wrap (a * b))) := mP_eq (fun w => vS_run (r_mul w T k a b))
theorem n_lss (T : TypeId) (k : IntKind) (a b : Int) (w : World) (K : Value → World → Prop) : mN Try.prog (vS (binOp .lss T (.int k a) (.int k b))) w K = K (.bool (decide (a < b))) w := mN_eq (vS_run (r_lss w T k a b))
theorem p_lss (T : TypeId) (k : IntKind) (a b : Int) (K : Value → Prop) : mP Try.prog (vS (binOp .lss T (.int k a) (.int k b))) K = K (.bool (decide (a < b))) := mP_eq (fun w => vS_run (r_lss w T k a b))
theorem n_leq (T : TypeId) (k : IntKind) (a b : Int) (w : World) (K : Value → World → Prop) : mN Try.prog (vS (binOp .leq T (.int k a) (.int k b))) w K = K (.bool (decide (a ≤ b))) w := mN_eq (vS_run (r_leq w T k a b))
theorem p_leq (T : TypeId) (k : IntKind) (a b : Int) (K : Value → Prop) : mP Try.prog (vS (binOp .leq T (.int k a) (.int k b))) K = K (.bool (decide (a ≤ b))) := mP_eq (fun w => vS_run (r_leq w T k a b))
theorem n_gtr (T : TypeId) (k : IntKind) (a b : Int) (w : World) (K : Value → World → Prop) : mN Try.prog (vS (binOp .gtr T (.int k a) (.int k b))) w K = K (.bool (decide (b < a))) w := mN_eq (vS_run (r_gtr w T k a b))
theorem p_gtr (T : TypeId) (k : IntKind) (a b : Int) (K : Value → Prop) : mP Try.prog (vS (binOp .gtr T (.int k a) (.int k b))) K = K (.bool (decide (b < a))) := mP_eq (fun w => vS_run (r_gtr w T k a b))
theorem n_geq (T : TypeId) (k : IntKind) (a b : Int) (w : World) (K : Value → World → Prop) : mN Try.prog (vS (binOp .geq T (.int k a) (.int k b))) w K = K (.bool (decide (b ≤ a))) w := mN_eq (vS_run (r_geq w T k a b))
theorem p_geq (T : TypeId) (k : IntKind) (a b : Int) (K : Value → Prop) : mP Try.prog (vS (binOp .geq T (.int k a) (.int k b))) K = K (.bool (decide (b ≤ a))) := mP_eq (fun w => vS_run (r_geq w T k a b))
theorem n_quo (T : TypeId) (k : IntKind) (a b : Int) (w : World) (K : Value → World → Prop) (h : b ≠ 0) : mN Try.prog (vS (binOp .quo T (.int k a) (.int k b))) w K = K (.int k (k.wrap (a.tdiv b))) w := mN_eq (vS_run (r_quo w T k a b h))
theorem p_quo (T : TypeId) (k : IntKind) (a b : Int) (K : Value → Prop) (h : b ≠ 0) : mP Try.prog (vS (binOp .quo T (.int k a) (.int k b))) K = K (.int k (k.wrap (a.tdiv b))) := mP_eq (fun w => vS_run (r_quo w T k a b h))
theorem n_rem (T : TypeId) (k : IntKind) (a b : Int) (w : World) (K : Value → World → Prop) (h : b ≠ 0) : mN Try.prog (vS (binOp .rem T (.int k a) (.int k b))) w K = K (.int k (a.tmod b)) w := mN_eq (vS_run (r_rem w T k a b h))
theorem p_rem (T : TypeId) (k : IntKind) (a b : Int) (K : Value → Prop) (h : b ≠ 0) : mP Try.prog (vS (binOp .rem T (.int k a) (.int k b))) K = K (.int k (a.tmod b)) := mP_eq (fun w => vS_run (r_rem w T k a b h))
theorem n_addS (T : TypeId) (a b : ByteArray) (w : World) (K : Value → World → Prop) (h : a.size + b.size ≤ 9223372036854775807) : mN Try.prog (vS (binOp .add T (.string a) (.string b))) w K = K (.string (a ++ b)) w := mN_eq (vS_run (r_addS w T a b h))
theorem p_addS (T : TypeId) (a b : ByteArray) (K : Value → Prop) (h : a.size + b.size ≤ 9223372036854775807) : mP Try.prog (vS (binOp .add T (.string a) (.string b))) K = K (.string (a ++ b)) := mP_eq (fun w => vS_run (r_addS w T a b h))
theorem n_eqI (T : TypeId) (cx cy : Bool) (k : IntKind) (a b : Int) (w : World) (K : Value → World → Prop) : mN Try.prog (vS (eqS .eql T cx cy (.int k a) (.int k b))) w K = K (.bool (a == b)) w := mN_eq (vS_run (r_eqI w T cx cy k a b))
theorem p_eqI (T : TypeId) (cx cy : Bool) (k : IntKind) (a b : Int) (K : Value → Prop) : mP Try.prog (vS (eqS .eql T cx cy (.int k a) (.int k b))) K = K (.bool (a == b)) := mP_eq (fun w => vS_run (r_eqI w T cx cy k a b))
theorem n_neI (T : TypeId) (cx cy : Bool) (k : IntKind) (a b : Int) (w : World) (K : Value → World → Prop) : mN Try.prog (vS (eqS .neq T cx cy (.int k a) (.int k b))) w K = K (.bool (a != b)) w := mN_eq (vS_run (r_neI w T cx cy k a b))
theorem p_neI (T : TypeId) (cx cy : Bool) (k : IntKind) (a b : Int) (K : Value → Prop) : mP Try.prog (vS (eqS .neq T cx cy (.int k a) (.int k b))) K = K (.bool (a != b)) := mP_eq (fun w => vS_run (r_neI w T cx cy k a b))
theorem n_eqS (T : TypeId) (cx cy : Bool) (a b : ByteArray) (w : World) (K : Value → World → Prop) : mN Try.prog (vS (eqS .eql T cx cy (.string a) (.string b))) w K = K (.bool (a.toList == b.toList)) w := mN_eq (vS_run (r_eqS w T cx cy a b))
theorem p_eqS (T : TypeId) (cx cy : Bool) (a b : ByteArray) (K : Value → Prop) : mP Try.prog (vS (eqS .eql T cx cy (.string a) (.string b))) K = K (.bool (a.toList == b.toList)) := mP_eq (fun w => vS_run (r_eqS w T cx cy a b))
theorem n_neS (T : TypeId) (cx cy : Bool) (a b : ByteArray) (w : World) (K : Value → World → Prop) : mN Try.prog (vS (eqS .neq T cx cy (.string a) (.string b))) w K = K (.bool (!(a.toList == b.toList))) w := mN_eq (vS_run (r_neS w T cx cy a b))
theorem p_neS (T : TypeId) (cx cy : Bool) (a b : ByteArray) (K : Value → Prop) : mP Try.prog (vS (eqS .neq T cx cy (.string a) (.string b))) K = K (.bool (!(a.toList == b.toList))) := mP_eq (fun w => vS_run (r_neS w T cx cy a b))
theorem n_ex2_0 (x0 x1 : Value) (w : World) (K : Value → World → Prop) : mN Try.prog (vS (Instr.extract (.tuple #[x0, x1]) 0)) w K = K x0 w := mN_eq (vS_run (r_extract w [x0, x1] 0 x0 rfl))
theorem p_ex2_0 (x0 x1 : Value) (K : Value → Prop) : mP Try.prog (vS (Instr.extract (.tuple #[x0, x1]) 0)) K = K x0 := mP_eq (fun w => vS_run (r_extract w [x0, x1] 0 x0 rfl))
theorem n_ex2_1 (x0 x1 : Value) (w : World) (K : Value → World → Prop) : mN Try.prog (vS (Instr.extract (.tuple #[x0, x1]) 1)) w K = K x1 w := mN_eq (vS_run (r_extract w [x0, x1] 1 x1 rfl))
theorem p_ex2_1 (x0 x1 : Value) (K : Value → Prop) : mP Try.prog (vS (Instr.extract (.tuple #[x0, x1]) 1)) K = K x1 := mP_eq (fun w => vS_run (r_extract w [x0, x1] 1 x1 rfl))
theorem n_ex3_0 (x0 x1 x2 : Value) (w : World) (K : Value → World → Prop) : mN Try.prog (vS (Instr.extract (.tuple #[x0, x1, x2]) 0)) w K = K x0 w := mN_eq (vS_run (r_extract w [x0, x1, x2] 0 x0 rfl))
theorem p_ex3_0 (x0 x1 x2 : Value) (K : Value → Prop) : mP Try.prog (vS (Instr.extract (.tuple #[x0, x1, x2]) 0)) K = K x0 := mP_eq (fun w => vS_run (r_extract w [x0, x1, x2] 0 x0 rfl))
theorem n_ex3_1 (x0 x1 x2 : Value) (w : World) (K : Value → World → Prop) : mN Try.prog (vS (Instr.extract (.tuple #[x0, x1, x2]) 1)) w K = K x1 w := mN_eq (vS_run (r_extract w [x0, x1, x2] 1 x1 rfl))
theorem p_ex3_1 (x0 x1 x2 : Value) (K : Value → Prop) : mP Try.prog (vS (Instr.extract (.tuple #[x0, x1, x2]) 1)) K = K x1 := mP_eq (fun w => vS_run (r_extract w [x0, x1, x2] 1 x1 rfl))
theorem n_ex3_2 (x0 x1 x2 : Value) (w : World) (K : Value → World → Prop) : mN Try.prog (vS (Instr.extract (.tuple #[x0, x1, x2]) 2)) w K = K x2 w := mN_eq (vS_run (r_extract w [x0, x1, x2] 2 x2 rfl))
theorem p_ex3_2 (x0 x1 x2 : Value) (K : Value → Prop) : mP Try.prog (vS (Instr.extract (.tuple #[x0, x1, x2]) 2)) K = K x2 := mP_eq (fun w => vS_run (r_extract w [x0, x1, x2] 2 x2 rfl))
theorem n_ex4_0 (x0 x1 x2 x3 : Value) (w : World) (K : Value → World → Prop) : mN Try.prog (vS (Instr.extract (.tuple #[x0, x1, x2, x3]) 0)) w K = K x0 w := mN_eq (vS_run (r_extract w [x0, x1, x2, x3] 0 x0 rfl))
theorem p_ex4_0 (x0 x1 x2 x3 : Value) (K : Value → Prop) : mP Try.prog (vS (Instr.extract (.tuple #[x0, x1, x2, x3]) 0)) K = K x0 := mP_eq (fun w => vS_run (r_extract w [x0, x1, x2, x3] 0 x0 rfl))
theorem n_ex4_1 (x0 x1 x2 x3 : Value) (w : World) (K : Value → World → Prop) : mN Try.prog (vS (Instr.extract (.tuple #[x0, x1, x2, x3]) 1)) w K = K x1 w := mN_eq (vS_run (r_extract w [x0, x1, x2, x3] 1 x1 rfl))
theorem p_ex4_1 (x0 x1 x2 x3 : Value) (K : Value → Prop) : mP Try.prog (vS (Instr.extract (.tuple #[x0, x1, x2, x3]) 1)) K = K x1 := mP_eq (fun w => vS_run (r_extract w [x0, x1, x2, x3] 1 x1 rfl))
theorem n_ex4_2 (x0 x1 x2 x3 : Value) (w : World) (K : Value → World → Prop) : mN Try.prog (vS (Instr.extract (.tuple #[x0, x1, x2, x3]) 2)) w K = K x2 w := mN_eq (vS_run (r_extract w [x0, x1, x2, x3] 2 x2 rfl))
theorem p_ex4_2 (x0 x1 x2 x3 : Value) (K : Value → Prop) : mP Try.prog (vS (Instr.extract (.tuple #[x0, x1, x2, x3]) 2)) K = K x2 := mP_eq (fun w => vS_run (r_extract w [x0, x1, x2, x3] 2 x2 rfl))
theorem n_ex4_3 (x0 x1 x2 x3 : Value) (w : World) (K : Value → World → Prop) : mN Try.prog (vS (Instr.extract (.tuple #[x0, x1, x2, x3]) 3)) w K = K x3 w := mN_eq (vS_run (r_extract w [x0, x1, x2, x3] 3 x3 rfl))
theorem p_ex4_3 (x0 x1 x2 x3 : Value) (K : Value → Prop) : mP Try.prog (vS (Instr.extract (.tuple #[x0, x1, x2, x3]) 3)) K = K x3 := mP_eq (fun w => vS_run (r_extract w [x0, x1, x2, x3] 3 x3 rfl))
theorem fa37_0 : isFieldAt Try.prog 37 0 0 = true := by kernel_rfl
theorem n_fa37_0 (b o : Nat) (w : World) (K : Value → World → Prop) : mN Try.prog (vS (Instr.fieldAt 37 (.pointer (some ⟨b, o, none⟩)) 0)) w K = K (.pointer (some ⟨b, o, none⟩)) w := mN_eq (vS_run (r_fieldAt w fa37_0 b o))
theorem p_fa37_0 (b o : Nat) (K : Value → Prop) : mP Try.prog (vS (Instr.fieldAt 37 (.pointer (some ⟨b, o, none⟩)) 0)) K = K (.pointer (some ⟨b, o, none⟩)) := mP_eq (fun w => vS_run (r_fieldAt w fa37_0 b o))
theorem fa37_1 : isFieldAt Try.prog 37 1 1 = true := by kernel_rfl
theorem n_fa37_1 (b o : Nat) (w : World) (K : Value → World → Prop) : mN Try.prog (vS (Instr.fieldAt 37 (.pointer (some ⟨b, o, none⟩)) 1)) w K = K (.pointer (some ⟨b, o + 1, none⟩)) w := mN_eq (vS_run (r_fieldAt w fa37_1 b o))
theorem p_fa37_1 (b o : Nat) (K : Value → Prop) : mP Try.prog (vS (Instr.fieldAt 37 (.pointer (some ⟨b, o, none⟩)) 1)) K = K (.pointer (some ⟨b, o + 1, none⟩)) := mP_eq (fun w => vS_run (r_fieldAt w fa37_1 b o))
theorem fa37_2 : isFieldAt Try.prog 37 2 2 = true := by kernel_rfl
theorem n_fa37_2 (b o : Nat) (w : World) (K : Value → World → Prop) : mN Try.prog (vS (Instr.fieldAt 37 (.pointer (some ⟨b, o, none⟩)) 2)) w K = K (.pointer (some ⟨b, o + 2, none⟩)) w := mN_eq (vS_run (r_fieldAt w fa37_2 b o))
theorem p_fa37_2 (b o : Nat) (K : Value → Prop) : mP Try.prog (vS (Instr.fieldAt 37 (.pointer (some ⟨b, o, none⟩)) 2)) K = K (.pointer (some ⟨b, o + 2, none⟩)) := mP_eq (fun w => vS_run (r_fieldAt w fa37_2 b o))
theorem fa37_3 : isFieldAt Try.prog 37 3 3 = true := by kernel_rfl
theorem n_fa37_3 (b o : Nat) (w : World) (K : Value → World → Prop) : mN Try.prog (vS (Instr.fieldAt 37 (.pointer (some ⟨b, o, none⟩)) 3)) w K = K (.pointer (some ⟨b, o + 3, none⟩)) w := mN_eq (vS_run (r_fieldAt w fa37_3 b o))
theorem p_fa37_3 (b o : Nat) (K : Value → Prop) : mP Try.prog (vS (Instr.fieldAt 37 (.pointer (some ⟨b, o, none⟩)) 3)) K = K (.pointer (some ⟨b, o + 3, none⟩)) := mP_eq (fun w => vS_run (r_fieldAt w fa37_3 b o))
theorem fa37_4 : isFieldAt Try.prog 37 4 4 = true := by kernel_rfl
theorem n_fa37_4 (b o : Nat) (w : World) (K : Value → World → Prop) : mN Try.prog (vS (Instr.fieldAt 37 (.pointer (some ⟨b, o, none⟩)) 4)) w K = K (.pointer (some ⟨b, o + 4, none⟩)) w := mN_eq (vS_run (r_fieldAt w fa37_4 b o))
theorem p_fa37_4 (b o : Nat) (K : Value → Prop) : mP Try.prog (vS (Instr.fieldAt 37 (.pointer (some ⟨b, o, none⟩)) 4)) K = K (.pointer (some ⟨b, o + 4, none⟩)) := mP_eq (fun w => vS_run (r_fieldAt w fa37_4 b o))
theorem fa42_0 : isFieldAt Try.prog 42 0 0 = true := by kernel_rfl
theorem n_fa42_0 (b o : Nat) (w : World) (K : Value → World → Prop) : mN Try.prog (vS (Instr.fieldAt 42 (.pointer (some ⟨b, o, none⟩)) 0)) w K = K (.pointer (some ⟨b, o, none⟩)) w := mN_eq (vS_run (r_fieldAt w fa42_0 b o))
theorem p_fa42_0 (b o : Nat) (K : Value → Prop) : mP Try.prog (vS (Instr.fieldAt 42 (.pointer (some ⟨b, o, none⟩)) 0)) K = K (.pointer (some ⟨b, o, none⟩)) := mP_eq (fun w => vS_run (r_fieldAt w fa42_0 b o))
theorem fa42_1 : isFieldAt Try.prog 42 1 1 = true := by kernel_rfl
theorem n_fa42_1 (b o : Nat) (w : World) (K : Value → World → Prop) : mN Try.prog (vS (Instr.fieldAt 42 (.pointer (some ⟨b, o, none⟩)) 1)) w K = K (.pointer (some ⟨b, o + 1, none⟩)) w := mN_eq (vS_run (r_fieldAt w fa42_1 b o))
theorem p_fa42_1 (b o : Nat) (K : Value → Prop) : mP Try.prog (vS (Instr.fieldAt 42 (.pointer (some ⟨b, o, none⟩)) 1)) K = K (.pointer (some ⟨b, o + 1, none⟩)) := mP_eq (fun w => vS_run (r_fieldAt w fa42_1 b o))
theorem fa42_2 : isFieldAt Try.prog 42 2 2 = true := by kernel_rfl
theorem n_fa42_2 (b o : Nat) (w : World) (K : Value → World → Prop) : mN Try.prog (vS (Instr.fieldAt 42 (.pointer (some ⟨b, o, none⟩)) 2)) w K = K (.pointer (some ⟨b, o + 2, none⟩)) w := mN_eq (vS_run (r_fieldAt w fa42_2 b o))
theorem p_fa42_2 (b o : Nat) (K : Value → Prop) : mP Try.prog (vS (Instr.fieldAt 42 (.pointer (some ⟨b, o, none⟩)) 2)) K = K (.pointer (some ⟨b, o + 2, none⟩)) := mP_eq (fun w => vS_run (r_fieldAt w fa42_2 b o))
theorem fa50_0 : isFieldAt Try.prog 50 0 0 = true := by kernel_rfl
theorem n_fa50_0 (b o : Nat) (w : World) (K : Value → World → Prop) : mN Try.prog (vS (Instr.fieldAt 50 (.pointer (some ⟨b, o, none⟩)) 0)) w K = K (.pointer (some ⟨b, o, none⟩)) w := mN_eq (vS_run (r_fieldAt w fa50_0 b o))
theorem p_fa50_0 (b o : Nat) (K : Value → Prop) : mP Try.prog (vS (Instr.fieldAt 50 (.pointer (some ⟨b, o, none⟩)) 0)) K = K (.pointer (some ⟨b, o, none⟩)) := mP_eq (fun w => vS_run (r_fieldAt w fa50_0 b o))
theorem fa50_1 : isFieldAt Try.prog 50 1 1 = true := by kernel_rfl
theorem n_fa50_1 (b o : Nat) (w : World) (K : Value → World → Prop) : mN Try.prog (vS (Instr.fieldAt 50 (.pointer (some ⟨b, o, none⟩)) 1)) w K = K (.pointer (some ⟨b, o + 1, none⟩)) w := mN_eq (vS_run (r_fieldAt w fa50_1 b o))
theorem p_fa50_1 (b o : Nat) (K : Value → Prop) : mP Try.prog (vS (Instr.fieldAt 50 (.pointer (some ⟨b, o, none⟩)) 1)) K = K (.pointer (some ⟨b, o + 1, none⟩)) := mP_eq (fun w => vS_run (r_fieldAt w fa50_1 b o))
theorem fa50_2 : isFieldAt Try.prog 50 2 2 = true := by kernel_rfl
theorem n_fa50_2 (b o : Nat) (w : World) (K : Value → World → Prop) : mN Try.prog (vS (Instr.fieldAt 50 (.pointer (some ⟨b, o, none⟩)) 2)) w K = K (.pointer (some ⟨b, o + 2, none⟩)) w := mN_eq (vS_run (r_fieldAt w fa50_2 b o))
theorem p_fa50_2 (b o : Nat) (K : Value → Prop) : mP Try.prog (vS (Instr.fieldAt 50 (.pointer (some ⟨b, o, none⟩)) 2)) K = K (.pointer (some ⟨b, o + 2, none⟩)) := mP_eq (fun w => vS_run (r_fieldAt w fa50_2 b o))
theorem fa50_3 : isFieldAt Try.prog 50 3 3 = true := by kernel_rfl
theorem n_fa50_3 (b o : Nat) (w : World) (K : Value → World → Prop) : mN Try.prog (vS (Instr.fieldAt 50 (.pointer (some ⟨b, o, none⟩)) 3)) w K = K (.pointer (some ⟨b, o + 3, none⟩)) w := mN_eq (vS_run (r_fieldAt w fa50_3 b o))
theorem p_fa50_3 (b o : Nat) (K : Value → Prop) : mP Try.prog (vS (Instr.fieldAt 50 (.pointer (some ⟨b, o, none⟩)) 3)) K = K (.pointer (some ⟨b, o + 3, none⟩)) := mP_eq (fun w => vS_run (r_fieldAt w fa50_3 b o))
theorem fa62_0 : isFieldAt Try.prog 62 0 0 = true := by kernel_rfl
theorem n_fa62_0 (b o : Nat) (w : World) (K : Value → World → Prop) : mN Try.prog (vS (Instr.fieldAt 62 (.pointer (some ⟨b, o, none⟩)) 0)) w K = K (.pointer (some ⟨b, o, none⟩)) w := mN_eq (vS_run (r_fieldAt w fa62_0 b o))
theorem p_fa62_0 (b o : Nat) (K : Value → Prop) : mP Try.prog (vS (Instr.fieldAt 62 (.pointer (some ⟨b, o, none⟩)) 0)) K = K (.pointer (some ⟨b, o, none⟩)) := mP_eq (fun w => vS_run (r_fieldAt w fa62_0 b o))
theorem fa62_1 : isFieldAt Try.prog 62 1 1 = true := by kernel_rfl
theorem n_fa62_1 (b o : Nat) (w : World) (K : Value → World → Prop) : mN Try.prog (vS (Instr.fieldAt 62 (.pointer (some ⟨b, o, none⟩)) 1)) w K = K (.pointer (some ⟨b, o + 1, none⟩)) w := mN_eq (vS_run (r_fieldAt w fa62_1 b o))
theorem p_fa62_1 (b o : Nat) (K : Value → Prop) : mP Try.prog (vS (Instr.fieldAt 62 (.pointer (some ⟨b, o, none⟩)) 1)) K = K (.pointer (some ⟨b, o + 1, none⟩)) := mP_eq (fun w => vS_run (r_fieldAt w fa62_1 b o))
theorem fa65_0 : isFieldAt Try.prog 65 0 0 = true := by kernel_rfl
theorem n_fa65_0 (b o : Nat) (w : World) (K : Value → World → Prop) : mN Try.prog (vS (Instr.fieldAt 65 (.pointer (some ⟨b, o, none⟩)) 0)) w K = K (.pointer (some ⟨b, o, none⟩)) w := mN_eq (vS_run (r_fieldAt w fa65_0 b o))
theorem p_fa65_0 (b o : Nat) (K : Value → Prop) : mP Try.prog (vS (Instr.fieldAt 65 (.pointer (some ⟨b, o, none⟩)) 0)) K = K (.pointer (some ⟨b, o, none⟩)) := mP_eq (fun w => vS_run (r_fieldAt w fa65_0 b o))
theorem fa65_1 : isFieldAt Try.prog 65 1 1 = true := by kernel_rfl
theorem n_fa65_1 (b o : Nat) (w : World) (K : Value → World → Prop) : mN Try.prog (vS (Instr.fieldAt 65 (.pointer (some ⟨b, o, none⟩)) 1)) w K = K (.pointer (some ⟨b, o + 1, none⟩)) w := mN_eq (vS_run (r_fieldAt w fa65_1 b o))
theorem p_fa65_1 (b o : Nat) (K : Value → Prop) : mP Try.prog (vS (Instr.fieldAt 65 (.pointer (some ⟨b, o, none⟩)) 1)) K = K (.pointer (some ⟨b, o + 1, none⟩)) := mP_eq (fun w => vS_run (r_fieldAt w fa65_1 b o))
theorem fa65_2 : isFieldAt Try.prog 65 2 2 = true := by kernel_rfl
theorem n_fa65_2 (b o : Nat) (w : World) (K : Value → World → Prop) : mN Try.prog (vS (Instr.fieldAt 65 (.pointer (some ⟨b, o, none⟩)) 2)) w K = K (.pointer (some ⟨b, o + 2, none⟩)) w := mN_eq (vS_run (r_fieldAt w fa65_2 b o))
theorem p_fa65_2 (b o : Nat) (K : Value → Prop) : mP Try.prog (vS (Instr.fieldAt 65 (.pointer (some ⟨b, o, none⟩)) 2)) K = K (.pointer (some ⟨b, o + 2, none⟩)) := mP_eq (fun w => vS_run (r_fieldAt w fa65_2 b o))
theorem fa70_0 : isFieldAt Try.prog 70 0 0 = true := by kernel_rfl
theorem n_fa70_0 (b o : Nat) (w : World) (K : Value → World → Prop) : mN Try.prog (vS (Instr.fieldAt 70 (.pointer (some ⟨b, o, none⟩)) 0)) w K = K (.pointer (some ⟨b, o, none⟩)) w := mN_eq (vS_run (r_fieldAt w fa70_0 b o))
theorem p_fa70_0 (b o : Nat) (K : Value → Prop) : mP Try.prog (vS (Instr.fieldAt 70 (.pointer (some ⟨b, o, none⟩)) 0)) K = K (.pointer (some ⟨b, o, none⟩)) := mP_eq (fun w => vS_run (r_fieldAt w fa70_0 b o))
theorem fa70_1 : isFieldAt Try.prog 70 1 1 = true := by kernel_rfl
theorem n_fa70_1 (b o : Nat) (w : World) (K : Value → World → Prop) : mN Try.prog (vS (Instr.fieldAt 70 (.pointer (some ⟨b, o, none⟩)) 1)) w K = K (.pointer (some ⟨b, o + 1, none⟩)) w := mN_eq (vS_run (r_fieldAt w fa70_1 b o))
theorem p_fa70_1 (b o : Nat) (K : Value → Prop) : mP Try.prog (vS (Instr.fieldAt 70 (.pointer (some ⟨b, o, none⟩)) 1)) K = K (.pointer (some ⟨b, o + 1, none⟩)) := mP_eq (fun w => vS_run (r_fieldAt w fa70_1 b o))
theorem fa70_2 : isFieldAt Try.prog 70 2 2 = true := by kernel_rfl
theorem n_fa70_2 (b o : Nat) (w : World) (K : Value → World → Prop) : mN Try.prog (vS (Instr.fieldAt 70 (.pointer (some ⟨b, o, none⟩)) 2)) w K = K (.pointer (some ⟨b, o + 2, none⟩)) w := mN_eq (vS_run (r_fieldAt w fa70_2 b o))
theorem p_fa70_2 (b o : Nat) (K : Value → Prop) : mP Try.prog (vS (Instr.fieldAt 70 (.pointer (some ⟨b, o, none⟩)) 2)) K = K (.pointer (some ⟨b, o + 2, none⟩)) := mP_eq (fun w => vS_run (r_fieldAt w fa70_2 b o))
theorem fa70_3 : isFieldAt Try.prog 70 3 3 = true := by kernel_rfl
theorem n_fa70_3 (b o : Nat) (w : World) (K : Value → World → Prop) : mN Try.prog (vS (Instr.fieldAt 70 (.pointer (some ⟨b, o, none⟩)) 3)) w K = K (.pointer (some ⟨b, o + 3, none⟩)) w := mN_eq (vS_run (r_fieldAt w fa70_3 b o))
theorem p_fa70_3 (b o : Nat) (K : Value → Prop) : mP Try.prog (vS (Instr.fieldAt 70 (.pointer (some ⟨b, o, none⟩)) 3)) K = K (.pointer (some ⟨b, o + 3, none⟩)) := mP_eq (fun w => vS_run (r_fieldAt w fa70_3 b o))
theorem fa78_0 : isFieldAt Try.prog 78 0 0 = true := by kernel_rfl
theorem n_fa78_0 (b o : Nat) (w : World) (K : Value → World → Prop) : mN Try.prog (vS (Instr.fieldAt 78 (.pointer (some ⟨b, o, none⟩)) 0)) w K = K (.pointer (some ⟨b, o, none⟩)) w := mN_eq (vS_run (r_fieldAt w fa78_0 b o))
theorem p_fa78_0 (b o : Nat) (K : Value → Prop) : mP Try.prog (vS (Instr.fieldAt 78 (.pointer (some ⟨b, o, none⟩)) 0)) K = K (.pointer (some ⟨b, o, none⟩)) := mP_eq (fun w => vS_run (r_fieldAt w fa78_0 b o))
theorem fa78_1 : isFieldAt Try.prog 78 1 1 = true := by kernel_rfl
theorem n_fa78_1 (b o : Nat) (w : World) (K : Value → World → Prop) : mN Try.prog (vS (Instr.fieldAt 78 (.pointer (some ⟨b, o, none⟩)) 1)) w K = K (.pointer (some ⟨b, o + 1, none⟩)) w := mN_eq (vS_run (r_fieldAt w fa78_1 b o))
theorem p_fa78_1 (b o : Nat) (K : Value → Prop) : mP Try.prog (vS (Instr.fieldAt 78 (.pointer (some ⟨b, o, none⟩)) 1)) K = K (.pointer (some ⟨b, o + 1, none⟩)) := mP_eq (fun w => vS_run (r_fieldAt w fa78_1 b o))
theorem fa78_2 : isFieldAt Try.prog 78 2 2 = true := by kernel_rfl
theorem n_fa78_2 (b o : Nat) (w : World) (K : Value → World → Prop) : mN Try.prog (vS (Instr.fieldAt 78 (.pointer (some ⟨b, o, none⟩)) 2)) w K = K (.pointer (some ⟨b, o + 2, none⟩)) w := mN_eq (vS_run (r_fieldAt w fa78_2 b o))
theorem p_fa78_2 (b o : Nat) (K : Value → Prop) : mP Try.prog (vS (Instr.fieldAt 78 (.pointer (some ⟨b, o, none⟩)) 2)) K = K (.pointer (some ⟨b, o + 2, none⟩)) := mP_eq (fun w => vS_run (r_fieldAt w fa78_2 b o))
theorem fa78_3 : isFieldAt Try.prog 78 3 6 = true := by kernel_rfl
theorem n_fa78_3 (b o : Nat) (w : World) (K : Value → World → Prop) : mN Try.prog (vS (Instr.fieldAt 78 (.pointer (some ⟨b, o, none⟩)) 3)) w K = K (.pointer (some ⟨b, o + 6, none⟩)) w := mN_eq (vS_run (r_fieldAt w fa78_3 b o))
theorem p_fa78_3 (b o : Nat) (K : Value → Prop) : mP Try.prog (vS (Instr.fieldAt 78 (.pointer (some ⟨b, o, none⟩)) 3)) K = K (.pointer (some ⟨b, o + 6, none⟩)) := mP_eq (fun w => vS_run (r_fieldAt w fa78_3 b o))
theorem fa78_4 : isFieldAt Try.prog 78 4 7 = true := by kernel_rfl
theorem n_fa78_4 (b o : Nat) (w : World) (K : Value → World → Prop) : mN Try.prog (vS (Instr.fieldAt 78 (.pointer (some ⟨b, o, none⟩)) 4)) w K = K (.pointer (some ⟨b, o + 7, none⟩)) w := mN_eq (vS_run (r_fieldAt w fa78_4 b o))
theorem p_fa78_4 (b o : Nat) (K : Value → Prop) : mP Try.prog (vS (Instr.fieldAt 78 (.pointer (some ⟨b, o, none⟩)) 4)) K = K (.pointer (some ⟨b, o + 7, none⟩)) := mP_eq (fun w => vS_run (r_fieldAt w fa78_4 b o))
theorem fa78_5 : isFieldAt Try.prog 78 5 8 = true := by kernel_rfl
theorem n_fa78_5 (b o : Nat) (w : World) (K : Value → World → Prop) : mN Try.prog (vS (Instr.fieldAt 78 (.pointer (some ⟨b, o, none⟩)) 5)) w K = K (.pointer (some ⟨b, o + 8, none⟩)) w := mN_eq (vS_run (r_fieldAt w fa78_5 b o))
theorem p_fa78_5 (b o : Nat) (K : Value → Prop) : mP Try.prog (vS (Instr.fieldAt 78 (.pointer (some ⟨b, o, none⟩)) 5)) K = K (.pointer (some ⟨b, o + 8, none⟩)) := mP_eq (fun w => vS_run (r_fieldAt w fa78_5 b o))
theorem fa82_0 : isFieldAt Try.prog 82 0 0 = true := by kernel_rfl
theorem n_fa82_0 (b o : Nat) (w : World) (K : Value → World → Prop) : mN Try.prog (vS (Instr.fieldAt 82 (.pointer (some ⟨b, o, none⟩)) 0)) w K = K (.pointer (some ⟨b, o, none⟩)) w := mN_eq (vS_run (r_fieldAt w fa82_0 b o))
theorem p_fa82_0 (b o : Nat) (K : Value → Prop) : mP Try.prog (vS (Instr.fieldAt 82 (.pointer (some ⟨b, o, none⟩)) 0)) K = K (.pointer (some ⟨b, o, none⟩)) := mP_eq (fun w => vS_run (r_fieldAt w fa82_0 b o))
theorem fa82_1 : isFieldAt Try.prog 82 1 1 = true := by kernel_rfl
theorem n_fa82_1 (b o : Nat) (w : World) (K : Value → World → Prop) : mN Try.prog (vS (Instr.fieldAt 82 (.pointer (some ⟨b, o, none⟩)) 1)) w K = K (.pointer (some ⟨b, o + 1, none⟩)) w := mN_eq (vS_run (r_fieldAt w fa82_1 b o))
theorem p_fa82_1 (b o : Nat) (K : Value → Prop) : mP Try.prog (vS (Instr.fieldAt 82 (.pointer (some ⟨b, o, none⟩)) 1)) K = K (.pointer (some ⟨b, o + 1, none⟩)) := mP_eq (fun w => vS_run (r_fieldAt w fa82_1 b o))
theorem fa82_2 : isFieldAt Try.prog 82 2 2 = true := by kernel_rfl
theorem n_fa82_2 (b o : Nat) (w : World) (K : Value → World → Prop) : mN Try.prog (vS (Instr.fieldAt 82 (.pointer (some ⟨b, o, none⟩)) 2)) w K = K (.pointer (some ⟨b, o + 2, none⟩)) w := mN_eq (vS_run (r_fieldAt w fa82_2 b o))
theorem p_fa82_2 (b o : Nat) (K : Value → Prop) : mP Try.prog (vS (Instr.fieldAt 82 (.pointer (some ⟨b, o, none⟩)) 2)) K = K (.pointer (some ⟨b, o + 2, none⟩)) := mP_eq (fun w => vS_run (r_fieldAt w fa82_2 b o))
theorem fa82_3 : isFieldAt Try.prog 82 3 3 = true := by kernel_rfl
theorem n_fa82_3 (b o : Nat) (w : World) (K : Value → World → Prop) : mN Try.prog (vS (Instr.fieldAt 82 (.pointer (some ⟨b, o, none⟩)) 3)) w K = K (.pointer (some ⟨b, o + 3, none⟩)) w := mN_eq (vS_run (r_fieldAt w fa82_3 b o))
theorem p_fa82_3 (b o : Nat) (K : Value → Prop) : mP Try.prog (vS (Instr.fieldAt 82 (.pointer (some ⟨b, o, none⟩)) 3)) K = K (.pointer (some ⟨b, o + 3, none⟩)) := mP_eq (fun w => vS_run (r_fieldAt w fa82_3 b o))
theorem fa84_0 : isFieldAt Try.prog 84 0 0 = true := by kernel_rfl
theorem n_fa84_0 (b o : Nat) (w : World) (K : Value → World → Prop) : mN Try.prog (vS (Instr.fieldAt 84 (.pointer (some ⟨b, o, none⟩)) 0)) w K = K (.pointer (some ⟨b, o, none⟩)) w := mN_eq (vS_run (r_fieldAt w fa84_0 b o))
theorem p_fa84_0 (b o : Nat) (K : Value → Prop) : mP Try.prog (vS (Instr.fieldAt 84 (.pointer (some ⟨b, o, none⟩)) 0)) K = K (.pointer (some ⟨b, o, none⟩)) := mP_eq (fun w => vS_run (r_fieldAt w fa84_0 b o))
theorem fa84_1 : isFieldAt Try.prog 84 1 4 = true := by kernel_rfl
theorem n_fa84_1 (b o : Nat) (w : World) (K : Value → World → Prop) : mN Try.prog (vS (Instr.fieldAt 84 (.pointer (some ⟨b, o, none⟩)) 1)) w K = K (.pointer (some ⟨b, o + 4, none⟩)) w := mN_eq (vS_run (r_fieldAt w fa84_1 b o))
theorem p_fa84_1 (b o : Nat) (K : Value → Prop) : mP Try.prog (vS (Instr.fieldAt 84 (.pointer (some ⟨b, o, none⟩)) 1)) K = K (.pointer (some ⟨b, o + 4, none⟩)) := mP_eq (fun w => vS_run (r_fieldAt w fa84_1 b o))
theorem fa84_2 : isFieldAt Try.prog 84 2 5 = true := by kernel_rfl
theorem n_fa84_2 (b o : Nat) (w : World) (K : Value → World → Prop) : mN Try.prog (vS (Instr.fieldAt 84 (.pointer (some ⟨b, o, none⟩)) 2)) w K = K (.pointer (some ⟨b, o + 5, none⟩)) w := mN_eq (vS_run (r_fieldAt w fa84_2 b o))
theorem p_fa84_2 (b o : Nat) (K : Value → Prop) : mP Try.prog (vS (Instr.fieldAt 84 (.pointer (some ⟨b, o, none⟩)) 2)) K = K (.pointer (some ⟨b, o + 5, none⟩)) := mP_eq (fun w => vS_run (r_fieldAt w fa84_2 b o))
theorem fa98_2 : isFieldAt Try.prog 98 2 2 = true := by kernel_rfl
theorem n_fa98_2 (b o : Nat) (w : World) (K : Value → World → Prop) : mN Try.prog (vS (Instr.fieldAt 98 (.pointer (some ⟨b, o, none⟩)) 2)) w K = K (.pointer (some ⟨b, o + 2, none⟩)) w := mN_eq (vS_run (r_fieldAt w fa98_2 b o))
theorem p_fa98_2 (b o : Nat) (K : Value → Prop) : mP Try.prog (vS (Instr.fieldAt 98 (.pointer (some ⟨b, o, none⟩)) 2)) K = K (.pointer (some ⟨b, o + 2, none⟩)) := mP_eq (fun w => vS_run (r_fieldAt w fa98_2 b o))
theorem fa98_3 : isFieldAt Try.prog 98 3 3 = true := by kernel_rfl
theorem n_fa98_3 (b o : Nat) (w : World) (K : Value → World → Prop) : mN Try.prog (vS (Instr.fieldAt 98 (.pointer (some ⟨b, o, none⟩)) 3)) w K = K (.pointer (some ⟨b, o + 3, none⟩)) w := mN_eq (vS_run (r_fieldAt w fa98_3 b o))
theorem p_fa98_3 (b o : Nat) (K : Value → Prop) : mP Try.prog (vS (Instr.fieldAt 98 (.pointer (some ⟨b, o, none⟩)) 3)) K = K (.pointer (some ⟨b, o + 3, none⟩)) := mP_eq (fun w => vS_run (r_fieldAt w fa98_3 b o))
theorem fa100_2 : isFieldAt Try.prog 100 2 2 = true := by kernel_rfl
theorem n_fa100_2 (b o : Nat) (w : World) (K : Value → World → Prop) : mN Try.prog (vS (Instr.fieldAt 100 (.pointer (some ⟨b, o, none⟩)) 2)) w K = K (.pointer (some ⟨b, o + 2, none⟩)) w := mN_eq (vS_run (r_fieldAt w fa100_2 b o))
theorem p_fa100_2 (b o : Nat) (K : Value → Prop) : mP Try.prog (vS (Instr.fieldAt 100 (.pointer (some ⟨b, o, none⟩)) 2)) K = K (.pointer (some ⟨b, o + 2, none⟩)) := mP_eq (fun w => vS_run (r_fieldAt w fa100_2 b o))
theorem fa100_3 : isFieldAt Try.prog 100 3 3 = true := by kernel_rfl
theorem n_fa100_3 (b o : Nat) (w : World) (K : Value → World → Prop) : mN Try.prog (vS (Instr.fieldAt 100 (.pointer (some ⟨b, o, none⟩)) 3)) w K = K (.pointer (some ⟨b, o + 3, none⟩)) w := mN_eq (vS_run (r_fieldAt w fa100_3 b o))
theorem p_fa100_3 (b o : Nat) (K : Value → Prop) : mP Try.prog (vS (Instr.fieldAt 100 (.pointer (some ⟨b, o, none⟩)) 3)) K = K (.pointer (some ⟨b, o + 3, none⟩)) := mP_eq (fun w => vS_run (r_fieldAt w fa100_3 b o))
theorem fa104_0 : isFieldAt Try.prog 104 0 0 = true := by kernel_rfl
theorem n_fa104_0 (b o : Nat) (w : World) (K : Value → World → Prop) : mN Try.prog (vS (Instr.fieldAt 104 (.pointer (some ⟨b, o, none⟩)) 0)) w K = K (.pointer (some ⟨b, o, none⟩)) w := mN_eq (vS_run (r_fieldAt w fa104_0 b o))
theorem p_fa104_0 (b o : Nat) (K : Value → Prop) : mP Try.prog (vS (Instr.fieldAt 104 (.pointer (some ⟨b, o, none⟩)) 0)) K = K (.pointer (some ⟨b, o, none⟩)) := mP_eq (fun w => vS_run (r_fieldAt w fa104_0 b o))
theorem fa104_1 : isFieldAt Try.prog 104 1 1 = true := by kernel_rfl
theorem n_fa104_1 (b o : Nat) (w : World) (K : Value → World → Prop) : mN Try.prog (vS (Instr.fieldAt 104 (.pointer (some ⟨b, o, none⟩)) 1)) w K = K (.pointer (some ⟨b, o + 1, none⟩)) w := mN_eq (vS_run (r_fieldAt w fa104_1 b o))
theorem p_fa104_1 (b o : Nat) (K : Value → Prop) : mP Try.prog (vS (Instr.fieldAt 104 (.pointer (some ⟨b, o, none⟩)) 1)) K = K (.pointer (some ⟨b, o + 1, none⟩)) := mP_eq (fun w => vS_run (r_fieldAt w fa104_1 b o))
theorem fa104_2 : isFieldAt Try.prog 104 2 2 = true := by kernel_rfl
theorem n_fa104_2 (b o : Nat) (w : World) (K : Value → World → Prop) : mN Try.prog (vS (Instr.fieldAt 104 (.pointer (some ⟨b, o, none⟩)) 2)) w K = K (.pointer (some ⟨b, o + 2, none⟩)) w := mN_eq (vS_run (r_fieldAt w fa104_2 b o))
theorem p_fa104_2 (b o : Nat) (K : Value → Prop) : mP Try.prog (vS (Instr.fieldAt 104 (.pointer (some ⟨b, o, none⟩)) 2)) K = K (.pointer (some ⟨b, o + 2, none⟩)) := mP_eq (fun w => vS_run (r_fieldAt w fa104_2 b o))
theorem fa106_0 : isFieldAt Try.prog 106 0 0 = true := by kernel_rfl
theorem n_fa106_0 (b o : Nat) (w : World) (K : Value → World → Prop) : mN Try.prog (vS (Instr.fieldAt 106 (.pointer (some ⟨b, o, none⟩)) 0)) w K = K (.pointer (some ⟨b, o, none⟩)) w := mN_eq (vS_run (r_fieldAt w fa106_0 b o))
theorem p_fa106_0 (b o : Nat) (K : Value → Prop) : mP Try.prog (vS (Instr.fieldAt 106 (.pointer (some ⟨b, o, none⟩)) 0)) K = K (.pointer (some ⟨b, o, none⟩)) := mP_eq (fun w => vS_run (r_fieldAt w fa106_0 b o))
theorem fa106_1 : isFieldAt Try.prog 106 1 1 = true := by kernel_rfl
theorem n_fa106_1 (b o : Nat) (w : World) (K : Value → World → Prop) : mN Try.prog (vS (Instr.fieldAt 106 (.pointer (some ⟨b, o, none⟩)) 1)) w K = K (.pointer (some ⟨b, o + 1, none⟩)) w := mN_eq (vS_run (r_fieldAt w fa106_1 b o))
theorem p_fa106_1 (b o : Nat) (K : Value → Prop) : mP Try.prog (vS (Instr.fieldAt 106 (.pointer (some ⟨b, o, none⟩)) 1)) K = K (.pointer (some ⟨b, o + 1, none⟩)) := mP_eq (fun w => vS_run (r_fieldAt w fa106_1 b o))
theorem fa106_2 : isFieldAt Try.prog 106 2 2 = true := by kernel_rfl
theorem n_fa106_2 (b o : Nat) (w : World) (K : Value → World → Prop) : mN Try.prog (vS (Instr.fieldAt 106 (.pointer (some ⟨b, o, none⟩)) 2)) w K = K (.pointer (some ⟨b, o + 2, none⟩)) w := mN_eq (vS_run (r_fieldAt w fa106_2 b o))
theorem p_fa106_2 (b o : Nat) (K : Value → Prop) : mP Try.prog (vS (Instr.fieldAt 106 (.pointer (some ⟨b, o, none⟩)) 2)) K = K (.pointer (some ⟨b, o + 2, none⟩)) := mP_eq (fun w => vS_run (r_fieldAt w fa106_2 b o))
theorem fa106_3 : isFieldAt Try.prog 106 3 3 = true := by kernel_rfl
theorem n_fa106_3 (b o : Nat) (w : World) (K : Value → World → Prop) : mN Try.prog (vS (Instr.fieldAt 106 (.pointer (some ⟨b, o, none⟩)) 3)) w K = K (.pointer (some ⟨b, o + 3, none⟩)) w := mN_eq (vS_run (r_fieldAt w fa106_3 b o))
theorem p_fa106_3 (b o : Nat) (K : Value → Prop) : mP Try.prog (vS (Instr.fieldAt 106 (.pointer (some ⟨b, o, none⟩)) 3)) K = K (.pointer (some ⟨b, o + 3, none⟩)) := mP_eq (fun w => vS_run (r_fieldAt w fa106_3 b o))
theorem fa106_4 : isFieldAt Try.prog 106 4 4 = true := by kernel_rfl
theorem n_fa106_4 (b o : Nat) (w : World) (K : Value → World → Prop) : mN Try.prog (vS (Instr.fieldAt 106 (.pointer (some ⟨b, o, none⟩)) 4)) w K = K (.pointer (some ⟨b, o + 4, none⟩)) w := mN_eq (vS_run (r_fieldAt w fa106_4 b o))
theorem p_fa106_4 (b o : Nat) (K : Value → Prop) : mP Try.prog (vS (Instr.fieldAt 106 (.pointer (some ⟨b, o, none⟩)) 4)) K = K (.pointer (some ⟨b, o + 4, none⟩)) := mP_eq (fun w => vS_run (r_fieldAt w fa106_4 b o))
theorem fa110_1 : isFieldAt Try.prog 110 1 1 = true := by kernel_rfl
theorem n_fa110_1 (b o : Nat) (w : World) (K : Value → World → Prop) : mN Try.prog (vS (Instr.fieldAt 110 (.pointer (some ⟨b, o, none⟩)) 1)) w K = K (.pointer (some ⟨b, o + 1, none⟩)) w := mN_eq (vS_run (r_fieldAt w fa110_1 b o))
theorem p_fa110_1 (b o : Nat) (K : Value → Prop) : mP Try.prog (vS (Instr.fieldAt 110 (.pointer (some ⟨b, o, none⟩)) 1)) K = K (.pointer (some ⟨b, o + 1, none⟩)) := mP_eq (fun w => vS_run (r_fieldAt w fa110_1 b o))
theorem fa110_2 : isFieldAt Try.prog 110 2 2 = true := by kernel_rfl
theorem n_fa110_2 (b o : Nat) (w : World) (K : Value → World → Prop) : mN Try.prog (vS (Instr.fieldAt 110 (.pointer (some ⟨b, o, none⟩)) 2)) w K = K (.pointer (some ⟨b, o + 2, none⟩)) w := mN_eq (vS_run (r_fieldAt w fa110_2 b o))
theorem p_fa110_2 (b o : Nat) (K : Value → Prop) : mP Try.prog (vS (Instr.fieldAt 110 (.pointer (some ⟨b, o, none⟩)) 2)) K = K (.pointer (some ⟨b, o + 2, none⟩)) := mP_eq (fun w => vS_run (r_fieldAt w fa110_2 b o))
theorem fa110_4 : isFieldAt Try.prog 110 4 4 = true := by kernel_rfl
theorem n_fa110_4 (b o : Nat) (w : World) (K : Value → World → Prop) : mN Try.prog (vS (Instr.fieldAt 110 (.pointer (some ⟨b, o, none⟩)) 4)) w K = K (.pointer (some ⟨b, o + 4, none⟩)) w := mN_eq (vS_run (r_fieldAt w fa110_4 b o))
theorem p_fa110_4 (b o : Nat) (K : Value → Prop) : mP Try.prog (vS (Instr.fieldAt 110 (.pointer (some ⟨b, o, none⟩)) 4)) K = K (.pointer (some ⟨b, o + 4, none⟩)) := mP_eq (fun w => vS_run (r_fieldAt w fa110_4 b o))
theorem fa131_0 : isFieldAt Try.prog 131 0 0 = true := by kernel_rfl
theorem n_fa131_0 (b o : Nat) (w : World) (K : Value → World → Prop) : mN Try.prog (vS (Instr.fieldAt 131 (.pointer (some ⟨b, o, none⟩)) 0)) w K = K (.pointer (some ⟨b, o, none⟩)) w := mN_eq (vS_run (r_fieldAt w fa131_0 b o))
theorem p_fa131_0 (b o : Nat) (K : Value → Prop) : mP Try.prog (vS (Instr.fieldAt 131 (.pointer (some ⟨b, o, none⟩)) 0)) K = K (.pointer (some ⟨b, o, none⟩)) := mP_eq (fun w => vS_run (r_fieldAt w fa131_0 b o))
theorem fa131_1 : isFieldAt Try.prog 131 1 1 = true := by kernel_rfl
theorem n_fa131_1 (b o : Nat) (w : World) (K : Value → World → Prop) : mN Try.prog (vS (Instr.fieldAt 131 (.pointer (some ⟨b, o, none⟩)) 1)) w K = K (.pointer (some ⟨b, o + 1, none⟩)) w := mN_eq (vS_run (r_fieldAt w fa131_1 b o))
theorem p_fa131_1 (b o : Nat) (K : Value → Prop) : mP Try.prog (vS (Instr.fieldAt 131 (.pointer (some ⟨b, o, none⟩)) 1)) K = K (.pointer (some ⟨b, o + 1, none⟩)) := mP_eq (fun w => vS_run (r_fieldAt w fa131_1 b o))
theorem fa131_2 : isFieldAt Try.prog 131 2 2 = true := by kernel_rfl
theorem n_fa131_2 (b o : Nat) (w : World) (K : Value → World → Prop) : mN Try.prog (vS (Instr.fieldAt 131 (.pointer (some ⟨b, o, none⟩)) 2)) w K = K (.pointer (some ⟨b, o + 2, none⟩)) w := mN_eq (vS_run (r_fieldAt w fa131_2 b o))
theorem p_fa131_2 (b o : Nat) (K : Value → Prop) : mP Try.prog (vS (Instr.fieldAt 131 (.pointer (some ⟨b, o, none⟩)) 2)) K = K (.pointer (some ⟨b, o + 2, none⟩)) := mP_eq (fun w => vS_run (r_fieldAt w fa131_2 b o))
theorem fa131_3 : isFieldAt Try.prog 131 3 3 = true := by kernel_rfl
theorem n_fa131_3 (b o : Nat) (w : World) (K : Value → World → Prop) : mN Try.prog (vS (Instr.fieldAt 131 (.pointer (some ⟨b, o, none⟩)) 3)) w K = K (.pointer (some ⟨b, o + 3, none⟩)) w := mN_eq (vS_run (r_fieldAt w fa131_3 b o))
theorem p_fa131_3 (b o : Nat) (K : Value → Prop) : mP Try.prog (vS (Instr.fieldAt 131 (.pointer (some ⟨b, o, none⟩)) 3)) K = K (.pointer (some ⟨b, o + 3, none⟩)) := mP_eq (fun w => vS_run (r_fieldAt w fa131_3 b o))
theorem fa131_4 : isFieldAt Try.prog 131 4 4 = true := by kernel_rfl
theorem n_fa131_4 (b o : Nat) (w : World) (K : Value → World → Prop) : mN Try.prog (vS (Instr.fieldAt 131 (.pointer (some ⟨b, o, none⟩)) 4)) w K = K (.pointer (some ⟨b, o + 4, none⟩)) w := mN_eq (vS_run (r_fieldAt w fa131_4 b o))
theorem p_fa131_4 (b o : Nat) (K : Value → Prop) : mP Try.prog (vS (Instr.fieldAt 131 (.pointer (some ⟨b, o, none⟩)) 4)) K = K (.pointer (some ⟨b, o + 4, none⟩)) := mP_eq (fun w => vS_run (r_fieldAt w fa131_4 b o))
theorem fa136_0 : isFieldAt Try.prog 136 0 0 = true := by kernel_rfl
theorem n_fa136_0 (b o : Nat) (w : World) (K : Value → World → Prop) : mN Try.prog (vS (Instr.fieldAt 136 (.pointer (some ⟨b, o, none⟩)) 0)) w K = K (.pointer (some ⟨b, o, none⟩)) w := mN_eq (vS_run (r_fieldAt w fa136_0 b o))
theorem p_fa136_0 (b o : Nat) (K : Value → Prop) : mP Try.prog (vS (Instr.fieldAt 136 (.pointer (some ⟨b, o, none⟩)) 0)) K = K (.pointer (some ⟨b, o, none⟩)) := mP_eq (fun w => vS_run (r_fieldAt w fa136_0 b o))
theorem fa136_1 : isFieldAt Try.prog 136 1 1 = true := by kernel_rfl
theorem n_fa136_1 (b o : Nat) (w : World) (K : Value → World → Prop) : mN Try.prog (vS (Instr.fieldAt 136 (.pointer (some ⟨b, o, none⟩)) 1)) w K = K (.pointer (some ⟨b, o + 1, none⟩)) w := mN_eq (vS_run (r_fieldAt w fa136_1 b o))
theorem p_fa136_1 (b o : Nat) (K : Value → Prop) : mP Try.prog (vS (Instr.fieldAt 136 (.pointer (some ⟨b, o, none⟩)) 1)) K = K (.pointer (some ⟨b, o + 1, none⟩)) := mP_eq (fun w => vS_run (r_fieldAt w fa136_1 b o))
theorem fa150_0 : isFieldAt Try.prog 150 0 0 = true := by kernel_rfl
theorem n_fa150_0 (b o : Nat) (w : World) (K : Value → World → Prop) : mN Try.prog (vS (Instr.fieldAt 150 (.pointer (some ⟨b, o, none⟩)) 0)) w K = K (.pointer (some ⟨b, o, none⟩)) w := mN_eq (vS_run (r_fieldAt w fa150_0 b o))
theorem p_fa150_0 (b o : Nat) (K : Value → Prop) : mP Try.prog (vS (Instr.fieldAt 150 (.pointer (some ⟨b, o, none⟩)) 0)) K = K (.pointer (some ⟨b, o, none⟩)) := mP_eq (fun w => vS_run (r_fieldAt w fa150_0 b o))
theorem fa150_1 : isFieldAt Try.prog 150 1 1 = true := by kernel_rfl
theorem n_fa150_1 (b o : Nat) (w : World) (K : Value → World → Prop) : mN Try.prog (vS (Instr.fieldAt 150 (.pointer (some ⟨b, o, none⟩)) 1)) w K = K (.pointer (some ⟨b, o + 1, none⟩)) w := mN_eq (vS_run (r_fieldAt w fa150_1 b o))
theorem p_fa150_1 (b o : Nat) (K : Value → Prop) : mP Try.prog (vS (Instr.fieldAt 150 (.pointer (some ⟨b, o, none⟩)) 1)) K = K (.pointer (some ⟨b, o + 1, none⟩)) := mP_eq (fun w => vS_run (r_fieldAt w fa150_1 b o))
theorem fa153_0 : isFieldAt Try.prog 153 0 0 = true := by kernel_rfl
theorem n_fa153_0 (b o : Nat) (w : World) (K : Value → World → Prop) : mN Try.prog (vS (Instr.fieldAt 153 (.pointer (some ⟨b, o, none⟩)) 0)) w K = K (.pointer (some ⟨b, o, none⟩)) w := mN_eq (vS_run (r_fieldAt w fa153_0 b o))
theorem p_fa153_0 (b o : Nat) (K : Value → Prop) : mP Try.prog (vS (Instr.fieldAt 153 (.pointer (some ⟨b, o, none⟩)) 0)) K = K (.pointer (some ⟨b, o, none⟩)) := mP_eq (fun w => vS_run (r_fieldAt w fa153_0 b o))
theorem fa153_1 : isFieldAt Try.prog 153 1 1 = true := by kernel_rfl
theorem n_fa153_1 (b o : Nat) (w : World) (K : Value → World → Prop) : mN Try.prog (vS (Instr.fieldAt 153 (.pointer (some ⟨b, o, none⟩)) 1)) w K = K (.pointer (some ⟨b, o + 1, none⟩)) w := mN_eq (vS_run (r_fieldAt w fa153_1 b o))
theorem p_fa153_1 (b o : Nat) (K : Value → Prop) : mP Try.prog (vS (Instr.fieldAt 153 (.pointer (some ⟨b, o, none⟩)) 1)) K = K (.pointer (some ⟨b, o + 1, none⟩)) := mP_eq (fun w => vS_run (r_fieldAt w fa153_1 b o))
theorem fa159_0 : isFieldAt Try.prog 159 0 0 = true := by kernel_rfl
theorem n_fa159_0 (b o : Nat) (w : World) (K : Value → World → Prop) : mN Try.prog (vS (Instr.fieldAt 159 (.pointer (some ⟨b, o, none⟩)) 0)) w K = K (.pointer (some ⟨b, o, none⟩)) w := mN_eq (vS_run (r_fieldAt w fa159_0 b o))
theorem p_fa159_0 (b o : Nat) (K : Value → Prop) : mP Try.prog (vS (Instr.fieldAt 159 (.pointer (some ⟨b, o, none⟩)) 0)) K = K (.pointer (some ⟨b, o, none⟩)) := mP_eq (fun w => vS_run (r_fieldAt w fa159_0 b o))
theorem fa159_1 : isFieldAt Try.prog 159 1 1 = true := by kernel_rfl
theorem n_fa159_1 (b o : Nat) (w : World) (K : Value → World → Prop) : mN Try.prog (vS (Instr.fieldAt 159 (.pointer (some ⟨b, o, none⟩)) 1)) w K = K (.pointer (some ⟨b, o + 1, none⟩)) w := mN_eq (vS_run (r_fieldAt w fa159_1 b o))
theorem p_fa159_1 (b o : Nat) (K : Value → Prop) : mP Try.prog (vS (Instr.fieldAt 159 (.pointer (some ⟨b, o, none⟩)) 1)) K = K (.pointer (some ⟨b, o + 1, none⟩)) := mP_eq (fun w => vS_run (r_fieldAt w fa159_1 b o))
theorem fa159_2 : isFieldAt Try.prog 159 2 2 = true := by kernel_rfl
theorem n_fa159_2 (b o : Nat) (w : World) (K : Value → World → Prop) : mN Try.prog (vS (Instr.fieldAt 159 (.pointer (some ⟨b, o, none⟩)) 2)) w K = K (.pointer (some ⟨b, o + 2, none⟩)) w := mN_eq (vS_run (r_fieldAt w fa159_2 b o))
theorem p_fa159_2 (b o : Nat) (K : Value → Prop) : mP Try.prog (vS (Instr.fieldAt 159 (.pointer (some ⟨b, o, none⟩)) 2)) K = K (.pointer (some ⟨b, o + 2, none⟩)) := mP_eq (fun w => vS_run (r_fieldAt w fa159_2 b o))
theorem fa159_3 : isFieldAt Try.prog 159 3 3 = true := by kernel_rfl
theorem n_fa159_3 (b o : Nat) (w : World) (K : Value → World → Prop) : mN Try.prog (vS (Instr.fieldAt 159 (.pointer (some ⟨b, o, none⟩)) 3)) w K = K (.pointer (some ⟨b, o + 3, none⟩)) w := mN_eq (vS_run (r_fieldAt w fa159_3 b o))
theorem p_fa159_3 (b o : Nat) (K : Value → Prop) : mP Try.prog (vS (Instr.fieldAt 159 (.pointer (some ⟨b, o, none⟩)) 3)) K = K (.pointer (some ⟨b, o + 3, none⟩)) := mP_eq (fun w => vS_run (r_fieldAt w fa159_3 b o))
theorem fa159_4 : isFieldAt Try.prog 159 4 4 = true := by kernel_rfl
theorem n_fa159_4 (b o : Nat) (w : World) (K : Value → World → Prop) : mN Try.prog (vS (Instr.fieldAt 159 (.pointer (some ⟨b, o, none⟩)) 4)) w K = K (.pointer (some ⟨b, o + 4, none⟩)) w := mN_eq (vS_run (r_fieldAt w fa159_4 b o))
theorem p_fa159_4 (b o : Nat) (K : Value → Prop) : mP Try.prog (vS (Instr.fieldAt 159 (.pointer (some ⟨b, o, none⟩)) 4)) K = K (.pointer (some ⟨b, o + 4, none⟩)) := mP_eq (fun w => vS_run (r_fieldAt w fa159_4 b o))
theorem fa163_0 : isFieldAt Try.prog 163 0 0 = true := by kernel_rfl
theorem n_fa163_0 (b o : Nat) (w : World) (K : Value → World → Prop) : mN Try.prog (vS (Instr.fieldAt 163 (.pointer (some ⟨b, o, none⟩)) 0)) w K = K (.pointer (some ⟨b, o, none⟩)) w := mN_eq (vS_run (r_fieldAt w fa163_0 b o))
theorem p_fa163_0 (b o : Nat) (K : Value → Prop) : mP Try.prog (vS (Instr.fieldAt 163 (.pointer (some ⟨b, o, none⟩)) 0)) K = K (.pointer (some ⟨b, o, none⟩)) := mP_eq (fun w => vS_run (r_fieldAt w fa163_0 b o))
theorem fa163_1 : isFieldAt Try.prog 163 1 1 = true := by kernel_rfl
theorem n_fa163_1 (b o : Nat) (w : World) (K : Value → World → Prop) : mN Try.prog (vS (Instr.fieldAt 163 (.pointer (some ⟨b, o, none⟩)) 1)) w K = K (.pointer (some ⟨b, o + 1, none⟩)) w := mN_eq (vS_run (r_fieldAt w fa163_1 b o))
theorem p_fa163_1 (b o : Nat) (K : Value → Prop) : mP Try.prog (vS (Instr.fieldAt 163 (.pointer (some ⟨b, o, none⟩)) 1)) K = K (.pointer (some ⟨b, o + 1, none⟩)) := mP_eq (fun w => vS_run (r_fieldAt w fa163_1 b o))
theorem fa173_0 : isFieldAt Try.prog 173 0 0 = true := by kernel_rfl
theorem n_fa173_0 (b o : Nat) (w : World) (K : Value → World → Prop) : mN Try.prog (vS (Instr.fieldAt 173 (.pointer (some ⟨b, o, none⟩)) 0)) w K = K (.pointer (some ⟨b, o, none⟩)) w := mN_eq (vS_run (r_fieldAt w fa173_0 b o))
theorem p_fa173_0 (b o : Nat) (K : Value → Prop) : mP Try.prog (vS (Instr.fieldAt 173 (.pointer (some ⟨b, o, none⟩)) 0)) K = K (.pointer (some ⟨b, o, none⟩)) := mP_eq (fun w => vS_run (r_fieldAt w fa173_0 b o))
theorem fa173_1 : isFieldAt Try.prog 173 1 4 = true := by kernel_rfl
theorem n_fa173_1 (b o : Nat) (w : World) (K : Value → World → Prop) : mN Try.prog (vS (Instr.fieldAt 173 (.pointer (some ⟨b, o, none⟩)) 1)) w K = K (.pointer (some ⟨b, o + 4, none⟩)) w := mN_eq (vS_run (r_fieldAt w fa173_1 b o))
theorem p_fa173_1 (b o : Nat) (K : Value → Prop) : mP Try.prog (vS (Instr.fieldAt 173 (.pointer (some ⟨b, o, none⟩)) 1)) K = K (.pointer (some ⟨b, o + 4, none⟩)) := mP_eq (fun w => vS_run (r_fieldAt w fa173_1 b o))
theorem fa180_0 : isFieldAt Try.prog 180 0 0 = true := by kernel_rfl
theorem n_fa180_0 (b o : Nat) (w : World) (K : Value → World → Prop) : mN Try.prog (vS (Instr.fieldAt 180 (.pointer (some ⟨b, o, none⟩)) 0)) w K = K (.pointer (some ⟨b, o, none⟩)) w := mN_eq (vS_run (r_fieldAt w fa180_0 b o))
theorem p_fa180_0 (b o : Nat) (K : Value → Prop) : mP Try.prog (vS (Instr.fieldAt 180 (.pointer (some ⟨b, o, none⟩)) 0)) K = K (.pointer (some ⟨b, o, none⟩)) := mP_eq (fun w => vS_run (r_fieldAt w fa180_0 b o))
theorem fa182_0 : isFieldAt Try.prog 182 0 0 = true := by kernel_rfl
theorem n_fa182_0 (b o : Nat) (w : World) (K : Value → World → Prop) : mN Try.prog (vS (Instr.fieldAt 182 (.pointer (some ⟨b, o, none⟩)) 0)) w K = K (.pointer (some ⟨b, o, none⟩)) w := mN_eq (vS_run (r_fieldAt w fa182_0 b o))
theorem p_fa182_0 (b o : Nat) (K : Value → Prop) : mP Try.prog (vS (Instr.fieldAt 182 (.pointer (some ⟨b, o, none⟩)) 0)) K = K (.pointer (some ⟨b, o, none⟩)) := mP_eq (fun w => vS_run (r_fieldAt w fa182_0 b o))
theorem fa184_0 : isFieldAt Try.prog 184 0 0 = true := by kernel_rfl
theorem n_fa184_0 (b o : Nat) (w : World) (K : Value → World → Prop) : mN Try.prog (vS (Instr.fieldAt 184 (.pointer (some ⟨b, o, none⟩)) 0)) w K = K (.pointer (some ⟨b, o, none⟩)) w := mN_eq (vS_run (r_fieldAt w fa184_0 b o))
theorem p_fa184_0 (b o : Nat) (K : Value → Prop) : mP Try.prog (vS (Instr.fieldAt 184 (.pointer (some ⟨b, o, none⟩)) 0)) K = K (.pointer (some ⟨b, o, none⟩)) := mP_eq (fun w => vS_run (r_fieldAt w fa184_0 b o))
theorem fa184_1 : isFieldAt Try.prog 184 1 1 = true := by kernel_rfl
theorem n_fa184_1 (b o : Nat) (w : World) (K : Value → World → Prop) : mN Try.prog (vS (Instr.fieldAt 184 (.pointer (some ⟨b, o, none⟩)) 1)) w K = K (.pointer (some ⟨b, o + 1, none⟩)) w := mN_eq (vS_run (r_fieldAt w fa184_1 b o))
theorem p_fa184_1 (b o : Nat) (K : Value → Prop) : mP Try.prog (vS (Instr.fieldAt 184 (.pointer (some ⟨b, o, none⟩)) 1)) K = K (.pointer (some ⟨b, o + 1, none⟩)) := mP_eq (fun w => vS_run (r_fieldAt w fa184_1 b o))
theorem fa184_2 : isFieldAt Try.prog 184 2 2 = true := by kernel_rfl
theorem n_fa184_2 (b o : Nat) (w : World) (K : Value → World → Prop) : mN Try.prog (vS (Instr.fieldAt 184 (.pointer (some ⟨b, o, none⟩)) 2)) w K = K (.pointer (some ⟨b, o + 2, none⟩)) w := mN_eq (vS_run (r_fieldAt w fa184_2 b o))
theorem p_fa184_2 (b o : Nat) (K : Value → Prop) : mP Try.prog (vS (Instr.fieldAt 184 (.pointer (some ⟨b, o, none⟩)) 2)) K = K (.pointer (some ⟨b, o + 2, none⟩)) := mP_eq (fun w => vS_run (r_fieldAt w fa184_2 b o))
theorem fa195_0 : isFieldAt Try.prog 195 0 0 = true := by kernel_rfl
theorem n_fa195_0 (b o : Nat) (w : World) (K : Value → World → Prop) : mN Try.prog (vS (Instr.fieldAt 195 (.pointer (some ⟨b, o, none⟩)) 0)) w K = K (.pointer (some ⟨b, o, none⟩)) w := mN_eq (vS_run (r_fieldAt w fa195_0 b o))
theorem p_fa195_0 (b o : Nat) (K : Value → Prop) : mP Try.prog (vS (Instr.fieldAt 195 (.pointer (some ⟨b, o, none⟩)) 0)) K = K (.pointer (some ⟨b, o, none⟩)) := mP_eq (fun w => vS_run (r_fieldAt w fa195_0 b o))
theorem fa195_1 : isFieldAt Try.prog 195 1 1 = true := by kernel_rfl
theorem n_fa195_1 (b o : Nat) (w : World) (K : Value → World → Prop) : mN Try.prog (vS (Instr.fieldAt 195 (.pointer (some ⟨b, o, none⟩)) 1)) w K = K (.pointer (some ⟨b, o + 1, none⟩)) w := mN_eq (vS_run (r_fieldAt w fa195_1 b o))
theorem p_fa195_1 (b o : Nat) (K : Value → Prop) : mP Try.prog (vS (Instr.fieldAt 195 (.pointer (some ⟨b, o, none⟩)) 1)) K = K (.pointer (some ⟨b, o + 1, none⟩)) := mP_eq (fun w => vS_run (r_fieldAt w fa195_1 b o))
theorem fa195_3 : isFieldAt Try.prog 195 3 3 = true := by kernel_rfl
theorem n_fa195_3 (b o : Nat) (w : World) (K : Value → World → Prop) : mN Try.prog (vS (Instr.fieldAt 195 (.pointer (some ⟨b, o, none⟩)) 3)) w K = K (.pointer (some ⟨b, o + 3, none⟩)) w := mN_eq (vS_run (r_fieldAt w fa195_3 b o))
theorem p_fa195_3 (b o : Nat) (K : Value → Prop) : mP Try.prog (vS (Instr.fieldAt 195 (.pointer (some ⟨b, o, none⟩)) 3)) K = K (.pointer (some ⟨b, o + 3, none⟩)) := mP_eq (fun w => vS_run (r_fieldAt w fa195_3 b o))
theorem fa195_4 : isFieldAt Try.prog 195 4 4 = true := by kernel_rfl
theorem n_fa195_4 (b o : Nat) (w : World) (K : Value → World → Prop) : mN Try.prog (vS (Instr.fieldAt 195 (.pointer (some ⟨b, o, none⟩)) 4)) w K = K (.pointer (some ⟨b, o + 4, none⟩)) w := mN_eq (vS_run (r_fieldAt w fa195_4 b o))
theorem p_fa195_4 (b o : Nat) (K : Value → Prop) : mP Try.prog (vS (Instr.fieldAt 195 (.pointer (some ⟨b, o, none⟩)) 4)) K = K (.pointer (some ⟨b, o + 4, none⟩)) := mP_eq (fun w => vS_run (r_fieldAt w fa195_4 b o))
theorem fa211_0 : isFieldAt Try.prog 211 0 0 = true := by kernel_rfl
theorem n_fa211_0 (b o : Nat) (w : World) (K : Value → World → Prop) : mN Try.prog (vS (Instr.fieldAt 211 (.pointer (some ⟨b, o, none⟩)) 0)) w K = K (.pointer (some ⟨b, o, none⟩)) w := mN_eq (vS_run (r_fieldAt w fa211_0 b o))
theorem p_fa211_0 (b o : Nat) (K : Value → Prop) : mP Try.prog (vS (Instr.fieldAt 211 (.pointer (some ⟨b, o, none⟩)) 0)) K = K (.pointer (some ⟨b, o, none⟩)) := mP_eq (fun w => vS_run (r_fieldAt w fa211_0 b o))
theorem fa211_1 : isFieldAt Try.prog 211 1 1 = true := by kernel_rfl
theorem n_fa211_1 (b o : Nat) (w : World) (K : Value → World → Prop) : mN Try.prog (vS (Instr.fieldAt 211 (.pointer (some ⟨b, o, none⟩)) 1)) w K = K (.pointer (some ⟨b, o + 1, none⟩)) w := mN_eq (vS_run (r_fieldAt w fa211_1 b o))
theorem p_fa211_1 (b o : Nat) (K : Value → Prop) : mP Try.prog (vS (Instr.fieldAt 211 (.pointer (some ⟨b, o, none⟩)) 1)) K = K (.pointer (some ⟨b, o + 1, none⟩)) := mP_eq (fun w => vS_run (r_fieldAt w fa211_1 b o))
theorem n_len9 (ty : TypeId) (c : Bool) (s : ByteArray) (w : World) (K : Value → World → Prop) : mN Try.prog (builtin .len #[9] ty #[c] #[.string s]) w K = K (.int .i64 s.size) w := mN_eq (r_lenS w 9 ty c s Try.underlying9)
theorem p_len9 (ty : TypeId) (c : Bool) (s : ByteArray) (K : Value → Prop) : mP Try.prog (builtin .len #[9] ty #[c] #[.string s]) K = K (.int .i64 s.size) := mP_eq (fun w => r_lenS w 9 ty c s Try.underlying9)
theorem n_len22 (ty : TypeId) (c : Bool) (a : Option Addr) (n k : Nat) (w : World) (K : Value → World → Prop) : mN Try.prog (builtin .len #[22] ty #[c] #[.slice a n k]) w K = K (.int .i64 n) w := mN_eq (r_lenL w 22 37 ty c a n k Try.underlying22)
theorem p_len22 (ty : TypeId) (c : Bool) (a : Option Addr) (n k : Nat) (K : Value → Prop) : mP Try.prog (builtin .len #[22] ty #[c] #[.slice a n k]) K = K (.int .i64 n) := mP_eq (fun w => r_lenL w 22 37 ty c a n k Try.underlying22)
theorem n_len35 (ty : TypeId) (c : Bool) (a : Option Addr) (n k : Nat) (w : World) (K : Value → World → Prop) : mN Try.prog (builtin .len #[35] ty #[c] #[.slice a n k]) w K = K (.int .i64 n) w := mN_eq (r_lenL w 35 3 ty c a n k Try.underlying35)
theorem p_len35 (ty : TypeId) (c : Bool) (a : Option Addr) (n k : Nat) (K : Value → Prop) : mP Try.prog (builtin .len #[35] ty #[c] #[.slice a n k]) K = K (.int .i64 n) := mP_eq (fun w => r_lenL w 35 3 ty c a n k Try.underlying35)
theorem n_len52 (ty : TypeId) (c : Bool) (a : Option Addr) (n k : Nat) (w : World) (K : Value → World → Prop) : mN Try.prog (builtin .len #[52] ty #[c] #[.slice a n k]) w K = K (.int .i64 n) w := mN_eq (r_lenL w 52 5 ty c a n k Try.underlying52)
theorem p_len52 (ty : TypeId) (c : Bool) (a : Option Addr) (n k : Nat) (K : Value → Prop) : mP Try.prog (builtin .len #[52] ty #[c] #[.slice a n k]) K = K (.int .i64 n) := mP_eq (fun w => r_lenL w 52 5 ty c a n k Try.underlying52)
theorem n_len67 (ty : TypeId) (c : Bool) (a : Option Addr) (n k : Nat) (w : World) (K : Value → World → Prop) : mN Try.prog (builtin .len #[67] ty #[c] #[.slice a n k]) w K = K (.int .i64 n) w := mN_eq (r_lenL w 67 9 ty c a n k Try.underlying67)
theorem p_len67 (ty : TypeId) (c : Bool) (a : Option Addr) (n k : Nat) (K : Value → Prop) : mP Try.prog (builtin .len #[67] ty #[c] #[.slice a n k]) K = K (.int .i64 n) := mP_eq (fun w => r_lenL w 67 9 ty c a n k Try.underlying67)
theorem n_len75 (ty : TypeId) (c : Bool) (a : Option Addr) (n k : Nat) (w : World) (K : Value → World → Prop) : mN Try.prog (builtin .len #[75] ty #[c] #[.slice a n k]) w K = K (.int .i64 n) w := mN_eq (r_lenL w 75 78 ty c a n k Try.underlying75)
theorem p_len75 (ty : TypeId) (c : Bool) (a : Option Addr) (n k : Nat) (K : Value → Prop) : mP Try.prog (builtin .len #[75] ty #[c] #[.slice a n k]) K = K (.int .i64 n) := mP_eq (fun w => r_lenL w 75 78 ty c a n k Try.underlying75)
theorem n_len87 (ty : TypeId) (c : Bool) (a : Option Addr) (n k : Nat) (w : World) (K : Value → World → Prop) : mN Try.prog (builtin .len #[87] ty #[c] #[.slice a n k]) w K = K (.int .i64 n) w := mN_eq (r_lenL w 87 50 ty c a n k Try.underlying87)
theorem p_len87 (ty : TypeId) (c : Bool) (a : Option Addr) (n k : Nat) (K : Value → Prop) : mP Try.prog (builtin .len #[87] ty #[c] #[.slice a n k]) K = K (.int .i64 n) := mP_eq (fun w => r_lenL w 87 50 ty c a n k Try.underlying87)
theorem n_len88 (ty : TypeId) (c : Bool) (a : Option Addr) (n k : Nat) (w : World) (K : Value → World → Prop) : mN Try.prog (builtin .len #[88] ty #[c] #[.slice a n k]) w K = K (.int .i64 n) w := mN_eq (r_lenL w 88 42 ty c a n k Try.underlying88)
theorem p_len88 (ty : TypeId) (c : Bool) (a : Option Addr) (n k : Nat) (K : Value → Prop) : mP Try.prog (builtin .len #[88] ty #[c] #[.slice a n k]) K = K (.int .i64 n) := mP_eq (fun w => r_lenL w 88 42 ty c a n k Try.underlying88)
theorem n_len94 (ty : TypeId) (c : Bool) (a : Option Addr) (n k : Nat) (w : World) (K : Value → World → Prop) : mN Try.prog (builtin .len #[94] ty #[c] #[.slice a n k]) w K = K (.int .i64 n) w := mN_eq (r_lenL w 94 100 ty c a n k Try.underlying94)
theorem p_len94 (ty : TypeId) (c : Bool) (a : Option Addr) (n k : Nat) (K : Value → Prop) : mP Try.prog (builtin .len #[94] ty #[c] #[.slice a n k]) K = K (.int .i64 n) := mP_eq (fun w => r_lenL w 94 100 ty c a n k Try.underlying94)
theorem n_len103 (ty : TypeId) (c : Bool) (a : Option Addr) (n k : Nat) (w : World) (K : Value → World → Prop) : mN Try.prog (builtin .len #[103] ty #[c] #[.slice a n k]) w K = K (.int .i64 n) w := mN_eq (r_lenL w 103 150 ty c a n k Try.underlying103)
theorem p_len103 (ty : TypeId) (c : Bool) (a : Option Addr) (n k : Nat) (K : Value → Prop) : mP Try.prog (builtin .len #[103] ty #[c] #[.slice a n k]) K = K (.int .i64 n) := mP_eq (fun w => r_lenL w 103 150 ty c a n k Try.underlying103)
theorem n_len111 (ty : TypeId) (c : Bool) (a : Option Addr) (n k : Nat) (w : World) (K : Value → World → Prop) : mN Try.prog (builtin .len #[111] ty #[c] #[.slice a n k]) w K = K (.int .i64 n) w := mN_eq (r_lenL w 111 110 ty c a n k Try.underlying111)
theorem p_len111 (ty : TypeId) (c : Bool) (a : Option Addr) (n k : Nat) (K : Value → Prop) : mP Try.prog (builtin .len #[111] ty #[c] #[.slice a n k]) K = K (.int .i64 n) := mP_eq (fun w => r_lenL w 111 110 ty c a n k Try.underlying111)
theorem n_len127 (ty : TypeId) (c : Bool) (a : Option Addr) (n k : Nat) (w : World) (K : Value → World → Prop) : mN Try.prog (builtin .len #[127] ty #[c] #[.slice a n k]) w K = K (.int .i64 n) w := mN_eq (r_lenL w 127 124 ty c a n k Try.underlying127)
theorem p_len127 (ty : TypeId) (c : Bool) (a : Option Addr) (n k : Nat) (K : Value → Prop) : mP Try.prog (builtin .len #[127] ty #[c] #[.slice a n k]) K = K (.int .i64 n) := mP_eq (fun w => r_lenL w 127 124 ty c a n k Try.underlying127)
theorem n_len129 (ty : TypeId) (c : Bool) (a : Option Addr) (n k : Nat) (w : World) (K : Value → World → Prop) : mN Try.prog (builtin .len #[129] ty #[c] #[.slice a n k]) w K = K (.int .i64 n) w := mN_eq (r_lenL w 129 136 ty c a n k Try.underlying129)
theorem p_len129 (ty : TypeId) (c : Bool) (a : Option Addr) (n k : Nat) (K : Value → Prop) : mP Try.prog (builtin .len #[129] ty #[c] #[.slice a n k]) K = K (.int .i64 n) := mP_eq (fun w => r_lenL w 129 136 ty c a n k Try.underlying129)
theorem n_eqB4 (cx cy : Bool) (a b : Bool) (w : World) (K : Value → World → Prop) : mN Try.prog (vS (eqS .eql 4 cx cy (.bool a) (.bool b))) w K = K (.bool (a == b)) w := mN_eq (vS_run (r_eqB w 4 cx cy a b Try.underlying4))
theorem p_eqB4 (cx cy : Bool) (a b : Bool) (K : Value → Prop) : mP Try.prog (vS (eqS .eql 4 cx cy (.bool a) (.bool b))) K = K (.bool (a == b)) := mP_eq (fun w => vS_run (r_eqB w 4 cx cy a b Try.underlying4))
theorem n_eqP23 (cx cy : Bool) (a : Option Addr) (w : World) (K : Value → World → Prop) : mN Try.prog (vS (eqS .eql 23 cx cy (.pointer a) (.pointer none))) w K = K (.bool a.isNone) w := mN_eq (vS_run (r_eqP w 23 131 cx cy a Try.underlying23))
theorem p_eqP23 (cx cy : Bool) (a : Option Addr) (K : Value → Prop) : mP Try.prog (vS (eqS .eql 23 cx cy (.pointer a) (.pointer none))) K = K (.bool a.isNone) := mP_eq (fun w => vS_run (r_eqP w 23 131 cx cy a Try.underlying23))
theorem n_eqL35 (cx cy : Bool) (a : Option Addr) (n c n2 c2 : Nat) (w : World) (K : Value → World → Prop) : mN Try.prog (vS (eqS .eql 35 cx cy (.slice a n c) (.slice none n2 c2))) w K = K (.bool a.isNone) w := mN_eq (vS_run (r_eqSl w 35 3 cx cy a n c n2 c2 Try.underlying35))
theorem p_eqL35 (cx cy : Bool) (a : Option Addr) (n c n2 c2 : Nat) (K : Value → Prop) : mP Try.prog (vS (eqS .eql 35 cx cy (.slice a n c) (.slice none n2 c2))) K = K (.bool a.isNone) := mP_eq (fun w => vS_run (r_eqSl w 35 3 cx cy a n c n2 c2 Try.underlying35))
theorem n_eqP57 (cx cy : Bool) (a : Option Addr) (w : World) (K : Value → World → Prop) : mN Try.prog (vS (eqS .eql 57 cx cy (.pointer a) (.pointer none))) w K = K (.bool a.isNone) w := mN_eq (vS_run (r_eqP w 57 159 cx cy a Try.underlying57))
theorem p_eqP57 (cx cy : Bool) (a : Option Addr) (K : Value → Prop) : mP Try.prog (vS (eqS .eql 57 cx cy (.pointer a) (.pointer none))) K = K (.bool a.isNone) := mP_eq (fun w => vS_run (r_eqP w 57 159 cx cy a Try.underlying57))
theorem n_eqP60 (cx cy : Bool) (a : Option Addr) (w : World) (K : Value → World → Prop) : mN Try.prog (vS (eqS .eql 60 cx cy (.pointer a) (.pointer none))) w K = K (.bool a.isNone) w := mN_eq (vS_run (r_eqP w 60 70 cx cy a Try.underlying60))
theorem p_eqP60 (cx cy : Bool) (a : Option Addr) (K : Value → Prop) : mP Try.prog (vS (eqS .eql 60 cx cy (.pointer a) (.pointer none))) K = K (.bool a.isNone) := mP_eq (fun w => vS_run (r_eqP w 60 70 cx cy a Try.underlying60))
theorem n_eqP116 (cx cy : Bool) (a : Option Addr) (w : World) (K : Value → World → Prop) : mN Try.prog (vS (eqS .eql 116 cx cy (.pointer a) (.pointer none))) w K = K (.bool a.isNone) w := mN_eq (vS_run (r_eqP w 116 184 cx cy a Try.underlying116))
theorem p_eqP116 (cx cy : Bool) (a : Option Addr) (K : Value → Prop) : mP Try.prog (vS (eqS .eql 116 cx cy (.pointer a) (.pointer none))) K = K (.bool a.isNone) := mP_eq (fun w => vS_run (r_eqP w 116 184 cx cy a Try.underlying116))
theorem n_eqP151 (cx cy : Bool) (a : Option Addr) (w : World) (K : Value → World → Prop) : mN Try.prog (vS (eqS .eql 151 cx cy (.pointer a) (.pointer none))) w K = K (.bool a.isNone) w := mN_eq (vS_run (r_eqP w 151 153 cx cy a Try.underlying151))
theorem p_eqP151 (cx cy : Bool) (a : Option Addr) (K : Value → Prop) : mP Try.prog (vS (eqS .eql 151 cx cy (.pointer a) (.pointer none))) K = K (.bool a.isNone) := mP_eq (fun w => vS_run (r_eqP w 151 153 cx cy a Try.underlying151))
theorem n_neB4 (cx cy : Bool) (a b : Bool) (w : World) (K : Value → World → Prop) : mN Try.prog (vS (eqS .neq 4 cx cy (.bool a) (.bool b))) w K = K (.bool (!(a == b))) w := mN_eq (vS_run (r_neB w 4 cx cy a b Try.underlying4))
theorem p_neB4 (cx cy : Bool) (a b : Bool) (K : Value → Prop) : mP Try.prog (vS (eqS .neq 4 cx cy (.bool a) (.bool b))) K = K (.bool (!(a == b))) := mP_eq (fun w => vS_run (r_neB w 4 cx cy a b Try.underlying4))
theorem n_neP23 (cx cy : Bool) (a : Option Addr) (w : World) (K : Value → World → Prop) : mN Try.prog (vS (eqS .neq 23 cx cy (.pointer a) (.pointer none))) w K = K (.bool (!a.isNone)) w := mN_eq (vS_run (r_neP w 23 131 cx cy a Try.underlying23))
theorem p_neP23 (cx cy : Bool) (a : Option Addr) (K : Value → Prop) : mP Try.prog (vS (eqS .neq 23 cx cy (.pointer a) (.pointer none))) K = K (.bool (!a.isNone)) := mP_eq (fun w => vS_run (r_neP w 23 131 cx cy a Try.underlying23))
theorem n_neP57 (cx cy : Bool) (a : Option Addr) (w : World) (K : Value → World → Prop) : mN Try.prog (vS (eqS .neq 57 cx cy (.pointer a) (.pointer none))) w K = K (.bool (!a.isNone)) w := mN_eq (vS_run (r_neP w 57 159 cx cy a Try.underlying57))
theorem p_neP57 (cx cy : Bool) (a : Option Addr) (K : Value → Prop) : mP Try.prog (vS (eqS .neq 57 cx cy (.pointer a) (.pointer none))) K = K (.bool (!a.isNone)) := mP_eq (fun w => vS_run (r_neP w 57 159 cx cy a Try.underlying57))
theorem n_neP116 (cx cy : Bool) (a : Option Addr) (w : World) (K : Value → World → Prop) : mN Try.prog (vS (eqS .neq 116 cx cy (.pointer a) (.pointer none))) w K = K (.bool (!a.isNone)) w := mN_eq (vS_run (r_neP w 116 184 cx cy a Try.underlying116))
theorem p_neP116 (cx cy : Bool) (a : Option Addr) (K : Value → Prop) : mP Try.prog (vS (eqS .neq 116 cx cy (.pointer a) (.pointer none))) K = K (.bool (!a.isNone)) := mP_eq (fun w => vS_run (r_neP w 116 184 cx cy a Try.underlying116))
theorem n_neP151 (cx cy : Bool) (a : Option Addr) (w : World) (K : Value → World → Prop) : mN Try.prog (vS (eqS .neq 151 cx cy (.pointer a) (.pointer none))) w K = K (.bool (!a.isNone)) w := mN_eq (vS_run (r_neP w 151 153 cx cy a Try.underlying151))
theorem p_neP151 (cx cy : Bool) (a : Option Addr) (K : Value → Prop) : mP Try.prog (vS (eqS .neq 151 cx cy (.pointer a) (.pointer none))) K = K (.bool (!a.isNone)) := mP_eq (fun w => vS_run (r_neP w 151 153 cx cy a Try.underlying151))
theorem n_cv3_5 (j : IntKind) (n : Int) (w : World) (K : Value → World → Prop) : mN Try.prog (vS (convert 3 5 (.int j n))) w K = K (.int .u8 (IntKind.wrap .u8 n)) w := mN_eq (vS_run (r_conv w ⟨_, Try.underlying3⟩ Try.underlying5 j n))
theorem p_cv3_5 (j : IntKind) (n : Int) (K : Value → Prop) : mP Try.prog (vS (convert 3 5 (.int j n))) K = K (.int .u8 (IntKind.wrap .u8 n)) := mP_eq (fun w => vS_run (r_conv w ⟨_, Try.underlying3⟩ Try.underlying5 j n))
theorem n_cv3_187 (j : IntKind) (n : Int) (w : World) (K : Value → World → Prop) : mN Try.prog (vS (convert 3 187 (.int j n))) w K = K (.int .u64 (IntKind.wrap .u64 n)) w := mN_eq (vS_run (r_conv w ⟨_, Try.underlying3⟩ Try.underlying187 j n))
theorem p_cv3_187 (j : IntKind) (n : Int) (K : Value → Prop) : mP Try.prog (vS (convert 3 187 (.int j n))) K = K (.int .u64 (IntKind.wrap .u64 n)) := mP_eq (fun w => vS_run (r_conv w ⟨_, Try.underlying3⟩ Try.underlying187 j n))
theorem n_cv5_3 (j : IntKind) (n : Int) (w : World) (K : Value → World → Prop) : mN Try.prog (vS (convert 5 3 (.int j n))) w K = K (.int .i64 (IntKind.wrap .i64 n)) w := mN_eq (vS_run (r_conv w ⟨_, Try.underlying5⟩ Try.underlying3 j n))
theorem p_cv5_3 (j : IntKind) (n : Int) (K : Value → Prop) : mP Try.prog (vS (convert 5 3 (.int j n))) K = K (.int .i64 (IntKind.wrap .i64 n)) := mP_eq (fun w => vS_run (r_conv w ⟨_, Try.underlying5⟩ Try.underlying3 j n))
theorem n_cv187_3 (j : IntKind) (n : Int) (w : World) (K : Value → World → Prop) : mN Try.prog (vS (convert 187 3 (.int j n))) w K = K (.int .i64 (IntKind.wrap .i64 n)) w := mN_eq (vS_run (r_conv w ⟨_, Try.underlying187⟩ Try.underlying3 j n))
theorem p_cv187_3 (j : IntKind) (n : Int) (K : Value → Prop) : mP Try.prog (vS (convert 187 3 (.int j n))) K = K (.int .i64 (IntKind.wrap .i64 n)) := mP_eq (fun w => vS_run (r_conv w ⟨_, Try.underlying187⟩ Try.underlying3 j n))
theorem n_cv202_205 (j : IntKind) (n : Int) (w : World) (K : Value → World → Prop) : mN Try.prog (vS (convert 202 205 (.int j n))) w K = K (.int .u64 (IntKind.wrap .u64 n)) w := mN_eq (vS_run (r_conv w ⟨_, Try.underlying202⟩ Try.underlying205 j n))
theorem p_cv202_205 (j : IntKind) (n : Int) (K : Value → Prop) : mP Try.prog (vS (convert 202 205 (.int j n))) K = K (.int .u64 (IntKind.wrap .u64 n)) := mP_eq (fun w => vS_run (r_conv w ⟨_, Try.underlying202⟩ Try.underlying205 j n))
theorem n_cv205_202 (j : IntKind) (n : Int) (w : World) (K : Value → World → Prop) : mN Try.prog (vS (convert 205 202 (.int j n))) w K = K (.int .u32 (IntKind.wrap .u32 n)) w := mN_eq (vS_run (r_conv w ⟨_, Try.underlying205⟩ Try.underlying202 j n))
theorem p_cv205_202 (j : IntKind) (n : Int) (K : Value → Prop) : mP Try.prog (vS (convert 205 202 (.int j n))) K = K (.int .u32 (IntKind.wrap .u32 n)) := mP_eq (fun w => vS_run (r_conv w ⟨_, Try.underlying205⟩ Try.underlying202 j n))

attribute [push_cast] mIf_true mIf_false Bool.not_true Bool.not_false Nat.zero_add
attribute [push_cast] n_nil p_nil n_not p_not n_add p_add n_sub p_sub n_mul p_mul n_lss p_lss
attribute [push_cast] n_leq p_leq n_gtr p_gtr n_geq p_geq n_quo p_quo n_rem p_rem n_addS p_addS
attribute [push_cast] n_eqI p_eqI n_neI p_neI n_eqS p_eqS n_neS p_neS n_ex2_0 p_ex2_0 n_ex2_1 p_ex2_1
attribute [push_cast] n_ex3_0 p_ex3_0 n_ex3_1 p_ex3_1 n_ex3_2 p_ex3_2 n_ex4_0 p_ex4_0 n_ex4_1 p_ex4_1 n_ex4_2 p_ex4_2
attribute [push_cast] n_ex4_3 p_ex4_3 n_fa37_0 p_fa37_0 n_fa37_1 p_fa37_1 n_fa37_2 p_fa37_2 n_fa37_3 p_fa37_3 n_fa37_4 p_fa37_4
attribute [push_cast] n_fa42_0 p_fa42_0 n_fa42_1 p_fa42_1 n_fa42_2 p_fa42_2 n_fa50_0 p_fa50_0 n_fa50_1 p_fa50_1 n_fa50_2 p_fa50_2
attribute [push_cast] n_fa50_3 p_fa50_3 n_fa62_0 p_fa62_0 n_fa62_1 p_fa62_1 n_fa65_0 p_fa65_0 n_fa65_1 p_fa65_1 n_fa65_2 p_fa65_2
attribute [push_cast] n_fa70_0 p_fa70_0 n_fa70_1 p_fa70_1 n_fa70_2 p_fa70_2 n_fa70_3 p_fa70_3 n_fa78_0 p_fa78_0 n_fa78_1 p_fa78_1
attribute [push_cast] n_fa78_2 p_fa78_2 n_fa78_3 p_fa78_3 n_fa78_4 p_fa78_4 n_fa78_5 p_fa78_5 n_fa82_0 p_fa82_0 n_fa82_1 p_fa82_1
attribute [push_cast] n_fa82_2 p_fa82_2 n_fa82_3 p_fa82_3 n_fa84_0 p_fa84_0 n_fa84_1 p_fa84_1 n_fa84_2 p_fa84_2 n_fa98_2 p_fa98_2
attribute [push_cast] n_fa98_3 p_fa98_3 n_fa100_2 p_fa100_2 n_fa100_3 p_fa100_3 n_fa104_0 p_fa104_0 n_fa104_1 p_fa104_1 n_fa104_2 p_fa104_2
attribute [push_cast] n_fa106_0 p_fa106_0 n_fa106_1 p_fa106_1 n_fa106_2 p_fa106_2 n_fa106_3 p_fa106_3 n_fa106_4 p_fa106_4 n_fa110_1 p_fa110_1
attribute [push_cast] n_fa110_2 p_fa110_2 n_fa110_4 p_fa110_4 n_fa131_0 p_fa131_0 n_fa131_1 p_fa131_1 n_fa131_2 p_fa131_2 n_fa131_3 p_fa131_3
attribute [push_cast] n_fa131_4 p_fa131_4 n_fa136_0 p_fa136_0 n_fa136_1 p_fa136_1 n_fa150_0 p_fa150_0 n_fa150_1 p_fa150_1 n_fa153_0 p_fa153_0
attribute [push_cast] n_fa153_1 p_fa153_1 n_fa159_0 p_fa159_0 n_fa159_1 p_fa159_1 n_fa159_2 p_fa159_2 n_fa159_3 p_fa159_3 n_fa159_4 p_fa159_4
attribute [push_cast] n_fa163_0 p_fa163_0 n_fa163_1 p_fa163_1 n_fa173_0 p_fa173_0 n_fa173_1 p_fa173_1 n_fa180_0 p_fa180_0 n_fa182_0 p_fa182_0
attribute [push_cast] n_fa184_0 p_fa184_0 n_fa184_1 p_fa184_1 n_fa184_2 p_fa184_2 n_fa195_0 p_fa195_0 n_fa195_1 p_fa195_1 n_fa195_3 p_fa195_3
attribute [push_cast] n_fa195_4 p_fa195_4 n_fa211_0 p_fa211_0 n_fa211_1 p_fa211_1 n_len9 p_len9 n_len22 p_len22 n_len35 p_len35
attribute [push_cast] n_len52 p_len52 n_len67 p_len67 n_len75 p_len75 n_len87 p_len87 n_len88 p_len88 n_len94 p_len94
attribute [push_cast] n_len103 p_len103 n_len111 p_len111 n_len127 p_len127 n_len129 p_len129 n_eqB4 p_eqB4 n_eqP23 p_eqP23
attribute [push_cast] n_eqL35 p_eqL35 n_eqP57 p_eqP57 n_eqP60 p_eqP60 n_eqP116 p_eqP116 n_eqP151 p_eqP151 n_neB4 p_neB4
attribute [push_cast] n_neP23 p_neP23 n_neP57 p_neP57 n_neP116 p_neP116 n_neP151 p_neP151 n_cv3_5 p_cv3_5 n_cv3_187 p_cv3_187
attribute [push_cast] n_cv5_3 p_cv5_3 n_cv187_3 p_cv187_3 n_cv202_205 p_cv202_205 n_cv205_202 p_cv205_202

theorem i64w (x : Int) (h0 : -9223372036854775808 ≤ x) (h1 : x ≤ 9223372036854775807) : IntKind.wrap .i64 x = x := by
  rw [IntKind.wrap_i64]
  omega

end Go.Proofs.Ythgopkppmppdoaa
