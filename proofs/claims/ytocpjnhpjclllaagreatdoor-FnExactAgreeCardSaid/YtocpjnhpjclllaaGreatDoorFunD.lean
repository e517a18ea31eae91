/- Equations of the evaluator; written by gen.py. -/
import Derived.Test.YtocpjnhpjclllaaGreatDoorFunS
set_option linter.unusedSimpArgs false
namespace F5
open Go Go.Fil Go.Proofs
set_option maxRecDepth 100000
set_option linter.unusedVariables false
theorem L_impl_Agree_10.step (K k : Nat) (x1 : Int) (v40 : Int) (o2 : S_impl_World) : L_impl_Agree_10 K (k + 1) x1 v40 o2 = br (decide ((v40 : Int) < ((List.length ((List.getD o2.2.2.2.1 (Int.toNat x1) T_impl_House.zero).2.2.2.2.2.2.1) : Nat) : Int))) (br (decide (0 ≤ v40) && decide (v40 < (List.length ((List.getD o2.2.2.2.1 (Int.toNat x1) T_impl_House.zero).2.2.2.2.2.2.1) : Int))) ((g_impl_lineAgrees K o2 (List.getD ((List.getD o2.2.2.2.1 (Int.toNat x1) T_impl_House.zero).2.2.2.2.2.2.1) (Int.toNat v40) T_impl_Line.zero)).bind fun (y_4 : Bool) => br (!y_4) (some false) (L_impl_Agree_10 K k x1 (IntKind.wrap .i64 (v40 + 1)) o2)) (none)) (some true) := by kernel_rfl
theorem L_impl_Agree_10.zero (K : Nat) (x1 : Int) (v40 : Int) (o2 : S_impl_World) : L_impl_Agree_10 K 0 x1 v40 o2 = none := by kernel_rfl
theorem g_impl_Agree.eq (K : Nat) (x0 : S_impl_World) (x1 : Int) : g_impl_Agree K x0 x1 = (g_impl_WorldOk K x0).bind fun (y_1 : Bool) => br (!y_1) (some false) ((g_impl_isIn K x1 0 1).bind fun (y_2 : Bool) => br (!y_2) (some false) (br (decide (0 ≤ x1) && decide (x1 < (List.length x0.2.2.2.1 : Int))) (L_impl_Agree_4 K K x0 x1 0 x0) (none))) := by kernel_rfl
theorem g_laws_FnExactAgree.eq (K : Nat) (x0 : S_laws_World) (x1 : Int) : g_laws_FnExactAgree K x0 x1 = (g_laws_szWorld K x0 1048576).bind fun (y_1 : Int) => br (decide ((y_1 : Int) < 0)) (some true) ((g_laws_toWorld K x0).bind fun (y_2 : S_impl_World) => (g_spec_Agree K y_2 x1).bind fun (y_3 : Bool) => (g_laws_toWorld K x0).bind fun (y_4 : S_impl_World) => (g_impl_Agree K y_4 x1).bind fun (y_5 : Bool) => br (!(y_5 == y_3)) (some false) ((g_laws_toWorld K x0).bind fun (y_6 : S_impl_World) => (g_laws_eqWorld K y_4 y_6).bind fun (y_7 : Bool) => br (!y_7) (some false) (some true))) := by kernel_rfl
end F5
