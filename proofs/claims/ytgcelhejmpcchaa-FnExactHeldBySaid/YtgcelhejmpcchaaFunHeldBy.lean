/- The functions of the law as the evaluator tells them; written by wip/fil/gen.py. -/
import Derived.Test.YtgcelhejmpcchaaFilR
import Derived.Test.YtgcelhejmpcchaaProg
namespace F2
set_option linter.unusedSimpArgs false
set_option linter.unusedSectionVars false
open Go Go.Fil Go.Proofs
set_option maxRecDepth 100000
set_option linter.unusedVariables false
@[reducible] def y2 : Ty := .int .i64
@[reducible] def y3 : Ty := .int .i64
@[reducible] def y4 : Ty := .bool
@[reducible] def y5 : Ty := .int .u8
@[reducible] def y6 : Ty := .int .u8
@[reducible] def y7 : Ty := .pair y2 (.pair y3 (.pair y4 (.pair y6 .unit)))
@[reducible] def y8 : Ty := .pair y2 (.pair y3 (.pair y4 (.pair y6 .unit)))
@[reducible] def y9 : Ty := .str
@[reducible] def y10 : Ty := .str
@[reducible] def y11 : Ty := .str
@[reducible] def y12 : Ty := .int .u64
@[reducible] def y13 : Ty := .pair y9 (.pair y12 .unit)
@[reducible] def y14 : Ty := .pair y9 (.pair y12 .unit)
@[reducible] def y21 : Ty := .int .i32
@[reducible] def y65 : Ty := .pair y3 (.pair y3 (.pair y3 (.pair y3 (.pair y3 (.pair y3 (.pair y3 (.pair y3 (.pair y3 .unit))))))))
@[reducible] def y22 : Ty := .slice 65 y65
@[reducible] def y63 : Ty := .pair y3 (.pair y3 (.pair y3 (.pair y3 (.pair y3 (.pair y3 (.pair y3 (.pair y3 (.pair y3 .unit))))))))
@[reducible] def y25 : Ty := .slice 63 y63
@[reducible] def y99 : Ty := .slice 5 y5
@[reducible] def y29 : Ty := .slice 99 y99
@[reducible] def y145 : Ty := .pair y3 (.pair y99 .unit)
@[reducible] def y30 : Ty := .slice 145 y145
@[reducible] def y31 : Ty := .pair y29 (.pair y30 (.pair y3 (.pair y4 .unit)))
@[reducible] def y32 : Ty := .pair y29 (.pair y30 (.pair y3 (.pair y4 .unit)))
@[reducible] def y111 : Ty := .pair y3 (.pair y3 (.pair y3 (.pair y4 (.pair y99 (.pair y99 (.pair y3 (.pair y3 .unit)))))))
@[reducible] def y33 : Ty := .slice 111 y111
@[reducible] def y168 : Ty := .pair y9 (.pair y3 (.pair y3 (.pair y3 (.pair y3 .unit))))
@[reducible] def y113 : Ty := .slice 168 y168
@[reducible] def y170 : Ty := .pair y3 (.pair y9 (.pair y3 (.pair y3 (.pair y3 (.pair y9 (.pair y3 (.pair y3 .unit)))))))
@[reducible] def y114 : Ty := .slice 170 y170
@[reducible] def y172 : Ty := .pair y3 (.pair y9 (.pair y3 (.pair y3 (.pair y3 (.pair y3 (.pair y3 .unit))))))
@[reducible] def y115 : Ty := .slice 172 y172
@[reducible] def y116 : Ty := .pair y3 (.pair y3 (.pair y3 (.pair y3 .unit)))
@[reducible] def y118 : Ty := .pair y3 (.pair y3 (.pair y3 (.pair y113 (.pair y4 (.pair y114 (.pair y115 (.pair y3 (.pair y116 .unit))))))))
@[reducible] def y34 : Ty := .slice 118 y118
@[reducible] def y121 : Ty := .pair y3 (.pair y99 .unit)
@[reducible] def y35 : Ty := .slice 121 y121
@[reducible] def y36 : Ty := .pair y3 (.pair y32 (.pair y33 (.pair y34 (.pair y35 (.pair y22 (.pair y3 (.pair y3 .unit)))))))
@[reducible] def y37 : Ty := .pair y3 (.pair y32 (.pair y33 (.pair y34 (.pair y35 (.pair y22 (.pair y3 (.pair y3 .unit)))))))
@[reducible] def y150 : Ty := .pair y3 (.pair y99 .unit)
@[reducible] def y40 : Ty := .slice 150 y150
@[reducible] def y41 : Ty := .pair y29 (.pair y40 (.pair y3 (.pair y4 .unit)))
@[reducible] def y42 : Ty := .pair y29 (.pair y40 (.pair y3 (.pair y4 .unit)))
@[reducible] def y101 : Ty := .pair y3 (.pair y3 (.pair y3 (.pair y4 (.pair y99 (.pair y99 (.pair y3 (.pair y3 .unit)))))))
@[reducible] def y43 : Ty := .slice 101 y101
@[reducible] def y83 : Ty := .pair y9 (.pair y3 (.pair y3 (.pair y3 (.pair y3 .unit))))
@[reducible] def y73 : Ty := .slice 83 y83
@[reducible] def y81 : Ty := .pair y3 (.pair y9 (.pair y3 (.pair y3 (.pair y3 (.pair y9 (.pair y3 (.pair y3 .unit)))))))
@[reducible] def y74 : Ty := .slice 81 y81
@[reducible] def y165 : Ty := .pair y3 (.pair y9 (.pair y3 (.pair y3 (.pair y3 (.pair y3 (.pair y3 .unit))))))
@[reducible] def y75 : Ty := .slice 165 y165
@[reducible] def y77 : Ty := .pair y3 (.pair y3 (.pair y3 (.pair y3 .unit)))
@[reducible] def y79 : Ty := .pair y3 (.pair y3 (.pair y3 (.pair y73 (.pair y4 (.pair y74 (.pair y75 (.pair y3 (.pair y77 .unit))))))))
@[reducible] def y44 : Ty := .slice 79 y79
@[reducible] def y126 : Ty := .pair y3 (.pair y99 .unit)
@[reducible] def y45 : Ty := .slice 126 y126
@[reducible] def y46 : Ty := .pair y3 (.pair y42 (.pair y43 (.pair y44 (.pair y45 (.pair y25 (.pair y3 (.pair y3 .unit)))))))
@[reducible] def y47 : Ty := .pair y3 (.pair y42 (.pair y43 (.pair y44 (.pair y45 (.pair y25 (.pair y3 (.pair y3 .unit)))))))
@[reducible] def y51 : Ty := .slice 3 y3
@[reducible] def y106 : Ty := .pair y3 (.pair y9 (.pair y3 .unit))
@[reducible] def y57 : Ty := .slice 106 y106
@[reducible] def y62 : Ty := .pair y3 (.pair y3 (.pair y3 (.pair y3 (.pair y3 (.pair y3 (.pair y3 (.pair y3 (.pair y3 .unit))))))))
@[reducible] def y76 : Ty := .pair y3 (.pair y3 (.pair y3 (.pair y3 .unit)))
@[reducible] def y78 : Ty := .pair y3 (.pair y3 (.pair y3 (.pair y73 (.pair y4 (.pair y74 (.pair y75 (.pair y3 (.pair y77 .unit))))))))
@[reducible] def y80 : Ty := .pair y3 (.pair y9 (.pair y3 (.pair y3 (.pair y3 (.pair y9 (.pair y3 (.pair y3 .unit)))))))
@[reducible] def y82 : Ty := .pair y9 (.pair y3 (.pair y3 (.pair y3 (.pair y3 .unit))))
@[reducible] def y100 : Ty := .pair y3 (.pair y3 (.pair y3 (.pair y4 (.pair y99 (.pair y99 (.pair y3 (.pair y3 .unit)))))))
@[reducible] def y105 : Ty := .pair y3 (.pair y9 (.pair y3 .unit))
@[reducible] def y117 : Ty := .pair y3 (.pair y3 (.pair y3 (.pair y113 (.pair y4 (.pair y114 (.pair y115 (.pair y3 (.pair y116 .unit))))))))
@[reducible] def y120 : Ty := .pair y3 (.pair y99 .unit)
@[reducible] def y144 : Ty := .pair y3 (.pair y99 .unit)
@[reducible] def y164 : Ty := .pair y3 (.pair y9 (.pair y3 (.pair y3 (.pair y3 (.pair y3 (.pair y3 .unit))))))
@[reducible] def y187 : Ty := .int .u32
@[reducible] def y188 : Ty := .int .u8
@[reducible] def y189 : Ty := .int .u8
@[reducible] def y192 : Ty := .int .i32
@[reducible] def y193 : Ty := .int .i32
def tab : List (Nat × TI) := [(2, ⟨y2, 8, [], false⟩), (3, ⟨y3, 8, [], false⟩), (4, ⟨y4, 1, [], false⟩), (5, ⟨y5, 1, [], false⟩), (6, ⟨y6, 1, [], false⟩), (7, ⟨y7, 24, [(0, y2), (1, y3), (2, y4), (3, y6)], false⟩), (8, ⟨y8, 24, [(0, y2), (1, y3), (2, y4), (3, y6)], false⟩), (9, ⟨y9, 16, [], false⟩), (10, ⟨y10, 16, [], false⟩), (11, ⟨y11, 16, [], false⟩), (12, ⟨y12, 8, [], false⟩), (13, ⟨y13, 24, [(0, y9), (1, y12)], false⟩), (14, ⟨y14, 24, [(0, y9), (1, y12)], false⟩), (21, ⟨y21, 4, [], false⟩), (22, ⟨y22, 24, [], false⟩), (25, ⟨y25, 24, [], false⟩), (29, ⟨y29, 24, [], false⟩), (30, ⟨y30, 24, [], false⟩), (31, ⟨y31, 64, [(0, y29), (1, y30), (2, y3), (3, y4)], false⟩), (32, ⟨y32, 64, [(0, y29), (1, y30), (2, y3), (3, y4)], false⟩), (33, ⟨y33, 24, [], false⟩), (34, ⟨y34, 24, [], false⟩), (35, ⟨y35, 24, [], false⟩), (36, ⟨y36, 184, [(0, y3), (1, y32), (5, y33), (6, y34), (7, y35), (8, y22), (9, y3), (10, y3)], false⟩), (37, ⟨y37, 184, [(0, y3), (1, y32), (5, y33), (6, y34), (7, y35), (8, y22), (9, y3), (10, y3)], false⟩), (40, ⟨y40, 24, [], false⟩), (41, ⟨y41, 64, [(0, y29), (1, y40), (2, y3), (3, y4)], false⟩), (42, ⟨y42, 64, [(0, y29), (1, y40), (2, y3), (3, y4)], false⟩), (43, ⟨y43, 24, [], false⟩), (44, ⟨y44, 24, [], false⟩), (45, ⟨y45, 24, [], false⟩), (46, ⟨y46, 184, [(0, y3), (1, y42), (5, y43), (6, y44), (7, y45), (8, y25), (9, y3), (10, y3)], false⟩), (47, ⟨y47, 184, [(0, y3), (1, y42), (5, y43), (6, y44), (7, y45), (8, y25), (9, y3), (10, y3)], false⟩), (51, ⟨y51, 24, [], false⟩), (57, ⟨y57, 24, [], false⟩), (62, ⟨y62, 72, [(0, y3), (1, y3), (2, y3), (3, y3), (4, y3), (5, y3), (6, y3), (7, y3), (8, y3)], false⟩), (63, ⟨y63, 72, [(0, y3), (1, y3), (2, y3), (3, y3), (4, y3), (5, y3), (6, y3), (7, y3), (8, y3)], false⟩), (65, ⟨y65, 72, [(0, y3), (1, y3), (2, y3), (3, y3), (4, y3), (5, y3), (6, y3), (7, y3), (8, y3)], false⟩), (73, ⟨y73, 24, [], false⟩), (74, ⟨y74, 24, [], false⟩), (75, ⟨y75, 24, [], false⟩), (76, ⟨y76, 32, [(0, y3), (1, y3), (2, y3), (3, y3)], false⟩), (77, ⟨y77, 32, [(0, y3), (1, y3), (2, y3), (3, y3)], false⟩), (78, ⟨y78, 144, [(0, y3), (1, y3), (2, y3), (3, y73), (4, y4), (5, y74), (6, y75), (7, y3), (8, y77)], false⟩), (79, ⟨y79, 144, [(0, y3), (1, y3), (2, y3), (3, y73), (4, y4), (5, y74), (6, y75), (7, y3), (8, y77)], false⟩), (80, ⟨y80, 80, [(0, y3), (1, y9), (2, y3), (3, y3), (4, y3), (5, y9), (6, y3), (7, y3)], false⟩), (81, ⟨y81, 80, [(0, y3), (1, y9), (2, y3), (3, y3), (4, y3), (5, y9), (6, y3), (7, y3)], false⟩), (82, ⟨y82, 48, [(0, y9), (1, y3), (2, y3), (3, y3), (4, y3)], false⟩), (83, ⟨y83, 48, [(0, y9), (1, y3), (2, y3), (3, y3), (4, y3)], false⟩), (99, ⟨y99, 24, [], false⟩), (100, ⟨y100, 96, [(0, y3), (1, y3), (2, y3), (3, y4), (4, y99), (5, y99), (6, y3), (7, y3)], false⟩), (101, ⟨y101, 96, [(0, y3), (1, y3), (2, y3), (3, y4), (4, y99), (5, y99), (6, y3), (7, y3)], false⟩), (105, ⟨y105, 32, [(0, y3), (1, y9), (2, y3)], false⟩), (106, ⟨y106, 32, [(0, y3), (1, y9), (2, y3)], true⟩), (111, ⟨y111, 96, [(0, y3), (1, y3), (2, y3), (3, y4), (4, y99), (5, y99), (6, y3), (7, y3)], false⟩), (113, ⟨y113, 24, [], false⟩), (114, ⟨y114, 24, [], false⟩), (115, ⟨y115, 24, [], false⟩), (116, ⟨y116, 32, [(0, y3), (1, y3), (2, y3), (3, y3)], false⟩), (117, ⟨y117, 144, [(0, y3), (1, y3), (2, y3), (3, y113), (4, y4), (5, y114), (6, y115), (7, y3), (8, y116)], false⟩), (118, ⟨y118, 144, [(0, y3), (1, y3), (2, y3), (3, y113), (4, y4), (5, y114), (6, y115), (7, y3), (8, y116)], false⟩), (120, ⟨y120, 32, [(0, y3), (1, y99)], false⟩), (121, ⟨y121, 32, [(0, y3), (1, y99)], false⟩), (126, ⟨y126, 32, [(0, y3), (1, y99)], false⟩), (144, ⟨y144, 32, [(0, y3), (1, y99)], false⟩), (145, ⟨y145, 32, [(0, y3), (1, y99)], false⟩), (150, ⟨y150, 32, [(0, y3), (1, y99)], false⟩), (164, ⟨y164, 64, [(0, y3), (1, y9), (2, y3), (3, y3), (4, y3), (5, y3), (6, y3)], false⟩), (165, ⟨y165, 64, [(0, y3), (1, y9), (2, y3), (3, y3), (4, y3), (5, y3), (6, y3)], false⟩), (168, ⟨y168, 48, [(0, y9), (1, y3), (2, y3), (3, y3), (4, y3)], false⟩), (170, ⟨y170, 80, [(0, y3), (1, y9), (2, y3), (3, y3), (4, y3), (5, y9), (6, y3), (7, y3)], false⟩), (172, ⟨y172, 64, [(0, y3), (1, y9), (2, y3), (3, y3), (4, y3), (5, y3), (6, y3)], false⟩), (187, ⟨y187, 4, [], false⟩), (188, ⟨y188, 1, [], false⟩), (189, ⟨y189, 1, [], false⟩), (192, ⟨y192, 4, [], false⟩), (193, ⟨y193, 4, [], false⟩)]
theorem tabOk : (tab.all fun p => tiOk Try.prog p.1 p.2) = true := by kernel_rfl
noncomputable def G : Prg := ⟨Try.prog, tab, tabOk, by kernel_rfl⟩
/-! ### laws.szByteS -/
theorem fn86 : fnOk G 86 Try.f86 := ⟨Try.func86, by kernel_rfl⟩
noncomputable def e86 (K : Nat) : Ent G.P := mkEnt G 86 Try.f86 fn86 [y99, y2] true y2 true [] K (fun _ => []) (fun _ => [])
noncomputable def g86 (K : Nat) (x0 : y99.T) (x1 : y2.T) : Option y2.T := (e86 K).g (x0, x1, ())
theorem g86.eq (K : Nat) (x0 : y99.T) (x1 : y2.T) : g86 K x0 x1 = br (decide (((IntKind.wrap .i64 (x1 - ((List.length x0 : Nat) : Int))) : Int) < 0)) (some (-1)) (some (IntKind.wrap .i64 (x1 - ((List.length x0 : Nat) : Int)))) := by kernel_rfl
/-! ### laws.szByteSS -/
theorem fn60 : fnOk G 60 Try.f60 := ⟨Try.func60, by kernel_rfl⟩
noncomputable def e60 (K : Nat) : Ent G.P := mkEnt G 60 Try.f60 fn60 [y29, y2] true y2 true [e86 K] K (fun i => if i = 5 then [2, 3, 4, 6, 7, 8, 9, 10, 11, 12, 13, 14, 15, 16, 17, 18, 19, 20, 21, 22, 23, 24, 25, 26] else []) (fun i => if i = 5 then [] else [])
noncomputable def g60 (K : Nat) (x0 : y29.T) (x1 : y2.T) : Option y2.T := (e60 K).g (x0, x1, ())
noncomputable def L60_5 (K : Nat) (k : Nat) (x0 : y29.T) (v1 : y2.T) (v5 : y2.T) : Option y2.T := resume (envOf G [e86 K] K (fun i => if i = 5 then [2, 3, 4, 6, 7, 8, 9, 10, 11, 12, 13, 14, 15, 16, 17, 18, 19, 20, 21, 22, 23, 24, 25, 26] else []) (fun i => if i = 5 then [] else [])) dokB true y2 true Try.f60 [1, 1, 1, 0, 1, 0] k (mkSt 27 [(0, .d y29 false x0), (1, .d y2 true v1), (5, .d y2 true v5)] [])
theorem L60_5.step (K k : Nat) (x0 : y29.T) (v1 : y2.T) (v5 : y2.T) : L60_5 K (k + 1) x0 v1 v5 = br (decide ((v5 : Int) < ((List.length x0 : Nat) : Int))) (br (decide (0 ≤ v5) && decide (v5 < (List.length x0 : Int))) ((g86 K (List.getD x0 (Int.toNat v5) ([])) v1).bind fun (y_1 : y2.T) => br (decide ((y_1 : Int) < 0)) (some (-1)) (L60_5 K k x0 y_1 (IntKind.wrap .i64 (v5 + 1)))) (none)) (some v1) := by kernel_rfl
theorem L60_5.zero (K : Nat) (x0 : y29.T) (v1 : y2.T) (v5 : y2.T) : L60_5 K 0 x0 v1 v5 = none := by kernel_rfl
theorem g60.eq (K : Nat) (x0 : y29.T) (x1 : y2.T) : g60 K x0 x1 = br (decide (((IntKind.wrap .i64 (x1 - ((List.length x0 : Nat) : Int))) : Int) < 0)) (some (-1)) (L60_5 K K x0 (IntKind.wrap .i64 (x1 - ((List.length x0 : Nat) : Int))) 0) := by kernel_rfl
/-! ### laws.szWr -/
theorem fn87 : fnOk G 87 Try.f87 := ⟨Try.func87, by kernel_rfl⟩
noncomputable def e87 (K : Nat) : Ent G.P := mkEnt G 87 Try.f87 fn87 [y145, y2] true y2 true [e86 K] K (fun _ => []) (fun _ => [])
noncomputable def g87 (K : Nat) (x0 : y145.T) (x1 : y2.T) : Option y2.T := (e87 K).g (x0, x1, ())
theorem g87.eq (K : Nat) (x0 : y145.T) (x1 : y2.T) : g87 K x0 x1 = (g86 K x0.2.1 x1).bind fun (y_1 : y2.T) => br (decide ((y_1 : Int) < 0)) (some (-1)) (some y_1) := by kernel_rfl
/-! ### laws.szWrS -/
theorem fn61 : fnOk G 61 Try.f61 := ⟨Try.func61, by kernel_rfl⟩
noncomputable def e61 (K : Nat) : Ent G.P := mkEnt G 61 Try.f61 fn61 [y30, y2] true y2 true [e87 K] K (fun i => if i = 5 then [2, 3, 4, 6, 7, 8, 9, 10, 11, 12, 13, 14, 15, 16, 17, 18, 19, 20, 21, 22, 23, 24, 25, 26] else []) (fun i => if i = 5 then [] else [])
noncomputable def g61 (K : Nat) (x0 : y30.T) (x1 : y2.T) : Option y2.T := (e61 K).g (x0, x1, ())
noncomputable def L61_5 (K : Nat) (k : Nat) (x0 : y30.T) (v1 : y2.T) (v5 : y2.T) : Option y2.T := resume (envOf G [e87 K] K (fun i => if i = 5 then [2, 3, 4, 6, 7, 8, 9, 10, 11, 12, 13, 14, 15, 16, 17, 18, 19, 20, 21, 22, 23, 24, 25, 26] else []) (fun i => if i = 5 then [] else [])) dokB true y2 true Try.f61 [1, 1, 1, 0, 1, 0] k (mkSt 27 [(0, .d y30 false x0), (1, .d y2 true v1), (5, .d y2 true v5)] [])
theorem L61_5.step (K k : Nat) (x0 : y30.T) (v1 : y2.T) (v5 : y2.T) : L61_5 K (k + 1) x0 v1 v5 = br (decide ((v5 : Int) < ((List.length x0 : Nat) : Int))) (br (decide (0 ≤ v5) && decide (v5 < (List.length x0 : Int))) ((g87 K (List.getD x0 (Int.toNat v5) y145.zero) v1).bind fun (y_1 : y2.T) => br (decide ((y_1 : Int) < 0)) (some (-1)) (L61_5 K k x0 y_1 (IntKind.wrap .i64 (v5 + 1)))) (none)) (some v1) := by kernel_rfl
theorem L61_5.zero (K : Nat) (x0 : y30.T) (v1 : y2.T) (v5 : y2.T) : L61_5 K 0 x0 v1 v5 = none := by kernel_rfl
theorem g61.eq (K : Nat) (x0 : y30.T) (x1 : y2.T) : g61 K x0 x1 = br (decide (((IntKind.wrap .i64 (x1 - ((List.length x0 : Nat) : Int))) : Int) < 0)) (some (-1)) (L61_5 K K x0 (IntKind.wrap .i64 (x1 - ((List.length x0 : Nat) : Int))) 0) := by kernel_rfl
/-! ### laws.szDisk -/
theorem fn33 : fnOk G 33 Try.f33 := ⟨Try.func33, by kernel_rfl⟩
noncomputable def e33 (K : Nat) : Ent G.P := mkEnt G 33 Try.f33 fn33 [y31, y2] true y2 true [e60 K, e61 K] K (fun _ => []) (fun _ => [])
noncomputable def g33 (K : Nat) (x0 : y31.T) (x1 : y2.T) : Option y2.T := (e33 K).g (x0, x1, ())
theorem g33.eq (K : Nat) (x0 : y31.T) (x1 : y2.T) : g33 K x0 x1 = (g60 K x0.1 x1).bind fun (y_1 : y2.T) => br (decide ((y_1 : Int) < 0)) (some (-1)) ((g61 K x0.2.1 y_1).bind fun (y_2 : y2.T) => br (decide ((y_2 : Int) < 0)) (some (-1)) (some y_2)) := by kernel_rfl
/-! ### laws.szSock -/
theorem fn62 : fnOk G 62 Try.f62 := ⟨Try.func62, by kernel_rfl⟩
noncomputable def e62 (K : Nat) : Ent G.P := mkEnt G 62 Try.f62 fn62 [y111, y2] true y2 true [e86 K] K (fun _ => []) (fun _ => [])
noncomputable def g62 (K : Nat) (x0 : y111.T) (x1 : y2.T) : Option y2.T := (e62 K).g (x0, x1, ())
theorem g62.eq (K : Nat) (x0 : y111.T) (x1 : y2.T) : g62 K x0 x1 = (g86 K x0.2.2.2.2.1 x1).bind fun (y_1 : y2.T) => br (decide ((y_1 : Int) < 0)) (some (-1)) ((g86 K x0.2.2.2.2.2.1 y_1).bind fun (y_2 : y2.T) => br (decide ((y_2 : Int) < 0)) (some (-1)) (some y_2)) := by kernel_rfl
/-! ### laws.szSockS -/
theorem fn34 : fnOk G 34 Try.f34 := ⟨Try.func34, by kernel_rfl⟩
noncomputable def e34 (K : Nat) : Ent G.P := mkEnt G 34 Try.f34 fn34 [y33, y2] true y2 true [e62 K] K (fun i => if i = 5 then [2, 3, 4, 6, 7, 8, 9, 10, 11, 12, 13, 14, 15, 16, 17, 18, 19, 20, 21, 22, 23, 24, 25, 26] else []) (fun i => if i = 5 then [] else [])
noncomputable def g34 (K : Nat) (x0 : y33.T) (x1 : y2.T) : Option y2.T := (e34 K).g (x0, x1, ())
noncomputable def L34_5 (K : Nat) (k : Nat) (x0 : y33.T) (v1 : y2.T) (v5 : y2.T) : Option y2.T := resume (envOf G [e62 K] K (fun i => if i = 5 then [2, 3, 4, 6, 7, 8, 9, 10, 11, 12, 13, 14, 15, 16, 17, 18, 19, 20, 21, 22, 23, 24, 25, 26] else []) (fun i => if i = 5 then [] else [])) dokB true y2 true Try.f34 [1, 1, 1, 0, 1, 0] k (mkSt 27 [(0, .d y33 false x0), (1, .d y2 true v1), (5, .d y2 true v5)] [])
theorem L34_5.step (K k : Nat) (x0 : y33.T) (v1 : y2.T) (v5 : y2.T) : L34_5 K (k + 1) x0 v1 v5 = br (decide ((v5 : Int) < ((List.length x0 : Nat) : Int))) (br (decide (0 ≤ v5) && decide (v5 < (List.length x0 : Int))) ((g62 K (List.getD x0 (Int.toNat v5) y111.zero) v1).bind fun (y_1 : y2.T) => br (decide ((y_1 : Int) < 0)) (some (-1)) (L34_5 K k x0 y_1 (IntKind.wrap .i64 (v5 + 1)))) (none)) (some v1) := by kernel_rfl
theorem L34_5.zero (K : Nat) (x0 : y33.T) (v1 : y2.T) (v5 : y2.T) : L34_5 K 0 x0 v1 v5 = none := by kernel_rfl
theorem g34.eq (K : Nat) (x0 : y33.T) (x1 : y2.T) : g34 K x0 x1 = br (decide (((IntKind.wrap .i64 (x1 - ((List.length x0 : Nat) : Int))) : Int) < 0)) (some (-1)) (L34_5 K K x0 (IntKind.wrap .i64 (x1 - ((List.length x0 : Nat) : Int))) 0) := by kernel_rfl
/-! ### laws.szDb -/
theorem fn107 : fnOk G 107 Try.f107 := ⟨Try.func107, by kernel_rfl⟩
noncomputable def e107 (K : Nat) : Ent G.P := mkEnt G 107 Try.f107 fn107 [y168, y2] true y2 true [] K (fun _ => []) (fun _ => [])
noncomputable def g107 (K : Nat) (x0 : y168.T) (x1 : y2.T) : Option y2.T := (e107 K).g (x0, x1, ())
theorem g107.eq (K : Nat) (x0 : y168.T) (x1 : y2.T) : g107 K x0 x1 = br (decide (((IntKind.wrap .i64 (x1 - ((ByteArray.size x0.1 : Nat) : Int))) : Int) < 0)) (some (-1)) (some (IntKind.wrap .i64 (x1 - ((ByteArray.size x0.1 : Nat) : Int)))) := by kernel_rfl
/-! ### laws.szDbS -/
theorem fn88 : fnOk G 88 Try.f88 := ⟨Try.func88, by kernel_rfl⟩
noncomputable def e88 (K : Nat) : Ent G.P := mkEnt G 88 Try.f88 fn88 [y113, y2] true y2 true [e107 K] K (fun i => if i = 5 then [2, 3, 4, 6, 7, 8, 9, 10, 11, 12, 13, 14, 15, 16, 17, 18, 19, 20, 21, 22, 23, 24, 25, 26] else []) (fun i => if i = 5 then [] else [])
noncomputable def g88 (K : Nat) (x0 : y113.T) (x1 : y2.T) : Option y2.T := (e88 K).g (x0, x1, ())
noncomputable def L88_5 (K : Nat) (k : Nat) (x0 : y113.T) (v1 : y2.T) (v5 : y2.T) : Option y2.T := resume (envOf G [e107 K] K (fun i => if i = 5 then [2, 3, 4, 6, 7, 8, 9, 10, 11, 12, 13, 14, 15, 16, 17, 18, 19, 20, 21, 22, 23, 24, 25, 26] else []) (fun i => if i = 5 then [] else [])) dokB true y2 true Try.f88 [1, 1, 1, 0, 1, 0] k (mkSt 27 [(0, .d y113 false x0), (1, .d y2 true v1), (5, .d y2 true v5)] [])
theorem L88_5.step (K k : Nat) (x0 : y113.T) (v1 : y2.T) (v5 : y2.T) : L88_5 K (k + 1) x0 v1 v5 = br (decide ((v5 : Int) < ((List.length x0 : Nat) : Int))) (br (decide (0 ≤ v5) && decide (v5 < (List.length x0 : Int))) ((g107 K (List.getD x0 (Int.toNat v5) y168.zero) v1).bind fun (y_1 : y2.T) => br (decide ((y_1 : Int) < 0)) (some (-1)) (L88_5 K k x0 y_1 (IntKind.wrap .i64 (v5 + 1)))) (none)) (some v1) := by kernel_rfl
theorem L88_5.zero (K : Nat) (x0 : y113.T) (v1 : y2.T) (v5 : y2.T) : L88_5 K 0 x0 v1 v5 = none := by kernel_rfl
theorem g88.eq (K : Nat) (x0 : y113.T) (x1 : y2.T) : g88 K x0 x1 = br (decide (((IntKind.wrap .i64 (x1 - ((List.length x0 : Nat) : Int))) : Int) < 0)) (some (-1)) (L88_5 K K x0 (IntKind.wrap .i64 (x1 - ((List.length x0 : Nat) : Int))) 0) := by kernel_rfl
/-! ### laws.szAsker -/
theorem fn108 : fnOk G 108 Try.f108 := ⟨Try.func108, by kernel_rfl⟩
noncomputable def e108 (K : Nat) : Ent G.P := mkEnt G 108 Try.f108 fn108 [y170, y2] true y2 true [] K (fun _ => []) (fun _ => [])
noncomputable def g108 (K : Nat) (x0 : y170.T) (x1 : y2.T) : Option y2.T := (e108 K).g (x0, x1, ())
theorem g108.eq (K : Nat) (x0 : y170.T) (x1 : y2.T) : g108 K x0 x1 = br (decide (((IntKind.wrap .i64 (x1 - ((ByteArray.size x0.2.1 : Nat) : Int))) : Int) < 0)) (some (-1)) (br (decide (((IntKind.wrap .i64 ((IntKind.wrap .i64 (x1 - ((ByteArray.size x0.2.1 : Nat) : Int))) - ((ByteArray.size x0.2.2.2.2.2.1 : Nat) : Int))) : Int) < 0)) (some (-1)) (some (IntKind.wrap .i64 ((IntKind.wrap .i64 (x1 - ((ByteArray.size x0.2.1 : Nat) : Int))) - ((ByteArray.size x0.2.2.2.2.2.1 : Nat) : Int))))) := by kernel_rfl
/-! ### laws.szAskerS -/
theorem fn89 : fnOk G 89 Try.f89 := ⟨Try.func89, by kernel_rfl⟩
noncomputable def e89 (K : Nat) : Ent G.P := mkEnt G 89 Try.f89 fn89 [y114, y2] true y2 true [e108 K] K (fun i => if i = 5 then [2, 3, 4, 6, 7, 8, 9, 10, 11, 12, 13, 14, 15, 16, 17, 18, 19, 20, 21, 22, 23, 24, 25, 26] else []) (fun i => if i = 5 then [] else [])
noncomputable def g89 (K : Nat) (x0 : y114.T) (x1 : y2.T) : Option y2.T := (e89 K).g (x0, x1, ())
noncomputable def L89_5 (K : Nat) (k : Nat) (x0 : y114.T) (v1 : y2.T) (v5 : y2.T) : Option y2.T := resume (envOf G [e108 K] K (fun i => if i = 5 then [2, 3, 4, 6, 7, 8, 9, 10, 11, 12, 13, 14, 15, 16, 17, 18, 19, 20, 21, 22, 23, 24, 25, 26] else []) (fun i => if i = 5 then [] else [])) dokB true y2 true Try.f89 [1, 1, 1, 0, 1, 0] k (mkSt 27 [(0, .d y114 false x0), (1, .d y2 true v1), (5, .d y2 true v5)] [])
theorem L89_5.step (K k : Nat) (x0 : y114.T) (v1 : y2.T) (v5 : y2.T) : L89_5 K (k + 1) x0 v1 v5 = br (decide ((v5 : Int) < ((List.length x0 : Nat) : Int))) (br (decide (0 ≤ v5) && decide (v5 < (List.length x0 : Int))) ((g108 K (List.getD x0 (Int.toNat v5) y170.zero) v1).bind fun (y_1 : y2.T) => br (decide ((y_1 : Int) < 0)) (some (-1)) (L89_5 K k x0 y_1 (IntKind.wrap .i64 (v5 + 1)))) (none)) (some v1) := by kernel_rfl
theorem L89_5.zero (K : Nat) (x0 : y114.T) (v1 : y2.T) (v5 : y2.T) : L89_5 K 0 x0 v1 v5 = none := by kernel_rfl
theorem g89.eq (K : Nat) (x0 : y114.T) (x1 : y2.T) : g89 K x0 x1 = br (decide (((IntKind.wrap .i64 (x1 - ((List.length x0 : Nat) : Int))) : Int) < 0)) (some (-1)) (L89_5 K K x0 (IntKind.wrap .i64 (x1 - ((List.length x0 : Nat) : Int))) 0) := by kernel_rfl
/-! ### laws.szLine -/
theorem fn109 : fnOk G 109 Try.f109 := ⟨Try.func109, by kernel_rfl⟩
noncomputable def e109 (K : Nat) : Ent G.P := mkEnt G 109 Try.f109 fn109 [y172, y2] true y2 true [] K (fun _ => []) (fun _ => [])
noncomputable def g109 (K : Nat) (x0 : y172.T) (x1 : y2.T) : Option y2.T := (e109 K).g (x0, x1, ())
theorem g109.eq (K : Nat) (x0 : y172.T) (x1 : y2.T) : g109 K x0 x1 = br (decide (((IntKind.wrap .i64 (x1 - ((ByteArray.size x0.2.1 : Nat) : Int))) : Int) < 0)) (some (-1)) (some (IntKind.wrap .i64 (x1 - ((ByteArray.size x0.2.1 : Nat) : Int)))) := by kernel_rfl
/-! ### laws.szLineS -/
theorem fn90 : fnOk G 90 Try.f90 := ⟨Try.func90, by kernel_rfl⟩
noncomputable def e90 (K : Nat) : Ent G.P := mkEnt G 90 Try.f90 fn90 [y115, y2] true y2 true [e109 K] K (fun i => if i = 5 then [2, 3, 4, 6, 7, 8, 9, 10, 11, 12, 13, 14, 15, 16, 17, 18, 19, 20, 21, 22, 23, 24, 25, 26] else []) (fun i => if i = 5 then [] else [])
noncomputable def g90 (K : Nat) (x0 : y115.T) (x1 : y2.T) : Option y2.T := (e90 K).g (x0, x1, ())
noncomputable def L90_5 (K : Nat) (k : Nat) (x0 : y115.T) (v1 : y2.T) (v5 : y2.T) : Option y2.T := resume (envOf G [e109 K] K (fun i => if i = 5 then [2, 3, 4, 6, 7, 8, 9, 10, 11, 12, 13, 14, 15, 16, 17, 18, 19, 20, 21, 22, 23, 24, 25, 26] else []) (fun i => if i = 5 then [] else [])) dokB true y2 true Try.f90 [1, 1, 1, 0, 1, 0] k (mkSt 27 [(0, .d y115 false x0), (1, .d y2 true v1), (5, .d y2 true v5)] [])
theorem L90_5.step (K k : Nat) (x0 : y115.T) (v1 : y2.T) (v5 : y2.T) : L90_5 K (k + 1) x0 v1 v5 = br (decide ((v5 : Int) < ((List.length x0 : Nat) : Int))) (br (decide (0 ≤ v5) && decide (v5 < (List.length x0 : Int))) ((g109 K (List.getD x0 (Int.toNat v5) y172.zero) v1).bind fun (y_1 : y2.T) => br (decide ((y_1 : Int) < 0)) (some (-1)) (L90_5 K k x0 y_1 (IntKind.wrap .i64 (v5 + 1)))) (none)) (some v1) := by kernel_rfl
theorem L90_5.zero (K : Nat) (x0 : y115.T) (v1 : y2.T) (v5 : y2.T) : L90_5 K 0 x0 v1 v5 = none := by kernel_rfl
theorem g90.eq (K : Nat) (x0 : y115.T) (x1 : y2.T) : g90 K x0 x1 = br (decide (((IntKind.wrap .i64 (x1 - ((List.length x0 : Nat) : Int))) : Int) < 0)) (some (-1)) (L90_5 K K x0 (IntKind.wrap .i64 (x1 - ((List.length x0 : Nat) : Int))) 0) := by kernel_rfl
/-! ### laws.szHouse -/
theorem fn63 : fnOk G 63 Try.f63 := ⟨Try.func63, by kernel_rfl⟩
noncomputable def e63 (K : Nat) : Ent G.P := mkEnt G 63 Try.f63 fn63 [y118, y2] true y2 true [e88 K, e89 K, e90 K] K (fun _ => []) (fun _ => [])
noncomputable def g63 (K : Nat) (x0 : y118.T) (x1 : y2.T) : Option y2.T := (e63 K).g (x0, x1, ())
theorem g63.eq (K : Nat) (x0 : y118.T) (x1 : y2.T) : g63 K x0 x1 = (g88 K x0.2.2.2.1 x1).bind fun (y_1 : y2.T) => br (decide ((y_1 : Int) < 0)) (some (-1)) ((g89 K x0.2.2.2.2.2.1 y_1).bind fun (y_2 : y2.T) => br (decide ((y_2 : Int) < 0)) (some (-1)) ((g90 K x0.2.2.2.2.2.2.1 y_2).bind fun (y_3 : y2.T) => br (decide ((y_3 : Int) < 0)) (some (-1)) (some y_3))) := by kernel_rfl
/-! ### laws.szHouseS -/
theorem fn35 : fnOk G 35 Try.f35 := ⟨Try.func35, by kernel_rfl⟩
noncomputable def e35 (K : Nat) : Ent G.P := mkEnt G 35 Try.f35 fn35 [y34, y2] true y2 true [e63 K] K (fun i => if i = 5 then [2, 3, 4, 6, 7, 8, 9, 10, 11, 12, 13, 14, 15, 16, 17, 18, 19, 20, 21, 22, 23, 24, 25, 26] else []) (fun i => if i = 5 then [] else [])
noncomputable def g35 (K : Nat) (x0 : y34.T) (x1 : y2.T) : Option y2.T := (e35 K).g (x0, x1, ())
noncomputable def L35_5 (K : Nat) (k : Nat) (x0 : y34.T) (v1 : y2.T) (v5 : y2.T) : Option y2.T := resume (envOf G [e63 K] K (fun i => if i = 5 then [2, 3, 4, 6, 7, 8, 9, 10, 11, 12, 13, 14, 15, 16, 17, 18, 19, 20, 21, 22, 23, 24, 25, 26] else []) (fun i => if i = 5 then [] else [])) dokB true y2 true Try.f35 [1, 1, 1, 0, 1, 0] k (mkSt 27 [(0, .d y34 false x0), (1, .d y2 true v1), (5, .d y2 true v5)] [])
theorem L35_5.step (K k : Nat) (x0 : y34.T) (v1 : y2.T) (v5 : y2.T) : L35_5 K (k + 1) x0 v1 v5 = br (decide ((v5 : Int) < ((List.length x0 : Nat) : Int))) (br (decide (0 ≤ v5) && decide (v5 < (List.length x0 : Int))) ((g63 K (List.getD x0 (Int.toNat v5) y118.zero) v1).bind fun (y_1 : y2.T) => br (decide ((y_1 : Int) < 0)) (some (-1)) (L35_5 K k x0 y_1 (IntKind.wrap .i64 (v5 + 1)))) (none)) (some v1) := by kernel_rfl
theorem L35_5.zero (K : Nat) (x0 : y34.T) (v1 : y2.T) (v5 : y2.T) : L35_5 K 0 x0 v1 v5 = none := by kernel_rfl
theorem g35.eq (K : Nat) (x0 : y34.T) (x1 : y2.T) : g35 K x0 x1 = br (decide (((IntKind.wrap .i64 (x1 - ((List.length x0 : Nat) : Int))) : Int) < 0)) (some (-1)) (L35_5 K K x0 (IntKind.wrap .i64 (x1 - ((List.length x0 : Nat) : Int))) 0) := by kernel_rfl
/-! ### laws.szPack -/
theorem fn64 : fnOk G 64 Try.f64 := ⟨Try.func64, by kernel_rfl⟩
noncomputable def e64 (K : Nat) : Ent G.P := mkEnt G 64 Try.f64 fn64 [y145, y2] true y2 true [e86 K] K (fun _ => []) (fun _ => [])
noncomputable def g64 (K : Nat) (x0 : y145.T) (x1 : y2.T) : Option y2.T := (e64 K).g (x0, x1, ())
theorem g64.eq (K : Nat) (x0 : y145.T) (x1 : y2.T) : g64 K x0 x1 = (g86 K x0.2.1 x1).bind fun (y_1 : y2.T) => br (decide ((y_1 : Int) < 0)) (some (-1)) (some y_1) := by kernel_rfl
/-! ### laws.szPackS -/
theorem fn36 : fnOk G 36 Try.f36 := ⟨Try.func36, by kernel_rfl⟩
noncomputable def e36 (K : Nat) : Ent G.P := mkEnt G 36 Try.f36 fn36 [y35, y2] true y2 true [e64 K] K (fun i => if i = 5 then [2, 3, 4, 6, 7, 8, 9, 10, 11, 12, 13, 14, 15, 16, 17, 18, 19, 20, 21, 22, 23, 24, 25, 26] else []) (fun i => if i = 5 then [] else [])
noncomputable def g36 (K : Nat) (x0 : y35.T) (x1 : y2.T) : Option y2.T := (e36 K).g (x0, x1, ())
noncomputable def L36_5 (K : Nat) (k : Nat) (x0 : y35.T) (v1 : y2.T) (v5 : y2.T) : Option y2.T := resume (envOf G [e64 K] K (fun i => if i = 5 then [2, 3, 4, 6, 7, 8, 9, 10, 11, 12, 13, 14, 15, 16, 17, 18, 19, 20, 21, 22, 23, 24, 25, 26] else []) (fun i => if i = 5 then [] else [])) dokB true y2 true Try.f36 [1, 1, 1, 0, 1, 0] k (mkSt 27 [(0, .d y35 false x0), (1, .d y2 true v1), (5, .d y2 true v5)] [])
theorem L36_5.step (K k : Nat) (x0 : y35.T) (v1 : y2.T) (v5 : y2.T) : L36_5 K (k + 1) x0 v1 v5 = br (decide ((v5 : Int) < ((List.length x0 : Nat) : Int))) (br (decide (0 ≤ v5) && decide (v5 < (List.length x0 : Int))) ((g64 K (List.getD x0 (Int.toNat v5) y145.zero) v1).bind fun (y_1 : y2.T) => br (decide ((y_1 : Int) < 0)) (some (-1)) (L36_5 K k x0 y_1 (IntKind.wrap .i64 (v5 + 1)))) (none)) (some v1) := by kernel_rfl
theorem L36_5.zero (K : Nat) (x0 : y35.T) (v1 : y2.T) (v5 : y2.T) : L36_5 K 0 x0 v1 v5 = none := by kernel_rfl
theorem g36.eq (K : Nat) (x0 : y35.T) (x1 : y2.T) : g36 K x0 x1 = br (decide (((IntKind.wrap .i64 (x1 - ((List.length x0 : Nat) : Int))) : Int) < 0)) (some (-1)) (L36_5 K K x0 (IntKind.wrap .i64 (x1 - ((List.length x0 : Nat) : Int))) 0) := by kernel_rfl
/-! ### laws.szNoteS -/
theorem fn8 : fnOk G 8 Try.f8 := ⟨Try.func8, by kernel_rfl⟩
noncomputable def e8 (K : Nat) : Ent G.P := mkEnt G 8 Try.f8 fn8 [y22, y2] true y2 true [] K (fun _ => []) (fun _ => [])
noncomputable def g8 (K : Nat) (x0 : y22.T) (x1 : y2.T) : Option y2.T := (e8 K).g (x0, x1, ())
theorem g8.eq (K : Nat) (x0 : y22.T) (x1 : y2.T) : g8 K x0 x1 = br (decide (((IntKind.wrap .i64 (x1 - ((List.length x0 : Nat) : Int))) : Int) < 0)) (some (-1)) (some (IntKind.wrap .i64 (x1 - ((List.length x0 : Nat) : Int)))) := by kernel_rfl
/-! ### laws.szWorld -/
theorem fn13 : fnOk G 13 Try.f13 := ⟨Try.func13, by kernel_rfl⟩
noncomputable def e13 (K : Nat) : Ent G.P := mkEnt G 13 Try.f13 fn13 [y36, y2] true y2 true [e33 K, e34 K, e35 K, e36 K, e8 K] K (fun _ => []) (fun _ => [])
noncomputable def g13 (K : Nat) (x0 : y36.T) (x1 : y2.T) : Option y2.T := (e13 K).g (x0, x1, ())
theorem g13.eq (K : Nat) (x0 : y36.T) (x1 : y2.T) : g13 K x0 x1 = (g33 K x0.2.1 x1).bind fun (y_1 : y2.T) => br (decide ((y_1 : Int) < 0)) (some (-1)) ((g34 K x0.2.2.1 y_1).bind fun (y_2 : y2.T) => br (decide ((y_2 : Int) < 0)) (some (-1)) ((g35 K x0.2.2.2.1 y_2).bind fun (y_3 : y2.T) => br (decide ((y_3 : Int) < 0)) (some (-1)) ((g36 K x0.2.2.2.2.1 y_3).bind fun (y_4 : y2.T) => br (decide ((y_4 : Int) < 0)) (some (-1)) ((g8 K x0.2.2.2.2.2.1 y_4).bind fun (y_5 : y2.T) => br (decide ((y_5 : Int) < 0)) (some (-1)) (some y_5))))) := by kernel_rfl
/-! ### laws.toByteS -/
theorem fn91 : fnOk G 91 Try.f91 := ⟨Try.func91, by kernel_rfl⟩
noncomputable def e91 (K : Nat) : Ent G.P := mkEnt G 91 Try.f91 fn91 [y99] true y99 true [] K (fun i => if i = 3 then [1, 2, 5, 6, 7, 8, 9, 10, 11, 12, 13, 14, 15, 16, 17, 18, 19, 20, 21] else []) (fun i => if i = 3 then [2] else [])
noncomputable def g91 (K : Nat) (x0 : y99.T) : Option y99.T := (e91 K).g (x0, ())
noncomputable def L91_3 (K : Nat) (k : Nat) (x0 : y99.T) (v4 : y2.T) (o7 : y99.T) : Option y99.T := resume (envOf G [] K (fun i => if i = 3 then [1, 2, 5, 6, 7, 8, 9, 10, 11, 12, 13, 14, 15, 16, 17, 18, 19, 20, 21] else []) (fun i => if i = 3 then [2] else [])) dokB true y99 true Try.f91 [1, 1, 0, 1, 0] k (mkSt 22 [(0, .d y99 false x0), (3, .own 7), (4, .d y2 true v4)] [(7, .arr 5 y5 true o7)])
theorem L91_3.step (K k : Nat) (x0 : y99.T) (v4 : y2.T) (o7 : y99.T) : L91_3 K (k + 1) x0 v4 o7 = br (decide ((v4 : Int) < ((List.length x0 : Nat) : Int))) (br (decide (0 ≤ v4) && decide (v4 < (List.length x0 : Int))) (br (decide (0 ≤ v4) && decide (v4 < (List.length o7 : Int))) (L91_3 K k x0 (IntKind.wrap .i64 (v4 + 1)) (List.set o7 (Int.toNat v4) (List.getD x0 (Int.toNat v4) 0))) (none)) (none)) (some o7) := by kernel_rfl
theorem L91_3.zero (K : Nat) (x0 : y99.T) (v4 : y2.T) (o7 : y99.T) : L91_3 K 0 x0 v4 o7 = none := by kernel_rfl
theorem g91.eq (K : Nat) (x0 : y99.T) : g91 K x0 = br (decide (0 ≤ ((List.length x0 : Nat) : Int)) && decide ((((List.length x0 : Nat) : Int) : Int) = ((List.length x0 : Nat) : Int)) && decide (Int.toNat ((List.length x0 : Nat) : Int) * 1 ≤ 281474976710656)) (L91_3 K K x0 0 (List.replicate (Int.toNat ((List.length x0 : Nat) : Int)) 0)) (none) := by kernel_rfl
/-! ### laws.toByteSS -/
theorem fn65 : fnOk G 65 Try.f65 := ⟨Try.func65, by kernel_rfl⟩
noncomputable def e65 (K : Nat) : Ent G.P := mkEnt G 65 Try.f65 fn65 [y29] true y29 true [e91 K] K (fun i => if i = 3 then [1, 2, 5, 6, 7, 8, 9, 10, 11, 12, 13, 14, 15, 16, 17, 18, 19, 20, 21, 22] else []) (fun i => if i = 3 then [2] else [])
noncomputable def g65 (K : Nat) (x0 : y29.T) : Option y29.T := (e65 K).g (x0, ())
noncomputable def L65_3 (K : Nat) (k : Nat) (x0 : y29.T) (v4 : y2.T) (o7 : y29.T) : Option y29.T := resume (envOf G [e91 K] K (fun i => if i = 3 then [1, 2, 5, 6, 7, 8, 9, 10, 11, 12, 13, 14, 15, 16, 17, 18, 19, 20, 21, 22] else []) (fun i => if i = 3 then [2] else [])) dokB true y29 true Try.f65 [1, 1, 0, 1, 0] k (mkSt 23 [(0, .d y29 false x0), (3, .own 7), (4, .d y2 true v4)] [(7, .arr 99 y99 true o7)])
theorem L65_3.step (K k : Nat) (x0 : y29.T) (v4 : y2.T) (o7 : y29.T) : L65_3 K (k + 1) x0 v4 o7 = br (decide ((v4 : Int) < ((List.length x0 : Nat) : Int))) (br (decide (0 ≤ v4) && decide (v4 < (List.length x0 : Int))) ((g91 K (List.getD x0 (Int.toNat v4) ([]))).bind fun (y_1 : y99.T) => br (decide (0 ≤ v4) && decide (v4 < (List.length o7 : Int))) (L65_3 K k x0 (IntKind.wrap .i64 (v4 + 1)) (List.set o7 (Int.toNat v4) y_1)) (none)) (none)) (some o7) := by kernel_rfl
theorem L65_3.zero (K : Nat) (x0 : y29.T) (v4 : y2.T) (o7 : y29.T) : L65_3 K 0 x0 v4 o7 = none := by kernel_rfl
theorem g65.eq (K : Nat) (x0 : y29.T) : g65 K x0 = br (decide (0 ≤ ((List.length x0 : Nat) : Int)) && decide ((((List.length x0 : Nat) : Int) : Int) = ((List.length x0 : Nat) : Int)) && decide (Int.toNat ((List.length x0 : Nat) : Int) * 24 ≤ 281474976710656)) (L65_3 K K x0 0 (List.replicate (Int.toNat ((List.length x0 : Nat) : Int)) ([]))) (none) := by kernel_rfl
/-! ### laws.toWr -/
theorem fn92 : fnOk G 92 Try.f92 := ⟨Try.func92, by kernel_rfl⟩
noncomputable def e92 (K : Nat) : Ent G.P := mkEnt G 92 Try.f92 fn92 [y145] true y145 true [e91 K] K (fun _ => []) (fun _ => [])
noncomputable def g92 (K : Nat) (x0 : y145.T) : Option y145.T := (e92 K).g (x0, ())
theorem g92.eq (K : Nat) (x0 : y145.T) : g92 K x0 = (g91 K x0.2.1).bind fun (y_1 : y99.T) => some (x0.1, (y_1, ())) := by kernel_rfl
/-! ### laws.toWrS -/
theorem fn66 : fnOk G 66 Try.f66 := ⟨Try.func66, by kernel_rfl⟩
noncomputable def e66 (K : Nat) : Ent G.P := mkEnt G 66 Try.f66 fn66 [y30] true y40 true [e92 K] K (fun i => if i = 3 then [1, 2, 5, 6, 7, 8, 9, 10, 11, 12, 13, 14, 15, 16, 17, 18, 19, 20, 21, 22] else []) (fun i => if i = 3 then [2] else [])
noncomputable def g66 (K : Nat) (x0 : y30.T) : Option y40.T := (e66 K).g (x0, ())
noncomputable def L66_3 (K : Nat) (k : Nat) (x0 : y30.T) (v4 : y2.T) (o7 : y40.T) : Option y40.T := resume (envOf G [e92 K] K (fun i => if i = 3 then [1, 2, 5, 6, 7, 8, 9, 10, 11, 12, 13, 14, 15, 16, 17, 18, 19, 20, 21, 22] else []) (fun i => if i = 3 then [2] else [])) dokB true y40 true Try.f66 [1, 1, 0, 1, 0] k (mkSt 23 [(0, .d y30 false x0), (3, .own 7), (4, .d y2 true v4)] [(7, .arr 150 y145 true o7)])
theorem L66_3.step (K k : Nat) (x0 : y30.T) (v4 : y2.T) (o7 : y40.T) : L66_3 K (k + 1) x0 v4 o7 = br (decide ((v4 : Int) < ((List.length x0 : Nat) : Int))) (br (decide (0 ≤ v4) && decide (v4 < (List.length x0 : Int))) ((g92 K (List.getD x0 (Int.toNat v4) y145.zero)).bind fun (y_1 : y145.T) => br (decide (0 ≤ v4) && decide (v4 < (List.length o7 : Int))) (L66_3 K k x0 (IntKind.wrap .i64 (v4 + 1)) (List.set o7 (Int.toNat v4) y_1)) (none)) (none)) (some o7) := by kernel_rfl
theorem L66_3.zero (K : Nat) (x0 : y30.T) (v4 : y2.T) (o7 : y40.T) : L66_3 K 0 x0 v4 o7 = none := by kernel_rfl
theorem g66.eq (K : Nat) (x0 : y30.T) : g66 K x0 = br (decide (0 ≤ ((List.length x0 : Nat) : Int)) && decide ((((List.length x0 : Nat) : Int) : Int) = ((List.length x0 : Nat) : Int)) && decide (Int.toNat ((List.length x0 : Nat) : Int) * 32 ≤ 281474976710656)) (L66_3 K K x0 0 (List.replicate (Int.toNat ((List.length x0 : Nat) : Int)) y145.zero)) (none) := by kernel_rfl
/-! ### laws.toDisk -/
theorem fn39 : fnOk G 39 Try.f39 := ⟨Try.func39, by kernel_rfl⟩
noncomputable def e39 (K : Nat) : Ent G.P := mkEnt G 39 Try.f39 fn39 [y31] true y41 true [e65 K, e66 K] K (fun _ => []) (fun _ => [])
noncomputable def g39 (K : Nat) (x0 : y31.T) : Option y41.T := (e39 K).g (x0, ())
theorem g39.eq (K : Nat) (x0 : y31.T) : g39 K x0 = (g65 K x0.1).bind fun (y_1 : y29.T) => (g66 K x0.2.1).bind fun (y_2 : y40.T) => some (y_1, (y_2, (x0.2.2.1, (x0.2.2.2.1, ())))) := by kernel_rfl
/-! ### laws.toSock -/
theorem fn67 : fnOk G 67 Try.f67 := ⟨Try.func67, by kernel_rfl⟩
noncomputable def e67 (K : Nat) : Ent G.P := mkEnt G 67 Try.f67 fn67 [y111] true y111 true [e91 K] K (fun _ => []) (fun _ => [])
noncomputable def g67 (K : Nat) (x0 : y111.T) : Option y111.T := (e67 K).g (x0, ())
theorem g67.eq (K : Nat) (x0 : y111.T) : g67 K x0 = (g91 K x0.2.2.2.2.1).bind fun (y_1 : y99.T) => (g91 K x0.2.2.2.2.2.1).bind fun (y_2 : y99.T) => some (x0.1, (x0.2.1, (x0.2.2.1, (x0.2.2.2.1, (y_1, (y_2, (x0.2.2.2.2.2.2.1, (x0.2.2.2.2.2.2.2.1, ())))))))) := by kernel_rfl
/-! ### laws.toSockS -/
theorem fn40 : fnOk G 40 Try.f40 := ⟨Try.func40, by kernel_rfl⟩
noncomputable def e40 (K : Nat) : Ent G.P := mkEnt G 40 Try.f40 fn40 [y33] true y43 true [e67 K] K (fun i => if i = 3 then [1, 2, 5, 6, 7, 8, 9, 10, 11, 12, 13, 14, 15, 16, 17, 18, 19, 20, 21, 22] else []) (fun i => if i = 3 then [2] else [])
noncomputable def g40 (K : Nat) (x0 : y33.T) : Option y43.T := (e40 K).g (x0, ())
noncomputable def L40_3 (K : Nat) (k : Nat) (x0 : y33.T) (v4 : y2.T) (o7 : y43.T) : Option y43.T := resume (envOf G [e67 K] K (fun i => if i = 3 then [1, 2, 5, 6, 7, 8, 9, 10, 11, 12, 13, 14, 15, 16, 17, 18, 19, 20, 21, 22] else []) (fun i => if i = 3 then [2] else [])) dokB true y43 true Try.f40 [1, 1, 0, 1, 0] k (mkSt 23 [(0, .d y33 false x0), (3, .own 7), (4, .d y2 true v4)] [(7, .arr 101 y111 true o7)])
theorem L40_3.step (K k : Nat) (x0 : y33.T) (v4 : y2.T) (o7 : y43.T) : L40_3 K (k + 1) x0 v4 o7 = br (decide ((v4 : Int) < ((List.length x0 : Nat) : Int))) (br (decide (0 ≤ v4) && decide (v4 < (List.length x0 : Int))) ((g67 K (List.getD x0 (Int.toNat v4) y111.zero)).bind fun (y_1 : y111.T) => br (decide (0 ≤ v4) && decide (v4 < (List.length o7 : Int))) (L40_3 K k x0 (IntKind.wrap .i64 (v4 + 1)) (List.set o7 (Int.toNat v4) y_1)) (none)) (none)) (some o7) := by kernel_rfl
theorem L40_3.zero (K : Nat) (x0 : y33.T) (v4 : y2.T) (o7 : y43.T) : L40_3 K 0 x0 v4 o7 = none := by kernel_rfl
theorem g40.eq (K : Nat) (x0 : y33.T) : g40 K x0 = br (decide (0 ≤ ((List.length x0 : Nat) : Int)) && decide ((((List.length x0 : Nat) : Int) : Int) = ((List.length x0 : Nat) : Int)) && decide (Int.toNat ((List.length x0 : Nat) : Int) * 96 ≤ 281474976710656)) (L40_3 K K x0 0 (List.replicate (Int.toNat ((List.length x0 : Nat) : Int)) y111.zero)) (none) := by kernel_rfl
/-! ### laws.toDb -/
theorem fn110 : fnOk G 110 Try.f110 := ⟨Try.func110, by kernel_rfl⟩
noncomputable def e110 (K : Nat) : Ent G.P := mkEnt G 110 Try.f110 fn110 [y168] true y168 true [] K (fun _ => []) (fun _ => [])
noncomputable def g110 (K : Nat) (x0 : y168.T) : Option y168.T := (e110 K).g (x0, ())
theorem g110.eq (K : Nat) (x0 : y168.T) : g110 K x0 = some (x0.1, (x0.2.1, (x0.2.2.1, (x0.2.2.2.1, (x0.2.2.2.2.1, ()))))) := by kernel_rfl
/-! ### laws.toDbS -/
theorem fn93 : fnOk G 93 Try.f93 := ⟨Try.func93, by kernel_rfl⟩
noncomputable def e93 (K : Nat) : Ent G.P := mkEnt G 93 Try.f93 fn93 [y113] true y73 true [e110 K] K (fun i => if i = 3 then [1, 2, 5, 6, 7, 8, 9, 10, 11, 12, 13, 14, 15, 16, 17, 18, 19, 20, 21, 22] else []) (fun i => if i = 3 then [2] else [])
noncomputable def g93 (K : Nat) (x0 : y113.T) : Option y73.T := (e93 K).g (x0, ())
noncomputable def L93_3 (K : Nat) (k : Nat) (x0 : y113.T) (v4 : y2.T) (o7 : y73.T) : Option y73.T := resume (envOf G [e110 K] K (fun i => if i = 3 then [1, 2, 5, 6, 7, 8, 9, 10, 11, 12, 13, 14, 15, 16, 17, 18, 19, 20, 21, 22] else []) (fun i => if i = 3 then [2] else [])) dokB true y73 true Try.f93 [1, 1, 0, 1, 0] k (mkSt 23 [(0, .d y113 false x0), (3, .own 7), (4, .d y2 true v4)] [(7, .arr 83 y168 true o7)])
theorem L93_3.step (K k : Nat) (x0 : y113.T) (v4 : y2.T) (o7 : y73.T) : L93_3 K (k + 1) x0 v4 o7 = br (decide ((v4 : Int) < ((List.length x0 : Nat) : Int))) (br (decide (0 ≤ v4) && decide (v4 < (List.length x0 : Int))) ((g110 K (List.getD x0 (Int.toNat v4) y168.zero)).bind fun (y_1 : y168.T) => br (decide (0 ≤ v4) && decide (v4 < (List.length o7 : Int))) (L93_3 K k x0 (IntKind.wrap .i64 (v4 + 1)) (List.set o7 (Int.toNat v4) y_1)) (none)) (none)) (some o7) := by kernel_rfl
theorem L93_3.zero (K : Nat) (x0 : y113.T) (v4 : y2.T) (o7 : y73.T) : L93_3 K 0 x0 v4 o7 = none := by kernel_rfl
theorem g93.eq (K : Nat) (x0 : y113.T) : g93 K x0 = br (decide (0 ≤ ((List.length x0 : Nat) : Int)) && decide ((((List.length x0 : Nat) : Int) : Int) = ((List.length x0 : Nat) : Int)) && decide (Int.toNat ((List.length x0 : Nat) : Int) * 48 ≤ 281474976710656)) (L93_3 K K x0 0 (List.replicate (Int.toNat ((List.length x0 : Nat) : Int)) y168.zero)) (none) := by kernel_rfl
/-! ### laws.toAsker -/
theorem fn111 : fnOk G 111 Try.f111 := ⟨Try.func111, by kernel_rfl⟩
noncomputable def e111 (K : Nat) : Ent G.P := mkEnt G 111 Try.f111 fn111 [y170] true y170 true [] K (fun _ => []) (fun _ => [])
noncomputable def g111 (K : Nat) (x0 : y170.T) : Option y170.T := (e111 K).g (x0, ())
theorem g111.eq (K : Nat) (x0 : y170.T) : g111 K x0 = some (x0.1, (x0.2.1, (x0.2.2.1, (x0.2.2.2.1, (x0.2.2.2.2.1, (x0.2.2.2.2.2.1, (x0.2.2.2.2.2.2.1, (x0.2.2.2.2.2.2.2.1, ())))))))) := by kernel_rfl
/-! ### laws.toAskerS -/
theorem fn94 : fnOk G 94 Try.f94 := ⟨Try.func94, by kernel_rfl⟩
noncomputable def e94 (K : Nat) : Ent G.P := mkEnt G 94 Try.f94 fn94 [y114] true y74 true [e111 K] K (fun i => if i = 3 then [1, 2, 5, 6, 7, 8, 9, 10, 11, 12, 13, 14, 15, 16, 17, 18, 19, 20, 21, 22] else []) (fun i => if i = 3 then [2] else [])
noncomputable def g94 (K : Nat) (x0 : y114.T) : Option y74.T := (e94 K).g (x0, ())
noncomputable def L94_3 (K : Nat) (k : Nat) (x0 : y114.T) (v4 : y2.T) (o7 : y74.T) : Option y74.T := resume (envOf G [e111 K] K (fun i => if i = 3 then [1, 2, 5, 6, 7, 8, 9, 10, 11, 12, 13, 14, 15, 16, 17, 18, 19, 20, 21, 22] else []) (fun i => if i = 3 then [2] else [])) dokB true y74 true Try.f94 [1, 1, 0, 1, 0] k (mkSt 23 [(0, .d y114 false x0), (3, .own 7), (4, .d y2 true v4)] [(7, .arr 81 y170 true o7)])
theorem L94_3.step (K k : Nat) (x0 : y114.T) (v4 : y2.T) (o7 : y74.T) : L94_3 K (k + 1) x0 v4 o7 = br (decide ((v4 : Int) < ((List.length x0 : Nat) : Int))) (br (decide (0 ≤ v4) && decide (v4 < (List.length x0 : Int))) ((g111 K (List.getD x0 (Int.toNat v4) y170.zero)).bind fun (y_1 : y170.T) => br (decide (0 ≤ v4) && decide (v4 < (List.length o7 : Int))) (L94_3 K k x0 (IntKind.wrap .i64 (v4 + 1)) (List.set o7 (Int.toNat v4) y_1)) (none)) (none)) (some o7) := by kernel_rfl
theorem L94_3.zero (K : Nat) (x0 : y114.T) (v4 : y2.T) (o7 : y74.T) : L94_3 K 0 x0 v4 o7 = none := by kernel_rfl
theorem g94.eq (K : Nat) (x0 : y114.T) : g94 K x0 = br (decide (0 ≤ ((List.length x0 : Nat) : Int)) && decide ((((List.length x0 : Nat) : Int) : Int) = ((List.length x0 : Nat) : Int)) && decide (Int.toNat ((List.length x0 : Nat) : Int) * 80 ≤ 281474976710656)) (L94_3 K K x0 0 (List.replicate (Int.toNat ((List.length x0 : Nat) : Int)) y170.zero)) (none) := by kernel_rfl
/-! ### laws.toLine -/
theorem fn112 : fnOk G 112 Try.f112 := ⟨Try.func112, by kernel_rfl⟩
noncomputable def e112 (K : Nat) : Ent G.P := mkEnt G 112 Try.f112 fn112 [y172] true y172 true [] K (fun _ => []) (fun _ => [])
noncomputable def g112 (K : Nat) (x0 : y172.T) : Option y172.T := (e112 K).g (x0, ())
theorem g112.eq (K : Nat) (x0 : y172.T) : g112 K x0 = some (x0.1, (x0.2.1, (x0.2.2.1, (x0.2.2.2.1, (x0.2.2.2.2.1, (x0.2.2.2.2.2.1, (x0.2.2.2.2.2.2.1, ()))))))) := by kernel_rfl
/-! ### laws.toLineS -/
theorem fn95 : fnOk G 95 Try.f95 := ⟨Try.func95, by kernel_rfl⟩
noncomputable def e95 (K : Nat) : Ent G.P := mkEnt G 95 Try.f95 fn95 [y115] true y75 true [e112 K] K (fun i => if i = 3 then [1, 2, 5, 6, 7, 8, 9, 10, 11, 12, 13, 14, 15, 16, 17, 18, 19, 20, 21, 22] else []) (fun i => if i = 3 then [2] else [])
noncomputable def g95 (K : Nat) (x0 : y115.T) : Option y75.T := (e95 K).g (x0, ())
noncomputable def L95_3 (K : Nat) (k : Nat) (x0 : y115.T) (v4 : y2.T) (o7 : y75.T) : Option y75.T := resume (envOf G [e112 K] K (fun i => if i = 3 then [1, 2, 5, 6, 7, 8, 9, 10, 11, 12, 13, 14, 15, 16, 17, 18, 19, 20, 21, 22] else []) (fun i => if i = 3 then [2] else [])) dokB true y75 true Try.f95 [1, 1, 0, 1, 0] k (mkSt 23 [(0, .d y115 false x0), (3, .own 7), (4, .d y2 true v4)] [(7, .arr 165 y172 true o7)])
theorem L95_3.step (K k : Nat) (x0 : y115.T) (v4 : y2.T) (o7 : y75.T) : L95_3 K (k + 1) x0 v4 o7 = br (decide ((v4 : Int) < ((List.length x0 : Nat) : Int))) (br (decide (0 ≤ v4) && decide (v4 < (List.length x0 : Int))) ((g112 K (List.getD x0 (Int.toNat v4) y172.zero)).bind fun (y_1 : y172.T) => br (decide (0 ≤ v4) && decide (v4 < (List.length o7 : Int))) (L95_3 K k x0 (IntKind.wrap .i64 (v4 + 1)) (List.set o7 (Int.toNat v4) y_1)) (none)) (none)) (some o7) := by kernel_rfl
theorem L95_3.zero (K : Nat) (x0 : y115.T) (v4 : y2.T) (o7 : y75.T) : L95_3 K 0 x0 v4 o7 = none := by kernel_rfl
theorem g95.eq (K : Nat) (x0 : y115.T) : g95 K x0 = br (decide (0 ≤ ((List.length x0 : Nat) : Int)) && decide ((((List.length x0 : Nat) : Int) : Int) = ((List.length x0 : Nat) : Int)) && decide (Int.toNat ((List.length x0 : Nat) : Int) * 64 ≤ 281474976710656)) (L95_3 K K x0 0 (List.replicate (Int.toNat ((List.length x0 : Nat) : Int)) y172.zero)) (none) := by kernel_rfl
/-! ### laws.toHand -/
theorem fn96 : fnOk G 96 Try.f96 := ⟨Try.func96, by kernel_rfl⟩
noncomputable def e96 (K : Nat) : Ent G.P := mkEnt G 96 Try.f96 fn96 [y116] true y116 true [] K (fun _ => []) (fun _ => [])
noncomputable def g96 (K : Nat) (x0 : y116.T) : Option y116.T := (e96 K).g (x0, ())
theorem g96.eq (K : Nat) (x0 : y116.T) : g96 K x0 = some (x0.1, (x0.2.1, (x0.2.2.1, (x0.2.2.2.1, ())))) := by kernel_rfl
/-! ### laws.toHouse -/
theorem fn68 : fnOk G 68 Try.f68 := ⟨Try.func68, by kernel_rfl⟩
noncomputable def e68 (K : Nat) : Ent G.P := mkEnt G 68 Try.f68 fn68 [y118] true y79 true [e93 K, e94 K, e95 K, e96 K] K (fun _ => []) (fun _ => [])
noncomputable def g68 (K : Nat) (x0 : y118.T) : Option y79.T := (e68 K).g (x0, ())
theorem g68.eq (K : Nat) (x0 : y118.T) : g68 K x0 = (g93 K x0.2.2.2.1).bind fun (y_1 : y73.T) => (g94 K x0.2.2.2.2.2.1).bind fun (y_2 : y74.T) => (g95 K x0.2.2.2.2.2.2.1).bind fun (y_3 : y75.T) => (g96 K x0.2.2.2.2.2.2.2.2.1).bind fun (y_4 : y116.T) => some (x0.1, (x0.2.1, (x0.2.2.1, (y_1, (x0.2.2.2.2.1, (y_2, (y_3, (x0.2.2.2.2.2.2.2.1, (y_4, ()))))))))) := by kernel_rfl
/-! ### laws.toHouseS -/
theorem fn41 : fnOk G 41 Try.f41 := ⟨Try.func41, by kernel_rfl⟩
noncomputable def e41 (K : Nat) : Ent G.P := mkEnt G 41 Try.f41 fn41 [y34] true y44 true [e68 K] K (fun i => if i = 3 then [1, 2, 5, 6, 7, 8, 9, 10, 11, 12, 13, 14, 15, 16, 17, 18, 19, 20, 21, 22] else []) (fun i => if i = 3 then [2] else [])
noncomputable def g41 (K : Nat) (x0 : y34.T) : Option y44.T := (e41 K).g (x0, ())
noncomputable def L41_3 (K : Nat) (k : Nat) (x0 : y34.T) (v4 : y2.T) (o7 : y44.T) : Option y44.T := resume (envOf G [e68 K] K (fun i => if i = 3 then [1, 2, 5, 6, 7, 8, 9, 10, 11, 12, 13, 14, 15, 16, 17, 18, 19, 20, 21, 22] else []) (fun i => if i = 3 then [2] else [])) dokB true y44 true Try.f41 [1, 1, 0, 1, 0] k (mkSt 23 [(0, .d y34 false x0), (3, .own 7), (4, .d y2 true v4)] [(7, .arr 79 y79 true o7)])
theorem L41_3.step (K k : Nat) (x0 : y34.T) (v4 : y2.T) (o7 : y44.T) : L41_3 K (k + 1) x0 v4 o7 = br (decide ((v4 : Int) < ((List.length x0 : Nat) : Int))) (br (decide (0 ≤ v4) && decide (v4 < (List.length x0 : Int))) ((g68 K (List.getD x0 (Int.toNat v4) y118.zero)).bind fun (y_1 : y79.T) => br (decide (0 ≤ v4) && decide (v4 < (List.length o7 : Int))) (L41_3 K k x0 (IntKind.wrap .i64 (v4 + 1)) (List.set o7 (Int.toNat v4) y_1)) (none)) (none)) (some o7) := by kernel_rfl
theorem L41_3.zero (K : Nat) (x0 : y34.T) (v4 : y2.T) (o7 : y44.T) : L41_3 K 0 x0 v4 o7 = none := by kernel_rfl
theorem g41.eq (K : Nat) (x0 : y34.T) : g41 K x0 = br (decide (0 ≤ ((List.length x0 : Nat) : Int)) && decide ((((List.length x0 : Nat) : Int) : Int) = ((List.length x0 : Nat) : Int)) && decide (Int.toNat ((List.length x0 : Nat) : Int) * 144 ≤ 281474976710656)) (L41_3 K K x0 0 (List.replicate (Int.toNat ((List.length x0 : Nat) : Int)) y79.zero)) (none) := by kernel_rfl
/-! ### laws.toPack -/
theorem fn69 : fnOk G 69 Try.f69 := ⟨Try.func69, by kernel_rfl⟩
noncomputable def e69 (K : Nat) : Ent G.P := mkEnt G 69 Try.f69 fn69 [y145] true y145 true [e91 K] K (fun _ => []) (fun _ => [])
noncomputable def g69 (K : Nat) (x0 : y145.T) : Option y145.T := (e69 K).g (x0, ())
theorem g69.eq (K : Nat) (x0 : y145.T) : g69 K x0 = (g91 K x0.2.1).bind fun (y_1 : y99.T) => some (x0.1, (y_1, ())) := by kernel_rfl
/-! ### laws.toPackS -/
theorem fn42 : fnOk G 42 Try.f42 := ⟨Try.func42, by kernel_rfl⟩
noncomputable def e42 (K : Nat) : Ent G.P := mkEnt G 42 Try.f42 fn42 [y35] true y45 true [e69 K] K (fun i => if i = 3 then [1, 2, 5, 6, 7, 8, 9, 10, 11, 12, 13, 14, 15, 16, 17, 18, 19, 20, 21, 22] else []) (fun i => if i = 3 then [2] else [])
noncomputable def g42 (K : Nat) (x0 : y35.T) : Option y45.T := (e42 K).g (x0, ())
noncomputable def L42_3 (K : Nat) (k : Nat) (x0 : y35.T) (v4 : y2.T) (o7 : y45.T) : Option y45.T := resume (envOf G [e69 K] K (fun i => if i = 3 then [1, 2, 5, 6, 7, 8, 9, 10, 11, 12, 13, 14, 15, 16, 17, 18, 19, 20, 21, 22] else []) (fun i => if i = 3 then [2] else [])) dokB true y45 true Try.f42 [1, 1, 0, 1, 0] k (mkSt 23 [(0, .d y35 false x0), (3, .own 7), (4, .d y2 true v4)] [(7, .arr 126 y145 true o7)])
theorem L42_3.step (K k : Nat) (x0 : y35.T) (v4 : y2.T) (o7 : y45.T) : L42_3 K (k + 1) x0 v4 o7 = br (decide ((v4 : Int) < ((List.length x0 : Nat) : Int))) (br (decide (0 ≤ v4) && decide (v4 < (List.length x0 : Int))) ((g69 K (List.getD x0 (Int.toNat v4) y145.zero)).bind fun (y_1 : y145.T) => br (decide (0 ≤ v4) && decide (v4 < (List.length o7 : Int))) (L42_3 K k x0 (IntKind.wrap .i64 (v4 + 1)) (List.set o7 (Int.toNat v4) y_1)) (none)) (none)) (some o7) := by kernel_rfl
theorem L42_3.zero (K : Nat) (x0 : y35.T) (v4 : y2.T) (o7 : y45.T) : L42_3 K 0 x0 v4 o7 = none := by kernel_rfl
theorem g42.eq (K : Nat) (x0 : y35.T) : g42 K x0 = br (decide (0 ≤ ((List.length x0 : Nat) : Int)) && decide ((((List.length x0 : Nat) : Int) : Int) = ((List.length x0 : Nat) : Int)) && decide (Int.toNat ((List.length x0 : Nat) : Int) * 32 ≤ 281474976710656)) (L42_3 K K x0 0 (List.replicate (Int.toNat ((List.length x0 : Nat) : Int)) y145.zero)) (none) := by kernel_rfl
/-! ### laws.toNote -/
theorem fn31 : fnOk G 31 Try.f31 := ⟨Try.func31, by kernel_rfl⟩
noncomputable def e31 (K : Nat) : Ent G.P := mkEnt G 31 Try.f31 fn31 [y65] true y65 true [] K (fun _ => []) (fun _ => [])
noncomputable def g31 (K : Nat) (x0 : y65.T) : Option y65.T := (e31 K).g (x0, ())
theorem g31.eq (K : Nat) (x0 : y65.T) : g31 K x0 = some (x0.1, (x0.2.1, (x0.2.2.1, (x0.2.2.2.1, (x0.2.2.2.2.1, (x0.2.2.2.2.2.1, (x0.2.2.2.2.2.2.1, (x0.2.2.2.2.2.2.2.1, (x0.2.2.2.2.2.2.2.2.1, ()))))))))) := by kernel_rfl
/-! ### laws.toNoteS -/
theorem fn10 : fnOk G 10 Try.f10 := ⟨Try.func10, by kernel_rfl⟩
noncomputable def e10 (K : Nat) : Ent G.P := mkEnt G 10 Try.f10 fn10 [y22] true y25 true [e31 K] K (fun i => if i = 3 then [1, 2, 5, 6, 7, 8, 9, 10, 11, 12, 13, 14, 15, 16, 17, 18, 19, 20, 21, 22] else []) (fun i => if i = 3 then [2] else [])
noncomputable def g10 (K : Nat) (x0 : y22.T) : Option y25.T := (e10 K).g (x0, ())
noncomputable def L10_3 (K : Nat) (k : Nat) (x0 : y22.T) (v4 : y2.T) (o7 : y25.T) : Option y25.T := resume (envOf G [e31 K] K (fun i => if i = 3 then [1, 2, 5, 6, 7, 8, 9, 10, 11, 12, 13, 14, 15, 16, 17, 18, 19, 20, 21, 22] else []) (fun i => if i = 3 then [2] else [])) dokB true y25 true Try.f10 [1, 1, 0, 1, 0] k (mkSt 23 [(0, .d y22 false x0), (3, .own 7), (4, .d y2 true v4)] [(7, .arr 63 y65 true o7)])
theorem L10_3.step (K k : Nat) (x0 : y22.T) (v4 : y2.T) (o7 : y25.T) : L10_3 K (k + 1) x0 v4 o7 = br (decide ((v4 : Int) < ((List.length x0 : Nat) : Int))) (br (decide (0 ≤ v4) && decide (v4 < (List.length x0 : Int))) ((g31 K (List.getD x0 (Int.toNat v4) y65.zero)).bind fun (y_1 : y65.T) => br (decide (0 ≤ v4) && decide (v4 < (List.length o7 : Int))) (L10_3 K k x0 (IntKind.wrap .i64 (v4 + 1)) (List.set o7 (Int.toNat v4) y_1)) (none)) (none)) (some o7) := by kernel_rfl
theorem L10_3.zero (K : Nat) (x0 : y22.T) (v4 : y2.T) (o7 : y25.T) : L10_3 K 0 x0 v4 o7 = none := by kernel_rfl
theorem g10.eq (K : Nat) (x0 : y22.T) : g10 K x0 = br (decide (0 ≤ ((List.length x0 : Nat) : Int)) && decide ((((List.length x0 : Nat) : Int) : Int) = ((List.length x0 : Nat) : Int)) && decide (Int.toNat ((List.length x0 : Nat) : Int) * 72 ≤ 281474976710656)) (L10_3 K K x0 0 (List.replicate (Int.toNat ((List.length x0 : Nat) : Int)) y65.zero)) (none) := by kernel_rfl
/-! ### laws.toWorld -/
theorem fn15 : fnOk G 15 Try.f15 := ⟨Try.func15, by kernel_rfl⟩
noncomputable def e15 (K : Nat) : Ent G.P := mkEnt G 15 Try.f15 fn15 [y36] true y46 true [e39 K, e40 K, e41 K, e42 K, e10 K] K (fun _ => []) (fun _ => [])
noncomputable def g15 (K : Nat) (x0 : y36.T) : Option y46.T := (e15 K).g (x0, ())
theorem g15.eq (K : Nat) (x0 : y36.T) : g15 K x0 = (g39 K x0.2.1).bind fun (y_1 : y41.T) => (g40 K x0.2.2.1).bind fun (y_2 : y43.T) => (g41 K x0.2.2.2.1).bind fun (y_3 : y44.T) => (g42 K x0.2.2.2.2.1).bind fun (y_4 : y45.T) => (g10 K x0.2.2.2.2.2.1).bind fun (y_5 : y25.T) => some (x0.1, (y_1, (y_2, (y_3, (y_4, (y_5, (x0.2.2.2.2.2.2.1, (x0.2.2.2.2.2.2.2.1, ())))))))) := by kernel_rfl
/-! ### laws.eqByteS -/
theorem fn99 : fnOk G 99 Try.f99 := ⟨Try.func99, by kernel_rfl⟩
noncomputable def e99 (K : Nat) : Ent G.P := mkEnt G 99 Try.f99 fn99 [y99, y99] true y4 true [] K (fun i => if i = 4 then [2, 3, 4, 6, 7, 8, 9, 10, 11, 12, 13, 14, 15, 16, 17, 18, 19, 20, 21, 22, 23, 24, 25] else []) (fun i => if i = 4 then [] else [])
noncomputable def g99 (K : Nat) (x0 : y99.T) (x1 : y99.T) : Option y4.T := (e99 K).g (x0, x1, ())
noncomputable def L99_4 (K : Nat) (k : Nat) (x0 : y99.T) (x1 : y99.T) (v5 : y2.T) : Option y4.T := resume (envOf G [] K (fun i => if i = 4 then [2, 3, 4, 6, 7, 8, 9, 10, 11, 12, 13, 14, 15, 16, 17, 18, 19, 20, 21, 22, 23, 24, 25] else []) (fun i => if i = 4 then [] else [])) dokB true y4 true Try.f99 [1, 1, 0, 1, 0] k (mkSt 26 [(0, .d y99 false x0), (1, .d y99 false x1), (5, .d y2 true v5)] [])
theorem L99_4.step (K k : Nat) (x0 : y99.T) (x1 : y99.T) (v5 : y2.T) : L99_4 K (k + 1) x0 x1 v5 = br (decide ((v5 : Int) < ((List.length x0 : Nat) : Int))) (br (decide (0 ≤ v5) && decide (v5 < (List.length x0 : Int))) (br (decide (0 ≤ v5) && decide (v5 < (List.length x1 : Int))) (br (((List.getD x0 (Int.toNat v5) 0) : Int) != (List.getD x1 (Int.toNat v5) 0)) (some false) (L99_4 K k x0 x1 (IntKind.wrap .i64 (v5 + 1)))) (none)) (none)) (some true) := by kernel_rfl
theorem L99_4.zero (K : Nat) (x0 : y99.T) (x1 : y99.T) (v5 : y2.T) : L99_4 K 0 x0 x1 v5 = none := by kernel_rfl
theorem g99.eq (K : Nat) (x0 : y99.T) (x1 : y99.T) : g99 K x0 x1 = br ((((List.length x0 : Nat) : Int) : Int) != ((List.length x1 : Nat) : Int)) (some false) (L99_4 K K x0 x1 0) := by kernel_rfl
/-! ### laws.eqByteSS -/
theorem fn71 : fnOk G 71 Try.f71 := ⟨Try.func71, by kernel_rfl⟩
noncomputable def e71 (K : Nat) : Ent G.P := mkEnt G 71 Try.f71 fn71 [y29, y29] true y4 true [e99 K] K (fun i => if i = 4 then [2, 3, 4, 6, 7, 8, 9, 10, 11, 12, 13, 14, 15, 16, 17, 18, 19, 20, 21, 22, 23, 24, 25, 26] else []) (fun i => if i = 4 then [] else [])
noncomputable def g71 (K : Nat) (x0 : y29.T) (x1 : y29.T) : Option y4.T := (e71 K).g (x0, x1, ())
noncomputable def L71_4 (K : Nat) (k : Nat) (x0 : y29.T) (x1 : y29.T) (v5 : y2.T) : Option y4.T := resume (envOf G [e99 K] K (fun i => if i = 4 then [2, 3, 4, 6, 7, 8, 9, 10, 11, 12, 13, 14, 15, 16, 17, 18, 19, 20, 21, 22, 23, 24, 25, 26] else []) (fun i => if i = 4 then [] else [])) dokB true y4 true Try.f71 [1, 1, 0, 1, 0] k (mkSt 27 [(0, .d y29 false x0), (1, .d y29 false x1), (5, .d y2 true v5)] [])
theorem L71_4.step (K k : Nat) (x0 : y29.T) (x1 : y29.T) (v5 : y2.T) : L71_4 K (k + 1) x0 x1 v5 = br (decide ((v5 : Int) < ((List.length x0 : Nat) : Int))) (br (decide (0 ≤ v5) && decide (v5 < (List.length x0 : Int))) (br (decide (0 ≤ v5) && decide (v5 < (List.length x1 : Int))) ((g99 K (List.getD x0 (Int.toNat v5) ([])) (List.getD x1 (Int.toNat v5) ([]))).bind fun (y_1 : y4.T) => br (!y_1) (some false) (L71_4 K k x0 x1 (IntKind.wrap .i64 (v5 + 1)))) (none)) (none)) (some true) := by kernel_rfl
theorem L71_4.zero (K : Nat) (x0 : y29.T) (x1 : y29.T) (v5 : y2.T) : L71_4 K 0 x0 x1 v5 = none := by kernel_rfl
theorem g71.eq (K : Nat) (x0 : y29.T) (x1 : y29.T) : g71 K x0 x1 = br ((((List.length x0 : Nat) : Int) : Int) != ((List.length x1 : Nat) : Int)) (some false) (L71_4 K K x0 x1 0) := by kernel_rfl
/-! ### laws.eqWr -/
theorem fn100 : fnOk G 100 Try.f100 := ⟨Try.func100, by kernel_rfl⟩
noncomputable def e100 (K : Nat) : Ent G.P := mkEnt G 100 Try.f100 fn100 [y145, y145] true y4 true [e99 K] K (fun _ => []) (fun _ => [])
noncomputable def g100 (K : Nat) (x0 : y145.T) (x1 : y145.T) : Option y4.T := (e100 K).g (x0, x1, ())
theorem g100.eq (K : Nat) (x0 : y145.T) (x1 : y145.T) : g100 K x0 x1 = br ((x0.1 : Int) != x1.1) (some false) ((g99 K x0.2.1 x1.2.1).bind fun (y_1 : y4.T) => br (!y_1) (some false) (some true)) := by kernel_rfl
/-! ### laws.eqWrS -/
theorem fn72 : fnOk G 72 Try.f72 := ⟨Try.func72, by kernel_rfl⟩
noncomputable def e72 (K : Nat) : Ent G.P := mkEnt G 72 Try.f72 fn72 [y40, y40] true y4 true [e100 K] K (fun i => if i = 4 then [2, 3, 4, 6, 7, 8, 9, 10, 11, 12, 13, 14, 15, 16, 17, 18, 19, 20, 21, 22, 23, 24, 25, 26] else []) (fun i => if i = 4 then [] else [])
noncomputable def g72 (K : Nat) (x0 : y40.T) (x1 : y40.T) : Option y4.T := (e72 K).g (x0, x1, ())
noncomputable def L72_4 (K : Nat) (k : Nat) (x0 : y40.T) (x1 : y40.T) (v5 : y2.T) : Option y4.T := resume (envOf G [e100 K] K (fun i => if i = 4 then [2, 3, 4, 6, 7, 8, 9, 10, 11, 12, 13, 14, 15, 16, 17, 18, 19, 20, 21, 22, 23, 24, 25, 26] else []) (fun i => if i = 4 then [] else [])) dokB true y4 true Try.f72 [1, 1, 0, 1, 0] k (mkSt 27 [(0, .d y40 false x0), (1, .d y40 false x1), (5, .d y2 true v5)] [])
theorem L72_4.step (K k : Nat) (x0 : y40.T) (x1 : y40.T) (v5 : y2.T) : L72_4 K (k + 1) x0 x1 v5 = br (decide ((v5 : Int) < ((List.length x0 : Nat) : Int))) (br (decide (0 ≤ v5) && decide (v5 < (List.length x0 : Int))) (br (decide (0 ≤ v5) && decide (v5 < (List.length x1 : Int))) ((g100 K (List.getD x0 (Int.toNat v5) y145.zero) (List.getD x1 (Int.toNat v5) y145.zero)).bind fun (y_1 : y4.T) => br (!y_1) (some false) (L72_4 K k x0 x1 (IntKind.wrap .i64 (v5 + 1)))) (none)) (none)) (some true) := by kernel_rfl
theorem L72_4.zero (K : Nat) (x0 : y40.T) (x1 : y40.T) (v5 : y2.T) : L72_4 K 0 x0 x1 v5 = none := by kernel_rfl
theorem g72.eq (K : Nat) (x0 : y40.T) (x1 : y40.T) : g72 K x0 x1 = br ((((List.length x0 : Nat) : Int) : Int) != ((List.length x1 : Nat) : Int)) (some false) (L72_4 K K x0 x1 0) := by kernel_rfl
/-! ### laws.eqDisk -/
theorem fn45 : fnOk G 45 Try.f45 := ⟨Try.func45, by kernel_rfl⟩
noncomputable def e45 (K : Nat) : Ent G.P := mkEnt G 45 Try.f45 fn45 [y41, y41] true y4 true [e71 K, e72 K] K (fun _ => []) (fun _ => [])
noncomputable def g45 (K : Nat) (x0 : y41.T) (x1 : y41.T) : Option y4.T := (e45 K).g (x0, x1, ())
theorem g45.eq (K : Nat) (x0 : y41.T) (x1 : y41.T) : g45 K x0 x1 = (g71 K x0.1 x1.1).bind fun (y_1 : y4.T) => br (!y_1) (some false) ((g72 K x0.2.1 x1.2.1).bind fun (y_2 : y4.T) => br (!y_2) (some false) (br ((x0.2.2.1 : Int) != x1.2.2.1) (some false) (br (!(x0.2.2.2.1 == x1.2.2.2.1)) (some false) (some true)))) := by kernel_rfl
/-! ### laws.eqSock -/
theorem fn73 : fnOk G 73 Try.f73 := ⟨Try.func73, by kernel_rfl⟩
noncomputable def e73 (K : Nat) : Ent G.P := mkEnt G 73 Try.f73 fn73 [y111, y111] true y4 true [e99 K] K (fun _ => []) (fun _ => [])
noncomputable def g73 (K : Nat) (x0 : y111.T) (x1 : y111.T) : Option y4.T := (e73 K).g (x0, x1, ())
theorem g73.eq (K : Nat) (x0 : y111.T) (x1 : y111.T) : g73 K x0 x1 = br ((x0.1 : Int) != x1.1) (some false) (br ((x0.2.1 : Int) != x1.2.1) (some false) (br ((x0.2.2.1 : Int) != x1.2.2.1) (some false) (br (!(x0.2.2.2.1 == x1.2.2.2.1)) (some false) ((g99 K x0.2.2.2.2.1 x1.2.2.2.2.1).bind fun (y_1 : y4.T) => br (!y_1) (some false) ((g99 K x0.2.2.2.2.2.1 x1.2.2.2.2.2.1).bind fun (y_2 : y4.T) => br (!y_2) (some false) (br ((x0.2.2.2.2.2.2.1 : Int) != x1.2.2.2.2.2.2.1) (some false) (br ((x0.2.2.2.2.2.2.2.1 : Int) != x1.2.2.2.2.2.2.2.1) (some false) (some true)))))))) := by kernel_rfl
/-! ### laws.eqSockS -/
theorem fn46 : fnOk G 46 Try.f46 := ⟨Try.func46, by kernel_rfl⟩
noncomputable def e46 (K : Nat) : Ent G.P := mkEnt G 46 Try.f46 fn46 [y43, y43] true y4 true [e73 K] K (fun i => if i = 4 then [2, 3, 4, 6, 7, 8, 9, 10, 11, 12, 13, 14, 15, 16, 17, 18, 19, 20, 21, 22, 23, 24, 25, 26] else []) (fun i => if i = 4 then [] else [])
noncomputable def g46 (K : Nat) (x0 : y43.T) (x1 : y43.T) : Option y4.T := (e46 K).g (x0, x1, ())
noncomputable def L46_4 (K : Nat) (k : Nat) (x0 : y43.T) (x1 : y43.T) (v5 : y2.T) : Option y4.T := resume (envOf G [e73 K] K (fun i => if i = 4 then [2, 3, 4, 6, 7, 8, 9, 10, 11, 12, 13, 14, 15, 16, 17, 18, 19, 20, 21, 22, 23, 24, 25, 26] else []) (fun i => if i = 4 then [] else [])) dokB true y4 true Try.f46 [1, 1, 0, 1, 0] k (mkSt 27 [(0, .d y43 false x0), (1, .d y43 false x1), (5, .d y2 true v5)] [])
theorem L46_4.step (K k : Nat) (x0 : y43.T) (x1 : y43.T) (v5 : y2.T) : L46_4 K (k + 1) x0 x1 v5 = br (decide ((v5 : Int) < ((List.length x0 : Nat) : Int))) (br (decide (0 ≤ v5) && decide (v5 < (List.length x0 : Int))) (br (decide (0 ≤ v5) && decide (v5 < (List.length x1 : Int))) ((g73 K (List.getD x0 (Int.toNat v5) y111.zero) (List.getD x1 (Int.toNat v5) y111.zero)).bind fun (y_1 : y4.T) => br (!y_1) (some false) (L46_4 K k x0 x1 (IntKind.wrap .i64 (v5 + 1)))) (none)) (none)) (some true) := by kernel_rfl
theorem L46_4.zero (K : Nat) (x0 : y43.T) (x1 : y43.T) (v5 : y2.T) : L46_4 K 0 x0 x1 v5 = none := by kernel_rfl
theorem g46.eq (K : Nat) (x0 : y43.T) (x1 : y43.T) : g46 K x0 x1 = br ((((List.length x0 : Nat) : Int) : Int) != ((List.length x1 : Nat) : Int)) (some false) (L46_4 K K x0 x1 0) := by kernel_rfl
/-! ### laws.eqDb -/
theorem fn113 : fnOk G 113 Try.f113 := ⟨Try.func113, by kernel_rfl⟩
noncomputable def e113 (K : Nat) : Ent G.P := mkEnt G 113 Try.f113 fn113 [y168, y168] true y4 true [] K (fun _ => []) (fun _ => [])
noncomputable def g113 (K : Nat) (x0 : y168.T) (x1 : y168.T) : Option y4.T := (e113 K).g (x0, x1, ())
theorem g113.eq (K : Nat) (x0 : y168.T) (x1 : y168.T) : g113 K x0 x1 = br (!strEq x0.1 x1.1) (some false) (br ((x0.2.1 : Int) != x1.2.1) (some false) (br ((x0.2.2.1 : Int) != x1.2.2.1) (some false) (br ((x0.2.2.2.1 : Int) != x1.2.2.2.1) (some false) (br ((x0.2.2.2.2.1 : Int) != x1.2.2.2.2.1) (some false) (some true))))) := by kernel_rfl
/-! ### laws.eqDbS -/
theorem fn101 : fnOk G 101 Try.f101 := ⟨Try.func101, by kernel_rfl⟩
noncomputable def e101 (K : Nat) : Ent G.P := mkEnt G 101 Try.f101 fn101 [y73, y73] true y4 true [e113 K] K (fun i => if i = 4 then [2, 3, 4, 6, 7, 8, 9, 10, 11, 12, 13, 14, 15, 16, 17, 18, 19, 20, 21, 22, 23, 24, 25, 26] else []) (fun i => if i = 4 then [] else [])
noncomputable def g101 (K : Nat) (x0 : y73.T) (x1 : y73.T) : Option y4.T := (e101 K).g (x0, x1, ())
noncomputable def L101_4 (K : Nat) (k : Nat) (x0 : y73.T) (x1 : y73.T) (v5 : y2.T) : Option y4.T := resume (envOf G [e113 K] K (fun i => if i = 4 then [2, 3, 4, 6, 7, 8, 9, 10, 11, 12, 13, 14, 15, 16, 17, 18, 19, 20, 21, 22, 23, 24, 25, 26] else []) (fun i => if i = 4 then [] else [])) dokB true y4 true Try.f101 [1, 1, 0, 1, 0] k (mkSt 27 [(0, .d y73 false x0), (1, .d y73 false x1), (5, .d y2 true v5)] [])
theorem L101_4.step (K k : Nat) (x0 : y73.T) (x1 : y73.T) (v5 : y2.T) : L101_4 K (k + 1) x0 x1 v5 = br (decide ((v5 : Int) < ((List.length x0 : Nat) : Int))) (br (decide (0 ≤ v5) && decide (v5 < (List.length x0 : Int))) (br (decide (0 ≤ v5) && decide (v5 < (List.length x1 : Int))) ((g113 K (List.getD x0 (Int.toNat v5) y168.zero) (List.getD x1 (Int.toNat v5) y168.zero)).bind fun (y_1 : y4.T) => br (!y_1) (some false) (L101_4 K k x0 x1 (IntKind.wrap .i64 (v5 + 1)))) (none)) (none)) (some true) := by kernel_rfl
theorem L101_4.zero (K : Nat) (x0 : y73.T) (x1 : y73.T) (v5 : y2.T) : L101_4 K 0 x0 x1 v5 = none := by kernel_rfl
theorem g101.eq (K : Nat) (x0 : y73.T) (x1 : y73.T) : g101 K x0 x1 = br ((((List.length x0 : Nat) : Int) : Int) != ((List.length x1 : Nat) : Int)) (some false) (L101_4 K K x0 x1 0) := by kernel_rfl
/-! ### laws.eqAsker -/
theorem fn114 : fnOk G 114 Try.f114 := ⟨Try.func114, by kernel_rfl⟩
noncomputable def e114 (K : Nat) : Ent G.P := mkEnt G 114 Try.f114 fn114 [y170, y170] true y4 true [] K (fun _ => []) (fun _ => [])
noncomputable def g114 (K : Nat) (x0 : y170.T) (x1 : y170.T) : Option y4.T := (e114 K).g (x0, x1, ())
theorem g114.eq (K : Nat) (x0 : y170.T) (x1 : y170.T) : g114 K x0 x1 = br ((x0.1 : Int) != x1.1) (some false) (br (!strEq x0.2.1 x1.2.1) (some false) (br ((x0.2.2.1 : Int) != x1.2.2.1) (some false) (br ((x0.2.2.2.1 : Int) != x1.2.2.2.1) (some false) (br ((x0.2.2.2.2.1 : Int) != x1.2.2.2.2.1) (some false) (br (!strEq x0.2.2.2.2.2.1 x1.2.2.2.2.2.1) (some false) (br ((x0.2.2.2.2.2.2.1 : Int) != x1.2.2.2.2.2.2.1) (some false) (br ((x0.2.2.2.2.2.2.2.1 : Int) != x1.2.2.2.2.2.2.2.1) (some false) (some true)))))))) := by kernel_rfl
/-! ### laws.eqAskerS -/
theorem fn102 : fnOk G 102 Try.f102 := ⟨Try.func102, by kernel_rfl⟩
noncomputable def e102 (K : Nat) : Ent G.P := mkEnt G 102 Try.f102 fn102 [y74, y74] true y4 true [e114 K] K (fun i => if i = 4 then [2, 3, 4, 6, 7, 8, 9, 10, 11, 12, 13, 14, 15, 16, 17, 18, 19, 20, 21, 22, 23, 24, 25, 26] else []) (fun i => if i = 4 then [] else [])
noncomputable def g102 (K : Nat) (x0 : y74.T) (x1 : y74.T) : Option y4.T := (e102 K).g (x0, x1, ())
noncomputable def L102_4 (K : Nat) (k : Nat) (x0 : y74.T) (x1 : y74.T) (v5 : y2.T) : Option y4.T := resume (envOf G [e114 K] K (fun i => if i = 4 then [2, 3, 4, 6, 7, 8, 9, 10, 11, 12, 13, 14, 15, 16, 17, 18, 19, 20, 21, 22, 23, 24, 25, 26] else []) (fun i => if i = 4 then [] else [])) dokB true y4 true Try.f102 [1, 1, 0, 1, 0] k (mkSt 27 [(0, .d y74 false x0), (1, .d y74 false x1), (5, .d y2 true v5)] [])
theorem L102_4.step (K k : Nat) (x0 : y74.T) (x1 : y74.T) (v5 : y2.T) : L102_4 K (k + 1) x0 x1 v5 = br (decide ((v5 : Int) < ((List.length x0 : Nat) : Int))) (br (decide (0 ≤ v5) && decide (v5 < (List.length x0 : Int))) (br (decide (0 ≤ v5) && decide (v5 < (List.length x1 : Int))) ((g114 K (List.getD x0 (Int.toNat v5) y170.zero) (List.getD x1 (Int.toNat v5) y170.zero)).bind fun (y_1 : y4.T) => br (!y_1) (some false) (L102_4 K k x0 x1 (IntKind.wrap .i64 (v5 + 1)))) (none)) (none)) (some true) := by kernel_rfl
theorem L102_4.zero (K : Nat) (x0 : y74.T) (x1 : y74.T) (v5 : y2.T) : L102_4 K 0 x0 x1 v5 = none := by kernel_rfl
theorem g102.eq (K : Nat) (x0 : y74.T) (x1 : y74.T) : g102 K x0 x1 = br ((((List.length x0 : Nat) : Int) : Int) != ((List.length x1 : Nat) : Int)) (some false) (L102_4 K K x0 x1 0) := by kernel_rfl
/-! ### laws.eqLine -/
theorem fn115 : fnOk G 115 Try.f115 := ⟨Try.func115, by kernel_rfl⟩
noncomputable def e115 (K : Nat) : Ent G.P := mkEnt G 115 Try.f115 fn115 [y172, y172] true y4 true [] K (fun _ => []) (fun _ => [])
noncomputable def g115 (K : Nat) (x0 : y172.T) (x1 : y172.T) : Option y4.T := (e115 K).g (x0, x1, ())
theorem g115.eq (K : Nat) (x0 : y172.T) (x1 : y172.T) : g115 K x0 x1 = br ((x0.1 : Int) != x1.1) (some false) (br (!strEq x0.2.1 x1.2.1) (some false) (br ((x0.2.2.1 : Int) != x1.2.2.1) (some false) (br ((x0.2.2.2.1 : Int) != x1.2.2.2.1) (some false) (br ((x0.2.2.2.2.1 : Int) != x1.2.2.2.2.1) (some false) (br ((x0.2.2.2.2.2.1 : Int) != x1.2.2.2.2.2.1) (some false) (br ((x0.2.2.2.2.2.2.1 : Int) != x1.2.2.2.2.2.2.1) (some false) (some true))))))) := by kernel_rfl
/-! ### laws.eqLineS -/
theorem fn103 : fnOk G 103 Try.f103 := ⟨Try.func103, by kernel_rfl⟩
noncomputable def e103 (K : Nat) : Ent G.P := mkEnt G 103 Try.f103 fn103 [y75, y75] true y4 true [e115 K] K (fun i => if i = 4 then [2, 3, 4, 6, 7, 8, 9, 10, 11, 12, 13, 14, 15, 16, 17, 18, 19, 20, 21, 22, 23, 24, 25, 26] else []) (fun i => if i = 4 then [] else [])
noncomputable def g103 (K : Nat) (x0 : y75.T) (x1 : y75.T) : Option y4.T := (e103 K).g (x0, x1, ())
noncomputable def L103_4 (K : Nat) (k : Nat) (x0 : y75.T) (x1 : y75.T) (v5 : y2.T) : Option y4.T := resume (envOf G [e115 K] K (fun i => if i = 4 then [2, 3, 4, 6, 7, 8, 9, 10, 11, 12, 13, 14, 15, 16, 17, 18, 19, 20, 21, 22, 23, 24, 25, 26] else []) (fun i => if i = 4 then [] else [])) dokB true y4 true Try.f103 [1, 1, 0, 1, 0] k (mkSt 27 [(0, .d y75 false x0), (1, .d y75 false x1), (5, .d y2 true v5)] [])
theorem L103_4.step (K k : Nat) (x0 : y75.T) (x1 : y75.T) (v5 : y2.T) : L103_4 K (k + 1) x0 x1 v5 = br (decide ((v5 : Int) < ((List.length x0 : Nat) : Int))) (br (decide (0 ≤ v5) && decide (v5 < (List.length x0 : Int))) (br (decide (0 ≤ v5) && decide (v5 < (List.length x1 : Int))) ((g115 K (List.getD x0 (Int.toNat v5) y172.zero) (List.getD x1 (Int.toNat v5) y172.zero)).bind fun (y_1 : y4.T) => br (!y_1) (some false) (L103_4 K k x0 x1 (IntKind.wrap .i64 (v5 + 1)))) (none)) (none)) (some true) := by kernel_rfl
theorem L103_4.zero (K : Nat) (x0 : y75.T) (x1 : y75.T) (v5 : y2.T) : L103_4 K 0 x0 x1 v5 = none := by kernel_rfl
theorem g103.eq (K : Nat) (x0 : y75.T) (x1 : y75.T) : g103 K x0 x1 = br ((((List.length x0 : Nat) : Int) : Int) != ((List.length x1 : Nat) : Int)) (some false) (L103_4 K K x0 x1 0) := by kernel_rfl
/-! ### laws.eqHand -/
theorem fn104 : fnOk G 104 Try.f104 := ⟨Try.func104, by kernel_rfl⟩
noncomputable def e104 (K : Nat) : Ent G.P := mkEnt G 104 Try.f104 fn104 [y116, y116] true y4 true [] K (fun _ => []) (fun _ => [])
noncomputable def g104 (K : Nat) (x0 : y116.T) (x1 : y116.T) : Option y4.T := (e104 K).g (x0, x1, ())
theorem g104.eq (K : Nat) (x0 : y116.T) (x1 : y116.T) : g104 K x0 x1 = br ((x0.1 : Int) != x1.1) (some false) (br ((x0.2.1 : Int) != x1.2.1) (some false) (br ((x0.2.2.1 : Int) != x1.2.2.1) (some false) (br ((x0.2.2.2.1 : Int) != x1.2.2.2.1) (some false) (some true)))) := by kernel_rfl
/-! ### laws.eqHouse -/
theorem fn74 : fnOk G 74 Try.f74 := ⟨Try.func74, by kernel_rfl⟩
noncomputable def e74 (K : Nat) : Ent G.P := mkEnt G 74 Try.f74 fn74 [y79, y79] true y4 true [e101 K, e102 K, e103 K, e104 K] K (fun _ => []) (fun _ => [])
noncomputable def g74 (K : Nat) (x0 : y79.T) (x1 : y79.T) : Option y4.T := (e74 K).g (x0, x1, ())
theorem g74.eq (K : Nat) (x0 : y79.T) (x1 : y79.T) : g74 K x0 x1 = br ((x0.1 : Int) != x1.1) (some false) (br ((x0.2.1 : Int) != x1.2.1) (some false) (br ((x0.2.2.1 : Int) != x1.2.2.1) (some false) ((g101 K x0.2.2.2.1 x1.2.2.2.1).bind fun (y_1 : y4.T) => br (!y_1) (some false) (br (!(x0.2.2.2.2.1 == x1.2.2.2.2.1)) (some false) ((g102 K x0.2.2.2.2.2.1 x1.2.2.2.2.2.1).bind fun (y_2 : y4.T) => br (!y_2) (some false) ((g103 K x0.2.2.2.2.2.2.1 x1.2.2.2.2.2.2.1).bind fun (y_3 : y4.T) => br (!y_3) (some false) (br ((x0.2.2.2.2.2.2.2.1 : Int) != x1.2.2.2.2.2.2.2.1) (some false) ((g104 K x0.2.2.2.2.2.2.2.2.1 x1.2.2.2.2.2.2.2.2.1).bind fun (y_4 : y4.T) => br (!y_4) (some false) (some true))))))))) := by kernel_rfl
/-! ### laws.eqHouseS -/
theorem fn47 : fnOk G 47 Try.f47 := ⟨Try.func47, by kernel_rfl⟩
noncomputable def e47 (K : Nat) : Ent G.P := mkEnt G 47 Try.f47 fn47 [y44, y44] true y4 true [e74 K] K (fun i => if i = 4 then [2, 3, 4, 6, 7, 8, 9, 10, 11, 12, 13, 14, 15, 16, 17, 18, 19, 20, 21, 22, 23, 24, 25, 26] else []) (fun i => if i = 4 then [] else [])
noncomputable def g47 (K : Nat) (x0 : y44.T) (x1 : y44.T) : Option y4.T := (e47 K).g (x0, x1, ())
noncomputable def L47_4 (K : Nat) (k : Nat) (x0 : y44.T) (x1 : y44.T) (v5 : y2.T) : Option y4.T := resume (envOf G [e74 K] K (fun i => if i = 4 then [2, 3, 4, 6, 7, 8, 9, 10, 11, 12, 13, 14, 15, 16, 17, 18, 19, 20, 21, 22, 23, 24, 25, 26] else []) (fun i => if i = 4 then [] else [])) dokB true y4 true Try.f47 [1, 1, 0, 1, 0] k (mkSt 27 [(0, .d y44 false x0), (1, .d y44 false x1), (5, .d y2 true v5)] [])
theorem L47_4.step (K k : Nat) (x0 : y44.T) (x1 : y44.T) (v5 : y2.T) : L47_4 K (k + 1) x0 x1 v5 = br (decide ((v5 : Int) < ((List.length x0 : Nat) : Int))) (br (decide (0 ≤ v5) && decide (v5 < (List.length x0 : Int))) (br (decide (0 ≤ v5) && decide (v5 < (List.length x1 : Int))) ((g74 K (List.getD x0 (Int.toNat v5) y79.zero) (List.getD x1 (Int.toNat v5) y79.zero)).bind fun (y_1 : y4.T) => br (!y_1) (some false) (L47_4 K k x0 x1 (IntKind.wrap .i64 (v5 + 1)))) (none)) (none)) (some true) := by kernel_rfl
theorem L47_4.zero (K : Nat) (x0 : y44.T) (x1 : y44.T) (v5 : y2.T) : L47_4 K 0 x0 x1 v5 = none := by kernel_rfl
theorem g47.eq (K : Nat) (x0 : y44.T) (x1 : y44.T) : g47 K x0 x1 = br ((((List.length x0 : Nat) : Int) : Int) != ((List.length x1 : Nat) : Int)) (some false) (L47_4 K K x0 x1 0) := by kernel_rfl
/-! ### laws.eqPack -/
theorem fn75 : fnOk G 75 Try.f75 := ⟨Try.func75, by kernel_rfl⟩
noncomputable def e75 (K : Nat) : Ent G.P := mkEnt G 75 Try.f75 fn75 [y145, y145] true y4 true [e99 K] K (fun _ => []) (fun _ => [])
noncomputable def g75 (K : Nat) (x0 : y145.T) (x1 : y145.T) : Option y4.T := (e75 K).g (x0, x1, ())
theorem g75.eq (K : Nat) (x0 : y145.T) (x1 : y145.T) : g75 K x0 x1 = br ((x0.1 : Int) != x1.1) (some false) ((g99 K x0.2.1 x1.2.1).bind fun (y_1 : y4.T) => br (!y_1) (some false) (some true)) := by kernel_rfl
/-! ### laws.eqPackS -/
theorem fn48 : fnOk G 48 Try.f48 := ⟨Try.func48, by kernel_rfl⟩
noncomputable def e48 (K : Nat) : Ent G.P := mkEnt G 48 Try.f48 fn48 [y45, y45] true y4 true [e75 K] K (fun i => if i = 4 then [2, 3, 4, 6, 7, 8, 9, 10, 11, 12, 13, 14, 15, 16, 17, 18, 19, 20, 21, 22, 23, 24, 25, 26] else []) (fun i => if i = 4 then [] else [])
noncomputable def g48 (K : Nat) (x0 : y45.T) (x1 : y45.T) : Option y4.T := (e48 K).g (x0, x1, ())
noncomputable def L48_4 (K : Nat) (k : Nat) (x0 : y45.T) (x1 : y45.T) (v5 : y2.T) : Option y4.T := resume (envOf G [e75 K] K (fun i => if i = 4 then [2, 3, 4, 6, 7, 8, 9, 10, 11, 12, 13, 14, 15, 16, 17, 18, 19, 20, 21, 22, 23, 24, 25, 26] else []) (fun i => if i = 4 then [] else [])) dokB true y4 true Try.f48 [1, 1, 0, 1, 0] k (mkSt 27 [(0, .d y45 false x0), (1, .d y45 false x1), (5, .d y2 true v5)] [])
theorem L48_4.step (K k : Nat) (x0 : y45.T) (x1 : y45.T) (v5 : y2.T) : L48_4 K (k + 1) x0 x1 v5 = br (decide ((v5 : Int) < ((List.length x0 : Nat) : Int))) (br (decide (0 ≤ v5) && decide (v5 < (List.length x0 : Int))) (br (decide (0 ≤ v5) && decide (v5 < (List.length x1 : Int))) ((g75 K (List.getD x0 (Int.toNat v5) y145.zero) (List.getD x1 (Int.toNat v5) y145.zero)).bind fun (y_1 : y4.T) => br (!y_1) (some false) (L48_4 K k x0 x1 (IntKind.wrap .i64 (v5 + 1)))) (none)) (none)) (some true) := by kernel_rfl
theorem L48_4.zero (K : Nat) (x0 : y45.T) (x1 : y45.T) (v5 : y2.T) : L48_4 K 0 x0 x1 v5 = none := by kernel_rfl
theorem g48.eq (K : Nat) (x0 : y45.T) (x1 : y45.T) : g48 K x0 x1 = br ((((List.length x0 : Nat) : Int) : Int) != ((List.length x1 : Nat) : Int)) (some false) (L48_4 K K x0 x1 0) := by kernel_rfl
/-! ### laws.eqNote -/
theorem fn32 : fnOk G 32 Try.f32 := ⟨Try.func32, by kernel_rfl⟩
noncomputable def e32 (K : Nat) : Ent G.P := mkEnt G 32 Try.f32 fn32 [y65, y65] true y4 true [] K (fun _ => []) (fun _ => [])
noncomputable def g32 (K : Nat) (x0 : y65.T) (x1 : y65.T) : Option y4.T := (e32 K).g (x0, x1, ())
theorem g32.eq (K : Nat) (x0 : y65.T) (x1 : y65.T) : g32 K x0 x1 = br ((x0.1 : Int) != x1.1) (some false) (br ((x0.2.1 : Int) != x1.2.1) (some false) (br ((x0.2.2.1 : Int) != x1.2.2.1) (some false) (br ((x0.2.2.2.1 : Int) != x1.2.2.2.1) (some false) (br ((x0.2.2.2.2.1 : Int) != x1.2.2.2.2.1) (some false) (br ((x0.2.2.2.2.2.1 : Int) != x1.2.2.2.2.2.1) (some false) (br ((x0.2.2.2.2.2.2.1 : Int) != x1.2.2.2.2.2.2.1) (some false) (br ((x0.2.2.2.2.2.2.2.1 : Int) != x1.2.2.2.2.2.2.2.1) (some false) (br ((x0.2.2.2.2.2.2.2.2.1 : Int) != x1.2.2.2.2.2.2.2.2.1) (some false) (some true))))))))) := by kernel_rfl
/-! ### laws.eqNoteS -/
theorem fn12 : fnOk G 12 Try.f12 := ⟨Try.func12, by kernel_rfl⟩
noncomputable def e12 (K : Nat) : Ent G.P := mkEnt G 12 Try.f12 fn12 [y25, y25] true y4 true [e32 K] K (fun i => if i = 4 then [2, 3, 4, 6, 7, 8, 9, 10, 11, 12, 13, 14, 15, 16, 17, 18, 19, 20, 21, 22, 23, 24, 25, 26] else []) (fun i => if i = 4 then [] else [])
noncomputable def g12 (K : Nat) (x0 : y25.T) (x1 : y25.T) : Option y4.T := (e12 K).g (x0, x1, ())
noncomputable def L12_4 (K : Nat) (k : Nat) (x0 : y25.T) (x1 : y25.T) (v5 : y2.T) : Option y4.T := resume (envOf G [e32 K] K (fun i => if i = 4 then [2, 3, 4, 6, 7, 8, 9, 10, 11, 12, 13, 14, 15, 16, 17, 18, 19, 20, 21, 22, 23, 24, 25, 26] else []) (fun i => if i = 4 then [] else [])) dokB true y4 true Try.f12 [1, 1, 0, 1, 0] k (mkSt 27 [(0, .d y25 false x0), (1, .d y25 false x1), (5, .d y2 true v5)] [])
theorem L12_4.step (K k : Nat) (x0 : y25.T) (x1 : y25.T) (v5 : y2.T) : L12_4 K (k + 1) x0 x1 v5 = br (decide ((v5 : Int) < ((List.length x0 : Nat) : Int))) (br (decide (0 ≤ v5) && decide (v5 < (List.length x0 : Int))) (br (decide (0 ≤ v5) && decide (v5 < (List.length x1 : Int))) ((g32 K (List.getD x0 (Int.toNat v5) y65.zero) (List.getD x1 (Int.toNat v5) y65.zero)).bind fun (y_1 : y4.T) => br (!y_1) (some false) (L12_4 K k x0 x1 (IntKind.wrap .i64 (v5 + 1)))) (none)) (none)) (some true) := by kernel_rfl
theorem L12_4.zero (K : Nat) (x0 : y25.T) (x1 : y25.T) (v5 : y2.T) : L12_4 K 0 x0 x1 v5 = none := by kernel_rfl
theorem g12.eq (K : Nat) (x0 : y25.T) (x1 : y25.T) : g12 K x0 x1 = br ((((List.length x0 : Nat) : Int) : Int) != ((List.length x1 : Nat) : Int)) (some false) (L12_4 K K x0 x1 0) := by kernel_rfl
/-! ### laws.eqWorld -/
theorem fn17 : fnOk G 17 Try.f17 := ⟨Try.func17, by kernel_rfl⟩
noncomputable def e17 (K : Nat) : Ent G.P := mkEnt G 17 Try.f17 fn17 [y46, y46] true y4 true [e45 K, e46 K, e47 K, e48 K, e12 K] K (fun _ => []) (fun _ => [])
noncomputable def g17 (K : Nat) (x0 : y46.T) (x1 : y46.T) : Option y4.T := (e17 K).g (x0, x1, ())
theorem g17.eq (K : Nat) (x0 : y46.T) (x1 : y46.T) : g17 K x0 x1 = br ((x0.1 : Int) != x1.1) (some false) ((g45 K x0.2.1 x1.2.1).bind fun (y_1 : y4.T) => br (!y_1) (some false) ((g46 K x0.2.2.1 x1.2.2.1).bind fun (y_2 : y4.T) => br (!y_2) (some false) ((g47 K x0.2.2.2.1 x1.2.2.2.1).bind fun (y_3 : y4.T) => br (!y_3) (some false) ((g48 K x0.2.2.2.2.1 x1.2.2.2.2.1).bind fun (y_4 : y4.T) => br (!y_4) (some false) ((g12 K x0.2.2.2.2.2.1 x1.2.2.2.2.2.1).bind fun (y_5 : y4.T) => br (!y_5) (some false) (br ((x0.2.2.2.2.2.2.1 : Int) != x1.2.2.2.2.2.2.1) (some false) (br ((x0.2.2.2.2.2.2.2.1 : Int) != x1.2.2.2.2.2.2.2.1) (some false) (some true)))))))) := by kernel_rfl
/-! ### laws.eqIntS -/
theorem fn20 : fnOk G 20 Try.f20 := ⟨Try.func20, by kernel_rfl⟩
noncomputable def e20 (K : Nat) : Ent G.P := mkEnt G 20 Try.f20 fn20 [y51, y51] true y4 true [] K (fun i => if i = 4 then [2, 3, 4, 6, 7, 8, 9, 10, 11, 12, 13, 14, 15, 16, 17, 18, 19, 20, 21, 22, 23, 24, 25] else []) (fun i => if i = 4 then [] else [])
noncomputable def g20 (K : Nat) (x0 : y51.T) (x1 : y51.T) : Option y4.T := (e20 K).g (x0, x1, ())
noncomputable def L20_4 (K : Nat) (k : Nat) (x0 : y51.T) (x1 : y51.T) (v5 : y2.T) : Option y4.T := resume (envOf G [] K (fun i => if i = 4 then [2, 3, 4, 6, 7, 8, 9, 10, 11, 12, 13, 14, 15, 16, 17, 18, 19, 20, 21, 22, 23, 24, 25] else []) (fun i => if i = 4 then [] else [])) dokB true y4 true Try.f20 [1, 1, 0, 1, 0] k (mkSt 26 [(0, .d y51 false x0), (1, .d y51 false x1), (5, .d y2 true v5)] [])
theorem L20_4.step (K k : Nat) (x0 : y51.T) (x1 : y51.T) (v5 : y2.T) : L20_4 K (k + 1) x0 x1 v5 = br (decide ((v5 : Int) < ((List.length x0 : Nat) : Int))) (br (decide (0 ≤ v5) && decide (v5 < (List.length x0 : Int))) (br (decide (0 ≤ v5) && decide (v5 < (List.length x1 : Int))) (br (((List.getD x0 (Int.toNat v5) 0) : Int) != (List.getD x1 (Int.toNat v5) 0)) (some false) (L20_4 K k x0 x1 (IntKind.wrap .i64 (v5 + 1)))) (none)) (none)) (some true) := by kernel_rfl
theorem L20_4.zero (K : Nat) (x0 : y51.T) (x1 : y51.T) (v5 : y2.T) : L20_4 K 0 x0 x1 v5 = none := by kernel_rfl
theorem g20.eq (K : Nat) (x0 : y51.T) (x1 : y51.T) : g20 K x0 x1 = br ((((List.length x0 : Nat) : Int) : Int) != ((List.length x1 : Nat) : Int)) (some false) (L20_4 K K x0 x1 0) := by kernel_rfl
/-! ### laws.markByteS -/
theorem fn78 : fnOk G 78 Try.f78 := ⟨Try.func78, by kernel_rfl⟩
noncomputable def e78 (K : Nat) : LEnt G.P := mkLEnt G 78 Try.f78 fn78 y99 [] [] K (fun i => if i = 2 then [2, 3, 4, 6, 7, 8, 9, 10, 11, 12, 13, 14, 15, 16, 17, 18, 19] else []) (fun i => if i = 2 then [] else [])
noncomputable def g78 (K : Nat) (x0 : y99.T) (x1 : Int) : Option Int := (e78 K).g x0 x1
noncomputable def L78_2 (K : Nat) (k : Nat) (x0 : y99.T) (v1 : y2.T) (v5 : y2.T) : Option y2.T := resume (envL G [] [] K (fun i => if i = 2 then [2, 3, 4, 6, 7, 8, 9, 10, 11, 12, 13, 14, 15, 16, 17, 18, 19] else []) (fun i => if i = 2 then [] else [])) dokB true y2 true Try.f78 [1, 0, 1, 0] k (mkSt 20 [(0, .lin y99 x0), (1, .d y2 true v1), (5, .d y2 true v5)] [])
theorem L78_2.step (K k : Nat) (x0 : y99.T) (v1 : y2.T) (v5 : y2.T) : L78_2 K (k + 1) x0 v1 v5 = br (decide ((v5 : Int) < ((List.length x0 : Nat) : Int))) (br (decide (0 ≤ v5) && decide (v5 < (List.length x0 : Int))) (L78_2 K k x0 (IntKind.wrap .i64 (v1 + 1)) (IntKind.wrap .i64 (v5 + 1))) (none)) (some v1) := by kernel_rfl
theorem L78_2.zero (K : Nat) (x0 : y99.T) (v1 : y2.T) (v5 : y2.T) : L78_2 K 0 x0 v1 v5 = none := by kernel_rfl
theorem g78.eq (K : Nat) (x0 : y99.T) (x1 : y2.T) : g78 K x0 x1 = L78_2 K K x0 x1 0 := by kernel_rfl
/-! ### laws.markByteSS -/
theorem fn76 : fnOk G 76 Try.f76 := ⟨Try.func76, by kernel_rfl⟩
noncomputable def e76 (K : Nat) : LEnt G.P := mkLEnt G 76 Try.f76 fn76 y29 [] [e78 K] K (fun i => if i = 2 then [2, 3, 4, 6, 7, 8, 9, 10, 11, 12, 13, 14, 15, 16, 17, 18] else []) (fun i => if i = 2 then [] else [])
noncomputable def g76 (K : Nat) (x0 : y29.T) (x1 : Int) : Option Int := (e76 K).g x0 x1
noncomputable def L76_2 (K : Nat) (k : Nat) (x0 : y29.T) (v1 : y2.T) (v5 : y2.T) : Option y2.T := resume (envL G [] [e78 K] K (fun i => if i = 2 then [2, 3, 4, 6, 7, 8, 9, 10, 11, 12, 13, 14, 15, 16, 17, 18] else []) (fun i => if i = 2 then [] else [])) dokB true y2 true Try.f76 [1, 0, 1, 0] k (mkSt 19 [(0, .lin y29 x0), (1, .d y2 true v1), (5, .d y2 true v5)] [])
theorem L76_2.step (K k : Nat) (x0 : y29.T) (v1 : y2.T) (v5 : y2.T) : L76_2 K (k + 1) x0 v1 v5 = br (decide ((v5 : Int) < ((List.length x0 : Nat) : Int))) (br (decide (0 ≤ v5) && decide (v5 < (List.length x0 : Int))) ((g78 K (List.getD x0 (Int.toNat v5) ([])) v1).bind fun (y_1 : Int) => L76_2 K k x0 y_1 (IntKind.wrap .i64 (v5 + 1))) (none)) (some v1) := by kernel_rfl
theorem L76_2.zero (K : Nat) (x0 : y29.T) (v1 : y2.T) (v5 : y2.T) : L76_2 K 0 x0 v1 v5 = none := by kernel_rfl
theorem g76.eq (K : Nat) (x0 : y29.T) (x1 : y2.T) : g76 K x0 x1 = L76_2 K K x0 x1 0 := by kernel_rfl
/-! ### laws.markWrS -/
theorem fn77 : fnOk G 77 Try.f77 := ⟨Try.func77, by kernel_rfl⟩
noncomputable def e77 (K : Nat) : LEnt G.P := mkLEnt G 77 Try.f77 fn77 y40 [] [e78 K] K (fun i => if i = 2 then [2, 3, 4, 6, 7, 8, 9, 10, 11, 12, 13, 14, 15, 16, 17, 18, 19, 20, 21, 22, 23, 24, 25, 26] else []) (fun i => if i = 2 then [] else [])
noncomputable def g77 (K : Nat) (x0 : y40.T) (x1 : Int) : Option Int := (e77 K).g x0 x1
noncomputable def L77_2 (K : Nat) (k : Nat) (x0 : y40.T) (v1 : y2.T) (v5 : y2.T) : Option y2.T := resume (envL G [] [e78 K] K (fun i => if i = 2 then [2, 3, 4, 6, 7, 8, 9, 10, 11, 12, 13, 14, 15, 16, 17, 18, 19, 20, 21, 22, 23, 24, 25, 26] else []) (fun i => if i = 2 then [] else [])) dokB true y2 true Try.f77 [1, 0, 1, 0] k (mkSt 27 [(0, .lin y40 x0), (1, .d y2 true v1), (5, .d y2 true v5)] [])
theorem L77_2.step (K k : Nat) (x0 : y40.T) (v1 : y2.T) (v5 : y2.T) : L77_2 K (k + 1) x0 v1 v5 = br (decide ((v5 : Int) < ((List.length x0 : Nat) : Int))) (br (decide (0 ≤ v5) && decide (v5 < (List.length x0 : Int))) (br (decide (0 ≤ v5) && decide (v5 < (List.length x0 : Int))) ((g78 K ((List.getD x0 (Int.toNat v5) y145.zero).2.1) (IntKind.wrap .i64 (v1 + 1))).bind fun (y_1 : Int) => L77_2 K k x0 y_1 (IntKind.wrap .i64 (v5 + 1))) (none)) (none)) (some v1) := by kernel_rfl
theorem L77_2.zero (K : Nat) (x0 : y40.T) (v1 : y2.T) (v5 : y2.T) : L77_2 K 0 x0 v1 v5 = none := by kernel_rfl
theorem g77.eq (K : Nat) (x0 : y40.T) (x1 : y2.T) : g77 K x0 x1 = L77_2 K K x0 x1 0 := by kernel_rfl
/-! ### laws.markDisk -/
theorem fn49 : fnOk G 49 Try.f49 := ⟨Try.func49, by kernel_rfl⟩
noncomputable def e49 (K : Nat) : LEnt G.P := mkLEnt G 49 Try.f49 fn49 y41 [] [e76 K, e77 K] K (fun _ => []) (fun _ => [])
noncomputable def g49 (K : Nat) (x0 : y41.T) (x1 : Int) : Option Int := (e49 K).g x0 x1
theorem g49.eq (K : Nat) (x0 : y41.T) (x1 : y2.T) : g49 K x0 x1 = (g76 K x0.1 x1).bind fun (y_1 : Int) => (g77 K x0.2.1 y_1).bind fun (y_2 : Int) => some y_2 := by kernel_rfl
/-! ### laws.markSockS -/
theorem fn50 : fnOk G 50 Try.f50 := ⟨Try.func50, by kernel_rfl⟩
noncomputable def e50 (K : Nat) : LEnt G.P := mkLEnt G 50 Try.f50 fn50 y43 [] [e78 K] K (fun i => if i = 2 then [2, 3, 4, 6, 7, 8, 9, 10, 11, 12, 13, 14, 15, 16, 17, 18, 19, 20, 21, 22, 23, 24, 25, 26, 27, 28, 29, 30, 31, 32, 33, 34, 35, 36, 37, 38, 39, 40, 41, 42, 43, 44, 45, 46, 47, 48, 49, 50, 51, 52, 53, 54, 55, 56, 57, 58, 59, 60, 61, 62, 63, 64, 65, 66, 67, 68, 69, 70] else []) (fun i => if i = 2 then [] else [])
noncomputable def g50 (K : Nat) (x0 : y43.T) (x1 : Int) : Option Int := (e50 K).g x0 x1
noncomputable def L50_2 (K : Nat) (k : Nat) (x0 : y43.T) (v1 : y2.T) (v5 : y2.T) : Option y2.T := resume (envL G [] [e78 K] K (fun i => if i = 2 then [2, 3, 4, 6, 7, 8, 9, 10, 11, 12, 13, 14, 15, 16, 17, 18, 19, 20, 21, 22, 23, 24, 25, 26, 27, 28, 29, 30, 31, 32, 33, 34, 35, 36, 37, 38, 39, 40, 41, 42, 43, 44, 45, 46, 47, 48, 49, 50, 51, 52, 53, 54, 55, 56, 57, 58, 59, 60, 61, 62, 63, 64, 65, 66, 67, 68, 69, 70] else []) (fun i => if i = 2 then [] else [])) dokB true y2 true Try.f50 [1, 0, 1, 0] k (mkSt 71 [(0, .lin y43 x0), (1, .d y2 true v1), (5, .d y2 true v5)] [])
theorem L50_2.step (K k : Nat) (x0 : y43.T) (v1 : y2.T) (v5 : y2.T) : L50_2 K (k + 1) x0 v1 v5 = br (decide ((v5 : Int) < ((List.length x0 : Nat) : Int))) (br (decide (0 ≤ v5) && decide (v5 < (List.length x0 : Int))) (br (decide (0 ≤ v5) && decide (v5 < (List.length x0 : Int))) (br (decide (0 ≤ v5) && decide (v5 < (List.length x0 : Int))) (br (decide (3 = 0)) (none) (br (decide (0 ≤ v5) && decide (v5 < (List.length x0 : Int))) (br (decide (0 ≤ v5) && decide (v5 < (List.length x0 : Int))) ((g78 K ((List.getD x0 (Int.toNat v5) y111.zero).2.2.2.2.1) (IntKind.wrap .i64 ((IntKind.wrap .i64 ((IntKind.wrap .i64 ((IntKind.wrap .i64 (v1 + 1)) + 1)) + 1)) + 1))).bind fun (y_1 : Int) => br (decide (0 ≤ v5) && decide (v5 < (List.length x0 : Int))) ((g78 K ((List.getD x0 (Int.toNat v5) y111.zero).2.2.2.2.2.1) y_1).bind fun (y_2 : Int) => br (decide (0 ≤ v5) && decide (v5 < (List.length x0 : Int))) (br (decide (0 ≤ v5) && decide (v5 < (List.length x0 : Int))) (L50_2 K k x0 (IntKind.wrap .i64 ((IntKind.wrap .i64 (y_2 + 1)) + 1)) (IntKind.wrap .i64 (v5 + 1))) (none)) (none)) (none)) (none)) (none))) (none)) (none)) (none)) (some v1) := by kernel_rfl
theorem L50_2.zero (K : Nat) (x0 : y43.T) (v1 : y2.T) (v5 : y2.T) : L50_2 K 0 x0 v1 v5 = none := by kernel_rfl
theorem g50.eq (K : Nat) (x0 : y43.T) (x1 : y2.T) : g50 K x0 x1 = L50_2 K K x0 x1 0 := by kernel_rfl
/-! ### laws.markText -/
theorem fn59 : fnOk G 59 Try.f59 := ⟨Try.func59, by kernel_rfl⟩
noncomputable def e59 (K : Nat) : Ent G.P := mkEnt G 59 Try.f59 fn59 [y2] true y9 true [] K (fun i => if i = 4 then [1, 2, 4, 5, 6, 7, 8, 9, 10, 11, 12, 13, 14, 15, 16, 17, 18, 19] else []) (fun i => if i = 4 then [12] else [])
noncomputable def g59 (K : Nat) (x0 : y2.T) : Option y9.T := (e59 K).g (x0, ())
noncomputable def L59_4 (K : Nat) (k : Nat) (v0 : y2.T) (v3 : y9.T) : Option y9.T := resume (envOf G [] K (fun i => if i = 4 then [1, 2, 4, 5, 6, 7, 8, 9, 10, 11, 12, 13, 14, 15, 16, 17, 18, 19] else []) (fun i => if i = 4 then [12] else [])) dokB true y9 true Try.f59 [1, 1, 1, 0, 0] k (mkSt 20 [(0, .d y2 true v0), (3, .d y9 true v3)] [])
theorem L59_4.step (K k : Nat) (v0 : y2.T) (v3 : y9.T) : L59_4 K (k + 1) v0 v3 = br (decide ((v0 : Int) > 0)) (br (decide (10 = 0)) (none) (br (decide (ByteArray.size (strOf ([(IntKind.wrap .u8 ((IntKind.wrap .i64 (48 + (Int.tmod v0 10)))))])) + ByteArray.size v3 ≤ 9223372036854775807)) (br (decide (10 = 0)) (none) (L59_4 K k (IntKind.wrap .i64 (Int.tdiv v0 10)) ((strOf ([(IntKind.wrap .u8 ((IntKind.wrap .i64 (48 + (Int.tmod v0 10)))))])) ++ v3))) (none))) (br (decide (ByteArray.size (⟨#[109]⟩ : ByteArray) + ByteArray.size v3 ≤ 9223372036854775807)) (some ((⟨#[109]⟩ : ByteArray) ++ v3)) (none)) := by kernel_rfl
theorem L59_4.zero (K : Nat) (v0 : y2.T) (v3 : y9.T) : L59_4 K 0 v0 v3 = none := by kernel_rfl
theorem g59.eq (K : Nat) (x0 : y2.T) : g59 K x0 = br (decide ((x0 : Int) ≤ 0)) (some (⟨#[109, 48]⟩ : ByteArray)) (L59_4 K K x0 (⟨#[]⟩ : ByteArray)) := by kernel_rfl
/-! ### laws.markDbS -/
theorem fn79 : fnOk G 79 Try.f79 := ⟨Try.func79, by kernel_rfl⟩
noncomputable def e79 (K : Nat) : LEnt G.P := mkLEnt G 79 Try.f79 fn79 y73 [e59 K] [] K (fun i => if i = 2 then [2, 3, 4, 6, 7, 8, 9, 10, 11, 12, 13, 14, 15, 16, 17, 18, 19, 20, 21, 22, 23, 24, 25, 26, 27, 28, 29, 30, 31, 32, 33, 34, 35, 36, 37, 38, 39, 40, 41, 42, 43, 44, 45, 46, 47, 48] else []) (fun i => if i = 2 then [] else [])
noncomputable def g79 (K : Nat) (x0 : y73.T) (x1 : Int) : Option Int := (e79 K).g x0 x1
noncomputable def L79_2 (K : Nat) (k : Nat) (x0 : y73.T) (v1 : y2.T) (v5 : y2.T) : Option y2.T := resume (envL G [e59 K] [] K (fun i => if i = 2 then [2, 3, 4, 6, 7, 8, 9, 10, 11, 12, 13, 14, 15, 16, 17, 18, 19, 20, 21, 22, 23, 24, 25, 26, 27, 28, 29, 30, 31, 32, 33, 34, 35, 36, 37, 38, 39, 40, 41, 42, 43, 44, 45, 46, 47, 48] else []) (fun i => if i = 2 then [] else [])) dokB true y2 true Try.f79 [1, 0, 1, 0] k (mkSt 49 [(0, .lin y73 x0), (1, .d y2 true v1), (5, .d y2 true v5)] [])
theorem L79_2.step (K k : Nat) (x0 : y73.T) (v1 : y2.T) (v5 : y2.T) : L79_2 K (k + 1) x0 v1 v5 = br (decide ((v5 : Int) < ((List.length x0 : Nat) : Int))) ((g59 K v1).bind fun (y_1 : y9.T) => br (decide (0 ≤ v5) && decide (v5 < (List.length x0 : Int))) (br (decide (0 ≤ v5) && decide (v5 < (List.length x0 : Int))) (br (decide (0 ≤ v5) && decide (v5 < (List.length x0 : Int))) (br (decide (0 ≤ v5) && decide (v5 < (List.length x0 : Int))) (br (decide (0 ≤ v5) && decide (v5 < (List.length x0 : Int))) (L79_2 K k x0 (IntKind.wrap .i64 ((IntKind.wrap .i64 ((IntKind.wrap .i64 ((IntKind.wrap .i64 ((IntKind.wrap .i64 (v1 + 1)) + 1)) + 1)) + 1)) + 1)) (IntKind.wrap .i64 (v5 + 1))) (none)) (none)) (none)) (none)) (none)) (some v1) := by kernel_rfl
theorem L79_2.zero (K : Nat) (x0 : y73.T) (v1 : y2.T) (v5 : y2.T) : L79_2 K 0 x0 v1 v5 = none := by kernel_rfl
theorem g79.eq (K : Nat) (x0 : y73.T) (x1 : y2.T) : g79 K x0 x1 = L79_2 K K x0 x1 0 := by kernel_rfl
/-! ### laws.markAskerS -/
theorem fn80 : fnOk G 80 Try.f80 := ⟨Try.func80, by kernel_rfl⟩
noncomputable def e80 (K : Nat) : LEnt G.P := mkLEnt G 80 Try.f80 fn80 y74 [e59 K] [] K (fun i => if i = 2 then [2, 3, 4, 6, 7, 8, 9, 10, 11, 12, 13, 14, 15, 16, 17, 18, 19, 20, 21, 22, 23, 24, 25, 26, 27, 28, 29, 30, 31, 32, 33, 34, 35, 36, 37, 38, 39, 40, 41, 42, 43, 44, 45, 46, 47, 48, 49, 50, 51, 52, 53, 54, 55, 56, 57, 58, 59, 60, 61, 62, 63, 64, 65, 66, 67, 68, 69, 70] else []) (fun i => if i = 2 then [] else [])
noncomputable def g80 (K : Nat) (x0 : y74.T) (x1 : Int) : Option Int := (e80 K).g x0 x1
noncomputable def L80_2 (K : Nat) (k : Nat) (x0 : y74.T) (v1 : y2.T) (v5 : y2.T) : Option y2.T := resume (envL G [e59 K] [] K (fun i => if i = 2 then [2, 3, 4, 6, 7, 8, 9, 10, 11, 12, 13, 14, 15, 16, 17, 18, 19, 20, 21, 22, 23, 24, 25, 26, 27, 28, 29, 30, 31, 32, 33, 34, 35, 36, 37, 38, 39, 40, 41, 42, 43, 44, 45, 46, 47, 48, 49, 50, 51, 52, 53, 54, 55, 56, 57, 58, 59, 60, 61, 62, 63, 64, 65, 66, 67, 68, 69, 70] else []) (fun i => if i = 2 then [] else [])) dokB true y2 true Try.f80 [1, 0, 1, 0] k (mkSt 71 [(0, .lin y74 x0), (1, .d y2 true v1), (5, .d y2 true v5)] [])
theorem L80_2.step (K k : Nat) (x0 : y74.T) (v1 : y2.T) (v5 : y2.T) : L80_2 K (k + 1) x0 v1 v5 = br (decide ((v5 : Int) < ((List.length x0 : Nat) : Int))) (br (decide (0 ≤ v5) && decide (v5 < (List.length x0 : Int))) ((g59 K (IntKind.wrap .i64 (v1 + 1))).bind fun (y_1 : y9.T) => br (decide (0 ≤ v5) && decide (v5 < (List.length x0 : Int))) (br (decide (0 ≤ v5) && decide (v5 < (List.length x0 : Int))) (br (decide (0 ≤ v5) && decide (v5 < (List.length x0 : Int))) (br (decide (0 ≤ v5) && decide (v5 < (List.length x0 : Int))) ((g59 K (IntKind.wrap .i64 ((IntKind.wrap .i64 ((IntKind.wrap .i64 ((IntKind.wrap .i64 ((IntKind.wrap .i64 (v1 + 1)) + 1)) + 1)) + 1)) + 1))).bind fun (y_2 : y9.T) => br (decide (0 ≤ v5) && decide (v5 < (List.length x0 : Int))) (br (decide (0 ≤ v5) && decide (v5 < (List.length x0 : Int))) (br (decide (0 ≤ v5) && decide (v5 < (List.length x0 : Int))) (L80_2 K k x0 (IntKind.wrap .i64 ((IntKind.wrap .i64 ((IntKind.wrap .i64 ((IntKind.wrap .i64 ((IntKind.wrap .i64 ((IntKind.wrap .i64 ((IntKind.wrap .i64 ((IntKind.wrap .i64 (v1 + 1)) + 1)) + 1)) + 1)) + 1)) + 1)) + 1)) + 1)) (IntKind.wrap .i64 (v5 + 1))) (none)) (none)) (none)) (none)) (none)) (none)) (none)) (none)) (some v1) := by kernel_rfl
theorem L80_2.zero (K : Nat) (x0 : y74.T) (v1 : y2.T) (v5 : y2.T) : L80_2 K 0 x0 v1 v5 = none := by kernel_rfl
theorem g80.eq (K : Nat) (x0 : y74.T) (x1 : y2.T) : g80 K x0 x1 = L80_2 K K x0 x1 0 := by kernel_rfl
/-! ### laws.markLineS -/
theorem fn81 : fnOk G 81 Try.f81 := ⟨Try.func81, by kernel_rfl⟩
noncomputable def e81 (K : Nat) : LEnt G.P := mkLEnt G 81 Try.f81 fn81 y75 [e59 K] [] K (fun i => if i = 2 then [2, 3, 4, 6, 7, 8, 9, 10, 11, 12, 13, 14, 15, 16, 17, 18, 19, 20, 21, 22, 23, 24, 25, 26, 27, 28, 29, 30, 31, 32, 33, 34, 35, 36, 37, 38, 39, 40, 41, 42, 43, 44, 45, 46, 47, 48, 49, 50, 51, 52, 53, 54, 55, 56, 57, 58, 59, 60, 61, 62] else []) (fun i => if i = 2 then [] else [])
noncomputable def g81 (K : Nat) (x0 : y75.T) (x1 : Int) : Option Int := (e81 K).g x0 x1
noncomputable def L81_2 (K : Nat) (k : Nat) (x0 : y75.T) (v1 : y2.T) (v5 : y2.T) : Option y2.T := resume (envL G [e59 K] [] K (fun i => if i = 2 then [2, 3, 4, 6, 7, 8, 9, 10, 11, 12, 13, 14, 15, 16, 17, 18, 19, 20, 21, 22, 23, 24, 25, 26, 27, 28, 29, 30, 31, 32, 33, 34, 35, 36, 37, 38, 39, 40, 41, 42, 43, 44, 45, 46, 47, 48, 49, 50, 51, 52, 53, 54, 55, 56, 57, 58, 59, 60, 61, 62] else []) (fun i => if i = 2 then [] else [])) dokB true y2 true Try.f81 [1, 0, 1, 0] k (mkSt 63 [(0, .lin y75 x0), (1, .d y2 true v1), (5, .d y2 true v5)] [])
theorem L81_2.step (K k : Nat) (x0 : y75.T) (v1 : y2.T) (v5 : y2.T) : L81_2 K (k + 1) x0 v1 v5 = br (decide ((v5 : Int) < ((List.length x0 : Nat) : Int))) (br (decide (0 ≤ v5) && decide (v5 < (List.length x0 : Int))) ((g59 K (IntKind.wrap .i64 (v1 + 1))).bind fun (y_1 : y9.T) => br (decide (0 ≤ v5) && decide (v5 < (List.length x0 : Int))) (br (decide (0 ≤ v5) && decide (v5 < (List.length x0 : Int))) (br (decide (0 ≤ v5) && decide (v5 < (List.length x0 : Int))) (br (decide (0 ≤ v5) && decide (v5 < (List.length x0 : Int))) (br (decide (0 ≤ v5) && decide (v5 < (List.length x0 : Int))) (br (decide (0 ≤ v5) && decide (v5 < (List.length x0 : Int))) (L81_2 K k x0 (IntKind.wrap .i64 ((IntKind.wrap .i64 ((IntKind.wrap .i64 ((IntKind.wrap .i64 ((IntKind.wrap .i64 ((IntKind.wrap .i64 ((IntKind.wrap .i64 (v1 + 1)) + 1)) + 1)) + 1)) + 1)) + 1)) + 1)) (IntKind.wrap .i64 (v5 + 1))) (none)) (none)) (none)) (none)) (none)) (none)) (none)) (some v1) := by kernel_rfl
theorem L81_2.zero (K : Nat) (x0 : y75.T) (v1 : y2.T) (v5 : y2.T) : L81_2 K 0 x0 v1 v5 = none := by kernel_rfl
theorem g81.eq (K : Nat) (x0 : y75.T) (x1 : y2.T) : g81 K x0 x1 = L81_2 K K x0 x1 0 := by kernel_rfl
/-! ### laws.markHouseS -/
theorem fn51 : fnOk G 51 Try.f51 := ⟨Try.func51, by kernel_rfl⟩
noncomputable def e51 (K : Nat) : LEnt G.P := mkLEnt G 51 Try.f51 fn51 y44 [] [e79 K, e80 K, e81 K] K (fun i => if i = 2 then [2, 3, 4, 6, 7, 8, 9, 10, 11, 12, 13, 14, 15, 16, 17, 18, 19, 20, 21, 22, 23, 24, 25, 26, 27, 28, 29, 30, 31, 32, 33, 34, 35, 36, 37, 38, 39, 40, 41, 42, 43, 44, 45, 46, 47, 48, 49, 50, 51, 52, 53, 54, 55, 56, 57, 58, 59, 60, 61, 62, 63, 64, 65, 66, 67, 68, 69, 70, 71, 72, 73, 74, 75, 76, 77, 78, 79, 80, 81, 82, 83, 84, 85, 86, 87, 88, 89, 90, 91, 92, 93, 94, 95, 96, 97, 98, 99, 100, 101, 102] else []) (fun i => if i = 2 then [] else [])
noncomputable def g51 (K : Nat) (x0 : y44.T) (x1 : Int) : Option Int := (e51 K).g x0 x1
noncomputable def L51_2 (K : Nat) (k : Nat) (x0 : y44.T) (v1 : y2.T) (v5 : y2.T) : Option y2.T := resume (envL G [] [e79 K, e80 K, e81 K] K (fun i => if i = 2 then [2, 3, 4, 6, 7, 8, 9, 10, 11, 12, 13, 14, 15, 16, 17, 18, 19, 20, 21, 22, 23, 24, 25, 26, 27, 28, 29, 30, 31, 32, 33, 34, 35, 36, 37, 38, 39, 40, 41, 42, 43, 44, 45, 46, 47, 48, 49, 50, 51, 52, 53, 54, 55, 56, 57, 58, 59, 60, 61, 62, 63, 64, 65, 66, 67, 68, 69, 70, 71, 72, 73, 74, 75, 76, 77, 78, 79, 80, 81, 82, 83, 84, 85, 86, 87, 88, 89, 90, 91, 92, 93, 94, 95, 96, 97, 98, 99, 100, 101, 102] else []) (fun i => if i = 2 then [] else [])) dokB true y2 true Try.f51 [1, 0, 1, 0] k (mkSt 103 [(0, .lin y44 x0), (1, .d y2 true v1), (5, .d y2 true v5)] [])
theorem L51_2.step (K k : Nat) (x0 : y44.T) (v1 : y2.T) (v5 : y2.T) : L51_2 K (k + 1) x0 v1 v5 = br (decide ((v5 : Int) < ((List.length x0 : Nat) : Int))) (br (decide (0 ≤ v5) && decide (v5 < (List.length x0 : Int))) (br (decide (0 ≤ v5) && decide (v5 < (List.length x0 : Int))) (br (decide (0 ≤ v5) && decide (v5 < (List.length x0 : Int))) (br (decide (0 ≤ v5) && decide (v5 < (List.length x0 : Int))) ((g79 K ((List.getD x0 (Int.toNat v5) y79.zero).2.2.2.1) (IntKind.wrap .i64 ((IntKind.wrap .i64 ((IntKind.wrap .i64 (v1 + 1)) + 1)) + 1))).bind fun (y_1 : Int) => br (decide (3 = 0)) (none) (br (decide (0 ≤ v5) && decide (v5 < (List.length x0 : Int))) (br (decide (0 ≤ v5) && decide (v5 < (List.length x0 : Int))) ((g80 K ((List.getD x0 (Int.toNat v5) y79.zero).2.2.2.2.2.1) (IntKind.wrap .i64 (y_1 + 1))).bind fun (y_2 : Int) => br (decide (0 ≤ v5) && decide (v5 < (List.length x0 : Int))) ((g81 K ((List.getD x0 (Int.toNat v5) y79.zero).2.2.2.2.2.2.1) y_2).bind fun (y_3 : Int) => br (decide (0 ≤ v5) && decide (v5 < (List.length x0 : Int))) (br (decide (0 ≤ v5) && decide (v5 < (List.length x0 : Int))) (br (decide (0 ≤ v5) && decide (v5 < (List.length x0 : Int))) (br (decide (0 ≤ v5) && decide (v5 < (List.length x0 : Int))) (br (decide (0 ≤ v5) && decide (v5 < (List.length x0 : Int))) (L51_2 K k x0 (IntKind.wrap .i64 ((IntKind.wrap .i64 ((IntKind.wrap .i64 ((IntKind.wrap .i64 ((IntKind.wrap .i64 (y_3 + 1)) + 1)) + 1)) + 1)) + 1)) (IntKind.wrap .i64 (v5 + 1))) (none)) (none)) (none)) (none)) (none)) (none)) (none)) (none))) (none)) (none)) (none)) (none)) (some v1) := by kernel_rfl
theorem L51_2.zero (K : Nat) (x0 : y44.T) (v1 : y2.T) (v5 : y2.T) : L51_2 K 0 x0 v1 v5 = none := by kernel_rfl
theorem g51.eq (K : Nat) (x0 : y44.T) (x1 : y2.T) : g51 K x0 x1 = L51_2 K K x0 x1 0 := by kernel_rfl
/-! ### laws.markPackS -/
theorem fn52 : fnOk G 52 Try.f52 := ⟨Try.func52, by kernel_rfl⟩
noncomputable def e52 (K : Nat) : LEnt G.P := mkLEnt G 52 Try.f52 fn52 y45 [] [e78 K] K (fun i => if i = 2 then [2, 3, 4, 6, 7, 8, 9, 10, 11, 12, 13, 14, 15, 16, 17, 18, 19, 20, 21, 22, 23, 24, 25, 26] else []) (fun i => if i = 2 then [] else [])
noncomputable def g52 (K : Nat) (x0 : y45.T) (x1 : Int) : Option Int := (e52 K).g x0 x1
noncomputable def L52_2 (K : Nat) (k : Nat) (x0 : y45.T) (v1 : y2.T) (v5 : y2.T) : Option y2.T := resume (envL G [] [e78 K] K (fun i => if i = 2 then [2, 3, 4, 6, 7, 8, 9, 10, 11, 12, 13, 14, 15, 16, 17, 18, 19, 20, 21, 22, 23, 24, 25, 26] else []) (fun i => if i = 2 then [] else [])) dokB true y2 true Try.f52 [1, 0, 1, 0] k (mkSt 27 [(0, .lin y45 x0), (1, .d y2 true v1), (5, .d y2 true v5)] [])
theorem L52_2.step (K k : Nat) (x0 : y45.T) (v1 : y2.T) (v5 : y2.T) : L52_2 K (k + 1) x0 v1 v5 = br (decide ((v5 : Int) < ((List.length x0 : Nat) : Int))) (br (decide (0 ≤ v5) && decide (v5 < (List.length x0 : Int))) (br (decide (0 ≤ v5) && decide (v5 < (List.length x0 : Int))) ((g78 K ((List.getD x0 (Int.toNat v5) y145.zero).2.1) (IntKind.wrap .i64 (v1 + 1))).bind fun (y_1 : Int) => L52_2 K k x0 y_1 (IntKind.wrap .i64 (v5 + 1))) (none)) (none)) (some v1) := by kernel_rfl
theorem L52_2.zero (K : Nat) (x0 : y45.T) (v1 : y2.T) (v5 : y2.T) : L52_2 K 0 x0 v1 v5 = none := by kernel_rfl
theorem g52.eq (K : Nat) (x0 : y45.T) (x1 : y2.T) : g52 K x0 x1 = L52_2 K K x0 x1 0 := by kernel_rfl
/-! ### laws.markNoteS -/
theorem fn53 : fnOk G 53 Try.f53 := ⟨Try.func53, by kernel_rfl⟩
noncomputable def e53 (K : Nat) : LEnt G.P := mkLEnt G 53 Try.f53 fn53 y25 [] [] K (fun i => if i = 2 then [2, 3, 4, 6, 7, 8, 9, 10, 11, 12, 13, 14, 15, 16, 17, 18, 19, 20, 21, 22, 23, 24, 25, 26, 27, 28, 29, 30, 31, 32, 33, 34, 35, 36, 37, 38, 39, 40, 41, 42, 43, 44, 45, 46, 47, 48, 49, 50, 51, 52, 53, 54, 55, 56, 57, 58, 59, 60, 61, 62, 63, 64, 65, 66, 67, 68, 69, 70, 71, 72, 73, 74, 75] else []) (fun i => if i = 2 then [] else [])
noncomputable def g53 (K : Nat) (x0 : y25.T) (x1 : Int) : Option Int := (e53 K).g x0 x1
noncomputable def L53_2 (K : Nat) (k : Nat) (x0 : y25.T) (v1 : y2.T) (v5 : y2.T) : Option y2.T := resume (envL G [] [] K (fun i => if i = 2 then [2, 3, 4, 6, 7, 8, 9, 10, 11, 12, 13, 14, 15, 16, 17, 18, 19, 20, 21, 22, 23, 24, 25, 26, 27, 28, 29, 30, 31, 32, 33, 34, 35, 36, 37, 38, 39, 40, 41, 42, 43, 44, 45, 46, 47, 48, 49, 50, 51, 52, 53, 54, 55, 56, 57, 58, 59, 60, 61, 62, 63, 64, 65, 66, 67, 68, 69, 70, 71, 72, 73, 74, 75] else []) (fun i => if i = 2 then [] else [])) dokB true y2 true Try.f53 [1, 0, 1, 0] k (mkSt 76 [(0, .lin y25 x0), (1, .d y2 true v1), (5, .d y2 true v5)] [])
theorem L53_2.step (K k : Nat) (x0 : y25.T) (v1 : y2.T) (v5 : y2.T) : L53_2 K (k + 1) x0 v1 v5 = br (decide ((v5 : Int) < ((List.length x0 : Nat) : Int))) (br (decide (0 ≤ v5) && decide (v5 < (List.length x0 : Int))) (br (decide (0 ≤ v5) && decide (v5 < (List.length x0 : Int))) (br (decide (0 ≤ v5) && decide (v5 < (List.length x0 : Int))) (br (decide (0 ≤ v5) && decide (v5 < (List.length x0 : Int))) (br (decide (0 ≤ v5) && decide (v5 < (List.length x0 : Int))) (br (decide (0 ≤ v5) && decide (v5 < (List.length x0 : Int))) (br (decide (0 ≤ v5) && decide (v5 < (List.length x0 : Int))) (br (decide (0 ≤ v5) && decide (v5 < (List.length x0 : Int))) (br (decide (0 ≤ v5) && decide (v5 < (List.length x0 : Int))) (L53_2 K k x0 (IntKind.wrap .i64 ((IntKind.wrap .i64 ((IntKind.wrap .i64 ((IntKind.wrap .i64 ((IntKind.wrap .i64 ((IntKind.wrap .i64 ((IntKind.wrap .i64 ((IntKind.wrap .i64 ((IntKind.wrap .i64 (v1 + 1)) + 1)) + 1)) + 1)) + 1)) + 1)) + 1)) + 1)) + 1)) (IntKind.wrap .i64 (v5 + 1))) (none)) (none)) (none)) (none)) (none)) (none)) (none)) (none)) (none)) (some v1) := by kernel_rfl
theorem L53_2.zero (K : Nat) (x0 : y25.T) (v1 : y2.T) (v5 : y2.T) : L53_2 K 0 x0 v1 v5 = none := by kernel_rfl
theorem g53.eq (K : Nat) (x0 : y25.T) (x1 : y2.T) : g53 K x0 x1 = L53_2 K K x0 x1 0 := by kernel_rfl
/-! ### laws.markWorld -/
theorem fn21 : fnOk G 21 Try.f21 := ⟨Try.func21, by kernel_rfl⟩
noncomputable def e21 (K : Nat) : LEnt G.P := mkLEnt G 21 Try.f21 fn21 y46 [] [e49 K, e50 K, e51 K, e52 K, e53 K] K (fun _ => []) (fun _ => [])
noncomputable def g21 (K : Nat) (x0 : y46.T) (x1 : Int) : Option Int := (e21 K).g x0 x1
theorem g21.gen (K : Nat) (x0 : y46.T) (x1 : y2.T) (h49 : y41.T → Int → Option Int) (q49 : ∀ x k k', h49 x k = some k' → LinOk G.P 49 y41 x k k') (h50 : y43.T → Int → Option Int) (q50 : ∀ x k k', h50 x k = some k' → LinOk G.P 50 y43 x k k') (h51 : y44.T → Int → Option Int) (q51 : ∀ x k k', h51 x k = some k' → LinOk G.P 51 y44 x k k') (h52 : y45.T → Int → Option Int) (q52 : ∀ x k k', h52 x k = some k' → LinOk G.P 52 y45 x k k') (h53 : y25.T → Int → Option Int) (q53 : ∀ x k k', h53 x k = some k' → LinOk G.P 53 y25 x k k') : runL (envL G [] [⟨49, y41, h49, q49⟩, ⟨50, y43, h50, q50⟩, ⟨51, y44, h51, q51⟩, ⟨52, y45, h52, q52⟩, ⟨53, y25, h53, q53⟩] K (fun _ => []) (fun _ => [])) dokB Try.f21 y46 x0 x1 = (h49 x0.2.1 x1).bind fun (y_1 : Int) => (h50 x0.2.2.1 y_1).bind fun (y_2 : Int) => (h51 x0.2.2.2.1 y_2).bind fun (y_3 : Int) => (h52 x0.2.2.2.2.1 y_3).bind fun (y_4 : Int) => (h53 x0.2.2.2.2.2.1 y_4).bind fun (y_5 : Int) => some y_5 := by kernel_rfl
theorem g21.eq0 (K : Nat) (x0 : y46.T) (x1 : y2.T) : g21 K x0 x1 = runL (envL G [] [⟨49, y41, g49 K, (e49 K).ok⟩, ⟨50, y43, g50 K, (e50 K).ok⟩, ⟨51, y44, g51 K, (e51 K).ok⟩, ⟨52, y45, g52 K, (e52 K).ok⟩, ⟨53, y25, g53 K, (e53 K).ok⟩] K (fun _ => []) (fun _ => [])) dokB Try.f21 y46 x0 x1 := by kernel_rfl
theorem g21.eq (K : Nat) (x0 : y46.T) (x1 : y2.T) : g21 K x0 x1 = (g49 K x0.2.1 x1).bind fun (y_1 : Int) => (g50 K x0.2.2.1 y_1).bind fun (y_2 : Int) => (g51 K x0.2.2.2.1 y_2).bind fun (y_3 : Int) => (g52 K x0.2.2.2.2.1 y_3).bind fun (y_4 : Int) => (g53 K x0.2.2.2.2.2.1 y_4).bind fun (y_5 : Int) => some y_5 := (g21.eq0 K x0 x1).trans (g21.gen K x0 x1 (g49 K) (e49 K).ok (g50 K) (e50 K).ok (g51 K) (e51 K).ok (g52 K) (e52 K).ok (g53 K) (e53 K).ok)
/-! ### laws.heldIntS -/
theorem fn23 : fnOk G 23 Try.f23 := ⟨Try.func23, by kernel_rfl⟩
noncomputable def e23 (K : Nat) : Ent G.P := mkEnt G 23 Try.f23 fn23 [y51, y2] true y2 true [] K (fun i => if i = 2 then [2, 3, 4, 6, 7, 8, 9, 10, 11, 12, 13, 14, 15, 16, 17, 18, 19, 20] else []) (fun i => if i = 2 then [] else [])
noncomputable def g23 (K : Nat) (x0 : y51.T) (x1 : y2.T) : Option y2.T := (e23 K).g (x0, x1, ())
noncomputable def L23_2 (K : Nat) (k : Nat) (x0 : y51.T) (v1 : y2.T) (v5 : y2.T) : Option y2.T := resume (envOf G [] K (fun i => if i = 2 then [2, 3, 4, 6, 7, 8, 9, 10, 11, 12, 13, 14, 15, 16, 17, 18, 19, 20] else []) (fun i => if i = 2 then [] else [])) dokB true y2 true Try.f23 [1, 0, 1, 0] k (mkSt 21 [(0, .d y51 false x0), (1, .d y2 true v1), (5, .d y2 true v5)] [])
theorem L23_2.step (K k : Nat) (x0 : y51.T) (v1 : y2.T) (v5 : y2.T) : L23_2 K (k + 1) x0 v1 v5 = br (decide ((v5 : Int) < ((List.length x0 : Nat) : Int))) (br (decide (0 ≤ v5) && decide (v5 < (List.length x0 : Int))) (br (((List.getD x0 (Int.toNat v5) 0) : Int) != v1) (some (-1)) (L23_2 K k x0 (IntKind.wrap .i64 (v1 + 1)) (IntKind.wrap .i64 (v5 + 1)))) (none)) (some v1) := by kernel_rfl
theorem L23_2.zero (K : Nat) (x0 : y51.T) (v1 : y2.T) (v5 : y2.T) : L23_2 K 0 x0 v1 v5 = none := by kernel_rfl
theorem g23.eq (K : Nat) (x0 : y51.T) (x1 : y2.T) : g23 K x0 x1 = L23_2 K K x0 x1 0 := by kernel_rfl
/-! ### spec.l1In -/
theorem fn37 : fnOk G 37 Try.f37 := ⟨Try.func37, by kernel_rfl⟩
noncomputable def e37 (K : Nat) : Ent G.P := mkEnt G 37 Try.f37 fn37 [y2, y2, y2] true y4 true [] K (fun _ => []) (fun _ => [])
noncomputable def g37 (K : Nat) (x0 : y2.T) (x1 : y2.T) (x2 : y2.T) : Option y4.T := (e37 K).g (x0, x1, x2, ())
theorem g37.eq (K : Nat) (x0 : y2.T) (x1 : y2.T) (x2 : y2.T) : g37 K x0 x1 x2 = br (decide ((x0 : Int) ≥ x1)) (some (decide ((x0 : Int) ≤ x2))) (some false) := by kernel_rfl
/-! ### spec.HeldBy -/
theorem fn24 : fnOk G 24 Try.f24 := ⟨Try.func24, by kernel_rfl⟩
noncomputable def e24 (K : Nat) : Ent G.P := mkEnt G 24 Try.f24 fn24 [y46, y2] true y51 true [e37 K] K (fun i => if i = 3 then [0, 3, 4, 7, 8, 9, 10, 11, 12, 13, 14, 15, 16, 17, 18, 19, 20, 21, 22, 23, 24, 25, 26, 27, 28, 29, 30, 31, 32, 33, 34, 35, 36, 37, 38] else []) (fun i => if i = 3 then [4, 36] else [])
noncomputable def g24 (K : Nat) (x0 : y46.T) (x1 : y2.T) : Option y51.T := (e24 K).g (x0, x1, ())
noncomputable def L24_3 (K : Nat) (k : Nat) (x1 : y2.T) (v6 : y2.T) (o2 : y46.T) (o7 : y51.T) : Option y51.T := resume (envOf G [e37 K] K (fun i => if i = 3 then [0, 3, 4, 7, 8, 9, 10, 11, 12, 13, 14, 15, 16, 17, 18, 19, 20, 21, 22, 23, 24, 25, 26, 27, 28, 29, 30, 31, 32, 33, 34, 35, 36, 37, 38] else []) (fun i => if i = 3 then [4, 36] else [])) dokB true y51 true Try.f24 [1, 1, 0, 1, 0] k (mkSt 39 [(1, .d y2 true x1), (2, .ptr 2 0 y46), (5, .own 7), (6, .d y2 true v6)] [(2, .box y46 false o2), (7, .arr 3 y2 true o7)])
theorem L24_3.step (K k : Nat) (x1 : y2.T) (v6 : y2.T) (o2 : y46.T) (o7 : y51.T) : L24_3 K (k + 1) x1 v6 o2 o7 = br (decide ((v6 : Int) < ((List.length o2.2.2.1 : Nat) : Int))) ((g37 K x1 0 1).bind fun (y_1 : y4.T) => br y_1 (br (decide (0 ≤ v6) && decide (v6 < (List.length o2.2.2.1 : Int))) (br (decide (x1 < 0)) (none) (br (((Fil.bits .and .i64 (Int.fdiv ((List.getD o2.2.2.1 (Int.toNat v6) y111.zero).2.2.1) (2 ^ (min (Int.toNat x1) (IntKind.bits .i64)))) 1) : Int) == 1) (br (decide (0 ≤ v6) && decide (v6 < (List.length o2.2.2.1 : Int))) (br (decide ((List.length o7 + List.length ([(List.getD o2.2.2.1 (Int.toNat v6) y111.zero).1])) * 8 ≤ 140737488355328)) (L24_3 K k x1 (IntKind.wrap .i64 (v6 + 1)) o2 (o7 ++ [(List.getD o2.2.2.1 (Int.toNat v6) y111.zero).1])) (none)) (none)) (L24_3 K k x1 (IntKind.wrap .i64 (v6 + 1)) o2 o7))) (none)) (L24_3 K k x1 (IntKind.wrap .i64 (v6 + 1)) o2 o7)) (some o7) := by kernel_rfl
theorem L24_3.zero (K : Nat) (x1 : y2.T) (v6 : y2.T) (o2 : y46.T) (o7 : y51.T) : L24_3 K 0 x1 v6 o2 o7 = none := by kernel_rfl
theorem g24.eq (K : Nat) (x0 : y46.T) (x1 : y2.T) : g24 K x0 x1 = L24_3 K K x1 0 x0 ([]) := by kernel_rfl
/-! ### impl.isIn -/
theorem fn43 : fnOk G 43 Try.f43 := ⟨Try.func43, by kernel_rfl⟩
noncomputable def e43 (K : Nat) : Ent G.P := mkEnt G 43 Try.f43 fn43 [y2, y2, y2] true y4 true [] K (fun _ => []) (fun _ => [])
noncomputable def g43 (K : Nat) (x0 : y2.T) (x1 : y2.T) (x2 : y2.T) : Option y4.T := (e43 K).g (x0, x1, x2, ())
theorem g43.eq (K : Nat) (x0 : y2.T) (x1 : y2.T) (x2 : y2.T) : g43 K x0 x1 x2 = br (decide ((x1 : Int) ≤ x0)) (some (decide ((x0 : Int) ≤ x2))) (some false) := by kernel_rfl
/-! ### impl.HeldBy -/
theorem fn25 : fnOk G 25 Try.f25 := ⟨Try.func25, by kernel_rfl⟩
noncomputable def e25 (K : Nat) : Ent G.P := mkEnt G 25 Try.f25 fn25 [y46, y2] true y51 true [e43 K] K (fun i => if i = 5 then [0, 2, 3, 4, 6, 7, 8, 9, 10, 11, 12, 13, 17, 18, 19, 20, 21, 22, 23, 24, 25, 26, 27, 28, 29, 30, 31, 32] else []) (fun i => if i = 5 then [2, 4, 7, 29] else [])
noncomputable def g25 (K : Nat) (x0 : y46.T) (x1 : y2.T) : Option y51.T := (e25 K).g (x0, x1, ())
noncomputable def L25_5 (K : Nat) (k : Nat) (x0 : y46.T) (x1 : y2.T) (v16 : y2.T) (o8 : y51.T) : Option y51.T := resume (envOf G [e43 K] K (fun i => if i = 5 then [0, 2, 3, 4, 6, 7, 8, 9, 10, 11, 12, 13, 17, 18, 19, 20, 21, 22, 23, 24, 25, 26, 27, 28, 29, 30, 31, 32] else []) (fun i => if i = 5 then [2, 4, 7, 29] else [])) dokB true y51 true Try.f25 [1, 1, 1, 0, 1, 0] k (mkSt 33 [(1, .d y2 true x1), (5, .own 8), (14, .d y43 false x0.2.2.1), (15, .d y2 true ((List.length x0.2.2.1 : Nat) : Int)), (16, .d y2 true v16)] [(8, .arr 3 y2 true o8)])
theorem L25_5.step (K k : Nat) (x0 : y46.T) (x1 : y2.T) (v16 : y2.T) (o8 : y51.T) : L25_5 K (k + 1) x0 x1 v16 o8 = br (decide ((v16 : Int) < ((List.length x0.2.2.1 : Nat) : Int))) (br (decide (0 ≤ v16) && decide (v16 < (List.length x0.2.2.1 : Int))) (br (decide (x1 < 0)) (none) (br (((Fil.bits .and .i64 (Int.fdiv ((List.getD x0.2.2.1 (Int.toNat v16) y111.zero).2.2.1) (2 ^ (min (Int.toNat x1) (IntKind.bits .i64)))) 1) : Int) == 1) (br (decide ((List.length o8 + List.length ([(List.getD x0.2.2.1 (Int.toNat v16) y111.zero).1])) * 8 ≤ 140737488355328)) (L25_5 K k x0 x1 (IntKind.wrap .i64 (v16 + 1)) (o8 ++ [(List.getD x0.2.2.1 (Int.toNat v16) y111.zero).1])) (none)) (L25_5 K k x0 x1 (IntKind.wrap .i64 (v16 + 1)) o8))) (none)) (some o8) := by kernel_rfl
theorem L25_5.zero (K : Nat) (x0 : y46.T) (x1 : y2.T) (v16 : y2.T) (o8 : y51.T) : L25_5 K 0 x0 x1 v16 o8 = none := by kernel_rfl
theorem g25.eq (K : Nat) (x0 : y46.T) (x1 : y2.T) : g25 K x0 x1 = (g43 K x1 0 1).bind fun (y_1 : y4.T) => br (!y_1) (some ([])) (L25_5 K K x0 x1 0 ([])) := by kernel_rfl
/-! ### laws.markIntS -/
theorem fn22 : fnOk G 22 Try.f22 := ⟨Try.func22, by kernel_rfl⟩
noncomputable def e22 (K : Nat) : LEnt G.P := mkLEnt G 22 Try.f22 fn22 y51 [] [] K (fun i => if i = 2 then [2, 3, 4, 6, 7, 8, 9, 10, 11, 12, 13, 14, 15, 16, 17, 18] else []) (fun i => if i = 2 then [] else [])
noncomputable def g22 (K : Nat) (x0 : y51.T) (x1 : Int) : Option Int := (e22 K).g x0 x1
noncomputable def L22_2 (K : Nat) (k : Nat) (x0 : y51.T) (v1 : y2.T) (v5 : y2.T) : Option y2.T := resume (envL G [] [] K (fun i => if i = 2 then [2, 3, 4, 6, 7, 8, 9, 10, 11, 12, 13, 14, 15, 16, 17, 18] else []) (fun i => if i = 2 then [] else [])) dokB true y2 true Try.f22 [1, 0, 1, 0] k (mkSt 19 [(0, .lin y51 x0), (1, .d y2 true v1), (5, .d y2 true v5)] [])
theorem L22_2.step (K k : Nat) (x0 : y51.T) (v1 : y2.T) (v5 : y2.T) : L22_2 K (k + 1) x0 v1 v5 = br (decide ((v5 : Int) < ((List.length x0 : Nat) : Int))) (br (decide (0 ≤ v5) && decide (v5 < (List.length x0 : Int))) (L22_2 K k x0 (IntKind.wrap .i64 (v1 + 1)) (IntKind.wrap .i64 (v5 + 1))) (none)) (some v1) := by kernel_rfl
theorem L22_2.zero (K : Nat) (x0 : y51.T) (v1 : y2.T) (v5 : y2.T) : L22_2 K 0 x0 v1 v5 = none := by kernel_rfl
theorem g22.eq (K : Nat) (x0 : y51.T) (x1 : y2.T) : g22 K x0 x1 = L22_2 K K x0 x1 0 := by kernel_rfl
/-! ### laws.markIntS, its row as it is written -/
noncomputable def x22 (K : Nat) : XEnt G.P := mkXEnt G 22 Try.f22 fn22 3 y2 rfl [] K (fun i => if i = 2 then [2, 3, 4, 6, 7, 8, 9, 10, 11, 12, 13, 14, 15, 16, 17, 18] else []) (fun i => if i = 2 then [] else [])
noncomputable def h22 (K : Nat) (x0 : List y2.T) (x1 : Int) : Option (Int × List y2.T) := (x22 K).g x0 x1
noncomputable def X22_2 (K : Nat) (k : Nat) (v1 : y2.T) (v5 : y2.T) (o0 : y51.T) : Option (Int × List y2.T) := resumeX (envOf G [] K (fun i => if i = 2 then [2, 3, 4, 6, 7, 8, 9, 10, 11, 12, 13, 14, 15, 16, 17, 18] else []) (fun i => if i = 2 then [] else [])) dokB 3 y2 Try.f22 [1, 0, 1, 0] k (mkSt 19 [(0, .xr), (1, .d y2 true v1), (5, .d y2 true v5)] [(0, .row 3 y2 o0)])
theorem X22_2.step (K k : Nat) (v1 : y2.T) (v5 : y2.T) (o0 : y51.T) : X22_2 K (k + 1) v1 v5 o0 = br (decide ((v5 : Int) < ((List.length o0 : Nat) : Int))) (br (decide (0 ≤ v5) && decide (v5 < (List.length o0 : Int))) (X22_2 K k (IntKind.wrap .i64 (v1 + 1)) (IntKind.wrap .i64 (v5 + 1)) (List.set o0 (Int.toNat v5) v1)) (none)) (some (v1, o0)) := by kernel_rfl
theorem X22_2.zero (K : Nat) (v1 : y2.T) (v5 : y2.T) (o0 : y51.T) : X22_2 K 0 v1 v5 o0 = none := by kernel_rfl
theorem h22.eq (K : Nat) (x0 : List y2.T) (x1 : Int) : h22 K x0 x1 = X22_2 K K x1 0 x0 := by kernel_rfl
noncomputable def E6A (K : Nat) : Env := envX G [e13 K, e15 K, e24 K] [] [] K (fun _ => []) (fun _ => [])
theorem E6A.ok (K : Nat) : EnvOk G.P (E6A K) := envX_ok ..
def S6A (x : y36.T) (n : y3.T) : St := (mkSt 74 [(0, .d y36 false x), (1, .d y2 true n)] [])
theorem P6A (K : Nat) (x : y36.T) (n : y3.T) : codeK (E6A K) dokB (takeC 5 (dropC 0 (Try.f6.body.getD .skip))) (S6A x n) (fun ex st => some (ex, st)) = (g13 K x 1048576).bind fun (y_1 : y2.T) => br (decide ((y_1 : Int) < 0)) (some (Ex.ret, (mkSt 74 [(0, .d y36 false x), (1, .d y2 true n), (2, .ptr 2 0 y36), (4, .d y4 true true), (5, .d y2 true y_1), (13, .d y36 false x), (14, .d y2 true 1048576), (15, .d y2 true y_1), (16, .d y2 true y_1), (17, .d y4 true (decide ((y_1 : Int) < 0)))] [(2, .box y36 false x)]))) ((g15 K x).bind fun (y_2 : y46.T) => (g24 K y_2 n).bind fun (y_3 : y51.T) => some (Ex.normal, (mkSt 74 [(0, .d y36 false x), (1, .d y2 true n), (2, .ptr 2 0 y36), (4, .d y4 true false), (5, .d y2 true y_1), (6, .d y51 true y_3), (13, .d y36 false x), (14, .d y2 true 1048576), (15, .d y2 true y_1), (16, .d y2 true y_1), (17, .d y4 true (decide ((y_1 : Int) < 0))), (18, .d y36 false x), (19, .d y46 true y_2), (20, .d y2 true n), (21, .d y51 true y_3)] [(2, .box y36 false x)]))) := by kernel_rfl
noncomputable def E6B (K : Nat) : Env := envX G [e15 K] [] [] K (fun _ => []) (fun _ => [])
theorem E6B.ok (K : Nat) : EnvOk G.P (E6B K) := envX_ok ..
def S6B (x : y36.T) (n : y3.T) (w : y51.T) : St := (mkSt 74 [(1, .d y2 true n), (2, .orp 0 y36 x), (6, .od 0 y51 w)] [])
theorem P6B (K : Nat) (x : y36.T) (n : y3.T) (w : y51.T) : codeK (E6B K) dokB (takeC 1 (dropC 5 (Try.f6.body.getD .skip))) (S6B x n w) (fun ex st => some (ex, st)) = (g15 K x).bind fun (y_1 : y46.T) => some (Ex.normal, (mkSt 74 [(1, .d y2 true n), (2, .orp 0 y36 x), (6, .od 0 y51 w), (7, .ptr 7 0 y46), (22, .od 0 y36 x), (23, .d y46 true y_1)] [(7, .box y46 true y_1)])) := by kernel_rfl
noncomputable def E6C (K : Nat) : Env := envX G [e25 K, e20 K, e15 K, e17 K] [] [] K (fun _ => []) (fun _ => [])
theorem E6C.ok (K : Nat) : EnvOk G.P (E6C K) := envX_ok ..
def S6C (x : y36.T) (n : y3.T) (w : y51.T) (z : y46.T) : St := (mkSt 74 [(1, .d y2 true n), (2, .orp 0 y36 x), (6, .od 0 y51 w), (7, .orp 1 y46 z)] [])
theorem P6C (K : Nat) (x : y36.T) (n : y3.T) (w : y51.T) (z : y46.T) : codeK (E6C K) dokB (takeC 3 (dropC 6 (Try.f6.body.getD .skip))) (S6C x n w z) (fun ex st => some (ex, st)) = (g25 K z n).bind fun (y_1 : y51.T) => (g20 K y_1 w).bind fun (y_2 : y4.T) => br (!y_2) (some (Ex.ret, (mkSt 74 [(1, .d y2 true n), (2, .orp 0 y36 x), (4, .d y4 true false), (6, .od 0 y51 w), (7, .orp 1 y46 z), (8, .d y51 true y_1), (24, .od 1 y46 z), (25, .d y2 true n), (26, .d y51 true y_1), (27, .d y51 true y_1), (28, .od 0 y51 w), (29, .d y4 true y_2), (30, .d y4 true (!y_2))] []))) ((g15 K x).bind fun (y_3 : y46.T) => (g17 K z y_3).bind fun (y_4 : y4.T) => br (!y_4) (some (Ex.ret, (mkSt 74 [(1, .d y2 true n), (2, .orp 0 y36 x), (4, .d y4 true false), (6, .od 0 y51 w), (7, .orp 1 y46 z), (8, .d y51 true y_1), (24, .od 1 y46 z), (25, .d y2 true n), (26, .d y51 true y_1), (27, .d y51 true y_1), (28, .od 0 y51 w), (29, .d y4 true y_2), (30, .d y4 true (!y_2)), (31, .od 1 y46 z), (32, .od 0 y36 x), (33, .d y46 true y_3), (34, .d y4 true y_4), (35, .d y4 true (!y_4))] []))) (some (Ex.normal, (mkSt 74 [(1, .d y2 true n), (2, .orp 0 y36 x), (6, .od 0 y51 w), (7, .orp 1 y46 z), (8, .d y51 true y_1), (24, .od 1 y46 z), (25, .d y2 true n), (26, .d y51 true y_1), (27, .d y51 true y_1), (28, .od 0 y51 w), (29, .d y4 true y_2), (30, .d y4 true (!y_2)), (31, .od 1 y46 z), (32, .od 0 y36 x), (33, .d y46 true y_3), (34, .d y4 true y_4), (35, .d y4 true (!y_4))] [])))) := by kernel_rfl
noncomputable def E6D (K : Nat) : Env := envX G [e20 K] [e21 K] [] K (fun _ => []) (fun _ => [])
theorem E6D.ok (K : Nat) : EnvOk G.P (E6D K) := envX_ok ..
def S6D (x : y36.T) (n : y3.T) (w : y51.T) (z : y46.T) (g : y51.T) : St := (mkSt 74 [(1, .d y2 true n), (2, .orp 0 y36 x), (6, .od 0 y51 w), (7, .lb y46 z), (8, .od 2 y51 g)] [])
theorem P6D.gen (K : Nat) (x : y36.T) (n : y3.T) (w : y51.T) (z : y46.T) (g : y51.T) (h21 : y46.T → Int → Option Int) (q21 : ∀ x k k', h21 x k = some k' → LinOk G.P 21 y46 x k k') : codeK (envX G [e20 K] [⟨21, y46, h21, q21⟩] [] K (fun _ => []) (fun _ => [])) dokB (takeC 3 (dropC 9 (Try.f6.body.getD .skip))) (S6D x n w z g) (fun ex st => some (ex, st)) = (h21 z 1).bind fun (y_1 : Int) => br (decide ((y_1 : Int) < 0)) (some (Ex.ret, (mkSt 74 [(1, .d y2 true n), (2, .orp 0 y36 x), (4, .d y4 true false), (6, .od 0 y51 w), (7, .lb y46 z), (8, .od 2 y51 g), (9, .d y2 true y_1), (36, .lin y46 z), (37, .d y2 true 1), (38, .d y2 true y_1), (39, .d y2 true y_1), (40, .d y4 true (decide ((y_1 : Int) < 0))), (41, .d y4 true true), (42, .no), (43, .no), (44, .no), (45, .no), (46, .d y4 true true)] []))) ((g20 K g w).bind fun (y_2 : y4.T) => br (!y_2) (some (Ex.ret, (mkSt 74 [(1, .d y2 true n), (2, .orp 0 y36 x), (4, .d y4 true false), (6, .od 0 y51 w), (7, .lb y46 z), (8, .od 2 y51 g), (9, .d y2 true y_1), (36, .lin y46 z), (37, .d y2 true 1), (38, .d y2 true y_1), (39, .d y2 true y_1), (40, .d y4 true (decide ((y_1 : Int) < 0))), (41, .d y4 true false), (42, .od 2 y51 g), (43, .od 0 y51 w), (44, .d y4 true y_2), (45, .d y4 true (!y_2)), (46, .d y4 true (!y_2))] []))) (some (Ex.normal, (mkSt 74 [(1, .d y2 true n), (2, .orp 0 y36 x), (6, .od 0 y51 w), (7, .lb y46 z), (8, .od 2 y51 g), (9, .d y2 true y_1), (36, .lin y46 z), (37, .d y2 true 1), (38, .d y2 true y_1), (39, .d y2 true y_1), (40, .d y4 true (decide ((y_1 : Int) < 0))), (41, .d y4 true false), (42, .od 2 y51 g), (43, .od 0 y51 w), (44, .d y4 true y_2), (45, .d y4 true (!y_2)), (46, .d y4 true (!y_2))] [])))) := by kernel_rfl
theorem P6D (K : Nat) (x : y36.T) (n : y3.T) (w : y51.T) (z : y46.T) (g : y51.T) : codeK (E6D K) dokB (takeC 3 (dropC 9 (Try.f6.body.getD .skip))) (S6D x n w z g) (fun ex st => some (ex, st)) = (g21 K z 1).bind fun (y_1 : Int) => br (decide ((y_1 : Int) < 0)) (some (Ex.ret, (mkSt 74 [(1, .d y2 true n), (2, .orp 0 y36 x), (4, .d y4 true false), (6, .od 0 y51 w), (7, .lb y46 z), (8, .od 2 y51 g), (9, .d y2 true y_1), (36, .lin y46 z), (37, .d y2 true 1), (38, .d y2 true y_1), (39, .d y2 true y_1), (40, .d y4 true (decide ((y_1 : Int) < 0))), (41, .d y4 true true), (42, .no), (43, .no), (44, .no), (45, .no), (46, .d y4 true true)] []))) ((g20 K g w).bind fun (y_2 : y4.T) => br (!y_2) (some (Ex.ret, (mkSt 74 [(1, .d y2 true n), (2, .orp 0 y36 x), (4, .d y4 true false), (6, .od 0 y51 w), (7, .lb y46 z), (8, .od 2 y51 g), (9, .d y2 true y_1), (36, .lin y46 z), (37, .d y2 true 1), (38, .d y2 true y_1), (39, .d y2 true y_1), (40, .d y4 true (decide ((y_1 : Int) < 0))), (41, .d y4 true false), (42, .od 2 y51 g), (43, .od 0 y51 w), (44, .d y4 true y_2), (45, .d y4 true (!y_2)), (46, .d y4 true (!y_2))] []))) (some (Ex.normal, (mkSt 74 [(1, .d y2 true n), (2, .orp 0 y36 x), (6, .od 0 y51 w), (7, .lb y46 z), (8, .od 2 y51 g), (9, .d y2 true y_1), (36, .lin y46 z), (37, .d y2 true 1), (38, .d y2 true y_1), (39, .d y2 true y_1), (40, .d y4 true (decide ((y_1 : Int) < 0))), (41, .d y4 true false), (42, .od 2 y51 g), (43, .od 0 y51 w), (44, .d y4 true y_2), (45, .d y4 true (!y_2)), (46, .d y4 true (!y_2))] [])))) := (show codeK (E6D K) dokB (takeC 3 (dropC 9 (Try.f6.body.getD .skip))) (S6D x n w z g) (fun ex st => some (ex, st)) = codeK (envX G [e20 K] [⟨21, y46, g21 K, (e21 K).ok⟩] [] K (fun _ => []) (fun _ => [])) dokB (takeC 3 (dropC 9 (Try.f6.body.getD .skip))) (S6D x n w z g) (fun ex st => some (ex, st)) by kernel_rfl).trans (P6D.gen K x n w z g (g21 K) (e21 K).ok)
noncomputable def E6E (K : Nat) : Env := envX G [] [] [x22 K] K (fun _ => []) (fun _ => [])
theorem E6E.ok (K : Nat) : EnvOk G.P (E6E K) := envX_ok ..
def S6E (x : y36.T) (n : y3.T) (w : y51.T) (g : y51.T) : St := (mkSt 74 [(1, .d y2 true n), (2, .orp 0 y36 x), (6, .od 0 y51 w), (8, .xr)] [(0, .row 3 y2 g)])
theorem P6E (K : Nat) (x : y36.T) (n : y3.T) (w : y51.T) (g : y51.T) : codeK (E6E K) dokB (takeC 2 (dropC 12 (Try.f6.body.getD .skip))) (S6E x n w g) (fun ex st => some (ex, st)) = (h22 K g 1).bind fun (y_1 : Int × List y2.T) => some (Ex.normal, (mkSt 74 [(1, .d y2 true n), (2, .orp 0 y36 x), (6, .od 0 y51 w), (8, .xr), (10, .d y2 true y_1.1), (47, .xr), (48, .d y2 true 1), (49, .d y2 true y_1.1)] [(0, .row 3 y2 y_1.2)])) := by kernel_rfl
noncomputable def E6F (K : Nat) : Env := envX G [e23 K, e15 K, e25 K, e20 K] [] [] K (fun _ => []) (fun _ => [])
theorem E6F.ok (K : Nat) : EnvOk G.P (E6F K) := envX_ok ..
def S6F (x : y36.T) (n : y3.T) (w : y51.T) (g : y51.T) (m : y2.T) : St := (mkSt 74 [(1, .d y2 true n), (2, .orp 0 y36 x), (6, .od 0 y51 w), (8, .od 2 y51 g), (10, .d y2 true m)] [])
theorem P6F (K : Nat) (x : y36.T) (n : y3.T) (w : y51.T) (g : y51.T) (m : y2.T) : codeK (E6F K) dokB (dropC 14 (Try.f6.body.getD .skip)) (S6F x n w g m) (endK (E6F K) true y4 true Try.f6) = (g23 K g 1).bind fun (y_1 : y2.T) => br (decide ((y_1 : Int) < 0)) (some false) (br ((y_1 : Int) != m) (some false) ((g15 K x).bind fun (y_2 : y46.T) => (g25 K y_2 n).bind fun (y_3 : y51.T) => (g20 K y_3 w).bind fun (y_4 : y4.T) => br (!y_4) (some false) ((g23 K g 1).bind fun (y_5 : y2.T) => br (decide ((y_5 : Int) < 0)) (some false) (br ((y_5 : Int) != m) (some false) (some true))))) := by kernel_rfl
end F2
