/- The functions of the law as the evaluator tells them; written by gen.py and mkmod.py. -/
import Derived.Test.YtocpjnhpjclllaaGreatDoorFilR
import Derived.Test.YtocpjnhpjclllaaGreatDoorProg
import Derived.Shelf.Strings.OnBuilder
import Derived.Lib.Strings
import Derived.Lib.Walk
import Derived.Lib.Bytealg
set_option linter.unusedSimpArgs false
namespace F5
open Go Go.Fil Go.Proofs
set_option maxRecDepth 100000
set_option linter.unusedVariables false
@[reducible] def T_int : Ty := .int .i64
@[reducible] def T_int_3 : Ty := .int .i64
@[reducible] def T_bool : Ty := .bool
@[reducible] def T_u8 : Ty := .int .u8
@[reducible] def T_internal_abi_BoundsErrorCode : Ty := .int .u8
@[reducible] def T_u7 : Ty := .pair T_int (.pair T_int_3 (.pair T_bool (.pair T_internal_abi_BoundsErrorCode .unit)))
@[reducible] def T_runtime_boundsError : Ty := .pair T_int (.pair T_int_3 (.pair T_bool (.pair T_internal_abi_BoundsErrorCode .unit)))
@[reducible] def T_str : Ty := .str
@[reducible] def T_runtime_errorString : Ty := .str
@[reducible] def T_runtime_plainError : Ty := .str
@[reducible] def T_u64 : Ty := .int .u64
@[reducible] def T_u13 : Ty := .pair T_str (.pair T_u64 .unit)
@[reducible] def T_runtime_errorAddressString : Ty := .pair T_str (.pair T_u64 .unit)
@[reducible] def T_i32 : Ty := .int .i32
@[reducible] def T_S_u8 : Ty := .slice 5 T_u8
@[reducible] def T_S_S_u8 : Ty := .slice 97 T_S_u8
@[reducible] def T_laws_Wr : Ty := .pair T_int_3 (.pair T_S_u8 .unit)
@[reducible] def T_S_laws_Wr : Ty := .slice 173 T_laws_Wr
@[reducible] def T_u24 : Ty := .pair T_S_S_u8 (.pair T_S_laws_Wr (.pair T_int_3 (.pair T_bool .unit)))
@[reducible] def T_laws_Disk : Ty := .pair T_S_S_u8 (.pair T_S_laws_Wr (.pair T_int_3 (.pair T_bool .unit)))
@[reducible] def T_laws_Sock : Ty := .pair T_int_3 (.pair T_int_3 (.pair T_int_3 (.pair T_bool (.pair T_S_u8 (.pair T_S_u8 (.pair T_int_3 (.pair T_int_3 .unit)))))))
@[reducible] def T_S_laws_Sock : Ty := .slice 118 T_laws_Sock
@[reducible] def T_laws_Db : Ty := .pair T_str (.pair T_int_3 (.pair T_int_3 (.pair T_int_3 (.pair T_int_3 .unit))))
@[reducible] def T_S_laws_Db : Ty := .slice 212 T_laws_Db
@[reducible] def T_laws_Asker : Ty := .pair T_int_3 (.pair T_str (.pair T_int_3 (.pair T_int_3 (.pair T_int_3 (.pair T_str (.pair T_int_3 (.pair T_int_3 .unit)))))))
@[reducible] def T_S_laws_Asker : Ty := .slice 214 T_laws_Asker
@[reducible] def T_laws_Line : Ty := .pair T_int_3 (.pair T_str (.pair T_int_3 (.pair T_int_3 (.pair T_int_3 (.pair T_int_3 (.pair T_int_3 .unit))))))
@[reducible] def T_S_laws_Line : Ty := .slice 216 T_laws_Line
@[reducible] def T_laws_Hand : Ty := .pair T_int_3 (.pair T_int_3 (.pair T_int_3 (.pair T_int_3 .unit)))
@[reducible] def T_laws_House : Ty := .pair T_int_3 (.pair T_int_3 (.pair T_int_3 (.pair T_S_laws_Db (.pair T_bool (.pair T_S_laws_Asker (.pair T_S_laws_Line (.pair T_int_3 (.pair T_laws_Hand .unit))))))))
@[reducible] def T_S_laws_House : Ty := .slice 125 T_laws_House
@[reducible] def T_laws_Pack : Ty := .pair T_int_3 (.pair T_S_u8 .unit)
@[reducible] def T_S_laws_Pack : Ty := .slice 128 T_laws_Pack
@[reducible] def T_laws_Note : Ty := .pair T_int_3 (.pair T_int_3 (.pair T_int_3 (.pair T_int_3 (.pair T_int_3 (.pair T_int_3 (.pair T_int_3 (.pair T_int_3 (.pair T_int_3 .unit))))))))
@[reducible] def T_S_laws_Note : Ty := .slice 142 T_laws_Note
@[reducible] def T_u30 : Ty := .pair T_int_3 (.pair T_laws_Disk (.pair T_S_laws_Sock (.pair T_S_laws_House (.pair T_S_laws_Pack (.pair T_S_laws_Note (.pair T_int_3 (.pair T_int_3 .unit)))))))
@[reducible] def T_laws_World : Ty := .pair T_int_3 (.pair T_laws_Disk (.pair T_S_laws_Sock (.pair T_S_laws_House (.pair T_S_laws_Pack (.pair T_S_laws_Note (.pair T_int_3 (.pair T_int_3 .unit)))))))
@[reducible] def T_u33 : Ty := .pair T_int_3 (.pair T_str (.pair T_int_3 (.pair T_str (.pair T_int_3 (.pair T_int_3 .unit)))))
@[reducible] def T_impl_Known : Ty := .pair T_int_3 (.pair T_str (.pair T_int_3 (.pair T_str (.pair T_int_3 (.pair T_int_3 .unit)))))
@[reducible] def T_impl_Wr : Ty := .pair T_int_3 (.pair T_S_u8 .unit)
@[reducible] def T_S_impl_Wr : Ty := .slice 177 T_impl_Wr
@[reducible] def T_u37 : Ty := .pair T_S_S_u8 (.pair T_S_impl_Wr (.pair T_int_3 (.pair T_bool .unit)))
@[reducible] def T_impl_Disk : Ty := .pair T_S_S_u8 (.pair T_S_impl_Wr (.pair T_int_3 (.pair T_bool .unit)))
@[reducible] def T_impl_Sock : Ty := .pair T_int_3 (.pair T_int_3 (.pair T_int_3 (.pair T_bool (.pair T_S_u8 (.pair T_S_u8 (.pair T_int_3 (.pair T_int_3 .unit)))))))
@[reducible] def T_S_impl_Sock : Ty := .slice 99 T_impl_Sock
@[reducible] def T_impl_Db : Ty := .pair T_str (.pair T_int_3 (.pair T_int_3 (.pair T_int_3 (.pair T_int_3 .unit))))
@[reducible] def T_S_impl_Db : Ty := .slice 81 T_impl_Db
@[reducible] def T_impl_Asker : Ty := .pair T_int_3 (.pair T_str (.pair T_int_3 (.pair T_int_3 (.pair T_int_3 (.pair T_str (.pair T_int_3 (.pair T_int_3 .unit)))))))
@[reducible] def T_S_impl_Asker : Ty := .slice 111 T_impl_Asker
@[reducible] def T_impl_Line : Ty := .pair T_int_3 (.pair T_str (.pair T_int_3 (.pair T_int_3 (.pair T_int_3 (.pair T_int_3 (.pair T_int_3 .unit))))))
@[reducible] def T_S_impl_Line : Ty := .slice 114 T_impl_Line
@[reducible] def T_impl_Hand : Ty := .pair T_int_3 (.pair T_int_3 (.pair T_int_3 (.pair T_int_3 .unit)))
@[reducible] def T_impl_House : Ty := .pair T_int_3 (.pair T_int_3 (.pair T_int_3 (.pair T_S_impl_Db (.pair T_bool (.pair T_S_impl_Asker (.pair T_S_impl_Line (.pair T_int_3 (.pair T_impl_Hand .unit))))))))
@[reducible] def T_S_impl_House : Ty := .slice 96 T_impl_House
@[reducible] def T_impl_Pack : Ty := .pair T_int_3 (.pair T_S_u8 .unit)
@[reducible] def T_S_impl_Pack : Ty := .slice 139 T_impl_Pack
@[reducible] def T_impl_Note : Ty := .pair T_int_3 (.pair T_int_3 (.pair T_int_3 (.pair T_int_3 (.pair T_int_3 (.pair T_int_3 (.pair T_int_3 (.pair T_int_3 (.pair T_int_3 .unit))))))))
@[reducible] def T_S_impl_Note : Ty := .slice 102 T_impl_Note
@[reducible] def T_u43 : Ty := .pair T_int_3 (.pair T_impl_Disk (.pair T_S_impl_Sock (.pair T_S_impl_House (.pair T_S_impl_Pack (.pair T_S_impl_Note (.pair T_int_3 (.pair T_int_3 .unit)))))))
@[reducible] def T_impl_World : Ty := .pair T_int_3 (.pair T_impl_Disk (.pair T_S_impl_Sock (.pair T_S_impl_House (.pair T_S_impl_Pack (.pair T_S_impl_Note (.pair T_int_3 (.pair T_int_3 .unit)))))))
@[reducible] def T_u62 : Ty := .pair T_impl_Known (.pair T_int_3 (.pair T_int_3 .unit))
@[reducible] def T_impl_Jour : Ty := .pair T_impl_Known (.pair T_int_3 (.pair T_int_3 .unit))
@[reducible] def T_u80 : Ty := .pair T_str (.pair T_int_3 (.pair T_int_3 (.pair T_int_3 (.pair T_int_3 .unit))))
@[reducible] def T_u93 : Ty := .pair T_int_3 (.pair T_int_3 (.pair T_int_3 (.pair T_int_3 .unit)))
@[reducible] def T_u95 : Ty := .pair T_int_3 (.pair T_int_3 (.pair T_int_3 (.pair T_S_impl_Db (.pair T_bool (.pair T_S_impl_Asker (.pair T_S_impl_Line (.pair T_int_3 (.pair T_impl_Hand .unit))))))))
@[reducible] def T_u98 : Ty := .pair T_int_3 (.pair T_int_3 (.pair T_int_3 (.pair T_bool (.pair T_S_u8 (.pair T_S_u8 (.pair T_int_3 (.pair T_int_3 .unit)))))))
@[reducible] def T_u101 : Ty := .pair T_int_3 (.pair T_int_3 (.pair T_int_3 (.pair T_int_3 (.pair T_int_3 (.pair T_int_3 (.pair T_int_3 (.pair T_int_3 (.pair T_int_3 .unit))))))))
@[reducible] def T_S_int : Ty := .slice 3 T_int_3
@[reducible] def T_u110 : Ty := .pair T_int_3 (.pair T_str (.pair T_int_3 (.pair T_int_3 (.pair T_int_3 (.pair T_str (.pair T_int_3 (.pair T_int_3 .unit)))))))
@[reducible] def T_u113 : Ty := .pair T_int_3 (.pair T_str (.pair T_int_3 (.pair T_int_3 (.pair T_int_3 (.pair T_int_3 (.pair T_int_3 .unit))))))
@[reducible] def T_u124 : Ty := .pair T_int_3 (.pair T_int_3 (.pair T_int_3 (.pair T_S_laws_Db (.pair T_bool (.pair T_S_laws_Asker (.pair T_S_laws_Line (.pair T_int_3 (.pair T_laws_Hand .unit))))))))
@[reducible] def T_u127 : Ty := .pair T_int_3 (.pair T_S_u8 .unit)
@[reducible] def T_S_str : Ty := .slice 9 T_str
@[reducible] def T_arr4_int : Ty := .pair T_int_3 (.pair T_int_3 (.pair T_int_3 (.pair T_int_3 .unit)))
@[reducible] def T_impl_Frame : Ty := .pair T_int_3 (.pair T_str (.pair T_int_3 .unit))
@[reducible] def T_S_impl_Frame : Ty := .slice 168 T_impl_Frame
@[reducible] def T_u167 : Ty := .pair T_int_3 (.pair T_str (.pair T_int_3 .unit))
@[reducible] def T_u172 : Ty := .pair T_int_3 (.pair T_S_u8 .unit)
@[reducible] def T_u181 : Ty := .pair T_int_3 (.pair T_int_3 (.pair T_int_3 (.pair T_str .unit)))
@[reducible] def T_impl_Rec : Ty := .pair T_int_3 (.pair T_int_3 (.pair T_int_3 (.pair T_str .unit)))
@[reducible] def T_u64_227 : Ty := .int .u64
@[reducible] def T_u32 : Ty := .int .u32
def tab : List (Nat × TI) := [(2, ⟨T_int, 8, [], false, none⟩), (3, ⟨T_int_3, 8, [], false, none⟩), (4, ⟨T_bool, 1, [], false, none⟩), (5, ⟨T_u8, 1, [], false, none⟩), (6, ⟨T_internal_abi_BoundsErrorCode, 1, [], false, none⟩), (7, ⟨T_u7, 24, [(0, T_int), (1, T_int_3), (2, T_bool), (3, T_internal_abi_BoundsErrorCode)], false, none⟩), (8, ⟨T_runtime_boundsError, 24, [(0, T_int), (1, T_int_3), (2, T_bool), (3, T_internal_abi_BoundsErrorCode)], false, none⟩), (9, ⟨T_str, 16, [], false, none⟩), (10, ⟨T_runtime_errorString, 16, [], false, none⟩), (11, ⟨T_runtime_plainError, 16, [], false, none⟩), (12, ⟨T_u64, 8, [], false, none⟩), (13, ⟨T_u13, 24, [(0, T_str), (1, T_u64)], false, none⟩), (14, ⟨T_runtime_errorAddressString, 24, [(0, T_str), (1, T_u64)], false, none⟩), (21, ⟨T_i32, 4, [], false, none⟩), (22, ⟨T_S_S_u8, 24, [], false, none⟩), (23, ⟨T_S_laws_Wr, 24, [], false, none⟩), (24, ⟨T_u24, 64, [(0, T_S_S_u8), (1, T_S_laws_Wr), (2, T_int_3), (3, T_bool)], false, none⟩), (25, ⟨T_laws_Disk, 64, [(0, T_S_S_u8), (1, T_S_laws_Wr), (2, T_int_3), (3, T_bool)], false, none⟩), (26, ⟨T_S_laws_Sock, 24, [], false, none⟩), (27, ⟨T_S_laws_House, 24, [], false, none⟩), (28, ⟨T_S_laws_Pack, 24, [], false, none⟩), (29, ⟨T_S_laws_Note, 24, [], false, none⟩), (30, ⟨T_u30, 184, [(0, T_int_3), (1, T_laws_Disk), (5, T_S_laws_Sock), (6, T_S_laws_House), (7, T_S_laws_Pack), (8, T_S_laws_Note), (9, T_int_3), (10, T_int_3)], false, none⟩), (31, ⟨T_laws_World, 184, [(0, T_int_3), (1, T_laws_Disk), (5, T_S_laws_Sock), (6, T_S_laws_House), (7, T_S_laws_Pack), (8, T_S_laws_Note), (9, T_int_3), (10, T_int_3)], false, none⟩), (33, ⟨T_u33, 64, [(0, T_int_3), (1, T_str), (2, T_int_3), (3, T_str), (4, T_int_3), (5, T_int_3)], false, none⟩), (34, ⟨T_impl_Known, 64, [(0, T_int_3), (1, T_str), (2, T_int_3), (3, T_str), (4, T_int_3), (5, T_int_3)], false, none⟩), (36, ⟨T_S_impl_Wr, 24, [], false, none⟩), (37, ⟨T_u37, 64, [(0, T_S_S_u8), (1, T_S_impl_Wr), (2, T_int_3), (3, T_bool)], false, none⟩), (38, ⟨T_impl_Disk, 64, [(0, T_S_S_u8), (1, T_S_impl_Wr), (2, T_int_3), (3, T_bool)], false, none⟩), (39, ⟨T_S_impl_Sock, 24, [], false, none⟩), (40, ⟨T_S_impl_House, 24, [], false, none⟩), (41, ⟨T_S_impl_Pack, 24, [], false, none⟩), (42, ⟨T_S_impl_Note, 24, [], false, none⟩), (43, ⟨T_u43, 184, [(0, T_int_3), (1, T_impl_Disk), (5, T_S_impl_Sock), (6, T_S_impl_House), (7, T_S_impl_Pack), (8, T_S_impl_Note), (9, T_int_3), (10, T_int_3)], false, none⟩), (44, ⟨T_impl_World, 184, [(0, T_int_3), (1, T_impl_Disk), (5, T_S_impl_Sock), (6, T_S_impl_House), (7, T_S_impl_Pack), (8, T_S_impl_Note), (9, T_int_3), (10, T_int_3)], false, none⟩), (49, ⟨T_S_impl_Db, 24, [], false, none⟩), (62, ⟨T_u62, 80, [(0, T_impl_Known), (6, T_int_3), (7, T_int_3)], false, none⟩), (63, ⟨T_impl_Jour, 80, [(0, T_impl_Known), (6, T_int_3), (7, T_int_3)], false, none⟩), (80, ⟨T_u80, 48, [(0, T_str), (1, T_int_3), (2, T_int_3), (3, T_int_3), (4, T_int_3)], false, none⟩), (81, ⟨T_impl_Db, 48, [(0, T_str), (1, T_int_3), (2, T_int_3), (3, T_int_3), (4, T_int_3)], true, none⟩), (91, ⟨T_S_impl_Asker, 24, [], false, none⟩), (92, ⟨T_S_impl_Line, 24, [], false, none⟩), (93, ⟨T_u93, 32, [(0, T_int_3), (1, T_int_3), (2, T_int_3), (3, T_int_3)], false, none⟩), (94, ⟨T_impl_Hand, 32, [(0, T_int_3), (1, T_int_3), (2, T_int_3), (3, T_int_3)], true, none⟩), (95, ⟨T_u95, 144, [(0, T_int_3), (1, T_int_3), (2, T_int_3), (3, T_S_impl_Db), (4, T_bool), (5, T_S_impl_Asker), (6, T_S_impl_Line), (7, T_int_3), (8, T_impl_Hand)], false, none⟩), (96, ⟨T_impl_House, 144, [(0, T_int_3), (1, T_int_3), (2, T_int_3), (3, T_S_impl_Db), (4, T_bool), (5, T_S_impl_Asker), (6, T_S_impl_Line), (7, T_int_3), (8, T_impl_Hand)], false, none⟩), (97, ⟨T_S_u8, 24, [], false, none⟩), (98, ⟨T_u98, 96, [(0, T_int_3), (1, T_int_3), (2, T_int_3), (3, T_bool), (4, T_S_u8), (5, T_S_u8), (6, T_int_3), (7, T_int_3)], false, none⟩), (99, ⟨T_impl_Sock, 96, [(0, T_int_3), (1, T_int_3), (2, T_int_3), (3, T_bool), (4, T_S_u8), (5, T_S_u8), (6, T_int_3), (7, T_int_3)], false, none⟩), (101, ⟨T_u101, 72, [(0, T_int_3), (1, T_int_3), (2, T_int_3), (3, T_int_3), (4, T_int_3), (5, T_int_3), (6, T_int_3), (7, T_int_3), (8, T_int_3)], false, none⟩), (102, ⟨T_impl_Note, 72, [(0, T_int_3), (1, T_int_3), (2, T_int_3), (3, T_int_3), (4, T_int_3), (5, T_int_3), (6, T_int_3), (7, T_int_3), (8, T_int_3)], false, none⟩), (105, ⟨T_S_int, 24, [], false, none⟩), (110, ⟨T_u110, 80, [(0, T_int_3), (1, T_str), (2, T_int_3), (3, T_int_3), (4, T_int_3), (5, T_str), (6, T_int_3), (7, T_int_3)], false, none⟩), (111, ⟨T_impl_Asker, 80, [(0, T_int_3), (1, T_str), (2, T_int_3), (3, T_int_3), (4, T_int_3), (5, T_str), (6, T_int_3), (7, T_int_3)], true, none⟩), (113, ⟨T_u113, 64, [(0, T_int_3), (1, T_str), (2, T_int_3), (3, T_int_3), (4, T_int_3), (5, T_int_3), (6, T_int_3)], false, none⟩), (114, ⟨T_impl_Line, 64, [(0, T_int_3), (1, T_str), (2, T_int_3), (3, T_int_3), (4, T_int_3), (5, T_int_3), (6, T_int_3)], true, none⟩), (118, ⟨T_laws_Sock, 96, [(0, T_int_3), (1, T_int_3), (2, T_int_3), (3, T_bool), (4, T_S_u8), (5, T_S_u8), (6, T_int_3), (7, T_int_3)], false, none⟩), (120, ⟨T_S_laws_Db, 24, [], false, none⟩), (121, ⟨T_S_laws_Asker, 24, [], false, none⟩), (122, ⟨T_S_laws_Line, 24, [], false, none⟩), (123, ⟨T_laws_Hand, 32, [(0, T_int_3), (1, T_int_3), (2, T_int_3), (3, T_int_3)], false, none⟩), (124, ⟨T_u124, 144, [(0, T_int_3), (1, T_int_3), (2, T_int_3), (3, T_S_laws_Db), (4, T_bool), (5, T_S_laws_Asker), (6, T_S_laws_Line), (7, T_int_3), (8, T_laws_Hand)], false, none⟩), (125, ⟨T_laws_House, 144, [(0, T_int_3), (1, T_int_3), (2, T_int_3), (3, T_S_laws_Db), (4, T_bool), (5, T_S_laws_Asker), (6, T_S_laws_Line), (7, T_int_3), (8, T_laws_Hand)], false, none⟩), (127, ⟨T_u127, 32, [(0, T_int_3), (1, T_S_u8)], false, none⟩), (128, ⟨T_laws_Pack, 32, [(0, T_int_3), (1, T_S_u8)], false, none⟩), (139, ⟨T_impl_Pack, 32, [(0, T_int_3), (1, T_S_u8)], false, none⟩), (142, ⟨T_laws_Note, 72, [(0, T_int_3), (1, T_int_3), (2, T_int_3), (3, T_int_3), (4, T_int_3), (5, T_int_3), (6, T_int_3), (7, T_int_3), (8, T_int_3)], false, none⟩), (149, ⟨T_S_str, 24, [], false, none⟩), (153, ⟨T_arr4_int, 32, [], false, some (4, 3, T_int_3)⟩), (164, ⟨T_S_impl_Frame, 24, [], false, none⟩), (167, ⟨T_u167, 32, [(0, T_int_3), (1, T_str), (2, T_int_3)], false, none⟩), (168, ⟨T_impl_Frame, 32, [(0, T_int_3), (1, T_str), (2, T_int_3)], true, none⟩), (172, ⟨T_u172, 32, [(0, T_int_3), (1, T_S_u8)], false, none⟩), (173, ⟨T_laws_Wr, 32, [(0, T_int_3), (1, T_S_u8)], false, none⟩), (177, ⟨T_impl_Wr, 32, [(0, T_int_3), (1, T_S_u8)], false, none⟩), (181, ⟨T_u181, 40, [(0, T_int_3), (1, T_int_3), (2, T_int_3), (3, T_str)], false, none⟩), (182, ⟨T_impl_Rec, 40, [(0, T_int_3), (1, T_int_3), (2, T_int_3), (3, T_str)], false, none⟩), (212, ⟨T_laws_Db, 48, [(0, T_str), (1, T_int_3), (2, T_int_3), (3, T_int_3), (4, T_int_3)], false, none⟩), (214, ⟨T_laws_Asker, 80, [(0, T_int_3), (1, T_str), (2, T_int_3), (3, T_int_3), (4, T_int_3), (5, T_str), (6, T_int_3), (7, T_int_3)], false, none⟩), (216, ⟨T_laws_Line, 64, [(0, T_int_3), (1, T_str), (2, T_int_3), (3, T_int_3), (4, T_int_3), (5, T_int_3), (6, T_int_3)], false, none⟩), (227, ⟨T_u64_227, 8, [], false, none⟩), (258, ⟨T_u32, 4, [], false, none⟩)]
theorem tabOk : (tab.all fun p => tiOk Tryz.prog p.1 p.2) = true := by kernel_rfl
noncomputable def G : Prg := ⟨Tryz.prog, tab, tabOk, by kernel_rfl⟩
open Go.Shelf
theorem fn_strings_Join : fnOk G 171 Tryz.f171 := ⟨Tryz.func171, by kernel_rfl⟩
def lays156_ren : Go.Shelf.Ren := ⟨fun | 156 => 171 | 165 => 221 | 166 => 222 | 169 => 223 | 240 => 250 | 241 => 251 | 276 => 258 | 277 => 259 | n => n, fun | 31 => 149 | 9 => 9 | 3 => 3 | 4 => 4 | 0 => 0 | 20 => 20 | 72 => 237 | 76 => 241 | 70 => 235 | 37 => 97 | 75 => 240 | 127 => 256 | 164 => 262 | 5 => 5 | 80 => 243 | n => n, fun n => n⟩
theorem lays156 : Lays.n156 Tryz.prog lays156_ren where
  mixed := by kernel_rfl
  f156 := Tryz.func171.trans (congrArg some (by kernel_rfl))
  f165 := Tryz.func221.trans (congrArg some (by kernel_rfl))
  f166 := Tryz.func222.trans (congrArg some (by kernel_rfl))
  f169 := Tryz.func223.trans (congrArg some (by kernel_rfl))
  f240 := Tryz.func250.trans (congrArg some (by kernel_rfl))
  f241 := Tryz.func251.trans (congrArg some (by kernel_rfl))
  f276 := Tryz.func258.trans (congrArg some (by kernel_rfl))
  f277 := Tryz.func259.trans (congrArg some (by kernel_rfl))
  t0 := Tryz.underlying0
  a0 := Tryz.isAgg0
  z0 := Tryz.sizeOf0
  v0 := Tryz.zeroValue0
  t3 := Tryz.underlying3
  a3 := Tryz.isAgg3
  z3 := Tryz.sizeOf3
  v3 := Tryz.zeroValue3
  t4 := Tryz.underlying4
  a4 := Tryz.isAgg4
  z4 := Tryz.sizeOf4
  v4 := Tryz.zeroValue4
  t9 := Tryz.underlying9
  a9 := Tryz.isAgg9
  z9 := Tryz.sizeOf9
  v9 := Tryz.zeroValue9
  t20 := Tryz.underlying20
  a20 := Tryz.isAgg20
  z20 := Tryz.sizeOf20
  v20 := Tryz.zeroValue20
  t31 := Tryz.underlying149
  a31 := Tryz.isAgg149
  z31 := Tryz.sizeOf149
  v31 := Tryz.zeroValue149
  t37 := Tryz.underlying97
  a37 := Tryz.isAgg97
  z37 := Tryz.sizeOf97
  v37 := Tryz.zeroValue97
  t70 := Tryz.underlying235
  a70 := Tryz.isAgg235
  z70 := Tryz.sizeOf235
  v70 := Tryz.zeroValue235
  t72 := Tryz.underlying237
  a72 := Tryz.isAgg237
  z72 := Tryz.sizeOf237
  v72 := Tryz.zeroValue237
  t75 := Tryz.underlying240
  a75 := Tryz.isAgg240
  z75 := Tryz.sizeOf240
  v75 := Tryz.zeroValue240
  t76 := Tryz.underlying241
  a76 := Tryz.isAgg241
  z76 := Tryz.sizeOf241
  v76 := Tryz.zeroValue241
  t127 := Tryz.underlying256
  a127 := Tryz.isAgg256
  z127 := Tryz.sizeOf256
  v127 := Tryz.zeroValue256
  t164 := Tryz.underlying262
  a164 := Tryz.isAgg262
  z164 := Tryz.sizeOf262
  v164 := Tryz.zeroValue262
theorem extra156 : Builder.Extra Tryz.prog lays156_ren where
  sizeBuilder := by kernel_rfl
  liesBuilder := by kernel_rfl
  t5 := Tryz.underlying5
  a5 := Tryz.isAgg5
  z5 := Tryz.sizeOf5
  v5 := Tryz.zeroValue5
  infoByte := by kernel_rfl
  cellsByte := by kernel_rfl
  sizeByte := by kernel_rfl
  neB5 := by decide
theorem cells_str {w : World} {ok : Nat → Prop} : ∀ {xs : List ByteArray} {css : List (List Value)}, All2 (fun x r => K w ok .str x r) xs css → ∀ (j : Nat) (x : ByteArray), xs[j]? = some x → css.flatten[j]? = some (.string x)
  | [], [], _, j, x, h => by simp at h
  | y :: xs, c :: css, h, j, x, hj => by
    have h_gosem_cut : c = [.string y] := h.1
    subst h_gosem_cut
    cases j with
    | zero => simp at hj; subst hj; rfl
    | succ j => simpa using cells_str h.2 j x (by simpa using hj)
theorem call171 (xs : List ByteArray) (sep : ByteArray) (c : Nat) (A : Option Addr) (w : World) (hc : xs.length ≤ c) (hN : xs.length ≤ 1048576)
    (hcells : 0 < xs.length → ∃ ad, A = some ad ∧ ad.block < w.heap.size ∧ ∀ (j : Nat) x, xs[j]? = some x → w.cell? (ad.add j) = some (.string x))
    (hlen : (Lib.join (xs.map (·.data.toList)) sep.data.toList).length ≤ 1048576) :
    Calls Tryz.prog 171 #[.slice A xs.length c, .string sep] w fun e w' => e = .returned (.string ⟨(Lib.join (xs.map (·.data.toList)) sep.data.toList).toArray⟩) ∧ RowKit.Below w.heap.size w w' := by
  match xs, hc, hN, hcells, hlen with
  | [], hc, hN, hcells, hlen =>
    refine (Any.strings_Join_none lays156 extra156 A c sep w).mono ?_
    rintro e w' ⟨rfl, rfl⟩
    exact ⟨rfl, RowKit.Below.refl _ _⟩
  | x :: xs, hc, hN, hcells, hlen =>
    obtain ⟨⟨b, o, s⟩, rfl, h_gosem_cut, h_gosem_cut_init⟩ := hcells (by simp)
    have hs : s = none := by
      have h := h_gosem_cut_init 0 x rfl
      cases s with
      | none => rfl
      | some s =>
        simp only [Addr.add, if_pos, World.cell?] at h
        split at h <;> simp at h
    subst hs
    refine Any.strings_Join lays156 extra156 b o c (x :: xs) sep w ?_ h_gosem_cut (by omega) hc (by omega)
    intro j y hj
    have h := h_gosem_cut_init j y hj
    unfold Addr.add at h
    split at h
    · rename_i hj0; subst hj0; exact h
    · exact h
noncomputable def joinS (xs : List ByteArray) (sep : ByteArray) : Option ByteArray :=
  if xs.length ≤ 1048576 ∧ (Lib.join (xs.map (·.data.toList)) sep.data.toList).length ≤ 1048576 then some ⟨(Lib.join (xs.map (·.data.toList)) sep.data.toList).toArray⟩ else none
noncomputable def e_strings_Join (K : Nat) : Ent G.P where
  f := 171
  args := [T_S_str, T_str]
  one := true
  t := T_str
  fr := true
  ow := false
  g := fun x => joinS x.1 x.2.1
  ok := fun x => ⟨⟨_, fn_strings_Join.at_, fn_strings_Join.body, fn_strings_Join.name⟩, fun y hy w okA vs hok hv => by
    match vs, hv with
    | [u, v], hv =>
      obtain ⟨xs, sep, z⟩ := x
      have h_gosem_cut_init : v = .string sep := str_of_V hv.2.1
      obtain ⟨A, c, css, e_gosem_cut, e_gosem_cut_init, e_laws_FnExactKnownOf, e_laws_FnExactCounts, e_laws_FnExactWorldOk⟩ := slice_of_V hv.1
      have e_gosem_cut : u = .slice A (List.length xs) c := e_gosem_cut
      subst h_gosem_cut_init; subst e_gosem_cut
      have hy : joinS xs sep = some y := hy
      unfold joinS at hy
      split at hy
      · rename_i hb
        injection hy with hy
        subst hy
        refine (call171 xs sep c A w e_gosem_cut_init hb.1 (fun hp => ?_) hb.2).mono ?_
        · obtain ⟨ad, z1, z2, z3, z4⟩ := e_laws_FnExactWorldOk hp
          exact ⟨ad, z1, z3, fun j x hj => z4 j _ (cells_str e_laws_FnExactCounts j x hj)⟩
        · rintro e w' ⟨rfl, hbel⟩
          exact ⟨_, rfl, ⟨_, rfl, rfl⟩, (fun h => by cases h), ⟨hbel⟩⟩
      · cases hy⟩
noncomputable def g_strings_Join (K : Nat) (x0 : T_S_str.T) (x1 : T_str.T) : Option T_str.T := (e_strings_Join K).g (x0, x1, ())
theorem g_strings_Join.eq (K : Nat) (x0 : T_S_str.T) (x1 : T_str.T) : g_strings_Join K x0 x1 = joinS x0 x1 := rfl
set_option maxHeartbeats 1000000 in
theorem call243 (s : ByteArray) (c : Int) (w : World) :
    Calls Tryz.prog 243 #[.string s, .int .u8 c] w fun e w' => e = .returned (.int .i64 (Lib.indexByte s.data.toList c.toNat.toUInt8)) ∧ w' = w := by
  go_enter Tryz.func243, Tryz.ntmps243
  go_wp2
  rw [run_callFunc_extern Tryz.func255 (by kernel_rfl) (by kernel_rfl) (by kernel_rfl) (e := Extern.BytealgIndexByte.indexByte) (by kernel_rfl), Lib.run_indexByteString]
  simp only [Result.andThen]
  rw [Oper.upon_value]
  go_wp2
  go_ret
  exact ⟨rfl, rfl⟩
set_option maxHeartbeats 1000000 in
theorem call215 (s : ByteArray) (c : UInt8) (w : World) :
    Calls Tryz.prog 215 #[.string s, .string ⟨#[c]⟩] w fun e w' => e = .returned (.int .i64 (Lib.countByte s.data.toList c)) ∧ w' = w := by
  go_enter Tryz.func215, Tryz.ntmps215
  go_wp2
  rw [run_callFunc_extern Tryz.func242 (by kernel_rfl) (by kernel_rfl) (by kernel_rfl) (e := Extern.BytealgCount.count) (by kernel_rfl), Lib.run_countString]
  simp only [Result.andThen]
  rw [Oper.upon_value]
  go_wp2
  go_ret
  exact ⟨rfl, rfl⟩
theorem fn_internal_stringslite_IndexByte : fnOk G 243 Tryz.f243 := ⟨Tryz.func243, by kernel_rfl⟩
noncomputable def e_internal_stringslite_IndexByte (K : Nat) : Ent G.P where
  f := 243
  args := [T_str, T_u8]
  one := true
  t := T_int_3
  fr := true
  ow := false
  g := fun x => some (Lib.indexByte x.1.data.toList x.2.1.toNat.toUInt8)
  ok := fun x => ⟨⟨_, fn_internal_stringslite_IndexByte.at_, fn_internal_stringslite_IndexByte.body, fn_internal_stringslite_IndexByte.name⟩, fun y hy w okA vs hok hv => by
    match vs, hv with
    | [u, v], hv =>
      have h_gosem_cut := str_of_V hv.1
      have h_gosem_cut_init := int_of_V hv.2.1
      subst h_gosem_cut; subst h_gosem_cut_init
      injection hy with hy
      subst hy
      refine (call243 _ _ w).mono ?_
      rintro e w' ⟨rfl, rfl⟩
      exact ⟨_, rfl, ⟨_, rfl, rfl⟩, (fun h => by cases h), ⟨RowKit.Below.refl _ _⟩⟩⟩
noncomputable def g_internal_stringslite_IndexByte (K : Nat) (x0 : T_str.T) (x1 : T_u8.T) : Option T_int_3.T := (e_internal_stringslite_IndexByte K).g (x0, x1, ())
theorem g_internal_stringslite_IndexByte.eq (K : Nat) (x0 : T_str.T) (x1 : T_u8.T) : g_internal_stringslite_IndexByte K x0 x1 = some (Lib.indexByte x0.data.toList x1.toNat.toUInt8) := rfl
theorem fn_strings_Count : fnOk G 215 Tryz.f215 := ⟨Tryz.func215, by kernel_rfl⟩
def count1 (s p : ByteArray) : Option Int := match p with
  | ⟨⟨[c]⟩⟩ => some (Lib.countByte s.data.toList c : Int)
  | _ => none
noncomputable def e_strings_Count (K : Nat) : Ent G.P where
  f := 215
  args := [T_str, T_str]
  one := true
  t := T_int_3
  fr := true
  ow := false
  g := fun x => count1 x.1 x.2.1
  ok := fun x => ⟨⟨_, fn_strings_Count.at_, fn_strings_Count.body, fn_strings_Count.name⟩, fun y hy w okA vs hok hv => by
    match vs, hv with
    | [u, v], hv =>
      obtain ⟨s, p, z⟩ := x
      have h_gosem_cut := str_of_V hv.1
      have h_gosem_cut_init := str_of_V hv.2.1
      have h_gosem_cut : u = .string s := h_gosem_cut
      have h_gosem_cut_init : v = .string p := h_gosem_cut_init
      subst h_gosem_cut; subst h_gosem_cut_init
      have hy : count1 s p = some y := hy
      unfold count1 at hy
      split at hy
      · injection hy with hy
        subst hy
        refine (call215 _ _ w).mono ?_
        rintro e w' ⟨rfl, rfl⟩
        exact ⟨_, rfl, ⟨_, rfl, rfl⟩, (fun h => by cases h), ⟨RowKit.Below.refl _ _⟩⟩
      · cases hy⟩
noncomputable def g_strings_Count (K : Nat) (x0 : T_str.T) (x1 : T_str.T) : Option T_int_3.T := (e_strings_Count K).g (x0, x1, ())
theorem g_strings_Count.eq (K : Nat) (x0 : T_str.T) (x1 : T_str.T) : g_strings_Count K x0 x1 = count1 x0 x1 := rfl

/-! ### laws.szByteS -/
theorem fn_laws_szByteS : fnOk G 135 Tryz.f135 := ⟨Tryz.func135, by kernel_rfl⟩
noncomputable def e_laws_szByteS (K : Nat) : Ent G.P := mkEnt G 135 Tryz.f135 fn_laws_szByteS [T_S_u8, T_int] true T_int true [] K (fun _ => []) (fun _ => [])
noncomputable def g_laws_szByteS (K : Nat) (x0 : T_S_u8.T) (x1 : T_int.T) : Option T_int.T := (e_laws_szByteS K).g (x0, x1, ())
/-! ### laws.szByteSS -/
theorem fn_laws_szByteSS : fnOk G 80 Tryz.f80 := ⟨Tryz.func80, by kernel_rfl⟩
noncomputable def e_laws_szByteSS (K : Nat) : Ent G.P := mkEnt G 80 Tryz.f80 fn_laws_szByteSS [T_S_S_u8, T_int] true T_int true [e_laws_szByteS K] K (fun i => if i = 5 then [2, 3, 4, 6, 7, 8, 9, 10, 11, 12, 13, 14, 15, 16, 17, 18, 19, 20, 21, 22, 23, 24, 25, 26] else []) (fun i => if i = 5 then [] else [])
noncomputable def g_laws_szByteSS (K : Nat) (x0 : T_S_S_u8.T) (x1 : T_int.T) : Option T_int.T := (e_laws_szByteSS K).g (x0, x1, ())
noncomputable def L_laws_szByteSS_5 (K : Nat) (k : Nat) (x0 : T_S_S_u8.T) (v1 : T_int.T) (v5 : T_int.T) : Option T_int.T := resume (envOf G [e_laws_szByteS K] K (fun i => if i = 5 then [2, 3, 4, 6, 7, 8, 9, 10, 11, 12, 13, 14, 15, 16, 17, 18, 19, 20, 21, 22, 23, 24, 25, 26] else []) (fun i => if i = 5 then [] else [])) dokB true T_int true Tryz.f80 [1, 1, 1, 0, 1, 0] k (mkSt 27 [(0, .d T_S_S_u8 false x0), (1, .d T_int true v1), (5, .d T_int true v5)] [])
/-! ### laws.szWr -/
theorem fn_laws_szWr : fnOk G 136 Tryz.f136 := ⟨Tryz.func136, by kernel_rfl⟩
noncomputable def e_laws_szWr (K : Nat) : Ent G.P := mkEnt G 136 Tryz.f136 fn_laws_szWr [T_impl_Pack, T_int] true T_int true [e_laws_szByteS K] K (fun _ => []) (fun _ => [])
noncomputable def g_laws_szWr (K : Nat) (x0 : T_impl_Pack.T) (x1 : T_int.T) : Option T_int.T := (e_laws_szWr K).g (x0, x1, ())
/-! ### laws.szWrS -/
theorem fn_laws_szWrS : fnOk G 81 Tryz.f81 := ⟨Tryz.func81, by kernel_rfl⟩
noncomputable def e_laws_szWrS (K : Nat) : Ent G.P := mkEnt G 81 Tryz.f81 fn_laws_szWrS [T_S_laws_Wr, T_int] true T_int true [e_laws_szWr K] K (fun i => if i = 5 then [2, 3, 4, 6, 7, 8, 9, 10, 11, 12, 13, 14, 15, 16, 17, 18, 19, 20, 21, 22, 23, 24, 25, 26] else []) (fun i => if i = 5 then [] else [])
noncomputable def g_laws_szWrS (K : Nat) (x0 : T_S_laws_Wr.T) (x1 : T_int.T) : Option T_int.T := (e_laws_szWrS K).g (x0, x1, ())
noncomputable def L_laws_szWrS_5 (K : Nat) (k : Nat) (x0 : T_S_laws_Wr.T) (v1 : T_int.T) (v5 : T_int.T) : Option T_int.T := resume (envOf G [e_laws_szWr K] K (fun i => if i = 5 then [2, 3, 4, 6, 7, 8, 9, 10, 11, 12, 13, 14, 15, 16, 17, 18, 19, 20, 21, 22, 23, 24, 25, 26] else []) (fun i => if i = 5 then [] else [])) dokB true T_int true Tryz.f81 [1, 1, 1, 0, 1, 0] k (mkSt 27 [(0, .d T_S_laws_Wr false x0), (1, .d T_int true v1), (5, .d T_int true v5)] [])
/-! ### laws.szDisk -/
theorem fn_laws_szDisk : fnOk G 32 Tryz.f32 := ⟨Tryz.func32, by kernel_rfl⟩
noncomputable def e_laws_szDisk (K : Nat) : Ent G.P := mkEnt G 32 Tryz.f32 fn_laws_szDisk [T_laws_Disk, T_int] true T_int true [e_laws_szByteSS K, e_laws_szWrS K] K (fun _ => []) (fun _ => [])
noncomputable def g_laws_szDisk (K : Nat) (x0 : T_laws_Disk.T) (x1 : T_int.T) : Option T_int.T := (e_laws_szDisk K).g (x0, x1, ())
/-! ### laws.szSock -/
theorem fn_laws_szSock : fnOk G 82 Tryz.f82 := ⟨Tryz.func82, by kernel_rfl⟩
noncomputable def e_laws_szSock (K : Nat) : Ent G.P := mkEnt G 82 Tryz.f82 fn_laws_szSock [T_impl_Sock, T_int] true T_int true [e_laws_szByteS K] K (fun _ => []) (fun _ => [])
noncomputable def g_laws_szSock (K : Nat) (x0 : T_impl_Sock.T) (x1 : T_int.T) : Option T_int.T := (e_laws_szSock K).g (x0, x1, ())
/-! ### laws.szSockS -/
theorem fn_laws_szSockS : fnOk G 33 Tryz.f33 := ⟨Tryz.func33, by kernel_rfl⟩
noncomputable def e_laws_szSockS (K : Nat) : Ent G.P := mkEnt G 33 Tryz.f33 fn_laws_szSockS [T_S_laws_Sock, T_int] true T_int true [e_laws_szSock K] K (fun i => if i = 5 then [2, 3, 4, 6, 7, 8, 9, 10, 11, 12, 13, 14, 15, 16, 17, 18, 19, 20, 21, 22, 23, 24, 25, 26] else []) (fun i => if i = 5 then [] else [])
noncomputable def g_laws_szSockS (K : Nat) (x0 : T_S_laws_Sock.T) (x1 : T_int.T) : Option T_int.T := (e_laws_szSockS K).g (x0, x1, ())
noncomputable def L_laws_szSockS_5 (K : Nat) (k : Nat) (x0 : T_S_laws_Sock.T) (v1 : T_int.T) (v5 : T_int.T) : Option T_int.T := resume (envOf G [e_laws_szSock K] K (fun i => if i = 5 then [2, 3, 4, 6, 7, 8, 9, 10, 11, 12, 13, 14, 15, 16, 17, 18, 19, 20, 21, 22, 23, 24, 25, 26] else []) (fun i => if i = 5 then [] else [])) dokB true T_int true Tryz.f33 [1, 1, 1, 0, 1, 0] k (mkSt 27 [(0, .d T_S_laws_Sock false x0), (1, .d T_int true v1), (5, .d T_int true v5)] [])
/-! ### laws.szDb -/
theorem fn_laws_szDb : fnOk G 193 Tryz.f193 := ⟨Tryz.func193, by kernel_rfl⟩
noncomputable def e_laws_szDb (K : Nat) : Ent G.P := mkEnt G 193 Tryz.f193 fn_laws_szDb [T_impl_Db, T_int] true T_int true [] K (fun _ => []) (fun _ => [])
noncomputable def g_laws_szDb (K : Nat) (x0 : T_impl_Db.T) (x1 : T_int.T) : Option T_int.T := (e_laws_szDb K).g (x0, x1, ())
/-! ### laws.szDbS -/
theorem fn_laws_szDbS : fnOk G 137 Tryz.f137 := ⟨Tryz.func137, by kernel_rfl⟩
noncomputable def e_laws_szDbS (K : Nat) : Ent G.P := mkEnt G 137 Tryz.f137 fn_laws_szDbS [T_S_laws_Db, T_int] true T_int true [e_laws_szDb K] K (fun i => if i = 5 then [2, 3, 4, 6, 7, 8, 9, 10, 11, 12, 13, 14, 15, 16, 17, 18, 19, 20, 21, 22, 23, 24, 25, 26] else []) (fun i => if i = 5 then [] else [])
noncomputable def g_laws_szDbS (K : Nat) (x0 : T_S_laws_Db.T) (x1 : T_int.T) : Option T_int.T := (e_laws_szDbS K).g (x0, x1, ())
noncomputable def L_laws_szDbS_5 (K : Nat) (k : Nat) (x0 : T_S_laws_Db.T) (v1 : T_int.T) (v5 : T_int.T) : Option T_int.T := resume (envOf G [e_laws_szDb K] K (fun i => if i = 5 then [2, 3, 4, 6, 7, 8, 9, 10, 11, 12, 13, 14, 15, 16, 17, 18, 19, 20, 21, 22, 23, 24, 25, 26] else []) (fun i => if i = 5 then [] else [])) dokB true T_int true Tryz.f137 [1, 1, 1, 0, 1, 0] k (mkSt 27 [(0, .d T_S_laws_Db false x0), (1, .d T_int true v1), (5, .d T_int true v5)] [])
/-! ### laws.szAsker -/
theorem fn_laws_szAsker : fnOk G 194 Tryz.f194 := ⟨Tryz.func194, by kernel_rfl⟩
noncomputable def e_laws_szAsker (K : Nat) : Ent G.P := mkEnt G 194 Tryz.f194 fn_laws_szAsker [T_impl_Asker, T_int] true T_int true [] K (fun _ => []) (fun _ => [])
noncomputable def g_laws_szAsker (K : Nat) (x0 : T_impl_Asker.T) (x1 : T_int.T) : Option T_int.T := (e_laws_szAsker K).g (x0, x1, ())
/-! ### laws.szAskerS -/
theorem fn_laws_szAskerS : fnOk G 138 Tryz.f138 := ⟨Tryz.func138, by kernel_rfl⟩
noncomputable def e_laws_szAskerS (K : Nat) : Ent G.P := mkEnt G 138 Tryz.f138 fn_laws_szAskerS [T_S_laws_Asker, T_int] true T_int true [e_laws_szAsker K] K (fun i => if i = 5 then [2, 3, 4, 6, 7, 8, 9, 10, 11, 12, 13, 14, 15, 16, 17, 18, 19, 20, 21, 22, 23, 24, 25, 26] else []) (fun i => if i = 5 then [] else [])
noncomputable def g_laws_szAskerS (K : Nat) (x0 : T_S_laws_Asker.T) (x1 : T_int.T) : Option T_int.T := (e_laws_szAskerS K).g (x0, x1, ())
noncomputable def L_laws_szAskerS_5 (K : Nat) (k : Nat) (x0 : T_S_laws_Asker.T) (v1 : T_int.T) (v5 : T_int.T) : Option T_int.T := resume (envOf G [e_laws_szAsker K] K (fun i => if i = 5 then [2, 3, 4, 6, 7, 8, 9, 10, 11, 12, 13, 14, 15, 16, 17, 18, 19, 20, 21, 22, 23, 24, 25, 26] else []) (fun i => if i = 5 then [] else [])) dokB true T_int true Tryz.f138 [1, 1, 1, 0, 1, 0] k (mkSt 27 [(0, .d T_S_laws_Asker false x0), (1, .d T_int true v1), (5, .d T_int true v5)] [])
/-! ### laws.szLine -/
theorem fn_laws_szLine : fnOk G 195 Tryz.f195 := ⟨Tryz.func195, by kernel_rfl⟩
noncomputable def e_laws_szLine (K : Nat) : Ent G.P := mkEnt G 195 Tryz.f195 fn_laws_szLine [T_impl_Line, T_int] true T_int true [] K (fun _ => []) (fun _ => [])
noncomputable def g_laws_szLine (K : Nat) (x0 : T_impl_Line.T) (x1 : T_int.T) : Option T_int.T := (e_laws_szLine K).g (x0, x1, ())
/-! ### laws.szLineS -/
theorem fn_laws_szLineS : fnOk G 139 Tryz.f139 := ⟨Tryz.func139, by kernel_rfl⟩
noncomputable def e_laws_szLineS (K : Nat) : Ent G.P := mkEnt G 139 Tryz.f139 fn_laws_szLineS [T_S_laws_Line, T_int] true T_int true [e_laws_szLine K] K (fun i => if i = 5 then [2, 3, 4, 6, 7, 8, 9, 10, 11, 12, 13, 14, 15, 16, 17, 18, 19, 20, 21, 22, 23, 24, 25, 26] else []) (fun i => if i = 5 then [] else [])
noncomputable def g_laws_szLineS (K : Nat) (x0 : T_S_laws_Line.T) (x1 : T_int.T) : Option T_int.T := (e_laws_szLineS K).g (x0, x1, ())
noncomputable def L_laws_szLineS_5 (K : Nat) (k : Nat) (x0 : T_S_laws_Line.T) (v1 : T_int.T) (v5 : T_int.T) : Option T_int.T := resume (envOf G [e_laws_szLine K] K (fun i => if i = 5 then [2, 3, 4, 6, 7, 8, 9, 10, 11, 12, 13, 14, 15, 16, 17, 18, 19, 20, 21, 22, 23, 24, 25, 26] else []) (fun i => if i = 5 then [] else [])) dokB true T_int true Tryz.f139 [1, 1, 1, 0, 1, 0] k (mkSt 27 [(0, .d T_S_laws_Line false x0), (1, .d T_int true v1), (5, .d T_int true v5)] [])
/-! ### laws.szHouse -/
theorem fn_laws_szHouse : fnOk G 83 Tryz.f83 := ⟨Tryz.func83, by kernel_rfl⟩
noncomputable def e_laws_szHouse (K : Nat) : Ent G.P := mkEnt G 83 Tryz.f83 fn_laws_szHouse [T_laws_House, T_int] true T_int true [e_laws_szDbS K, e_laws_szAskerS K, e_laws_szLineS K] K (fun _ => []) (fun _ => [])
noncomputable def g_laws_szHouse (K : Nat) (x0 : T_laws_House.T) (x1 : T_int.T) : Option T_int.T := (e_laws_szHouse K).g (x0, x1, ())
/-! ### laws.szHouseS -/
theorem fn_laws_szHouseS : fnOk G 34 Tryz.f34 := ⟨Tryz.func34, by kernel_rfl⟩
noncomputable def e_laws_szHouseS (K : Nat) : Ent G.P := mkEnt G 34 Tryz.f34 fn_laws_szHouseS [T_S_laws_House, T_int] true T_int true [e_laws_szHouse K] K (fun i => if i = 5 then [2, 3, 4, 6, 7, 8, 9, 10, 11, 12, 13, 14, 15, 16, 17, 18, 19, 20, 21, 22, 23, 24, 25, 26] else []) (fun i => if i = 5 then [] else [])
noncomputable def g_laws_szHouseS (K : Nat) (x0 : T_S_laws_House.T) (x1 : T_int.T) : Option T_int.T := (e_laws_szHouseS K).g (x0, x1, ())
noncomputable def L_laws_szHouseS_5 (K : Nat) (k : Nat) (x0 : T_S_laws_House.T) (v1 : T_int.T) (v5 : T_int.T) : Option T_int.T := resume (envOf G [e_laws_szHouse K] K (fun i => if i = 5 then [2, 3, 4, 6, 7, 8, 9, 10, 11, 12, 13, 14, 15, 16, 17, 18, 19, 20, 21, 22, 23, 24, 25, 26] else []) (fun i => if i = 5 then [] else [])) dokB true T_int true Tryz.f34 [1, 1, 1, 0, 1, 0] k (mkSt 27 [(0, .d T_S_laws_House false x0), (1, .d T_int true v1), (5, .d T_int true v5)] [])
/-! ### laws.szPack -/
theorem fn_laws_szPack : fnOk G 84 Tryz.f84 := ⟨Tryz.func84, by kernel_rfl⟩
noncomputable def e_laws_szPack (K : Nat) : Ent G.P := mkEnt G 84 Tryz.f84 fn_laws_szPack [T_impl_Pack, T_int] true T_int true [e_laws_szByteS K] K (fun _ => []) (fun _ => [])
noncomputable def g_laws_szPack (K : Nat) (x0 : T_impl_Pack.T) (x1 : T_int.T) : Option T_int.T := (e_laws_szPack K).g (x0, x1, ())
/-! ### laws.szPackS -/
theorem fn_laws_szPackS : fnOk G 35 Tryz.f35 := ⟨Tryz.func35, by kernel_rfl⟩
noncomputable def e_laws_szPackS (K : Nat) : Ent G.P := mkEnt G 35 Tryz.f35 fn_laws_szPackS [T_S_laws_Pack, T_int] true T_int true [e_laws_szPack K] K (fun i => if i = 5 then [2, 3, 4, 6, 7, 8, 9, 10, 11, 12, 13, 14, 15, 16, 17, 18, 19, 20, 21, 22, 23, 24, 25, 26] else []) (fun i => if i = 5 then [] else [])
noncomputable def g_laws_szPackS (K : Nat) (x0 : T_S_laws_Pack.T) (x1 : T_int.T) : Option T_int.T := (e_laws_szPackS K).g (x0, x1, ())
noncomputable def L_laws_szPackS_5 (K : Nat) (k : Nat) (x0 : T_S_laws_Pack.T) (v1 : T_int.T) (v5 : T_int.T) : Option T_int.T := resume (envOf G [e_laws_szPack K] K (fun i => if i = 5 then [2, 3, 4, 6, 7, 8, 9, 10, 11, 12, 13, 14, 15, 16, 17, 18, 19, 20, 21, 22, 23, 24, 25, 26] else []) (fun i => if i = 5 then [] else [])) dokB true T_int true Tryz.f35 [1, 1, 1, 0, 1, 0] k (mkSt 27 [(0, .d T_S_laws_Pack false x0), (1, .d T_int true v1), (5, .d T_int true v5)] [])
/-! ### laws.szNoteS -/
theorem fn_laws_szNoteS : fnOk G 36 Tryz.f36 := ⟨Tryz.func36, by kernel_rfl⟩
noncomputable def e_laws_szNoteS (K : Nat) : Ent G.P := mkEnt G 36 Tryz.f36 fn_laws_szNoteS [T_S_laws_Note, T_int] true T_int true [] K (fun _ => []) (fun _ => [])
noncomputable def g_laws_szNoteS (K : Nat) (x0 : T_S_laws_Note.T) (x1 : T_int.T) : Option T_int.T := (e_laws_szNoteS K).g (x0, x1, ())
/-! ### laws.szWorld -/
theorem fn_laws_szWorld : fnOk G 10 Tryz.f10 := ⟨Tryz.func10, by kernel_rfl⟩
noncomputable def e_laws_szWorld (K : Nat) : Ent G.P := mkEnt G 10 Tryz.f10 fn_laws_szWorld [T_laws_World, T_int] true T_int true [e_laws_szDisk K, e_laws_szSockS K, e_laws_szHouseS K, e_laws_szPackS K, e_laws_szNoteS K] K (fun _ => []) (fun _ => [])
noncomputable def g_laws_szWorld (K : Nat) (x0 : T_laws_World.T) (x1 : T_int.T) : Option T_int.T := (e_laws_szWorld K).g (x0, x1, ())
/-! ### laws.toByteS -/
theorem fn_laws_toByteS : fnOk G 146 Tryz.f146 := ⟨Tryz.func146, by kernel_rfl⟩
noncomputable def e_laws_toByteS (K : Nat) : Ent G.P := mkEntO G 146 Tryz.f146 fn_laws_toByteS [T_S_u8] 5 T_u8 true [] K (fun i => if i = 3 then [1, 2, 5, 6, 7, 8, 9, 10, 11, 12, 13, 14, 15, 16, 17, 18, 19, 20, 21] else []) (fun i => if i = 3 then [2] else [])
noncomputable def g_laws_toByteS (K : Nat) (x0 : T_S_u8.T) : Option T_S_u8.T := (e_laws_toByteS K).g (x0, ())
noncomputable def L_laws_toByteS_3 (K : Nat) (k : Nat) (x0 : T_S_u8.T) (v4 : T_int.T) (o7 : T_S_u8.T) : Option T_S_u8.T := resumeO (envOf G [] K (fun i => if i = 3 then [1, 2, 5, 6, 7, 8, 9, 10, 11, 12, 13, 14, 15, 16, 17, 18, 19, 20, 21] else []) (fun i => if i = 3 then [2] else [])) dokB 5 T_u8 true Tryz.f146 [1, 1, 0, 1, 0] k (mkSt 22 [(0, .d T_S_u8 false x0), (3, .own 7), (4, .d T_int true v4)] [(7, .arr 5 T_u8 true o7)])
/-! ### laws.toByteSS -/
theorem fn_laws_toByteSS : fnOk G 89 Tryz.f89 := ⟨Tryz.func89, by kernel_rfl⟩
noncomputable def e_laws_toByteSS (K : Nat) : Ent G.P := mkEntO G 89 Tryz.f89 fn_laws_toByteSS [T_S_S_u8] 97 T_S_u8 true [e_laws_toByteS K] K (fun i => if i = 3 then [1, 2, 5, 6, 7, 8, 9, 10, 11, 12, 13, 14, 15, 16, 17, 18, 19, 20, 21, 22] else []) (fun i => if i = 3 then [2, 20] else [])
noncomputable def g_laws_toByteSS (K : Nat) (x0 : T_S_S_u8.T) : Option T_S_S_u8.T := (e_laws_toByteSS K).g (x0, ())
noncomputable def L_laws_toByteSS_3 (K : Nat) (k : Nat) (x0 : T_S_S_u8.T) (v4 : T_int.T) (o7 : T_S_S_u8.T) : Option T_S_S_u8.T := resumeO (envOf G [e_laws_toByteS K] K (fun i => if i = 3 then [1, 2, 5, 6, 7, 8, 9, 10, 11, 12, 13, 14, 15, 16, 17, 18, 19, 20, 21, 22] else []) (fun i => if i = 3 then [2, 20] else [])) dokB 97 T_S_u8 true Tryz.f89 [1, 1, 0, 1, 0] k (mkSt 23 [(0, .d T_S_S_u8 false x0), (3, .own 7), (4, .d T_int true v4)] [(7, .arr 97 T_S_u8 true o7)])
/-! ### laws.toWr -/
theorem fn_laws_toWr : fnOk G 147 Tryz.f147 := ⟨Tryz.func147, by kernel_rfl⟩
noncomputable def e_laws_toWr (K : Nat) : Ent G.P := mkEnt G 147 Tryz.f147 fn_laws_toWr [T_impl_Pack] true T_impl_Pack true [e_laws_toByteS K] K (fun _ => []) (fun _ => [])
noncomputable def g_laws_toWr (K : Nat) (x0 : T_impl_Pack.T) : Option T_impl_Pack.T := (e_laws_toWr K).g (x0, ())
/-! ### laws.toWrS -/
theorem fn_laws_toWrS : fnOk G 90 Tryz.f90 := ⟨Tryz.func90, by kernel_rfl⟩
noncomputable def e_laws_toWrS (K : Nat) : Ent G.P := mkEntO G 90 Tryz.f90 fn_laws_toWrS [T_S_laws_Wr] 177 T_impl_Pack true [e_laws_toWr K] K (fun i => if i = 3 then [1, 2, 5, 6, 7, 8, 9, 10, 11, 12, 13, 14, 15, 16, 17, 18, 19, 20, 21, 22] else []) (fun i => if i = 3 then [2] else [])
noncomputable def g_laws_toWrS (K : Nat) (x0 : T_S_laws_Wr.T) : Option T_S_impl_Wr.T := (e_laws_toWrS K).g (x0, ())
noncomputable def L_laws_toWrS_3 (K : Nat) (k : Nat) (x0 : T_S_laws_Wr.T) (v4 : T_int.T) (o7 : T_S_impl_Wr.T) : Option T_S_impl_Wr.T := resumeO (envOf G [e_laws_toWr K] K (fun i => if i = 3 then [1, 2, 5, 6, 7, 8, 9, 10, 11, 12, 13, 14, 15, 16, 17, 18, 19, 20, 21, 22] else []) (fun i => if i = 3 then [2] else [])) dokB 177 T_impl_Pack true Tryz.f90 [1, 1, 0, 1, 0] k (mkSt 23 [(0, .d T_S_laws_Wr false x0), (3, .own 7), (4, .d T_int true v4)] [(7, .arr 177 T_impl_Pack true o7)])
/-! ### laws.toDisk -/
theorem fn_laws_toDisk : fnOk G 38 Tryz.f38 := ⟨Tryz.func38, by kernel_rfl⟩
noncomputable def e_laws_toDisk (K : Nat) : Ent G.P := mkEnt G 38 Tryz.f38 fn_laws_toDisk [T_laws_Disk] true T_impl_Disk true [e_laws_toByteSS K, e_laws_toWrS K] K (fun _ => []) (fun _ => [])
noncomputable def g_laws_toDisk (K : Nat) (x0 : T_laws_Disk.T) : Option T_impl_Disk.T := (e_laws_toDisk K).g (x0, ())
/-! ### laws.toSock -/
theorem fn_laws_toSock : fnOk G 91 Tryz.f91 := ⟨Tryz.func91, by kernel_rfl⟩
noncomputable def e_laws_toSock (K : Nat) : Ent G.P := mkEnt G 91 Tryz.f91 fn_laws_toSock [T_impl_Sock] true T_impl_Sock true [e_laws_toByteS K] K (fun _ => []) (fun _ => [])
noncomputable def g_laws_toSock (K : Nat) (x0 : T_impl_Sock.T) : Option T_impl_Sock.T := (e_laws_toSock K).g (x0, ())
/-! ### laws.toSockS -/
theorem fn_laws_toSockS : fnOk G 39 Tryz.f39 := ⟨Tryz.func39, by kernel_rfl⟩
noncomputable def e_laws_toSockS (K : Nat) : Ent G.P := mkEntO G 39 Tryz.f39 fn_laws_toSockS [T_S_laws_Sock] 99 T_impl_Sock true [e_laws_toSock K] K (fun i => if i = 3 then [1, 2, 5, 6, 7, 8, 9, 10, 11, 12, 13, 14, 15, 16, 17, 18, 19, 20, 21, 22] else []) (fun i => if i = 3 then [2] else [])
noncomputable def g_laws_toSockS (K : Nat) (x0 : T_S_laws_Sock.T) : Option T_S_impl_Sock.T := (e_laws_toSockS K).g (x0, ())
noncomputable def L_laws_toSockS_3 (K : Nat) (k : Nat) (x0 : T_S_laws_Sock.T) (v4 : T_int.T) (o7 : T_S_impl_Sock.T) : Option T_S_impl_Sock.T := resumeO (envOf G [e_laws_toSock K] K (fun i => if i = 3 then [1, 2, 5, 6, 7, 8, 9, 10, 11, 12, 13, 14, 15, 16, 17, 18, 19, 20, 21, 22] else []) (fun i => if i = 3 then [2] else [])) dokB 99 T_impl_Sock true Tryz.f39 [1, 1, 0, 1, 0] k (mkSt 23 [(0, .d T_S_laws_Sock false x0), (3, .own 7), (4, .d T_int true v4)] [(7, .arr 99 T_impl_Sock true o7)])
/-! ### laws.toDb -/
theorem fn_laws_toDb : fnOk G 202 Tryz.f202 := ⟨Tryz.func202, by kernel_rfl⟩
noncomputable def e_laws_toDb (K : Nat) : Ent G.P := mkEnt G 202 Tryz.f202 fn_laws_toDb [T_impl_Db] true T_impl_Db true [] K (fun _ => []) (fun _ => [])
noncomputable def g_laws_toDb (K : Nat) (x0 : T_impl_Db.T) : Option T_impl_Db.T := (e_laws_toDb K).g (x0, ())
/-! ### laws.toDbS -/
theorem fn_laws_toDbS : fnOk G 148 Tryz.f148 := ⟨Tryz.func148, by kernel_rfl⟩
noncomputable def e_laws_toDbS (K : Nat) : Ent G.P := mkEntO G 148 Tryz.f148 fn_laws_toDbS [T_S_laws_Db] 81 T_impl_Db true [e_laws_toDb K] K (fun i => if i = 3 then [1, 2, 5, 6, 7, 8, 9, 10, 11, 12, 13, 14, 15, 16, 17, 18, 19, 20, 21, 22] else []) (fun i => if i = 3 then [2] else [])
noncomputable def g_laws_toDbS (K : Nat) (x0 : T_S_laws_Db.T) : Option T_S_impl_Db.T := (e_laws_toDbS K).g (x0, ())
noncomputable def L_laws_toDbS_3 (K : Nat) (k : Nat) (x0 : T_S_laws_Db.T) (v4 : T_int.T) (o7 : T_S_impl_Db.T) : Option T_S_impl_Db.T := resumeO (envOf G [e_laws_toDb K] K (fun i => if i = 3 then [1, 2, 5, 6, 7, 8, 9, 10, 11, 12, 13, 14, 15, 16, 17, 18, 19, 20, 21, 22] else []) (fun i => if i = 3 then [2] else [])) dokB 81 T_impl_Db true Tryz.f148 [1, 1, 0, 1, 0] k (mkSt 23 [(0, .d T_S_laws_Db false x0), (3, .own 7), (4, .d T_int true v4)] [(7, .arr 81 T_impl_Db true o7)])
/-! ### laws.toAsker -/
theorem fn_laws_toAsker : fnOk G 203 Tryz.f203 := ⟨Tryz.func203, by kernel_rfl⟩
noncomputable def e_laws_toAsker (K : Nat) : Ent G.P := mkEnt G 203 Tryz.f203 fn_laws_toAsker [T_impl_Asker] true T_impl_Asker true [] K (fun _ => []) (fun _ => [])
noncomputable def g_laws_toAsker (K : Nat) (x0 : T_impl_Asker.T) : Option T_impl_Asker.T := (e_laws_toAsker K).g (x0, ())
/-! ### laws.toAskerS -/
theorem fn_laws_toAskerS : fnOk G 149 Tryz.f149 := ⟨Tryz.func149, by kernel_rfl⟩
noncomputable def e_laws_toAskerS (K : Nat) : Ent G.P := mkEntO G 149 Tryz.f149 fn_laws_toAskerS [T_S_laws_Asker] 111 T_impl_Asker true [e_laws_toAsker K] K (fun i => if i = 3 then [1, 2, 5, 6, 7, 8, 9, 10, 11, 12, 13, 14, 15, 16, 17, 18, 19, 20, 21, 22] else []) (fun i => if i = 3 then [2] else [])
noncomputable def g_laws_toAskerS (K : Nat) (x0 : T_S_laws_Asker.T) : Option T_S_impl_Asker.T := (e_laws_toAskerS K).g (x0, ())
noncomputable def L_laws_toAskerS_3 (K : Nat) (k : Nat) (x0 : T_S_laws_Asker.T) (v4 : T_int.T) (o7 : T_S_impl_Asker.T) : Option T_S_impl_Asker.T := resumeO (envOf G [e_laws_toAsker K] K (fun i => if i = 3 then [1, 2, 5, 6, 7, 8, 9, 10, 11, 12, 13, 14, 15, 16, 17, 18, 19, 20, 21, 22] else []) (fun i => if i = 3 then [2] else [])) dokB 111 T_impl_Asker true Tryz.f149 [1, 1, 0, 1, 0] k (mkSt 23 [(0, .d T_S_laws_Asker false x0), (3, .own 7), (4, .d T_int true v4)] [(7, .arr 111 T_impl_Asker true o7)])
/-! ### laws.toLine -/
theorem fn_laws_toLine : fnOk G 204 Tryz.f204 := ⟨Tryz.func204, by kernel_rfl⟩
noncomputable def e_laws_toLine (K : Nat) : Ent G.P := mkEnt G 204 Tryz.f204 fn_laws_toLine [T_impl_Line] true T_impl_Line true [] K (fun _ => []) (fun _ => [])
noncomputable def g_laws_toLine (K : Nat) (x0 : T_impl_Line.T) : Option T_impl_Line.T := (e_laws_toLine K).g (x0, ())
/-! ### laws.toLineS -/
theorem fn_laws_toLineS : fnOk G 150 Tryz.f150 := ⟨Tryz.func150, by kernel_rfl⟩
noncomputable def e_laws_toLineS (K : Nat) : Ent G.P := mkEntO G 150 Tryz.f150 fn_laws_toLineS [T_S_laws_Line] 114 T_impl_Line true [e_laws_toLine K] K (fun i => if i = 3 then [1, 2, 5, 6, 7, 8, 9, 10, 11, 12, 13, 14, 15, 16, 17, 18, 19, 20, 21, 22] else []) (fun i => if i = 3 then [2] else [])
noncomputable def g_laws_toLineS (K : Nat) (x0 : T_S_laws_Line.T) : Option T_S_impl_Line.T := (e_laws_toLineS K).g (x0, ())
noncomputable def L_laws_toLineS_3 (K : Nat) (k : Nat) (x0 : T_S_laws_Line.T) (v4 : T_int.T) (o7 : T_S_impl_Line.T) : Option T_S_impl_Line.T := resumeO (envOf G [e_laws_toLine K] K (fun i => if i = 3 then [1, 2, 5, 6, 7, 8, 9, 10, 11, 12, 13, 14, 15, 16, 17, 18, 19, 20, 21, 22] else []) (fun i => if i = 3 then [2] else [])) dokB 114 T_impl_Line true Tryz.f150 [1, 1, 0, 1, 0] k (mkSt 23 [(0, .d T_S_laws_Line false x0), (3, .own 7), (4, .d T_int true v4)] [(7, .arr 114 T_impl_Line true o7)])
/-! ### laws.toHand -/
theorem fn_laws_toHand : fnOk G 151 Tryz.f151 := ⟨Tryz.func151, by kernel_rfl⟩
noncomputable def e_laws_toHand (K : Nat) : Ent G.P := mkEnt G 151 Tryz.f151 fn_laws_toHand [T_impl_Hand] true T_impl_Hand true [] K (fun _ => []) (fun _ => [])
noncomputable def g_laws_toHand (K : Nat) (x0 : T_impl_Hand.T) : Option T_impl_Hand.T := (e_laws_toHand K).g (x0, ())
/-! ### laws.toHouse -/
theorem fn_laws_toHouse : fnOk G 92 Tryz.f92 := ⟨Tryz.func92, by kernel_rfl⟩
noncomputable def e_laws_toHouse (K : Nat) : Ent G.P := mkEnt G 92 Tryz.f92 fn_laws_toHouse [T_laws_House] true T_impl_House true [e_laws_toDbS K, e_laws_toAskerS K, e_laws_toLineS K, e_laws_toHand K] K (fun _ => []) (fun _ => [])
noncomputable def g_laws_toHouse (K : Nat) (x0 : T_laws_House.T) : Option T_impl_House.T := (e_laws_toHouse K).g (x0, ())
/-! ### laws.toHouseS -/
theorem fn_laws_toHouseS : fnOk G 40 Tryz.f40 := ⟨Tryz.func40, by kernel_rfl⟩
noncomputable def e_laws_toHouseS (K : Nat) : Ent G.P := mkEntO G 40 Tryz.f40 fn_laws_toHouseS [T_S_laws_House] 96 T_impl_House true [e_laws_toHouse K] K (fun i => if i = 3 then [1, 2, 5, 6, 7, 8, 9, 10, 11, 12, 13, 14, 15, 16, 17, 18, 19, 20, 21, 22] else []) (fun i => if i = 3 then [2] else [])
noncomputable def g_laws_toHouseS (K : Nat) (x0 : T_S_laws_House.T) : Option T_S_impl_House.T := (e_laws_toHouseS K).g (x0, ())
noncomputable def L_laws_toHouseS_3 (K : Nat) (k : Nat) (x0 : T_S_laws_House.T) (v4 : T_int.T) (o7 : T_S_impl_House.T) : Option T_S_impl_House.T := resumeO (envOf G [e_laws_toHouse K] K (fun i => if i = 3 then [1, 2, 5, 6, 7, 8, 9, 10, 11, 12, 13, 14, 15, 16, 17, 18, 19, 20, 21, 22] else []) (fun i => if i = 3 then [2] else [])) dokB 96 T_impl_House true Tryz.f40 [1, 1, 0, 1, 0] k (mkSt 23 [(0, .d T_S_laws_House false x0), (3, .own 7), (4, .d T_int true v4)] [(7, .arr 96 T_impl_House true o7)])
/-! ### laws.toPack -/
theorem fn_laws_toPack : fnOk G 93 Tryz.f93 := ⟨Tryz.func93, by kernel_rfl⟩
noncomputable def e_laws_toPack (K : Nat) : Ent G.P := mkEnt G 93 Tryz.f93 fn_laws_toPack [T_impl_Pack] true T_impl_Pack true [e_laws_toByteS K] K (fun _ => []) (fun _ => [])
noncomputable def g_laws_toPack (K : Nat) (x0 : T_impl_Pack.T) : Option T_impl_Pack.T := (e_laws_toPack K).g (x0, ())
/-! ### laws.toPackS -/
theorem fn_laws_toPackS : fnOk G 41 Tryz.f41 := ⟨Tryz.func41, by kernel_rfl⟩
noncomputable def e_laws_toPackS (K : Nat) : Ent G.P := mkEntO G 41 Tryz.f41 fn_laws_toPackS [T_S_laws_Pack] 139 T_impl_Pack true [e_laws_toPack K] K (fun i => if i = 3 then [1, 2, 5, 6, 7, 8, 9, 10, 11, 12, 13, 14, 15, 16, 17, 18, 19, 20, 21, 22] else []) (fun i => if i = 3 then [2] else [])
noncomputable def g_laws_toPackS (K : Nat) (x0 : T_S_laws_Pack.T) : Option T_S_impl_Pack.T := (e_laws_toPackS K).g (x0, ())
noncomputable def L_laws_toPackS_3 (K : Nat) (k : Nat) (x0 : T_S_laws_Pack.T) (v4 : T_int.T) (o7 : T_S_impl_Pack.T) : Option T_S_impl_Pack.T := resumeO (envOf G [e_laws_toPack K] K (fun i => if i = 3 then [1, 2, 5, 6, 7, 8, 9, 10, 11, 12, 13, 14, 15, 16, 17, 18, 19, 20, 21, 22] else []) (fun i => if i = 3 then [2] else [])) dokB 139 T_impl_Pack true Tryz.f41 [1, 1, 0, 1, 0] k (mkSt 23 [(0, .d T_S_laws_Pack false x0), (3, .own 7), (4, .d T_int true v4)] [(7, .arr 139 T_impl_Pack true o7)])
/-! ### laws.toNote -/
theorem fn_laws_toNote : fnOk G 94 Tryz.f94 := ⟨Tryz.func94, by kernel_rfl⟩
noncomputable def e_laws_toNote (K : Nat) : Ent G.P := mkEnt G 94 Tryz.f94 fn_laws_toNote [T_impl_Note] true T_impl_Note true [] K (fun _ => []) (fun _ => [])
noncomputable def g_laws_toNote (K : Nat) (x0 : T_impl_Note.T) : Option T_impl_Note.T := (e_laws_toNote K).g (x0, ())
/-! ### laws.toNoteS -/
theorem fn_laws_toNoteS : fnOk G 42 Tryz.f42 := ⟨Tryz.func42, by kernel_rfl⟩
noncomputable def e_laws_toNoteS (K : Nat) : Ent G.P := mkEntO G 42 Tryz.f42 fn_laws_toNoteS [T_S_laws_Note] 102 T_impl_Note true [e_laws_toNote K] K (fun i => if i = 3 then [1, 2, 5, 6, 7, 8, 9, 10, 11, 12, 13, 14, 15, 16, 17, 18, 19, 20, 21, 22] else []) (fun i => if i = 3 then [2] else [])
noncomputable def g_laws_toNoteS (K : Nat) (x0 : T_S_laws_Note.T) : Option T_S_impl_Note.T := (e_laws_toNoteS K).g (x0, ())
noncomputable def L_laws_toNoteS_3 (K : Nat) (k : Nat) (x0 : T_S_laws_Note.T) (v4 : T_int.T) (o7 : T_S_impl_Note.T) : Option T_S_impl_Note.T := resumeO (envOf G [e_laws_toNote K] K (fun i => if i = 3 then [1, 2, 5, 6, 7, 8, 9, 10, 11, 12, 13, 14, 15, 16, 17, 18, 19, 20, 21, 22] else []) (fun i => if i = 3 then [2] else [])) dokB 102 T_impl_Note true Tryz.f42 [1, 1, 0, 1, 0] k (mkSt 23 [(0, .d T_S_laws_Note false x0), (3, .own 7), (4, .d T_int true v4)] [(7, .arr 102 T_impl_Note true o7)])
/-! ### laws.toWorld -/
theorem fn_laws_toWorld : fnOk G 12 Tryz.f12 := ⟨Tryz.func12, by kernel_rfl⟩
noncomputable def e_laws_toWorld (K : Nat) : Ent G.P := mkEnt G 12 Tryz.f12 fn_laws_toWorld [T_laws_World] true T_impl_World true [e_laws_toDisk K, e_laws_toSockS K, e_laws_toHouseS K, e_laws_toPackS K, e_laws_toNoteS K] K (fun _ => []) (fun _ => [])
noncomputable def g_laws_toWorld (K : Nat) (x0 : T_laws_World.T) : Option T_impl_World.T := (e_laws_toWorld K).g (x0, ())
/-! ### laws.eqByteS -/
theorem fn_laws_eqByteS : fnOk G 159 Tryz.f159 := ⟨Tryz.func159, by kernel_rfl⟩
noncomputable def e_laws_eqByteS (K : Nat) : Ent G.P := mkEnt G 159 Tryz.f159 fn_laws_eqByteS [T_S_u8, T_S_u8] true T_bool true [] K (fun i => if i = 4 then [2, 3, 4, 6, 7, 8, 9, 10, 11, 12, 13, 14, 15, 16, 17, 18, 19, 20, 21, 22, 23, 24, 25] else []) (fun i => if i = 4 then [] else [])
noncomputable def g_laws_eqByteS (K : Nat) (x0 : T_S_u8.T) (x1 : T_S_u8.T) : Option T_bool.T := (e_laws_eqByteS K).g (x0, x1, ())
noncomputable def L_laws_eqByteS_4 (K : Nat) (k : Nat) (x0 : T_S_u8.T) (x1 : T_S_u8.T) (v5 : T_int.T) : Option T_bool.T := resume (envOf G [] K (fun i => if i = 4 then [2, 3, 4, 6, 7, 8, 9, 10, 11, 12, 13, 14, 15, 16, 17, 18, 19, 20, 21, 22, 23, 24, 25] else []) (fun i => if i = 4 then [] else [])) dokB true T_bool true Tryz.f159 [1, 1, 0, 1, 0] k (mkSt 26 [(0, .d T_S_u8 false x0), (1, .d T_S_u8 false x1), (5, .d T_int true v5)] [])
/-! ### laws.eqByteSS -/
theorem fn_laws_eqByteSS : fnOk G 99 Tryz.f99 := ⟨Tryz.func99, by kernel_rfl⟩
noncomputable def e_laws_eqByteSS (K : Nat) : Ent G.P := mkEnt G 99 Tryz.f99 fn_laws_eqByteSS [T_S_S_u8, T_S_S_u8] true T_bool true [e_laws_eqByteS K] K (fun i => if i = 4 then [2, 3, 4, 6, 7, 8, 9, 10, 11, 12, 13, 14, 15, 16, 17, 18, 19, 20, 21, 22, 23, 24, 25, 26] else []) (fun i => if i = 4 then [] else [])
noncomputable def g_laws_eqByteSS (K : Nat) (x0 : T_S_S_u8.T) (x1 : T_S_S_u8.T) : Option T_bool.T := (e_laws_eqByteSS K).g (x0, x1, ())
noncomputable def L_laws_eqByteSS_4 (K : Nat) (k : Nat) (x0 : T_S_S_u8.T) (x1 : T_S_S_u8.T) (v5 : T_int.T) : Option T_bool.T := resume (envOf G [e_laws_eqByteS K] K (fun i => if i = 4 then [2, 3, 4, 6, 7, 8, 9, 10, 11, 12, 13, 14, 15, 16, 17, 18, 19, 20, 21, 22, 23, 24, 25, 26] else []) (fun i => if i = 4 then [] else [])) dokB true T_bool true Tryz.f99 [1, 1, 0, 1, 0] k (mkSt 27 [(0, .d T_S_S_u8 false x0), (1, .d T_S_S_u8 false x1), (5, .d T_int true v5)] [])
/-! ### laws.eqWr -/
theorem fn_laws_eqWr : fnOk G 160 Tryz.f160 := ⟨Tryz.func160, by kernel_rfl⟩
noncomputable def e_laws_eqWr (K : Nat) : Ent G.P := mkEnt G 160 Tryz.f160 fn_laws_eqWr [T_impl_Pack, T_impl_Pack] true T_bool true [e_laws_eqByteS K] K (fun _ => []) (fun _ => [])
noncomputable def g_laws_eqWr (K : Nat) (x0 : T_impl_Pack.T) (x1 : T_impl_Pack.T) : Option T_bool.T := (e_laws_eqWr K).g (x0, x1, ())
/-! ### laws.eqWrS -/
theorem fn_laws_eqWrS : fnOk G 100 Tryz.f100 := ⟨Tryz.func100, by kernel_rfl⟩
noncomputable def e_laws_eqWrS (K : Nat) : Ent G.P := mkEnt G 100 Tryz.f100 fn_laws_eqWrS [T_S_impl_Wr, T_S_impl_Wr] true T_bool true [e_laws_eqWr K] K (fun i => if i = 4 then [2, 3, 4, 6, 7, 8, 9, 10, 11, 12, 13, 14, 15, 16, 17, 18, 19, 20, 21, 22, 23, 24, 25, 26] else []) (fun i => if i = 4 then [] else [])
noncomputable def g_laws_eqWrS (K : Nat) (x0 : T_S_impl_Wr.T) (x1 : T_S_impl_Wr.T) : Option T_bool.T := (e_laws_eqWrS K).g (x0, x1, ())
noncomputable def L_laws_eqWrS_4 (K : Nat) (k : Nat) (x0 : T_S_impl_Wr.T) (x1 : T_S_impl_Wr.T) (v5 : T_int.T) : Option T_bool.T := resume (envOf G [e_laws_eqWr K] K (fun i => if i = 4 then [2, 3, 4, 6, 7, 8, 9, 10, 11, 12, 13, 14, 15, 16, 17, 18, 19, 20, 21, 22, 23, 24, 25, 26] else []) (fun i => if i = 4 then [] else [])) dokB true T_bool true Tryz.f100 [1, 1, 0, 1, 0] k (mkSt 27 [(0, .d T_S_impl_Wr false x0), (1, .d T_S_impl_Wr false x1), (5, .d T_int true v5)] [])
/-! ### laws.eqDisk -/
theorem fn_laws_eqDisk : fnOk G 44 Tryz.f44 := ⟨Tryz.func44, by kernel_rfl⟩
noncomputable def e_laws_eqDisk (K : Nat) : Ent G.P := mkEnt G 44 Tryz.f44 fn_laws_eqDisk [T_impl_Disk, T_impl_Disk] true T_bool true [e_laws_eqByteSS K, e_laws_eqWrS K] K (fun _ => []) (fun _ => [])
noncomputable def g_laws_eqDisk (K : Nat) (x0 : T_impl_Disk.T) (x1 : T_impl_Disk.T) : Option T_bool.T := (e_laws_eqDisk K).g (x0, x1, ())
/-! ### laws.eqSock -/
theorem fn_laws_eqSock : fnOk G 101 Tryz.f101 := ⟨Tryz.func101, by kernel_rfl⟩
noncomputable def e_laws_eqSock (K : Nat) : Ent G.P := mkEnt G 101 Tryz.f101 fn_laws_eqSock [T_impl_Sock, T_impl_Sock] true T_bool true [e_laws_eqByteS K] K (fun _ => []) (fun _ => [])
noncomputable def g_laws_eqSock (K : Nat) (x0 : T_impl_Sock.T) (x1 : T_impl_Sock.T) : Option T_bool.T := (e_laws_eqSock K).g (x0, x1, ())
/-! ### laws.eqSockS -/
theorem fn_laws_eqSockS : fnOk G 45 Tryz.f45 := ⟨Tryz.func45, by kernel_rfl⟩
noncomputable def e_laws_eqSockS (K : Nat) : Ent G.P := mkEnt G 45 Tryz.f45 fn_laws_eqSockS [T_S_impl_Sock, T_S_impl_Sock] true T_bool true [e_laws_eqSock K] K (fun i => if i = 4 then [2, 3, 4, 6, 7, 8, 9, 10, 11, 12, 13, 14, 15, 16, 17, 18, 19, 20, 21, 22, 23, 24, 25, 26] else []) (fun i => if i = 4 then [] else [])
noncomputable def g_laws_eqSockS (K : Nat) (x0 : T_S_impl_Sock.T) (x1 : T_S_impl_Sock.T) : Option T_bool.T := (e_laws_eqSockS K).g (x0, x1, ())
noncomputable def L_laws_eqSockS_4 (K : Nat) (k : Nat) (x0 : T_S_impl_Sock.T) (x1 : T_S_impl_Sock.T) (v5 : T_int.T) : Option T_bool.T := resume (envOf G [e_laws_eqSock K] K (fun i => if i = 4 then [2, 3, 4, 6, 7, 8, 9, 10, 11, 12, 13, 14, 15, 16, 17, 18, 19, 20, 21, 22, 23, 24, 25, 26] else []) (fun i => if i = 4 then [] else [])) dokB true T_bool true Tryz.f45 [1, 1, 0, 1, 0] k (mkSt 27 [(0, .d T_S_impl_Sock false x0), (1, .d T_S_impl_Sock false x1), (5, .d T_int true v5)] [])
/-! ### laws.eqDb -/
theorem fn_laws_eqDb : fnOk G 51 Tryz.f51 := ⟨Tryz.func51, by kernel_rfl⟩
noncomputable def e_laws_eqDb (K : Nat) : Ent G.P := mkEnt G 51 Tryz.f51 fn_laws_eqDb [T_impl_Db, T_impl_Db] true T_bool true [] K (fun _ => []) (fun _ => [])
noncomputable def g_laws_eqDb (K : Nat) (x0 : T_impl_Db.T) (x1 : T_impl_Db.T) : Option T_bool.T := (e_laws_eqDb K).g (x0, x1, ())
/-! ### laws.eqDbS -/
theorem fn_laws_eqDbS : fnOk G 18 Tryz.f18 := ⟨Tryz.func18, by kernel_rfl⟩
noncomputable def e_laws_eqDbS (K : Nat) : Ent G.P := mkEnt G 18 Tryz.f18 fn_laws_eqDbS [T_S_impl_Db, T_S_impl_Db] true T_bool true [e_laws_eqDb K] K (fun i => if i = 4 then [2, 3, 4, 6, 7, 8, 9, 10, 11, 12, 13, 14, 15, 16, 17, 18, 19, 20, 21, 22, 23, 24, 25, 26] else []) (fun i => if i = 4 then [] else [])
noncomputable def g_laws_eqDbS (K : Nat) (x0 : T_S_impl_Db.T) (x1 : T_S_impl_Db.T) : Option T_bool.T := (e_laws_eqDbS K).g (x0, x1, ())
noncomputable def L_laws_eqDbS_4 (K : Nat) (k : Nat) (x0 : T_S_impl_Db.T) (x1 : T_S_impl_Db.T) (v5 : T_int.T) : Option T_bool.T := resume (envOf G [e_laws_eqDb K] K (fun i => if i = 4 then [2, 3, 4, 6, 7, 8, 9, 10, 11, 12, 13, 14, 15, 16, 17, 18, 19, 20, 21, 22, 23, 24, 25, 26] else []) (fun i => if i = 4 then [] else [])) dokB true T_bool true Tryz.f18 [1, 1, 0, 1, 0] k (mkSt 27 [(0, .d T_S_impl_Db false x0), (1, .d T_S_impl_Db false x1), (5, .d T_int true v5)] [])
/-! ### laws.eqAsker -/
theorem fn_laws_eqAsker : fnOk G 211 Tryz.f211 := ⟨Tryz.func211, by kernel_rfl⟩
noncomputable def e_laws_eqAsker (K : Nat) : Ent G.P := mkEnt G 211 Tryz.f211 fn_laws_eqAsker [T_impl_Asker, T_impl_Asker] true T_bool true [] K (fun _ => []) (fun _ => [])
noncomputable def g_laws_eqAsker (K : Nat) (x0 : T_impl_Asker.T) (x1 : T_impl_Asker.T) : Option T_bool.T := (e_laws_eqAsker K).g (x0, x1, ())
/-! ### laws.eqAskerS -/
theorem fn_laws_eqAskerS : fnOk G 161 Tryz.f161 := ⟨Tryz.func161, by kernel_rfl⟩
noncomputable def e_laws_eqAskerS (K : Nat) : Ent G.P := mkEnt G 161 Tryz.f161 fn_laws_eqAskerS [T_S_impl_Asker, T_S_impl_Asker] true T_bool true [e_laws_eqAsker K] K (fun i => if i = 4 then [2, 3, 4, 6, 7, 8, 9, 10, 11, 12, 13, 14, 15, 16, 17, 18, 19, 20, 21, 22, 23, 24, 25, 26] else []) (fun i => if i = 4 then [] else [])
noncomputable def g_laws_eqAskerS (K : Nat) (x0 : T_S_impl_Asker.T) (x1 : T_S_impl_Asker.T) : Option T_bool.T := (e_laws_eqAskerS K).g (x0, x1, ())
noncomputable def L_laws_eqAskerS_4 (K : Nat) (k : Nat) (x0 : T_S_impl_Asker.T) (x1 : T_S_impl_Asker.T) (v5 : T_int.T) : Option T_bool.T := resume (envOf G [e_laws_eqAsker K] K (fun i => if i = 4 then [2, 3, 4, 6, 7, 8, 9, 10, 11, 12, 13, 14, 15, 16, 17, 18, 19, 20, 21, 22, 23, 24, 25, 26] else []) (fun i => if i = 4 then [] else [])) dokB true T_bool true Tryz.f161 [1, 1, 0, 1, 0] k (mkSt 27 [(0, .d T_S_impl_Asker false x0), (1, .d T_S_impl_Asker false x1), (5, .d T_int true v5)] [])
/-! ### laws.eqLine -/
theorem fn_laws_eqLine : fnOk G 212 Tryz.f212 := ⟨Tryz.func212, by kernel_rfl⟩
noncomputable def e_laws_eqLine (K : Nat) : Ent G.P := mkEnt G 212 Tryz.f212 fn_laws_eqLine [T_impl_Line, T_impl_Line] true T_bool true [] K (fun _ => []) (fun _ => [])
noncomputable def g_laws_eqLine (K : Nat) (x0 : T_impl_Line.T) (x1 : T_impl_Line.T) : Option T_bool.T := (e_laws_eqLine K).g (x0, x1, ())
/-! ### laws.eqLineS -/
theorem fn_laws_eqLineS : fnOk G 162 Tryz.f162 := ⟨Tryz.func162, by kernel_rfl⟩
noncomputable def e_laws_eqLineS (K : Nat) : Ent G.P := mkEnt G 162 Tryz.f162 fn_laws_eqLineS [T_S_impl_Line, T_S_impl_Line] true T_bool true [e_laws_eqLine K] K (fun i => if i = 4 then [2, 3, 4, 6, 7, 8, 9, 10, 11, 12, 13, 14, 15, 16, 17, 18, 19, 20, 21, 22, 23, 24, 25, 26] else []) (fun i => if i = 4 then [] else [])
noncomputable def g_laws_eqLineS (K : Nat) (x0 : T_S_impl_Line.T) (x1 : T_S_impl_Line.T) : Option T_bool.T := (e_laws_eqLineS K).g (x0, x1, ())
noncomputable def L_laws_eqLineS_4 (K : Nat) (k : Nat) (x0 : T_S_impl_Line.T) (x1 : T_S_impl_Line.T) (v5 : T_int.T) : Option T_bool.T := resume (envOf G [e_laws_eqLine K] K (fun i => if i = 4 then [2, 3, 4, 6, 7, 8, 9, 10, 11, 12, 13, 14, 15, 16, 17, 18, 19, 20, 21, 22, 23, 24, 25, 26] else []) (fun i => if i = 4 then [] else [])) dokB true T_bool true Tryz.f162 [1, 1, 0, 1, 0] k (mkSt 27 [(0, .d T_S_impl_Line false x0), (1, .d T_S_impl_Line false x1), (5, .d T_int true v5)] [])
/-! ### laws.eqHand -/
theorem fn_laws_eqHand : fnOk G 163 Tryz.f163 := ⟨Tryz.func163, by kernel_rfl⟩
noncomputable def e_laws_eqHand (K : Nat) : Ent G.P := mkEnt G 163 Tryz.f163 fn_laws_eqHand [T_impl_Hand, T_impl_Hand] true T_bool true [] K (fun _ => []) (fun _ => [])
noncomputable def g_laws_eqHand (K : Nat) (x0 : T_impl_Hand.T) (x1 : T_impl_Hand.T) : Option T_bool.T := (e_laws_eqHand K).g (x0, x1, ())
/-! ### laws.eqHouse -/
theorem fn_laws_eqHouse : fnOk G 102 Tryz.f102 := ⟨Tryz.func102, by kernel_rfl⟩
noncomputable def e_laws_eqHouse (K : Nat) : Ent G.P := mkEnt G 102 Tryz.f102 fn_laws_eqHouse [T_impl_House, T_impl_House] true T_bool true [e_laws_eqDbS K, e_laws_eqAskerS K, e_laws_eqLineS K, e_laws_eqHand K] K (fun _ => []) (fun _ => [])
noncomputable def g_laws_eqHouse (K : Nat) (x0 : T_impl_House.T) (x1 : T_impl_House.T) : Option T_bool.T := (e_laws_eqHouse K).g (x0, x1, ())
/-! ### laws.eqHouseS -/
theorem fn_laws_eqHouseS : fnOk G 46 Tryz.f46 := ⟨Tryz.func46, by kernel_rfl⟩
noncomputable def e_laws_eqHouseS (K : Nat) : Ent G.P := mkEnt G 46 Tryz.f46 fn_laws_eqHouseS [T_S_impl_House, T_S_impl_House] true T_bool true [e_laws_eqHouse K] K (fun i => if i = 4 then [2, 3, 4, 6, 7, 8, 9, 10, 11, 12, 13, 14, 15, 16, 17, 18, 19, 20, 21, 22, 23, 24, 25, 26] else []) (fun i => if i = 4 then [] else [])
noncomputable def g_laws_eqHouseS (K : Nat) (x0 : T_S_impl_House.T) (x1 : T_S_impl_House.T) : Option T_bool.T := (e_laws_eqHouseS K).g (x0, x1, ())
noncomputable def L_laws_eqHouseS_4 (K : Nat) (k : Nat) (x0 : T_S_impl_House.T) (x1 : T_S_impl_House.T) (v5 : T_int.T) : Option T_bool.T := resume (envOf G [e_laws_eqHouse K] K (fun i => if i = 4 then [2, 3, 4, 6, 7, 8, 9, 10, 11, 12, 13, 14, 15, 16, 17, 18, 19, 20, 21, 22, 23, 24, 25, 26] else []) (fun i => if i = 4 then [] else [])) dokB true T_bool true Tryz.f46 [1, 1, 0, 1, 0] k (mkSt 27 [(0, .d T_S_impl_House false x0), (1, .d T_S_impl_House false x1), (5, .d T_int true v5)] [])
/-! ### laws.eqPack -/
theorem fn_laws_eqPack : fnOk G 103 Tryz.f103 := ⟨Tryz.func103, by kernel_rfl⟩
noncomputable def e_laws_eqPack (K : Nat) : Ent G.P := mkEnt G 103 Tryz.f103 fn_laws_eqPack [T_impl_Pack, T_impl_Pack] true T_bool true [e_laws_eqByteS K] K (fun _ => []) (fun _ => [])
noncomputable def g_laws_eqPack (K : Nat) (x0 : T_impl_Pack.T) (x1 : T_impl_Pack.T) : Option T_bool.T := (e_laws_eqPack K).g (x0, x1, ())
/-! ### laws.eqPackS -/
theorem fn_laws_eqPackS : fnOk G 47 Tryz.f47 := ⟨Tryz.func47, by kernel_rfl⟩
noncomputable def e_laws_eqPackS (K : Nat) : Ent G.P := mkEnt G 47 Tryz.f47 fn_laws_eqPackS [T_S_impl_Pack, T_S_impl_Pack] true T_bool true [e_laws_eqPack K] K (fun i => if i = 4 then [2, 3, 4, 6, 7, 8, 9, 10, 11, 12, 13, 14, 15, 16, 17, 18, 19, 20, 21, 22, 23, 24, 25, 26] else []) (fun i => if i = 4 then [] else [])
noncomputable def g_laws_eqPackS (K : Nat) (x0 : T_S_impl_Pack.T) (x1 : T_S_impl_Pack.T) : Option T_bool.T := (e_laws_eqPackS K).g (x0, x1, ())
noncomputable def L_laws_eqPackS_4 (K : Nat) (k : Nat) (x0 : T_S_impl_Pack.T) (x1 : T_S_impl_Pack.T) (v5 : T_int.T) : Option T_bool.T := resume (envOf G [e_laws_eqPack K] K (fun i => if i = 4 then [2, 3, 4, 6, 7, 8, 9, 10, 11, 12, 13, 14, 15, 16, 17, 18, 19, 20, 21, 22, 23, 24, 25, 26] else []) (fun i => if i = 4 then [] else [])) dokB true T_bool true Tryz.f47 [1, 1, 0, 1, 0] k (mkSt 27 [(0, .d T_S_impl_Pack false x0), (1, .d T_S_impl_Pack false x1), (5, .d T_int true v5)] [])
/-! ### laws.eqNote -/
theorem fn_laws_eqNote : fnOk G 104 Tryz.f104 := ⟨Tryz.func104, by kernel_rfl⟩
noncomputable def e_laws_eqNote (K : Nat) : Ent G.P := mkEnt G 104 Tryz.f104 fn_laws_eqNote [T_impl_Note, T_impl_Note] true T_bool true [] K (fun _ => []) (fun _ => [])
noncomputable def g_laws_eqNote (K : Nat) (x0 : T_impl_Note.T) (x1 : T_impl_Note.T) : Option T_bool.T := (e_laws_eqNote K).g (x0, x1, ())
/-! ### laws.eqNoteS -/
theorem fn_laws_eqNoteS : fnOk G 48 Tryz.f48 := ⟨Tryz.func48, by kernel_rfl⟩
noncomputable def e_laws_eqNoteS (K : Nat) : Ent G.P := mkEnt G 48 Tryz.f48 fn_laws_eqNoteS [T_S_impl_Note, T_S_impl_Note] true T_bool true [e_laws_eqNote K] K (fun i => if i = 4 then [2, 3, 4, 6, 7, 8, 9, 10, 11, 12, 13, 14, 15, 16, 17, 18, 19, 20, 21, 22, 23, 24, 25, 26] else []) (fun i => if i = 4 then [] else [])
noncomputable def g_laws_eqNoteS (K : Nat) (x0 : T_S_impl_Note.T) (x1 : T_S_impl_Note.T) : Option T_bool.T := (e_laws_eqNoteS K).g (x0, x1, ())
noncomputable def L_laws_eqNoteS_4 (K : Nat) (k : Nat) (x0 : T_S_impl_Note.T) (x1 : T_S_impl_Note.T) (v5 : T_int.T) : Option T_bool.T := resume (envOf G [e_laws_eqNote K] K (fun i => if i = 4 then [2, 3, 4, 6, 7, 8, 9, 10, 11, 12, 13, 14, 15, 16, 17, 18, 19, 20, 21, 22, 23, 24, 25, 26] else []) (fun i => if i = 4 then [] else [])) dokB true T_bool true Tryz.f48 [1, 1, 0, 1, 0] k (mkSt 27 [(0, .d T_S_impl_Note false x0), (1, .d T_S_impl_Note false x1), (5, .d T_int true v5)] [])
/-! ### laws.eqWorld -/
theorem fn_laws_eqWorld : fnOk G 15 Tryz.f15 := ⟨Tryz.func15, by kernel_rfl⟩
noncomputable def e_laws_eqWorld (K : Nat) : Ent G.P := mkEnt G 15 Tryz.f15 fn_laws_eqWorld [T_impl_World, T_impl_World] true T_bool true [e_laws_eqDisk K, e_laws_eqSockS K, e_laws_eqHouseS K, e_laws_eqPackS K, e_laws_eqNoteS K] K (fun _ => []) (fun _ => [])
noncomputable def g_laws_eqWorld (K : Nat) (x0 : T_impl_World.T) (x1 : T_impl_World.T) : Option T_bool.T := (e_laws_eqWorld K).g (x0, x1, ())
/-! ### spec.l1In -/
theorem fn_spec_l1In : fnOk G 58 Tryz.f58 := ⟨Tryz.func58, by kernel_rfl⟩
noncomputable def e_spec_l1In (K : Nat) : Ent G.P := mkEnt G 58 Tryz.f58 fn_spec_l1In [T_int, T_int, T_int] true T_bool true [] K (fun _ => []) (fun _ => [])
noncomputable def g_spec_l1In (K : Nat) (x0 : T_int.T) (x1 : T_int.T) (x2 : T_int.T) : Option T_bool.T := (e_spec_l1In K).g (x0, x1, x2, ())
/-! ### spec.DiskOk -/
theorem fn_spec_DiskOk : fnOk G 85 Tryz.f85 := ⟨Tryz.func85, by kernel_rfl⟩
noncomputable def e_spec_DiskOk (K : Nat) : Ent G.P := mkEnt G 85 Tryz.f85 fn_spec_DiskOk [T_impl_Disk] true T_bool true [e_spec_l1In K] K (fun i => if i = 2 then [0, 2, 4, 5, 6, 7, 8, 9, 10, 11, 12, 13, 14, 15, 16, 17, 18, 19, 20, 21, 22, 23, 24, 25, 26, 27, 28, 29, 30, 31, 32, 33, 34, 35, 36, 37, 38, 39, 40, 41, 42, 43, 44, 45, 46, 47, 48, 49, 50, 51, 52, 53, 54, 55, 56, 57, 58, 59, 60, 61, 62] else if i = 7 then [0, 2, 3, 5, 6, 7, 8, 9, 10, 11, 12, 13, 14, 15, 16, 17, 18, 19, 20, 21, 22, 23, 24, 25, 26, 27, 28, 29, 30, 31, 32, 33, 34, 35, 36, 37, 38, 39, 40, 41, 42, 43, 44, 45, 46, 47, 48, 49, 50, 51, 52, 53, 54, 55, 56, 57, 58, 59, 60, 61, 62] else []) (fun i => if i = 2 then [] else if i = 7 then [] else [])
noncomputable def g_spec_DiskOk (K : Nat) (x0 : T_impl_Disk.T) : Option T_bool.T := (e_spec_DiskOk K).g (x0, ())
noncomputable def L_spec_DiskOk_2 (K : Nat) (k : Nat) (v3 : T_int.T) (o1 : T_impl_Disk.T) : Option T_bool.T := resume (envOf G [e_spec_l1In K] K (fun i => if i = 2 then [0, 2, 4, 5, 6, 7, 8, 9, 10, 11, 12, 13, 14, 15, 16, 17, 18, 19, 20, 21, 22, 23, 24, 25, 26, 27, 28, 29, 30, 31, 32, 33, 34, 35, 36, 37, 38, 39, 40, 41, 42, 43, 44, 45, 46, 47, 48, 49, 50, 51, 52, 53, 54, 55, 56, 57, 58, 59, 60, 61, 62] else if i = 7 then [0, 2, 3, 5, 6, 7, 8, 9, 10, 11, 12, 13, 14, 15, 16, 17, 18, 19, 20, 21, 22, 23, 24, 25, 26, 27, 28, 29, 30, 31, 32, 33, 34, 35, 36, 37, 38, 39, 40, 41, 42, 43, 44, 45, 46, 47, 48, 49, 50, 51, 52, 53, 54, 55, 56, 57, 58, 59, 60, 61, 62] else []) (fun i => if i = 2 then [] else if i = 7 then [] else [])) dokB true T_bool true Tryz.f85 [1, 0, 1, 0] k (mkSt 63 [(1, .ptr 1 0 T_impl_Disk), (3, .d T_int true v3)] [(1, .box T_impl_Disk false o1)])
noncomputable def L_spec_DiskOk_7 (K : Nat) (k : Nat) (v4 : T_int.T) (o1 : T_impl_Disk.T) : Option T_bool.T := resume (envOf G [e_spec_l1In K] K (fun i => if i = 2 then [0, 2, 4, 5, 6, 7, 8, 9, 10, 11, 12, 13, 14, 15, 16, 17, 18, 19, 20, 21, 22, 23, 24, 25, 26, 27, 28, 29, 30, 31, 32, 33, 34, 35, 36, 37, 38, 39, 40, 41, 42, 43, 44, 45, 46, 47, 48, 49, 50, 51, 52, 53, 54, 55, 56, 57, 58, 59, 60, 61, 62] else if i = 7 then [0, 2, 3, 5, 6, 7, 8, 9, 10, 11, 12, 13, 14, 15, 16, 17, 18, 19, 20, 21, 22, 23, 24, 25, 26, 27, 28, 29, 30, 31, 32, 33, 34, 35, 36, 37, 38, 39, 40, 41, 42, 43, 44, 45, 46, 47, 48, 49, 50, 51, 52, 53, 54, 55, 56, 57, 58, 59, 60, 61, 62] else []) (fun i => if i = 2 then [] else if i = 7 then [] else [])) dokB true T_bool true Tryz.f85 [1, 1, 0, 1, 0] k (mkSt 63 [(1, .ptr 1 0 T_impl_Disk), (4, .d T_int true v4)] [(1, .box T_impl_Disk false o1)])
/-! ### spec.ReadSec -/
theorem fn_spec_ReadSec : fnOk G 87 Tryz.f87 := ⟨Tryz.func87, by kernel_rfl⟩
noncomputable def e_spec_ReadSec (K : Nat) : Ent G.P := mkEntO G 87 Tryz.f87 fn_spec_ReadSec [T_impl_Disk, T_int] 5 T_u8 false [e_spec_DiskOk K, e_spec_l1In K] K (fun i => if i = 5 then [0, 3, 4, 7, 8, 9, 10, 11, 12, 13, 14, 15, 16, 17, 18, 19, 20, 21, 22, 23, 24, 25, 26, 27, 28, 29, 30, 31, 32, 33, 34, 35, 36, 37, 38, 39, 40, 41, 42, 43, 44, 45, 46, 47, 48] else []) (fun i => if i = 5 then [4] else [])
noncomputable def g_spec_ReadSec (K : Nat) (x0 : T_impl_Disk.T) (x1 : T_int.T) : Option T_S_u8.T := (e_spec_ReadSec K).g (x0, x1, ())
noncomputable def L_spec_ReadSec_5 (K : Nat) (k : Nat) (x1 : T_int.T) (v5 : T_S_u8.T) (v6 : T_int.T) (o2 : T_impl_Disk.T) : Option T_S_u8.T := resumeO (envOf G [e_spec_DiskOk K, e_spec_l1In K] K (fun i => if i = 5 then [0, 3, 4, 7, 8, 9, 10, 11, 12, 13, 14, 15, 16, 17, 18, 19, 20, 21, 22, 23, 24, 25, 26, 27, 28, 29, 30, 31, 32, 33, 34, 35, 36, 37, 38, 39, 40, 41, 42, 43, 44, 45, 46, 47, 48] else []) (fun i => if i = 5 then [4] else [])) dokB 5 T_u8 false Tryz.f87 [1, 1, 1, 0, 1, 0] k (mkSt 49 [(1, .d T_int true x1), (2, .ptr 2 0 T_impl_Disk), (5, .d T_S_u8 false v5), (6, .d T_int true v6)] [(2, .box T_impl_Disk false o2)])
/-! ### spec.GetWord -/
theorem fn_spec_GetWord : fnOk G 140 Tryz.f140 := ⟨Tryz.func140, by kernel_rfl⟩
noncomputable def e_spec_GetWord (K : Nat) : Ent G.P := mkEnt G 140 Tryz.f140 fn_spec_GetWord [T_S_u8, T_int] false (Ty.pair T_int (Ty.pair T_int (Ty.pair T_bool Ty.unit))) true [] K (fun _ => []) (fun _ => [])
noncomputable def g_spec_GetWord (K : Nat) (x0 : T_S_u8.T) (x1 : T_int.T) : Option (Ty.pair T_int (Ty.pair T_int (Ty.pair T_bool Ty.unit))).T := (e_spec_GetWord K).g (x0, x1, ())
/-! ### spec.PutWord -/
theorem fn_spec_PutWord : fnOk G 196 Tryz.f196 := ⟨Tryz.func196, by kernel_rfl⟩
noncomputable def e_spec_PutWord (K : Nat) : Ent G.P := mkEntO G 196 Tryz.f196 fn_spec_PutWord [T_S_u8, T_int] 5 T_u8 false [] K (fun _ => []) (fun _ => [])
noncomputable def g_spec_PutWord (K : Nat) (x0 : T_S_u8.T) (x1 : T_int.T) : Option T_S_u8.T := (e_spec_PutWord K).g (x0, x1, ())
/-! ### spec.Sum -/
theorem fn_spec_Sum : fnOk G 197 Tryz.f197 := ⟨Tryz.func197, by kernel_rfl⟩
noncomputable def e_spec_Sum (K : Nat) : Ent G.P := mkEnt G 197 Tryz.f197 fn_spec_Sum [T_S_u8] true T_int true [] K (fun i => if i = 3 then [1, 2, 5, 6, 7, 8, 9, 10, 11, 12, 13, 14, 15, 16, 17, 18, 19, 20, 21, 22, 23, 24, 25, 26, 27, 28, 29, 30, 31] else if i = 7 then [1, 2, 6, 7, 8, 9, 10, 11, 12, 13, 14, 15, 16, 17, 18, 19, 20, 21, 22, 23, 24, 25, 26, 27, 28, 29, 30, 31] else []) (fun i => if i = 3 then [] else if i = 7 then [] else [])
noncomputable def g_spec_Sum (K : Nat) (x0 : T_S_u8.T) : Option T_int.T := (e_spec_Sum K).g (x0, ())
noncomputable def L_spec_Sum_3 (K : Nat) (k : Nat) (x0 : T_S_u8.T) (v3 : T_int.T) (v4 : T_int.T) : Option T_int.T := resume (envOf G [] K (fun i => if i = 3 then [1, 2, 5, 6, 7, 8, 9, 10, 11, 12, 13, 14, 15, 16, 17, 18, 19, 20, 21, 22, 23, 24, 25, 26, 27, 28, 29, 30, 31] else if i = 7 then [1, 2, 6, 7, 8, 9, 10, 11, 12, 13, 14, 15, 16, 17, 18, 19, 20, 21, 22, 23, 24, 25, 26, 27, 28, 29, 30, 31] else []) (fun i => if i = 3 then [] else if i = 7 then [] else [])) dokB true T_int true Tryz.f197 [1, 1, 0, 1, 0] k (mkSt 32 [(0, .d T_S_u8 false x0), (3, .d T_int true v3), (4, .d T_int true v4)] [])
noncomputable def L_spec_Sum_7 (K : Nat) (k : Nat) (n0 : Nat) (x0 : T_S_u8.T) (v4 : T_int.T) (v3 : T_int.T) (v5 : T_int.T) : Option T_int.T := resume (envOf G [] K (fun i => if i = 3 then [1, 2, 5, 6, 7, 8, 9, 10, 11, 12, 13, 14, 15, 16, 17, 18, 19, 20, 21, 22, 23, 24, 25, 26, 27, 28, 29, 30, 31] else if i = 7 then [1, 2, 6, 7, 8, 9, 10, 11, 12, 13, 14, 15, 16, 17, 18, 19, 20, 21, 22, 23, 24, 25, 26, 27, 28, 29, 30, 31] else []) (fun i => if i = 3 then [] else if i = 7 then [] else [])) dokB true T_int true Tryz.f197 [1, 1, 0, 1, 0, n0 + 2, 1, 0, 0, 1, 1, 0] k (mkSt 32 [(0, .d T_S_u8 false x0), (3, .d T_int true v3), (4, .d T_int true v4), (5, .d T_int true v5)] [])
/-! ### spec.HeadOf -/
theorem fn_spec_HeadOf : fnOk G 142 Tryz.f142 := ⟨Tryz.func142, by kernel_rfl⟩
noncomputable def e_spec_HeadOf (K : Nat) : Ent G.P := mkEntO G 142 Tryz.f142 fn_spec_HeadOf [T_int, T_int] 5 T_u8 true [e_spec_l1In K, e_spec_PutWord K, e_spec_Sum K] K (fun _ => []) (fun _ => [])
noncomputable def g_spec_HeadOf (K : Nat) (x0 : T_int.T) (x1 : T_int.T) : Option T_S_u8.T := (e_spec_HeadOf K).g (x0, x1, ())
/-! ### spec.l1Same -/
theorem fn_spec_l1Same : fnOk G 141 Tryz.f141 := ⟨Tryz.func141, by kernel_rfl⟩
noncomputable def e_spec_l1Same (K : Nat) : Ent G.P := mkEnt G 141 Tryz.f141 fn_spec_l1Same [T_S_u8, T_S_u8] true T_bool true [] K (fun _ => []) (fun _ => [])
noncomputable def g_spec_l1Same (K : Nat) (x0 : T_S_u8.T) (x1 : T_S_u8.T) : Option T_bool.T := (e_spec_l1Same K).g (x0, x1, ())
/-! ### spec.GetHead -/
theorem fn_spec_GetHead : fnOk G 86 Tryz.f86 := ⟨Tryz.func86, by kernel_rfl⟩
noncomputable def e_spec_GetHead (K : Nat) : Ent G.P := mkEnt G 86 Tryz.f86 fn_spec_GetHead [T_S_u8] false (Ty.pair T_int (Ty.pair T_int (Ty.pair T_bool Ty.unit))) true [e_spec_GetWord K, e_spec_HeadOf K, e_spec_l1Same K] K (fun _ => []) (fun _ => [])
noncomputable def g_spec_GetHead (K : Nat) (x0 : T_S_u8.T) : Option (Ty.pair T_int (Ty.pair T_int (Ty.pair T_bool Ty.unit))).T := (e_spec_GetHead K).g (x0, ())
/-! ### spec.l5At -/
theorem fn_spec_l5At : fnOk G 144 Tryz.f144 := ⟨Tryz.func144, by kernel_rfl⟩
noncomputable def e_spec_l5At (K : Nat) : Ent G.P := mkEnt G 144 Tryz.f144 fn_spec_l5At [T_int, T_int] true T_int true [] K (fun _ => []) (fun _ => [])
noncomputable def g_spec_l5At (K : Nat) (x0 : T_int.T) (x1 : T_int.T) : Option T_int.T := (e_spec_l5At K).g (x0, x1, ())
/-! ### spec.TextOk -/
theorem fn_spec_TextOk : fnOk G 232 Tryz.f232 := ⟨Tryz.func232, by kernel_rfl⟩
noncomputable def e_spec_TextOk (K : Nat) : Ent G.P := mkEnt G 232 Tryz.f232 fn_spec_TextOk [T_str] true T_bool true [] K (fun i => if i = 2 then [1, 2, 4, 5, 6, 7, 8, 9, 10, 11, 12, 13, 14, 15, 16, 17, 18, 19, 20, 21, 22, 23, 24, 25, 26] else []) (fun i => if i = 2 then [] else [])
noncomputable def g_spec_TextOk (K : Nat) (x0 : T_str.T) : Option T_bool.T := (e_spec_TextOk K).g (x0, ())
noncomputable def L_spec_TextOk_2 (K : Nat) (k : Nat) (x0 : T_str.T) (v3 : T_int.T) : Option T_bool.T := resume (envOf G [] K (fun i => if i = 2 then [1, 2, 4, 5, 6, 7, 8, 9, 10, 11, 12, 13, 14, 15, 16, 17, 18, 19, 20, 21, 22, 23, 24, 25, 26] else []) (fun i => if i = 2 then [] else [])) dokB true T_bool true Tryz.f232 [1, 0, 1, 0] k (mkSt 27 [(0, .d T_str true x0), (3, .d T_int true v3)] [])
/-! ### spec.GetText -/
theorem fn_spec_GetText : fnOk G 198 Tryz.f198 := ⟨Tryz.func198, by kernel_rfl⟩
noncomputable def e_spec_GetText (K : Nat) : Ent G.P := mkEnt G 198 Tryz.f198 fn_spec_GetText [T_S_u8, T_int] false (Ty.pair T_str (Ty.pair T_int (Ty.pair T_bool Ty.unit))) true [e_spec_TextOk K] K (fun _ => []) (fun _ => [])
noncomputable def g_spec_GetText (K : Nat) (x0 : T_S_u8.T) (x1 : T_int.T) : Option (Ty.pair T_str (Ty.pair T_int (Ty.pair T_bool Ty.unit))).T := (e_spec_GetText K).g (x0, x1, ())
/-! ### spec.l3Split -/
theorem fn_spec_l3Split : fnOk G 164 Tryz.f164 := ⟨Tryz.func164, by kernel_rfl⟩
noncomputable def e_spec_l3Split (K : Nat) : Ent G.P := mkEntO G 164 Tryz.f164 fn_spec_l3Split [T_str, T_u8] 9 T_str true [] K (fun i => if i = 4 then [2, 3, 4, 8, 9, 10, 11, 12, 13, 14, 15, 16, 17, 18, 19, 20, 21, 22, 23, 24, 25, 26, 27, 28, 29, 30, 31, 32, 33, 34, 35] else []) (fun i => if i = 4 then [4, 31] else [])
noncomputable def g_spec_l3Split (K : Nat) (x0 : T_str.T) (x1 : T_u8.T) : Option T_S_str.T := (e_spec_l3Split K).g (x0, x1, ())
noncomputable def L_spec_l3Split_4 (K : Nat) (k : Nat) (x0 : T_str.T) (x1 : T_u8.T) (v6 : T_int.T) (v7 : T_int.T) (o8 : T_S_str.T) : Option T_S_str.T := resumeO (envOf G [] K (fun i => if i = 4 then [2, 3, 4, 8, 9, 10, 11, 12, 13, 14, 15, 16, 17, 18, 19, 20, 21, 22, 23, 24, 25, 26, 27, 28, 29, 30, 31, 32, 33, 34, 35] else []) (fun i => if i = 4 then [4, 31] else [])) dokB 9 T_str true Tryz.f164 [1, 1, 1, 0, 1, 0] k (mkSt 36 [(0, .d T_str true x0), (1, .d T_u8 true x1), (5, .own 8), (6, .d T_int true v6), (7, .d T_int true v7)] [(8, .arr 9 T_str true o8)])
/-! ### spec.ParseNum -/
theorem fn_spec_ParseNum : fnOk G 165 Tryz.f165 := ⟨Tryz.func165, by kernel_rfl⟩
noncomputable def e_spec_ParseNum (K : Nat) : Ent G.P := mkEnt G 165 Tryz.f165 fn_spec_ParseNum [T_str, T_int] false (Ty.pair T_int (Ty.pair T_bool Ty.unit)) true [e_spec_l1In K] K (fun i => if i = 5 then [2, 3, 4, 5, 8, 9, 10, 11, 12, 13, 14, 15, 16, 17, 18, 19, 20, 21, 22, 23, 24, 25, 26, 27, 28, 29, 30, 31, 32, 33, 34, 35, 36, 37, 38, 39, 40, 41, 42, 43, 44, 45, 46, 47, 48, 49, 50, 51, 52, 53] else []) (fun i => if i = 5 then [] else [])
noncomputable def g_spec_ParseNum (K : Nat) (x0 : T_str.T) (x1 : T_int.T) : Option (Ty.pair T_int (Ty.pair T_bool Ty.unit)).T := (e_spec_ParseNum K).g (x0, x1, ())
noncomputable def L_spec_ParseNum_5 (K : Nat) (k : Nat) (x0 : T_str.T) (x1 : T_int.T) (v6 : T_int.T) (v7 : T_int.T) : Option (Ty.pair T_int (Ty.pair T_bool Ty.unit)).T := resume (envOf G [e_spec_l1In K] K (fun i => if i = 5 then [2, 3, 4, 5, 8, 9, 10, 11, 12, 13, 14, 15, 16, 17, 18, 19, 20, 21, 22, 23, 24, 25, 26, 27, 28, 29, 30, 31, 32, 33, 34, 35, 36, 37, 38, 39, 40, 41, 42, 43, 44, 45, 46, 47, 48, 49, 50, 51, 52, 53] else []) (fun i => if i = 5 then [] else [])) dokB false (Ty.pair T_int (Ty.pair T_bool Ty.unit)) true Tryz.f165 [1, 1, 1, 0, 1, 0] k (mkSt 54 [(0, .d T_str true x0), (1, .d T_int true x1), (6, .d T_int true v6), (7, .d T_int true v7)] [])
/-! ### spec.l1Name -/
theorem fn_spec_l1Name : fnOk G 239 Tryz.f239 := ⟨Tryz.func239, by kernel_rfl⟩
noncomputable def e_spec_l1Name (K : Nat) : Ent G.P := mkEnt G 239 Tryz.f239 fn_spec_l1Name [T_str] true T_bool true [e_spec_l1In K] K (fun i => if i = 2 then [1, 2, 4, 5, 6, 7, 8, 9, 10, 11, 12, 13, 14, 15, 16, 17, 18, 19, 20, 21, 22] else []) (fun i => if i = 2 then [] else [])
noncomputable def g_spec_l1Name (K : Nat) (x0 : T_str.T) : Option T_bool.T := (e_spec_l1Name K).g (x0, ())
noncomputable def L_spec_l1Name_2 (K : Nat) (k : Nat) (x0 : T_str.T) (v3 : T_int.T) : Option T_bool.T := resume (envOf G [e_spec_l1In K] K (fun i => if i = 2 then [1, 2, 4, 5, 6, 7, 8, 9, 10, 11, 12, 13, 14, 15, 16, 17, 18, 19, 20, 21, 22] else []) (fun i => if i = 2 then [] else [])) dokB true T_bool true Tryz.f239 [1, 0, 1, 0] k (mkSt 23 [(0, .d T_str true x0), (3, .d T_int true v3)] [])
/-! ### spec.l3Db -/
theorem fn_spec_l3Db : fnOk G 213 Tryz.f213 := ⟨Tryz.func213, by kernel_rfl⟩
noncomputable def e_spec_l3Db (K : Nat) : Ent G.P := mkEnt G 213 Tryz.f213 fn_spec_l3Db [T_impl_Db] true T_bool true [e_spec_l1Name K, e_spec_l1In K] K (fun _ => []) (fun _ => [])
noncomputable def g_spec_l3Db (K : Nat) (x0 : T_impl_Db.T) : Option T_bool.T := (e_spec_l3Db K).g (x0, ())
/-! ### spec.ConfOk -/
theorem fn_spec_ConfOk : fnOk G 166 Tryz.f166 := ⟨Tryz.func166, by kernel_rfl⟩
noncomputable def e_spec_ConfOk (K : Nat) : Ent G.P := mkEnt G 166 Tryz.f166 fn_spec_ConfOk [T_S_impl_Db] true T_bool true [e_spec_l3Db K, e_spec_l1In K] K (fun i => if i = 2 then [1, 2, 4, 5, 6, 7, 8, 9, 10, 11, 12, 13, 14, 15, 16, 17, 18, 19, 20, 21, 22, 23, 24, 25, 26, 27, 28, 29, 30, 31, 32, 33, 34, 35] else if i = 7 then [1, 2, 5, 6, 7, 8, 9, 10, 11, 12, 13, 14, 15, 16, 17, 18, 19, 20, 21, 22, 23, 24, 25, 26, 27, 28, 29, 30, 31, 32, 33, 34, 35] else []) (fun i => if i = 2 then [] else if i = 7 then [] else [])
noncomputable def g_spec_ConfOk (K : Nat) (x0 : T_S_impl_Db.T) : Option T_bool.T := (e_spec_ConfOk K).g (x0, ())
noncomputable def L_spec_ConfOk_2 (K : Nat) (k : Nat) (x0 : T_S_impl_Db.T) (v3 : T_int.T) : Option T_bool.T := resume (envOf G [e_spec_l3Db K, e_spec_l1In K] K (fun i => if i = 2 then [1, 2, 4, 5, 6, 7, 8, 9, 10, 11, 12, 13, 14, 15, 16, 17, 18, 19, 20, 21, 22, 23, 24, 25, 26, 27, 28, 29, 30, 31, 32, 33, 34, 35] else if i = 7 then [1, 2, 5, 6, 7, 8, 9, 10, 11, 12, 13, 14, 15, 16, 17, 18, 19, 20, 21, 22, 23, 24, 25, 26, 27, 28, 29, 30, 31, 32, 33, 34, 35] else []) (fun i => if i = 2 then [] else if i = 7 then [] else [])) dokB true T_bool true Tryz.f166 [1, 0, 1, 0] k (mkSt 36 [(0, .d T_S_impl_Db false x0), (3, .d T_int true v3)] [])
noncomputable def L_spec_ConfOk_7 (K : Nat) (k : Nat) (n0 : Nat) (x0 : T_S_impl_Db.T) (v3 : T_int.T) (v4 : T_int.T) : Option T_bool.T := resume (envOf G [e_spec_l3Db K, e_spec_l1In K] K (fun i => if i = 2 then [1, 2, 4, 5, 6, 7, 8, 9, 10, 11, 12, 13, 14, 15, 16, 17, 18, 19, 20, 21, 22, 23, 24, 25, 26, 27, 28, 29, 30, 31, 32, 33, 34, 35] else if i = 7 then [1, 2, 5, 6, 7, 8, 9, 10, 11, 12, 13, 14, 15, 16, 17, 18, 19, 20, 21, 22, 23, 24, 25, 26, 27, 28, 29, 30, 31, 32, 33, 34, 35] else []) (fun i => if i = 2 then [] else if i = 7 then [] else [])) dokB true T_bool true Tryz.f166 [1, 0, 1, 0, n0 + 2, 1, 0, 0, 1, 1, 0] k (mkSt 36 [(0, .d T_S_impl_Db false x0), (3, .d T_int true v3), (4, .d T_int true v4)] [])
/-! ### spec.ParseConf -/
theorem fn_spec_ParseConf : fnOk G 105 Tryz.f105 := ⟨Tryz.func105, by kernel_rfl⟩
noncomputable def e_spec_ParseConf (K : Nat) : Ent G.P := mkEnt G 105 Tryz.f105 fn_spec_ParseConf [T_str] false (Ty.pair T_S_impl_Db (Ty.pair T_bool Ty.unit)) true [e_spec_l3Split K, e_spec_ParseNum K, e_spec_ConfOk K] K (fun i => if i = 6 then [0, 1, 2, 3, 7, 8, 9, 10, 11, 12, 13, 14, 15, 16, 17, 18, 19, 20, 21, 22, 23, 24, 25, 26, 27, 28, 29, 30, 31, 32, 33, 34, 35, 36, 37, 38, 39, 40, 41, 42, 43, 44, 45, 46, 47, 48, 49, 50, 51, 52, 53, 54, 55, 56, 57, 58, 59, 60, 61, 62, 63, 64, 65, 66, 67, 68, 69, 70, 71, 72, 73, 74, 75, 76, 77, 78, 79, 80, 81, 82, 83, 84, 85, 86] else if i = 16 then [0, 1, 2, 3, 11, 12, 13, 14, 15, 16, 17, 18, 19, 20, 21, 22, 23, 24, 25, 26, 27, 28, 29, 30, 31, 32, 33, 34, 35, 36, 37, 38, 39, 40, 41, 42, 43, 44, 45, 46, 47, 48, 49, 50, 51, 52, 53, 54, 55, 56, 57, 58, 59, 60, 61, 62, 63, 64, 65, 66, 67, 68, 69, 70, 71, 72, 73, 74, 75, 76, 77, 78, 79, 80, 81, 82, 83, 84, 85, 86] else []) (fun i => if i = 6 then [2, 30, 34, 38, 42, 43, 58, 80] else if i = 16 then [58] else [])
noncomputable def g_spec_ParseConf (K : Nat) (x0 : T_str.T) : Option (Ty.pair T_S_impl_Db (Ty.pair T_bool Ty.unit)).T := (e_spec_ParseConf K).g (x0, ())
noncomputable def L_spec_ParseConf_6 (K : Nat) (k : Nat) (v6 : T_int.T) (o18 : T_S_str.T) (o19 : T_S_impl_Db.T) : Option (Ty.pair T_S_impl_Db (Ty.pair T_bool Ty.unit)).T := resume (envOf G [e_spec_l3Split K, e_spec_ParseNum K, e_spec_ConfOk K] K (fun i => if i = 6 then [0, 1, 2, 3, 7, 8, 9, 10, 11, 12, 13, 14, 15, 16, 17, 18, 19, 20, 21, 22, 23, 24, 25, 26, 27, 28, 29, 30, 31, 32, 33, 34, 35, 36, 37, 38, 39, 40, 41, 42, 43, 44, 45, 46, 47, 48, 49, 50, 51, 52, 53, 54, 55, 56, 57, 58, 59, 60, 61, 62, 63, 64, 65, 66, 67, 68, 69, 70, 71, 72, 73, 74, 75, 76, 77, 78, 79, 80, 81, 82, 83, 84, 85, 86] else if i = 16 then [0, 1, 2, 3, 11, 12, 13, 14, 15, 16, 17, 18, 19, 20, 21, 22, 23, 24, 25, 26, 27, 28, 29, 30, 31, 32, 33, 34, 35, 36, 37, 38, 39, 40, 41, 42, 43, 44, 45, 46, 47, 48, 49, 50, 51, 52, 53, 54, 55, 56, 57, 58, 59, 60, 61, 62, 63, 64, 65, 66, 67, 68, 69, 70, 71, 72, 73, 74, 75, 76, 77, 78, 79, 80, 81, 82, 83, 84, 85, 86] else []) (fun i => if i = 6 then [2, 30, 34, 38, 42, 43, 58, 80] else if i = 16 then [58] else [])) dokB false (Ty.pair T_S_impl_Db (Ty.pair T_bool Ty.unit)) true Tryz.f105 [1, 1, 1, 1, 0, 1, 0] k (mkSt 87 [(4, .own 18), (5, .own 19), (6, .d T_int true v6)] [(18, .arr 9 T_str true o18), (19, .arr 81 T_impl_Db true o19)])
noncomputable def L_spec_ParseConf_16 (K : Nat) (k : Nat) (n0 : Nat) (v6 : T_int.T) (v10 : T_int.T) (o18 : T_S_str.T) (o19 : T_S_impl_Db.T) (o30 : T_S_str.T) (o38 : T_S_str.T) (o43 : T_S_int.T) : Option (Ty.pair T_S_impl_Db (Ty.pair T_bool Ty.unit)).T := resume (envOf G [e_spec_l3Split K, e_spec_ParseNum K, e_spec_ConfOk K] K (fun i => if i = 6 then [0, 1, 2, 3, 7, 8, 9, 10, 11, 12, 13, 14, 15, 16, 17, 18, 19, 20, 21, 22, 23, 24, 25, 26, 27, 28, 29, 30, 31, 32, 33, 34, 35, 36, 37, 38, 39, 40, 41, 42, 43, 44, 45, 46, 47, 48, 49, 50, 51, 52, 53, 54, 55, 56, 57, 58, 59, 60, 61, 62, 63, 64, 65, 66, 67, 68, 69, 70, 71, 72, 73, 74, 75, 76, 77, 78, 79, 80, 81, 82, 83, 84, 85, 86] else if i = 16 then [0, 1, 2, 3, 11, 12, 13, 14, 15, 16, 17, 18, 19, 20, 21, 22, 23, 24, 25, 26, 27, 28, 29, 30, 31, 32, 33, 34, 35, 36, 37, 38, 39, 40, 41, 42, 43, 44, 45, 46, 47, 48, 49, 50, 51, 52, 53, 54, 55, 56, 57, 58, 59, 60, 61, 62, 63, 64, 65, 66, 67, 68, 69, 70, 71, 72, 73, 74, 75, 76, 77, 78, 79, 80, 81, 82, 83, 84, 85, 86] else []) (fun i => if i = 6 then [2, 30, 34, 38, 42, 43, 58, 80] else if i = 16 then [58] else [])) dokB false (Ty.pair T_S_impl_Db (Ty.pair T_bool Ty.unit)) true Tryz.f105 [1, 1, 1, 1, 0, 1, 0, n0 + 2, 1, 0, 0, 1, 1, 1, 1, 1, 0, 1, 0] k (mkSt 87 [(4, .own 18), (5, .own 19), (6, .d T_int true v6), (7, .own 30), (8, .own 38), (9, .own 43), (10, .d T_int true v10)] [(18, .arr 9 T_str true o18), (19, .arr 81 T_impl_Db true o19), (30, .arr 9 T_str true o30), (38, .arr 9 T_str true o38), (43, .arr 3 T_int true o43)])
/-! ### spec.l4Text -/
theorem fn_spec_l4Text : fnOk G 233 Tryz.f233 := ⟨Tryz.func233, by kernel_rfl⟩
noncomputable def e_spec_l4Text (K : Nat) : Ent G.P := mkEnt G 233 Tryz.f233 fn_spec_l4Text [T_str] true T_bool true [e_spec_ParseConf K] K (fun _ => []) (fun _ => [])
noncomputable def g_spec_l4Text (K : Nat) (x0 : T_str.T) : Option T_bool.T := (e_spec_l4Text K).g (x0, ())
/-! ### spec.RecOk -/
theorem fn_spec_RecOk : fnOk G 199 Tryz.f199 := ⟨Tryz.func199, by kernel_rfl⟩
noncomputable def e_spec_RecOk (K : Nat) : Ent G.P := mkEnt G 199 Tryz.f199 fn_spec_RecOk [T_impl_Rec] true T_bool true [e_spec_l1In K, e_spec_l4Text K] K (fun _ => []) (fun _ => [])
noncomputable def g_spec_RecOk (K : Nat) (x0 : T_impl_Rec.T) : Option T_bool.T := (e_spec_RecOk K).g (x0, ())
/-! ### spec.l4Word -/
theorem fn_spec_l4Word : fnOk G 234 Tryz.f234 := ⟨Tryz.func234, by kernel_rfl⟩
noncomputable def e_spec_l4Word (K : Nat) : Ent G.P := mkEnt G 234 Tryz.f234 fn_spec_l4Word [T_int] true T_bool true [e_spec_l1In K] K (fun _ => []) (fun _ => [])
noncomputable def g_spec_l4Word (K : Nat) (x0 : T_int.T) : Option T_bool.T := (e_spec_l4Word K).g (x0, ())
/-! ### spec.PutText -/
theorem fn_spec_PutText : fnOk G 235 Tryz.f235 := ⟨Tryz.func235, by kernel_rfl⟩
noncomputable def e_spec_PutText (K : Nat) : Ent G.P := mkEntO G 235 Tryz.f235 fn_spec_PutText [T_S_u8, T_str] 5 T_u8 false [e_spec_TextOk K] K (fun _ => []) (fun _ => [])
noncomputable def g_spec_PutText (K : Nat) (x0 : T_S_u8.T) (x1 : T_str.T) : Option T_S_u8.T := (e_spec_PutText K).g (x0, x1, ())
/-! ### spec.PutRec -/
theorem fn_spec_PutRec : fnOk G 200 Tryz.f200 := ⟨Tryz.func200, by kernel_rfl⟩
noncomputable def e_spec_PutRec (K : Nat) : Ent G.P := mkEntO G 200 Tryz.f200 fn_spec_PutRec [T_int, T_int, T_impl_Rec] 5 T_u8 true [e_spec_RecOk K, e_spec_l4Word K, e_spec_PutWord K, e_spec_PutText K, e_spec_Sum K] K (fun _ => []) (fun _ => [])
noncomputable def g_spec_PutRec (K : Nat) (x0 : T_int.T) (x1 : T_int.T) (x2 : T_impl_Rec.T) : Option T_S_u8.T := (e_spec_PutRec K).g (x0, x1, x2, ())
/-! ### spec.GetRec -/
theorem fn_spec_GetRec : fnOk G 143 Tryz.f143 := ⟨Tryz.func143, by kernel_rfl⟩
noncomputable def e_spec_GetRec (K : Nat) : Ent G.P := mkEnt G 143 Tryz.f143 fn_spec_GetRec [T_S_u8] false (Ty.pair T_int (Ty.pair T_int (Ty.pair T_impl_Rec (Ty.pair T_bool Ty.unit)))) true [e_spec_GetWord K, e_spec_GetText K, e_spec_RecOk K, e_spec_PutRec K, e_spec_l1Same K] K (fun _ => []) (fun _ => [])
noncomputable def g_spec_GetRec (K : Nat) (x0 : T_S_u8.T) : Option (Ty.pair T_int (Ty.pair T_int (Ty.pair T_impl_Rec (Ty.pair T_bool Ty.unit)))).T := (e_spec_GetRec K).g (x0, ())
/-! ### spec.KnownOk -/
theorem fn_spec_KnownOk : fnOk G 201 Tryz.f201 := ⟨Tryz.func201, by kernel_rfl⟩
noncomputable def e_spec_KnownOk (K : Nat) : Ent G.P := mkEnt G 201 Tryz.f201 fn_spec_KnownOk [T_impl_Known] true T_bool true [e_spec_l1In K, e_spec_l4Text K] K (fun _ => []) (fun _ => [])
noncomputable def g_spec_KnownOk (K : Nat) (x0 : T_impl_Known.T) : Option T_bool.T := (e_spec_KnownOk K).g (x0, ())
/-! ### spec.Apply -/
theorem fn_spec_Apply : fnOk G 145 Tryz.f145 := ⟨Tryz.func145, by kernel_rfl⟩
noncomputable def e_spec_Apply (K : Nat) : Ent G.P := mkEnt G 145 Tryz.f145 fn_spec_Apply [T_impl_Known, T_impl_Rec] false (Ty.pair T_impl_Known (Ty.pair T_bool Ty.unit)) true [e_spec_KnownOk K, e_spec_RecOk K] K (fun _ => []) (fun _ => [])
noncomputable def g_spec_Apply (K : Nat) (x0 : T_impl_Known.T) (x1 : T_impl_Rec.T) : Option (Ty.pair T_impl_Known (Ty.pair T_bool Ty.unit)).T := (e_spec_Apply K).g (x0, x1, ())
/-! ### spec.Replay -/
theorem fn_spec_Replay : fnOk G 88 Tryz.f88 := ⟨Tryz.func88, by kernel_rfl⟩
noncomputable def e_spec_Replay (K : Nat) : Ent G.P := mkEnt G 88 Tryz.f88 fn_spec_Replay [T_impl_Disk, T_int] false (Ty.pair T_impl_Known (Ty.pair T_int Ty.unit)) true [e_spec_l1In K, e_spec_l5At K, e_spec_ReadSec K, e_spec_GetRec K, e_spec_Apply K] K (fun i => if i = 5 then [0, 3, 5, 8, 9, 10, 11, 12, 13, 14, 15, 16, 17, 18, 19, 20, 21, 22, 23, 24, 25, 26, 27, 28, 29, 30, 31, 32, 33, 34, 35, 36, 37, 38, 39, 40, 41, 42, 43, 44, 45, 46, 47, 48, 49, 50, 51, 52, 53, 54, 55, 56, 57, 58, 59] else []) (fun i => if i = 5 then [10, 12, 28] else [])
noncomputable def g_spec_Replay (K : Nat) (x0 : T_impl_Disk.T) (x1 : T_int.T) : Option (Ty.pair T_impl_Known (Ty.pair T_int Ty.unit)).T := (e_spec_Replay K).g (x0, x1, ())
noncomputable def L_spec_Replay_5 (K : Nat) (k : Nat) (x1 : T_int.T) (v7 : T_int.T) (o2 : T_impl_Disk.T) (o4 : T_impl_Known.T) (o6 : T_impl_Known.T) : Option (Ty.pair T_impl_Known (Ty.pair T_int Ty.unit)).T := resume (envOf G [e_spec_l1In K, e_spec_l5At K, e_spec_ReadSec K, e_spec_GetRec K, e_spec_Apply K] K (fun i => if i = 5 then [0, 3, 5, 8, 9, 10, 11, 12, 13, 14, 15, 16, 17, 18, 19, 20, 21, 22, 23, 24, 25, 26, 27, 28, 29, 30, 31, 32, 33, 34, 35, 36, 37, 38, 39, 40, 41, 42, 43, 44, 45, 46, 47, 48, 49, 50, 51, 52, 53, 54, 55, 56, 57, 58, 59] else []) (fun i => if i = 5 then [10, 12, 28] else [])) dokB false (Ty.pair T_impl_Known (Ty.pair T_int Ty.unit)) true Tryz.f88 [1, 1, 1, 0, 1, 0] k (mkSt 60 [(1, .d T_int true x1), (2, .ptr 2 0 T_impl_Disk), (4, .ptr 4 0 T_impl_Known), (6, .ptr 6 0 T_impl_Known), (7, .d T_int true v7)] [(2, .box T_impl_Disk false o2), (4, .box T_impl_Known true o4), (6, .box T_impl_Known true o6)])
/-! ### spec.OpenJour -/
theorem fn_spec_OpenJour : fnOk G 37 Tryz.f37 := ⟨Tryz.func37, by kernel_rfl⟩
noncomputable def e_spec_OpenJour (K : Nat) : Ent G.P := mkEnt G 37 Tryz.f37 fn_spec_OpenJour [T_impl_Disk] false (Ty.pair T_impl_Jour (Ty.pair T_bool Ty.unit)) true [e_spec_DiskOk K, e_spec_ReadSec K, e_spec_GetHead K, e_spec_Replay K] K (fun i => if i = 5 then [0, 3, 6, 7, 8, 9, 10, 11, 12, 13, 14, 15, 16, 17, 18, 19, 20, 21, 22, 23, 24, 25, 26, 27, 28, 29, 30, 31, 32, 33, 34, 35, 36, 37, 38, 39, 40, 41, 42, 43, 44, 45, 46, 47, 48, 49, 50, 51, 52, 53, 54, 55, 56, 57, 58, 59, 60, 61, 62, 63, 64] else []) (fun i => if i = 5 then [9, 29] else [])
noncomputable def g_spec_OpenJour (K : Nat) (x0 : T_impl_Disk.T) : Option (Ty.pair T_impl_Jour (Ty.pair T_bool Ty.unit)).T := (e_spec_OpenJour K).g (x0, ())
noncomputable def L_spec_OpenJour_5 (K : Nat) (k : Nat) (v5 : T_int.T) (o1 : T_impl_Disk.T) (o2 : T_impl_Jour.T) (o4 : T_impl_Jour.T) : Option (Ty.pair T_impl_Jour (Ty.pair T_bool Ty.unit)).T := resume (envOf G [e_spec_DiskOk K, e_spec_ReadSec K, e_spec_GetHead K, e_spec_Replay K] K (fun i => if i = 5 then [0, 3, 6, 7, 8, 9, 10, 11, 12, 13, 14, 15, 16, 17, 18, 19, 20, 21, 22, 23, 24, 25, 26, 27, 28, 29, 30, 31, 32, 33, 34, 35, 36, 37, 38, 39, 40, 41, 42, 43, 44, 45, 46, 47, 48, 49, 50, 51, 52, 53, 54, 55, 56, 57, 58, 59, 60, 61, 62, 63, 64] else []) (fun i => if i = 5 then [9, 29] else [])) dokB false (Ty.pair T_impl_Jour (Ty.pair T_bool Ty.unit)) true Tryz.f37 [1, 1, 1, 0, 1, 0] k (mkSt 65 [(1, .ptr 1 0 T_impl_Disk), (2, .ptr 2 0 T_impl_Jour), (4, .ptr 4 0 T_impl_Jour), (5, .d T_int true v5)] [(1, .box T_impl_Disk false o1), (2, .box T_impl_Jour true o2), (4, .box T_impl_Jour true o4)])
/-! ### spec.KnownOf -/
theorem fn_spec_KnownOf : fnOk G 11 Tryz.f11 := ⟨Tryz.func11, by kernel_rfl⟩
noncomputable def e_spec_KnownOf (K : Nat) : Ent G.P := mkEnt G 11 Tryz.f11 fn_spec_KnownOf [T_impl_World] true T_impl_Known true [e_spec_OpenJour K] K (fun _ => []) (fun _ => [])
noncomputable def g_spec_KnownOf (K : Nat) (x0 : T_impl_World.T) : Option T_impl_Known.T := (e_spec_KnownOf K).g (x0, ())
/-! ### spec.l14Conf -/
theorem fn_spec_l14Conf : fnOk G 49 Tryz.f49 := ⟨Tryz.func49, by kernel_rfl⟩
noncomputable def e_spec_l14Conf (K : Nat) : Ent G.P := mkEnt G 49 Tryz.f49 fn_spec_l14Conf [T_impl_Known] true T_S_impl_Db true [e_spec_ParseConf K] K (fun _ => []) (fun _ => [])
noncomputable def g_spec_l14Conf (K : Nat) (x0 : T_impl_Known.T) : Option T_S_impl_Db.T := (e_spec_l14Conf K).g (x0, ())
/-! ### spec.Counts -/
theorem fn_spec_Counts : fnOk G 16 Tryz.f16 := ⟨Tryz.func16, by kernel_rfl⟩
noncomputable def e_spec_Counts (K : Nat) : Ent G.P := mkEnt G 16 Tryz.f16 fn_spec_Counts [T_impl_World] true T_S_impl_Db true [e_spec_KnownOf K, e_spec_l14Conf K] K (fun _ => []) (fun _ => [])
noncomputable def g_spec_Counts (K : Nat) (x0 : T_impl_World.T) : Option T_S_impl_Db.T := (e_spec_Counts K).g (x0, ())
/-! ### impl.isIn -/
theorem fn_impl_isIn : fnOk G 63 Tryz.f63 := ⟨Tryz.func63, by kernel_rfl⟩
noncomputable def e_impl_isIn (K : Nat) : Ent G.P := mkEnt G 63 Tryz.f63 fn_impl_isIn [T_int, T_int, T_int] true T_bool true [] K (fun _ => []) (fun _ => [])
noncomputable def g_impl_isIn (K : Nat) (x0 : T_int.T) (x1 : T_int.T) (x2 : T_int.T) : Option T_bool.T := (e_impl_isIn K).g (x0, x1, x2, ())
/-! ### impl.DiskOk -/
theorem fn_impl_DiskOk : fnOk G 95 Tryz.f95 := ⟨Tryz.func95, by kernel_rfl⟩
noncomputable def e_impl_DiskOk (K : Nat) : Ent G.P := mkEnt G 95 Tryz.f95 fn_impl_DiskOk [T_impl_Disk] true T_bool true [e_impl_isIn K] K (fun i => if i = 4 then [0, 2, 3, 4, 5, 6, 7, 8, 9, 10, 11, 12, 13, 14, 15, 16, 17, 18, 19, 20, 21, 22, 23, 24, 28, 29, 30, 31, 32, 33, 34, 35, 36, 37, 38, 39, 40, 41, 42, 43, 44, 45, 46, 47, 48, 49, 50, 51, 52, 53, 54, 55, 56] else if i = 10 then [0, 2, 3, 4, 5, 6, 7, 8, 9, 10, 11, 12, 13, 14, 15, 16, 17, 18, 19, 20, 21, 22, 23, 24, 25, 26, 27, 28, 29, 30, 31, 32, 33, 34, 35, 39, 40, 41, 42, 43, 44, 45, 46, 47, 48, 49, 50, 51, 52, 53, 54, 55, 56] else []) (fun i => if i = 4 then [] else if i = 10 then [6] else [])
noncomputable def g_impl_DiskOk (K : Nat) (x0 : T_impl_Disk.T) : Option T_bool.T := (e_impl_DiskOk K).g (x0, ())
noncomputable def L_impl_DiskOk_4 (K : Nat) (k : Nat) (x0 : T_impl_Disk.T) (v27 : T_int.T) (o1 : T_impl_Disk.T) : Option T_bool.T := resume (envOf G [e_impl_isIn K] K (fun i => if i = 4 then [0, 2, 3, 4, 5, 6, 7, 8, 9, 10, 11, 12, 13, 14, 15, 16, 17, 18, 19, 20, 21, 22, 23, 24, 28, 29, 30, 31, 32, 33, 34, 35, 36, 37, 38, 39, 40, 41, 42, 43, 44, 45, 46, 47, 48, 49, 50, 51, 52, 53, 54, 55, 56] else if i = 10 then [0, 2, 3, 4, 5, 6, 7, 8, 9, 10, 11, 12, 13, 14, 15, 16, 17, 18, 19, 20, 21, 22, 23, 24, 25, 26, 27, 28, 29, 30, 31, 32, 33, 34, 35, 39, 40, 41, 42, 43, 44, 45, 46, 47, 48, 49, 50, 51, 52, 53, 54, 55, 56] else []) (fun i => if i = 4 then [] else if i = 10 then [6] else [])) dokB true T_bool true Tryz.f95 [1, 1, 0, 1, 0] k (mkSt 57 [(1, .ptr 1 0 T_impl_Disk), (25, .d T_S_S_u8 false x0.1), (26, .d T_int true ((List.length x0.1 : Nat) : Int)), (27, .d T_int true v27)] [(1, .box T_impl_Disk false o1)])
noncomputable def L_impl_DiskOk_10 (K : Nat) (k : Nat) (v38 : T_int.T) (o1 : T_impl_Disk.T) : Option T_bool.T := resume (envOf G [e_impl_isIn K] K (fun i => if i = 4 then [0, 2, 3, 4, 5, 6, 7, 8, 9, 10, 11, 12, 13, 14, 15, 16, 17, 18, 19, 20, 21, 22, 23, 24, 28, 29, 30, 31, 32, 33, 34, 35, 36, 37, 38, 39, 40, 41, 42, 43, 44, 45, 46, 47, 48, 49, 50, 51, 52, 53, 54, 55, 56] else if i = 10 then [0, 2, 3, 4, 5, 6, 7, 8, 9, 10, 11, 12, 13, 14, 15, 16, 17, 18, 19, 20, 21, 22, 23, 24, 25, 26, 27, 28, 29, 30, 31, 32, 33, 34, 35, 39, 40, 41, 42, 43, 44, 45, 46, 47, 48, 49, 50, 51, 52, 53, 54, 55, 56] else []) (fun i => if i = 4 then [] else if i = 10 then [6] else [])) dokB true T_bool true Tryz.f95 [1, 1, 1, 0, 1, 0] k (mkSt 57 [(1, .ptr 1 0 T_impl_Disk), (36, .d T_S_impl_Wr false o1.2.1), (37, .d T_int true ((List.length o1.2.1 : Nat) : Int)), (38, .d T_int true v38)] [(1, .box T_impl_Disk false o1)])
/-! ### slices.Clone[[]byte,byte] -/
theorem fn_slices_Clone_S_byte : fnOk G 155 Tryz.f155 := ⟨Tryz.func155, by kernel_rfl⟩
noncomputable def e_slices_Clone_S_byte (K : Nat) : Ent G.P := mkEntO G 155 Tryz.f155 fn_slices_Clone_S_byte [T_S_u8] 5 T_u8 false [] K (fun _ => []) (fun _ => [])
noncomputable def g_slices_Clone_S_byte (K : Nat) (x0 : T_S_u8.T) : Option T_S_u8.T := (e_slices_Clone_S_byte K).g (x0, ())
/-! ### impl.ReadSec -/
theorem fn_impl_ReadSec : fnOk G 97 Tryz.f97 := ⟨Tryz.func97, by kernel_rfl⟩
noncomputable def e_impl_ReadSec (K : Nat) : Ent G.P := mkEntO G 97 Tryz.f97 fn_impl_ReadSec [T_impl_Disk, T_int] 5 T_u8 false [e_impl_DiskOk K, e_impl_isIn K, e_slices_Clone_S_byte K] K (fun i => if i = 4 then [0, 3, 4, 6, 7, 8, 9, 10, 11, 12, 13, 14, 15, 16, 17, 18, 19, 20, 21, 22, 23, 24, 25, 26, 27, 28, 29, 30, 31, 32, 33, 34, 35, 36, 37, 38, 39, 40, 41, 42, 43, 44, 45, 46, 47] else []) (fun i => if i = 4 then [4, 41] else [])
noncomputable def g_impl_ReadSec (K : Nat) (x0 : T_impl_Disk.T) (x1 : T_int.T) : Option T_S_u8.T := (e_impl_ReadSec K).g (x0, x1, ())
noncomputable def L_impl_ReadSec_4 (K : Nat) (k : Nat) (x1 : T_int.T) (v5 : T_int.T) (o2 : T_impl_Disk.T) : Option T_S_u8.T := resumeO (envOf G [e_impl_DiskOk K, e_impl_isIn K, e_slices_Clone_S_byte K] K (fun i => if i = 4 then [0, 3, 4, 6, 7, 8, 9, 10, 11, 12, 13, 14, 15, 16, 17, 18, 19, 20, 21, 22, 23, 24, 25, 26, 27, 28, 29, 30, 31, 32, 33, 34, 35, 36, 37, 38, 39, 40, 41, 42, 43, 44, 45, 46, 47] else []) (fun i => if i = 4 then [4, 41] else [])) dokB 5 T_u8 false Tryz.f97 [1, 1, 0, 1, 0] k (mkSt 48 [(1, .d T_int true x1), (2, .ptr 2 0 T_impl_Disk), (5, .d T_int true v5)] [(2, .box T_impl_Disk false o2)])
/-! ### impl.GetWord -/
theorem fn_impl_GetWord : fnOk G 152 Tryz.f152 := ⟨Tryz.func152, by kernel_rfl⟩
noncomputable def e_impl_GetWord (K : Nat) : Ent G.P := mkEnt G 152 Tryz.f152 fn_impl_GetWord [T_S_u8, T_int] false (Ty.pair T_int (Ty.pair T_int (Ty.pair T_bool Ty.unit))) true [e_impl_isIn K] K (fun _ => []) (fun _ => [])
noncomputable def g_impl_GetWord (K : Nat) (x0 : T_S_u8.T) (x1 : T_int.T) : Option (Ty.pair T_int (Ty.pair T_int (Ty.pair T_bool Ty.unit))).T := (e_impl_GetWord K).g (x0, x1, ())
/-! ### impl.PutWord -/
theorem fn_impl_PutWord : fnOk G 205 Tryz.f205 := ⟨Tryz.func205, by kernel_rfl⟩
noncomputable def e_impl_PutWord (K : Nat) : Ent G.P := mkEntO G 205 Tryz.f205 fn_impl_PutWord [T_S_u8, T_int] 5 T_u8 false [e_slices_Clone_S_byte K] K (fun _ => []) (fun _ => [])
noncomputable def g_impl_PutWord (K : Nat) (x0 : T_S_u8.T) (x1 : T_int.T) : Option T_S_u8.T := (e_impl_PutWord K).g (x0, x1, ())
/-! ### impl.Sum -/
theorem fn_impl_Sum : fnOk G 206 Tryz.f206 := ⟨Tryz.func206, by kernel_rfl⟩
noncomputable def e_impl_Sum (K : Nat) : Ent G.P := mkEnt G 206 Tryz.f206 fn_impl_Sum [T_S_u8] true T_int true [] K (fun i => if i = 3 then [0, 1, 2, 4, 5, 9, 10, 11, 12, 13, 14, 15, 16, 17, 18, 19, 20, 21, 22, 23, 24, 25, 26, 27, 28] else if i = 7 then [0, 1, 2, 4, 5, 9, 10, 11, 12, 13, 14, 15, 16, 18, 19, 20, 21, 22, 23, 24, 25, 26, 27, 28] else []) (fun i => if i = 3 then [] else if i = 7 then [] else [])
noncomputable def g_impl_Sum (K : Nat) (x0 : T_S_u8.T) : Option T_int.T := (e_impl_Sum K).g (x0, ())
noncomputable def L_impl_Sum_3 (K : Nat) (k : Nat) (x0 : T_S_u8.T) (v3 : T_int.T) (v8 : T_int.T) : Option T_int.T := resume (envOf G [] K (fun i => if i = 3 then [0, 1, 2, 4, 5, 9, 10, 11, 12, 13, 14, 15, 16, 17, 18, 19, 20, 21, 22, 23, 24, 25, 26, 27, 28] else if i = 7 then [0, 1, 2, 4, 5, 9, 10, 11, 12, 13, 14, 15, 16, 18, 19, 20, 21, 22, 23, 24, 25, 26, 27, 28] else []) (fun i => if i = 3 then [] else if i = 7 then [] else [])) dokB true T_int true Tryz.f206 [1, 1, 0, 1, 0] k (mkSt 29 [(3, .d T_int true v3), (6, .d T_S_u8 false x0), (7, .d T_int true ((List.length x0 : Nat) : Int)), (8, .d T_int true v8)] [])
noncomputable def L_impl_Sum_7 (K : Nat) (k : Nat) (n0 : Nat) (x0 : T_S_u8.T) (v8 : T_int.T) (v3 : T_int.T) (v17 : T_int.T) : Option T_int.T := resume (envOf G [] K (fun i => if i = 3 then [0, 1, 2, 4, 5, 9, 10, 11, 12, 13, 14, 15, 16, 17, 18, 19, 20, 21, 22, 23, 24, 25, 26, 27, 28] else if i = 7 then [0, 1, 2, 4, 5, 9, 10, 11, 12, 13, 14, 15, 16, 18, 19, 20, 21, 22, 23, 24, 25, 26, 27, 28] else []) (fun i => if i = 3 then [] else if i = 7 then [] else [])) dokB true T_int true Tryz.f206 [1, 1, 0, 1, 0, n0 + 2, 1, 1, 0, 0, 1, 1, 1, 0] k (mkSt 29 [(3, .d T_int true v3), (6, .d T_S_u8 false x0), (7, .d T_int true ((List.length x0 : Nat) : Int)), (8, .d T_int true v8), (17, .d T_int true v17)] [])
/-! ### impl.HeadOf -/
theorem fn_impl_HeadOf : fnOk G 154 Tryz.f154 := ⟨Tryz.func154, by kernel_rfl⟩
noncomputable def e_impl_HeadOf (K : Nat) : Ent G.P := mkEntO G 154 Tryz.f154 fn_impl_HeadOf [T_int, T_int] 5 T_u8 true [e_impl_isIn K, e_impl_PutWord K, e_impl_Sum K] K (fun _ => []) (fun _ => [])
noncomputable def g_impl_HeadOf (K : Nat) (x0 : T_int.T) (x1 : T_int.T) : Option T_S_u8.T := (e_impl_HeadOf K).g (x0, x1, ())
/-! ### bytes.Equal -/
theorem fn_bytes_Equal : fnOk G 153 Tryz.f153 := ⟨Tryz.func153, by kernel_rfl⟩
noncomputable def e_bytes_Equal (K : Nat) : Ent G.P := mkEnt G 153 Tryz.f153 fn_bytes_Equal [T_S_u8, T_S_u8] true T_bool true [] K (fun _ => []) (fun _ => [])
noncomputable def g_bytes_Equal (K : Nat) (x0 : T_S_u8.T) (x1 : T_S_u8.T) : Option T_bool.T := (e_bytes_Equal K).g (x0, x1, ())
/-! ### impl.GetHead -/
theorem fn_impl_GetHead : fnOk G 96 Tryz.f96 := ⟨Tryz.func96, by kernel_rfl⟩
noncomputable def e_impl_GetHead (K : Nat) : Ent G.P := mkEnt G 96 Tryz.f96 fn_impl_GetHead [T_S_u8] false (Ty.pair T_int (Ty.pair T_int (Ty.pair T_bool Ty.unit))) true [e_impl_GetWord K, e_impl_HeadOf K, e_bytes_Equal K] K (fun _ => []) (fun _ => [])
noncomputable def g_impl_GetHead (K : Nat) (x0 : T_S_u8.T) : Option (Ty.pair T_int (Ty.pair T_int (Ty.pair T_bool Ty.unit))).T := (e_impl_GetHead K).g (x0, ())
/-! ### impl.sectorOf -/
theorem fn_impl_sectorOf : fnOk G 157 Tryz.f157 := ⟨Tryz.func157, by kernel_rfl⟩
noncomputable def e_impl_sectorOf (K : Nat) : Ent G.P := mkEnt G 157 Tryz.f157 fn_impl_sectorOf [T_int, T_int] true T_int true [] K (fun _ => []) (fun _ => [])
noncomputable def g_impl_sectorOf (K : Nat) (x0 : T_int.T) (x1 : T_int.T) : Option T_int.T := (e_impl_sectorOf K).g (x0, x1, ())
/-! ### impl.TextOk -/
theorem fn_impl_TextOk : fnOk G 227 Tryz.f227 := ⟨Tryz.func227, by kernel_rfl⟩
noncomputable def e_impl_TextOk (K : Nat) : Ent G.P := mkEnt G 227 Tryz.f227 fn_impl_TextOk [T_str] true T_bool true [] K (fun i => if i = 2 then [1, 2, 3, 4, 7, 8, 9, 10, 11, 12, 13, 14, 15, 16, 17, 18, 19, 20, 21, 22] else []) (fun i => if i = 2 then [] else [])
noncomputable def g_impl_TextOk (K : Nat) (x0 : T_str.T) : Option T_bool.T := (e_impl_TextOk K).g (x0, ())
noncomputable def L_impl_TextOk_2 (K : Nat) (k : Nat) (x0 : T_str.T) (v6 : T_int.T) : Option T_bool.T := resume (envOf G [] K (fun i => if i = 2 then [1, 2, 3, 4, 7, 8, 9, 10, 11, 12, 13, 14, 15, 16, 17, 18, 19, 20, 21, 22] else []) (fun i => if i = 2 then [] else [])) dokB true T_bool true Tryz.f227 [1, 0, 1, 0] k (mkSt 23 [(0, .d T_str true x0), (5, .d T_int true ((ByteArray.size x0 : Nat) : Int)), (6, .d T_int true v6)] [])
/-! ### impl.GetText -/
theorem fn_impl_GetText : fnOk G 207 Tryz.f207 := ⟨Tryz.func207, by kernel_rfl⟩
noncomputable def e_impl_GetText (K : Nat) : Ent G.P := mkEnt G 207 Tryz.f207 fn_impl_GetText [T_S_u8, T_int] false (Ty.pair T_str (Ty.pair T_int (Ty.pair T_bool Ty.unit))) true [e_impl_isIn K, e_impl_TextOk K] K (fun _ => []) (fun _ => [])
noncomputable def g_impl_GetText (K : Nat) (x0 : T_S_u8.T) (x1 : T_int.T) : Option (Ty.pair T_str (Ty.pair T_int (Ty.pair T_bool Ty.unit))).T := (e_impl_GetText K).g (x0, x1, ())
/-! ### utf8.decodeRuneInStringSlow -/
theorem fn_unicode_utf8_decodeRuneInStringSlow : fnOk G 254 Tryz.f254 := ⟨Tryz.func254, by kernel_rfl⟩
noncomputable def e_unicode_utf8_decodeRuneInStringSlow (K : Nat) : Ent G.P := mkEnt G 254 Tryz.f254 fn_unicode_utf8_decodeRuneInStringSlow [T_str] false (Ty.pair T_i32 (Ty.pair T_int Ty.unit)) true [] K (fun _ => []) (fun _ => [])
noncomputable def g_unicode_utf8_decodeRuneInStringSlow (K : Nat) (x0 : T_str.T) : Option (Ty.pair T_i32 (Ty.pair T_int Ty.unit)).T := (e_unicode_utf8_decodeRuneInStringSlow K).g (x0, ())
/-! ### utf8.DecodeRuneInString -/
theorem fn_unicode_utf8_DecodeRuneInString : fnOk G 241 Tryz.f241 := ⟨Tryz.func241, by kernel_rfl⟩
noncomputable def e_unicode_utf8_DecodeRuneInString (K : Nat) : Ent G.P := mkEnt G 241 Tryz.f241 fn_unicode_utf8_DecodeRuneInString [T_str] false (Ty.pair T_i32 (Ty.pair T_int Ty.unit)) true [e_unicode_utf8_decodeRuneInStringSlow K] K (fun _ => []) (fun _ => [])
noncomputable def g_unicode_utf8_DecodeRuneInString (K : Nat) (x0 : T_str.T) : Option (Ty.pair T_i32 (Ty.pair T_int Ty.unit)).T := (e_unicode_utf8_DecodeRuneInString K).g (x0, ())
/-! ### bytealg.Cutover -/
theorem fn_internal_bytealg_Cutover : fnOk G 245 Tryz.f245 := ⟨Tryz.func245, by kernel_rfl⟩
noncomputable def e_internal_bytealg_Cutover (K : Nat) : Ent G.P := mkEnt G 245 Tryz.f245 fn_internal_bytealg_Cutover [T_int] true T_int true [] K (fun _ => []) (fun _ => [])
noncomputable def g_internal_bytealg_Cutover (K : Nat) (x0 : T_int.T) : Option T_int.T := (e_internal_bytealg_Cutover K).g (x0, ())
/-! ### bytealg.hashStr[string] -/
theorem fn_internal_bytealg_hashStr_string : fnOk G 256 Tryz.f256 := ⟨Tryz.func256, by kernel_rfl⟩
noncomputable def e_internal_bytealg_hashStr_string (K : Nat) : Ent G.P := mkEnt G 256 Tryz.f256 fn_internal_bytealg_hashStr_string [T_str] false (Ty.pair T_u32 (Ty.pair T_u32 Ty.unit)) true [] K (fun i => if i = 3 then [1, 2, 3, 6, 7, 8, 9, 10, 11, 12, 13, 14, 15, 16, 17, 18, 19, 20, 21, 22, 23, 24, 25, 26, 27, 28, 29, 30, 31, 32, 33, 34, 35, 36, 37, 38] else if i = 8 then [0, 1, 2, 3, 5, 9, 10, 11, 12, 13, 14, 15, 16, 17, 18, 19, 20, 21, 22, 23, 24, 25, 26, 27, 28, 29, 30, 31, 32, 33, 34, 35, 36, 37, 38] else []) (fun i => if i = 3 then [] else if i = 8 then [] else [])
noncomputable def g_internal_bytealg_hashStr_string (K : Nat) (x0 : T_str.T) : Option (Ty.pair T_u32 (Ty.pair T_u32 Ty.unit)).T := (e_internal_bytealg_hashStr_string K).g (x0, ())
noncomputable def L_internal_bytealg_hashStr_string_3 (K : Nat) (k : Nat) (x0 : T_str.T) (v4 : T_u32.T) (v5 : T_int.T) : Option (Ty.pair T_u32 (Ty.pair T_u32 Ty.unit)).T := resume (envOf G [] K (fun i => if i = 3 then [1, 2, 3, 6, 7, 8, 9, 10, 11, 12, 13, 14, 15, 16, 17, 18, 19, 20, 21, 22, 23, 24, 25, 26, 27, 28, 29, 30, 31, 32, 33, 34, 35, 36, 37, 38] else if i = 8 then [0, 1, 2, 3, 5, 9, 10, 11, 12, 13, 14, 15, 16, 17, 18, 19, 20, 21, 22, 23, 24, 25, 26, 27, 28, 29, 30, 31, 32, 33, 34, 35, 36, 37, 38] else []) (fun i => if i = 3 then [] else if i = 8 then [] else [])) dokB false (Ty.pair T_u32 (Ty.pair T_u32 Ty.unit)) true Tryz.f256 [1, 1, 0, 1, 0] k (mkSt 39 [(0, .d T_str true x0), (4, .d T_u32 true v4), (5, .d T_int true v5)] [])
noncomputable def L_internal_bytealg_hashStr_string_8 (K : Nat) (k : Nat) (v4 : T_u32.T) (v6 : T_u32.T) (v7 : T_u32.T) (v8 : T_int.T) : Option (Ty.pair T_u32 (Ty.pair T_u32 Ty.unit)).T := resume (envOf G [] K (fun i => if i = 3 then [1, 2, 3, 6, 7, 8, 9, 10, 11, 12, 13, 14, 15, 16, 17, 18, 19, 20, 21, 22, 23, 24, 25, 26, 27, 28, 29, 30, 31, 32, 33, 34, 35, 36, 37, 38] else if i = 8 then [0, 1, 2, 3, 5, 9, 10, 11, 12, 13, 14, 15, 16, 17, 18, 19, 20, 21, 22, 23, 24, 25, 26, 27, 28, 29, 30, 31, 32, 33, 34, 35, 36, 37, 38] else []) (fun i => if i = 3 then [] else if i = 8 then [] else [])) dokB false (Ty.pair T_u32 (Ty.pair T_u32 Ty.unit)) true Tryz.f256 [1, 1, 1, 1, 0, 1, 0] k (mkSt 39 [(4, .d T_u32 true v4), (6, .d T_u32 true v6), (7, .d T_u32 true v7), (8, .d T_int true v8)] [])
/-! ### bytealg.IndexRabinKarp[string] -/
theorem fn_internal_bytealg_IndexRabinKarp_string : fnOk G 246 Tryz.f246 := ⟨Tryz.func246, by kernel_rfl⟩
noncomputable def e_internal_bytealg_IndexRabinKarp_string (K : Nat) : Ent G.P := mkEnt G 246 Tryz.f246 fn_internal_bytealg_IndexRabinKarp_string [T_str, T_str] true T_int true [e_internal_bytealg_hashStr_string K] K (fun i => if i = 5 then [2, 3, 4, 10, 11, 12, 13, 14, 15, 16, 17, 18, 19, 20, 21, 22, 23, 24, 25, 26, 27, 28, 29, 30, 31, 32, 33, 34, 35, 36, 37, 38, 39, 40, 41, 42, 43, 44, 45, 46, 47, 48, 49, 50, 51, 52, 53, 54, 55, 56, 57, 58, 59, 60, 61, 62, 63, 64, 65, 66, 67, 68, 69, 70, 71, 72, 73, 74, 75, 76, 77, 78, 79, 80] else if i = 11 then [2, 3, 4, 9, 11, 12, 13, 14, 15, 16, 17, 18, 19, 20, 21, 22, 23, 24, 25, 26, 27, 28, 29, 30, 31, 32, 33, 34, 35, 36, 37, 38, 39, 40, 41, 42, 43, 44, 45, 46, 47, 48, 49, 50, 51, 52, 53, 54, 55, 56, 57, 58, 59, 60, 61, 62, 63, 64, 65, 66, 67, 68, 69, 70, 71, 72, 73, 74, 75, 76, 77, 78, 79, 80] else []) (fun i => if i = 5 then [] else if i = 11 then [] else [])
noncomputable def g_internal_bytealg_IndexRabinKarp_string (K : Nat) (x0 : T_str.T) (x1 : T_str.T) : Option T_int.T := (e_internal_bytealg_IndexRabinKarp_string K).g (x0, x1, ())
noncomputable def L_internal_bytealg_IndexRabinKarp_string_5 (K : Nat) (k : Nat) (x0 : T_str.T) (x1 : T_str.T) (y_1 : (Ty.pair T_u32 (Ty.pair T_u32 Ty.unit)).T) (v8 : T_u32.T) (v9 : T_int.T) : Option T_int.T := resume (envOf G [e_internal_bytealg_hashStr_string K] K (fun i => if i = 5 then [2, 3, 4, 10, 11, 12, 13, 14, 15, 16, 17, 18, 19, 20, 21, 22, 23, 24, 25, 26, 27, 28, 29, 30, 31, 32, 33, 34, 35, 36, 37, 38, 39, 40, 41, 42, 43, 44, 45, 46, 47, 48, 49, 50, 51, 52, 53, 54, 55, 56, 57, 58, 59, 60, 61, 62, 63, 64, 65, 66, 67, 68, 69, 70, 71, 72, 73, 74, 75, 76, 77, 78, 79, 80] else if i = 11 then [2, 3, 4, 9, 11, 12, 13, 14, 15, 16, 17, 18, 19, 20, 21, 22, 23, 24, 25, 26, 27, 28, 29, 30, 31, 32, 33, 34, 35, 36, 37, 38, 39, 40, 41, 42, 43, 44, 45, 46, 47, 48, 49, 50, 51, 52, 53, 54, 55, 56, 57, 58, 59, 60, 61, 62, 63, 64, 65, 66, 67, 68, 69, 70, 71, 72, 73, 74, 75, 76, 77, 78, 79, 80] else []) (fun i => if i = 5 then [] else if i = 11 then [] else [])) dokB true T_int true Tryz.f246 [1, 1, 1, 1, 0, 1, 0] k (mkSt 81 [(0, .d T_str true x0), (1, .d T_str true x1), (5, .d T_u32 true y_1.1), (6, .d T_u32 true y_1.2.1), (7, .d T_int true ((ByteArray.size x1 : Nat) : Int)), (8, .d T_u32 true v8), (9, .d T_int true v9)] [])
noncomputable def L_internal_bytealg_IndexRabinKarp_string_11 (K : Nat) (k : Nat) (x0 : T_str.T) (x1 : T_str.T) (y_1 : (Ty.pair T_u32 (Ty.pair T_u32 Ty.unit)).T) (v8 : T_u32.T) (v10 : T_int.T) : Option T_int.T := resume (envOf G [e_internal_bytealg_hashStr_string K] K (fun i => if i = 5 then [2, 3, 4, 10, 11, 12, 13, 14, 15, 16, 17, 18, 19, 20, 21, 22, 23, 24, 25, 26, 27, 28, 29, 30, 31, 32, 33, 34, 35, 36, 37, 38, 39, 40, 41, 42, 43, 44, 45, 46, 47, 48, 49, 50, 51, 52, 53, 54, 55, 56, 57, 58, 59, 60, 61, 62, 63, 64, 65, 66, 67, 68, 69, 70, 71, 72, 73, 74, 75, 76, 77, 78, 79, 80] else if i = 11 then [2, 3, 4, 9, 11, 12, 13, 14, 15, 16, 17, 18, 19, 20, 21, 22, 23, 24, 25, 26, 27, 28, 29, 30, 31, 32, 33, 34, 35, 36, 37, 38, 39, 40, 41, 42, 43, 44, 45, 46, 47, 48, 49, 50, 51, 52, 53, 54, 55, 56, 57, 58, 59, 60, 61, 62, 63, 64, 65, 66, 67, 68, 69, 70, 71, 72, 73, 74, 75, 76, 77, 78, 79, 80] else []) (fun i => if i = 5 then [] else if i = 11 then [] else [])) dokB true T_int true Tryz.f246 [1, 1, 1, 1, 1, 1, 0, 1, 0] k (mkSt 81 [(0, .d T_str true x0), (1, .d T_str true x1), (5, .d T_u32 true y_1.1), (6, .d T_u32 true y_1.2.1), (7, .d T_int true ((ByteArray.size x1 : Nat) : Int)), (8, .d T_u32 true v8), (10, .d T_int true v10)] [])
/-! ### stringslite.Index -/
theorem fn_internal_stringslite_Index : fnOk G 217 Tryz.f217 := ⟨Tryz.func217, by kernel_rfl⟩
noncomputable def e_internal_stringslite_Index (K : Nat) : Ent G.P := mkEnt G 217 Tryz.f217 fn_internal_stringslite_Index [T_str, T_str] true T_int true [e_internal_stringslite_IndexByte K] K (fun _ => []) (fun _ => [])
noncomputable def g_internal_stringslite_Index (K : Nat) (x0 : T_str.T) (x1 : T_str.T) : Option T_int.T := (e_internal_stringslite_Index K).g (x0, x1, ())
/-! ### strings.Index -/
theorem fn_strings_Index : fnOk G 216 Tryz.f216 := ⟨Tryz.func216, by kernel_rfl⟩
noncomputable def e_strings_Index (K : Nat) : Ent G.P := mkEnt G 216 Tryz.f216 fn_strings_Index [T_str, T_str] true T_int true [e_internal_stringslite_Index K] K (fun _ => []) (fun _ => [])
noncomputable def g_strings_Index (K : Nat) (x0 : T_str.T) (x1 : T_str.T) : Option T_int.T := (e_strings_Index K).g (x0, x1, ())
/-! ### strings.genSplit -/
theorem fn_strings_genSplit : fnOk G 167 Tryz.f167 := ⟨Tryz.func167, by kernel_rfl⟩
noncomputable def e_strings_genSplit (K : Nat) : Ent G.P := mkEnt G 167 Tryz.f167 fn_strings_genSplit [T_str, T_str, T_int, T_int] true T_S_str true [e_strings_Count K, e_strings_Index K] K (fun i => if i = 11 then [4, 5, 6, 7, 8, 11, 12, 13, 14, 15, 16, 17, 18, 19, 20, 21, 22, 23, 24, 25, 26, 27, 28, 29, 30, 31, 32, 33, 34, 35, 36, 37, 38, 39, 40, 41, 42, 43, 44, 45, 46, 47, 48, 49, 50, 51, 52, 53, 54, 55, 56, 57, 58, 59, 60, 61, 62, 63, 64, 65] else []) (fun i => if i = 11 then [8] else [])
noncomputable def g_strings_genSplit (K : Nat) (x0 : T_str.T) (x1 : T_str.T) (x2 : T_int.T) (x3 : T_int.T) : Option T_S_str.T := (e_strings_genSplit K).g (x0, x1, x2, x3, ())
noncomputable def L_strings_genSplit_11 (K : Nat) (k : Nat) (x1 : T_str.T) (x2 : T_int.T) (v0 : T_str.T) (v3 : T_int.T) (v10 : T_int.T) (o31 : T_S_str.T) : Option T_S_str.T := resume (envOf G [e_strings_Count K, e_strings_Index K] K (fun i => if i = 11 then [4, 5, 6, 7, 8, 11, 12, 13, 14, 15, 16, 17, 18, 19, 20, 21, 22, 23, 24, 25, 26, 27, 28, 29, 30, 31, 32, 33, 34, 35, 36, 37, 38, 39, 40, 41, 42, 43, 44, 45, 46, 47, 48, 49, 50, 51, 52, 53, 54, 55, 56, 57, 58, 59, 60, 61, 62, 63, 64, 65] else []) (fun i => if i = 11 then [8] else [])) dokB true T_S_str true Tryz.f167 [1, 1, 1, 1, 1, 1, 1, 1, 0, 0] k (mkSt 66 [(0, .d T_str true v0), (1, .d T_str true x1), (2, .d T_int true x2), (3, .d T_int true v3), (9, .own 31), (10, .d T_int true v10)] [(31, .arr 9 T_str true o31)])
/-! ### strings.Split -/
theorem fn_strings_Split : fnOk G 106 Tryz.f106 := ⟨Tryz.func106, by kernel_rfl⟩
noncomputable def e_strings_Split (K : Nat) : Ent G.P := mkEnt G 106 Tryz.f106 fn_strings_Split [T_str, T_str] true T_S_str true [e_strings_genSplit K] K (fun _ => []) (fun _ => [])
noncomputable def g_strings_Split (K : Nat) (x0 : T_str.T) (x1 : T_str.T) : Option T_S_str.T := (e_strings_Split K).g (x0, x1, ())
/-! ### stringslite.Cut -/
theorem fn_internal_stringslite_Cut : fnOk G 168 Tryz.f168 := ⟨Tryz.func168, by kernel_rfl⟩
noncomputable def e_internal_stringslite_Cut (K : Nat) : Ent G.P := mkEnt G 168 Tryz.f168 fn_internal_stringslite_Cut [T_str, T_str] false (Ty.pair T_str (Ty.pair T_str (Ty.pair T_bool Ty.unit))) true [e_internal_stringslite_Index K] K (fun _ => []) (fun _ => [])
noncomputable def g_internal_stringslite_Cut (K : Nat) (x0 : T_str.T) (x1 : T_str.T) : Option (Ty.pair T_str (Ty.pair T_str (Ty.pair T_bool Ty.unit))).T := (e_internal_stringslite_Cut K).g (x0, x1, ())
/-! ### strings.Cut -/
theorem fn_strings_Cut : fnOk G 107 Tryz.f107 := ⟨Tryz.func107, by kernel_rfl⟩
noncomputable def e_strings_Cut (K : Nat) : Ent G.P := mkEnt G 107 Tryz.f107 fn_strings_Cut [T_str, T_str] false (Ty.pair T_str (Ty.pair T_str (Ty.pair T_bool Ty.unit))) true [e_internal_stringslite_Cut K] K (fun _ => []) (fun _ => [])
noncomputable def g_strings_Cut (K : Nat) (x0 : T_str.T) (x1 : T_str.T) : Option (Ty.pair T_str (Ty.pair T_str (Ty.pair T_bool Ty.unit))).T := (e_strings_Cut K).g (x0, x1, ())
/-! ### strings.SplitN -/
theorem fn_strings_SplitN : fnOk G 108 Tryz.f108 := ⟨Tryz.func108, by kernel_rfl⟩
noncomputable def e_strings_SplitN (K : Nat) : Ent G.P := mkEnt G 108 Tryz.f108 fn_strings_SplitN [T_str, T_str, T_int] true T_S_str true [e_strings_genSplit K] K (fun _ => []) (fun _ => [])
noncomputable def g_strings_SplitN (K : Nat) (x0 : T_str.T) (x1 : T_str.T) (x2 : T_int.T) : Option T_S_str.T := (e_strings_SplitN K).g (x0, x1, x2, ())
/-! ### impl.ParseNum -/
theorem fn_impl_ParseNum : fnOk G 109 Tryz.f109 := ⟨Tryz.func109, by kernel_rfl⟩
noncomputable def e_impl_ParseNum (K : Nat) : Ent G.P := mkEnt G 109 Tryz.f109 fn_impl_ParseNum [T_str, T_int] false (Ty.pair T_int (Ty.pair T_bool Ty.unit)) true [e_impl_isIn K] K (fun i => if i = 5 then [2, 3, 4, 5, 7, 8, 9, 10, 11, 12, 13, 14, 15, 16, 17, 18, 19, 20, 21, 22, 23, 24, 25, 26, 29, 30, 31, 32, 33, 34, 35, 36, 37, 38, 39, 40, 41, 42, 43, 44, 45, 46, 47, 48, 49, 50, 51, 52, 53] else []) (fun i => if i = 5 then [] else [])
noncomputable def g_impl_ParseNum (K : Nat) (x0 : T_str.T) (x1 : T_int.T) : Option (Ty.pair T_int (Ty.pair T_bool Ty.unit)).T := (e_impl_ParseNum K).g (x0, x1, ())
noncomputable def L_impl_ParseNum_5 (K : Nat) (k : Nat) (x0 : T_str.T) (x1 : T_int.T) (v6 : T_int.T) (v28 : T_int.T) : Option (Ty.pair T_int (Ty.pair T_bool Ty.unit)).T := resume (envOf G [e_impl_isIn K] K (fun i => if i = 5 then [2, 3, 4, 5, 7, 8, 9, 10, 11, 12, 13, 14, 15, 16, 17, 18, 19, 20, 21, 22, 23, 24, 25, 26, 29, 30, 31, 32, 33, 34, 35, 36, 37, 38, 39, 40, 41, 42, 43, 44, 45, 46, 47, 48, 49, 50, 51, 52, 53] else []) (fun i => if i = 5 then [] else [])) dokB false (Ty.pair T_int (Ty.pair T_bool Ty.unit)) true Tryz.f109 [1, 1, 1, 0, 1, 0] k (mkSt 54 [(0, .d T_str true x0), (1, .d T_int true x1), (6, .d T_int true v6), (27, .d T_int true ((ByteArray.size x0 : Nat) : Int)), (28, .d T_int true v28)] [])
/-! ### impl.nameOk -/
theorem fn_impl_nameOk : fnOk G 218 Tryz.f218 := ⟨Tryz.func218, by kernel_rfl⟩
noncomputable def e_impl_nameOk (K : Nat) : Ent G.P := mkEnt G 218 Tryz.f218 fn_impl_nameOk [T_str] true T_bool true [e_impl_isIn K] K (fun i => if i = 2 then [1, 2, 3, 4, 7, 8, 9, 10, 11, 12, 13, 14, 15, 16, 17, 18, 19, 20, 21, 22] else []) (fun i => if i = 2 then [] else [])
noncomputable def g_impl_nameOk (K : Nat) (x0 : T_str.T) : Option T_bool.T := (e_impl_nameOk K).g (x0, ())
noncomputable def L_impl_nameOk_2 (K : Nat) (k : Nat) (x0 : T_str.T) (v6 : T_int.T) : Option T_bool.T := resume (envOf G [e_impl_isIn K] K (fun i => if i = 2 then [1, 2, 3, 4, 7, 8, 9, 10, 11, 12, 13, 14, 15, 16, 17, 18, 19, 20, 21, 22] else []) (fun i => if i = 2 then [] else [])) dokB true T_bool true Tryz.f218 [1, 0, 1, 0] k (mkSt 23 [(0, .d T_str true x0), (5, .d T_int true ((ByteArray.size x0 : Nat) : Int)), (6, .d T_int true v6)] [])
/-! ### impl.dbPlace$1 -/
theorem fn_impl_dbPlace_1 : fnOk G 248 Tryz.f248 := ⟨Tryz.func248, by kernel_rfl⟩
noncomputable def e_impl_dbPlace_1 (K : Nat) : FEnt G.P := mkFEnt G 248 Tryz.f248 fn_impl_dbPlace_1 T_str T_impl_Db rfl [] K (fun _ => []) (fun _ => [])
noncomputable def g_impl_dbPlace_1 (K : Nat) (x0 : T_impl_Db.T) (x1 : T_str.T) : Option Bool := (e_impl_dbPlace_1 K).g x0 x1
/-! ### impl.Db] -/
theorem fn_slices_IndexFunc_S_impl_Db : fnOk G 247 Tryz.f247 := ⟨Tryz.func247, by kernel_rfl⟩
noncomputable def e_slices_IndexFunc_S_impl_Db (K : Nat) : HEnt G.P := mkHEnt G 247 Tryz.f247 fn_slices_IndexFunc_S_impl_Db 81 T_impl_Db 248 T_str [] [e_impl_dbPlace_1 K] K (fun i => if i = 2 then [2, 3, 4, 5, 6, 9, 10, 11, 12, 13, 14, 15, 16, 17, 18] else []) (fun i => if i = 2 then [] else [])
noncomputable def g_slices_IndexFunc_S_impl_Db (K : Nat) (x0 : T_S_impl_Db.T) (x1 : T_str.T) : Option Int := (e_slices_IndexFunc_S_impl_Db K).g x0 x1
noncomputable def L_slices_IndexFunc_S_impl_Db_2 (K : Nat) (k : Nat) (x0 : T_S_impl_Db.T) (x1 : T_str.T) (v8 : T_int.T) : Option T_int.T := resume (envF G [] [e_impl_dbPlace_1 K] [] K (fun i => if i = 2 then [2, 3, 4, 5, 6, 9, 10, 11, 12, 13, 14, 15, 16, 17, 18] else []) (fun i => if i = 2 then [] else [])) dokB true T_int true Tryz.f247 [1, 0, 1, 0] k (mkSt 19 [(0, .d T_S_impl_Db false x0), (1, .fnv 248 T_str x1), (7, .d T_int true ((List.length x0 : Nat) : Int)), (8, .d T_int true v8)] [])
/-! ### impl.dbPlace -/
theorem fn_impl_dbPlace : fnOk G 219 Tryz.f219 := ⟨Tryz.func219, by kernel_rfl⟩
noncomputable def e_impl_dbPlace (K : Nat) : Ent G.P := mkEntF G 219 Tryz.f219 fn_impl_dbPlace [T_S_impl_Db, T_str] true T_int true [] [] [e_slices_IndexFunc_S_impl_Db K] K (fun _ => []) (fun _ => [])
noncomputable def g_impl_dbPlace (K : Nat) (x0 : T_S_impl_Db.T) (x1 : T_str.T) : Option T_int.T := (e_impl_dbPlace K).g (x0, x1, ())
/-! ### impl.ConfOk -/
theorem fn_impl_ConfOk : fnOk G 169 Tryz.f169 := ⟨Tryz.func169, by kernel_rfl⟩
noncomputable def e_impl_ConfOk (K : Nat) : Ent G.P := mkEnt G 169 Tryz.f169 fn_impl_ConfOk [T_S_impl_Db] true T_bool true [e_impl_nameOk K, e_impl_dbPlace K, e_impl_isIn K] K (fun i => if i = 2 then [1, 2, 3, 4, 8, 9, 10, 11, 12, 13, 14, 15, 16, 17, 18, 19, 20, 21, 22, 23, 24, 25, 26, 27, 28, 29, 30, 31, 32, 33, 34, 35, 36, 37, 38, 39, 40, 41, 42, 43, 44, 45, 46, 47, 48, 49, 50, 51] else []) (fun i => if i = 2 then [4] else [])
noncomputable def g_impl_ConfOk (K : Nat) (x0 : T_S_impl_Db.T) : Option T_bool.T := (e_impl_ConfOk K).g (x0, ())
noncomputable def L_impl_ConfOk_2 (K : Nat) (k : Nat) (x0 : T_S_impl_Db.T) (v7 : T_int.T) : Option T_bool.T := resume (envOf G [e_impl_nameOk K, e_impl_dbPlace K, e_impl_isIn K] K (fun i => if i = 2 then [1, 2, 3, 4, 8, 9, 10, 11, 12, 13, 14, 15, 16, 17, 18, 19, 20, 21, 22, 23, 24, 25, 26, 27, 28, 29, 30, 31, 32, 33, 34, 35, 36, 37, 38, 39, 40, 41, 42, 43, 44, 45, 46, 47, 48, 49, 50, 51] else []) (fun i => if i = 2 then [4] else [])) dokB true T_bool true Tryz.f169 [1, 0, 1, 0] k (mkSt 52 [(0, .d T_S_impl_Db false x0), (5, .d T_S_impl_Db false x0), (6, .d T_int true ((List.length x0 : Nat) : Int)), (7, .d T_int true v7)] [])
/-! ### strconv.small -/
theorem fn_internal_strconv_small : fnOk G 260 Tryz.f260 := ⟨Tryz.func260, by kernel_rfl⟩
noncomputable def e_internal_strconv_small (K : Nat) : Ent G.P := mkEnt G 260 Tryz.f260 fn_internal_strconv_small [T_int] true T_str true [] K (fun _ => []) (fun _ => [])
noncomputable def g_internal_strconv_small (K : Nat) (x0 : T_int.T) : Option T_str.T := (e_internal_strconv_small K).g (x0, ())
/-! ### strconv.log10Pow2 -/
theorem fn_internal_strconv_log10Pow2 : fnOk G 264 Tryz.f264 := ⟨Tryz.func264, by kernel_rfl⟩
noncomputable def e_internal_strconv_log10Pow2 (K : Nat) : Ent G.P := mkEnt G 264 Tryz.f264 fn_internal_strconv_log10Pow2 [T_int] true T_int true [] K (fun _ => []) (fun _ => [])
noncomputable def g_internal_strconv_log10Pow2 (K : Nat) (x0 : T_int.T) : Option T_int.T := (e_internal_strconv_log10Pow2 K).g (x0, ())
/-! ### strconv.bool2[int] -/
theorem fn_internal_strconv_bool2_int : fnOk G 266 Tryz.f266 := ⟨Tryz.func266, by kernel_rfl⟩
noncomputable def e_internal_strconv_bool2_int (K : Nat) : Ent G.P := mkEnt G 266 Tryz.f266 fn_internal_strconv_bool2_int [T_bool] true T_int true [] K (fun _ => []) (fun _ => [])
noncomputable def g_internal_strconv_bool2_int (K : Nat) (x0 : T_bool.T) : Option T_int.T := (e_internal_strconv_bool2_int K).g (x0, ())
/-! ### strconv.isPowerOfTwo -/
theorem fn_internal_strconv_isPowerOfTwo : fnOk G 267 Tryz.f267 := ⟨Tryz.func267, by kernel_rfl⟩
noncomputable def e_internal_strconv_isPowerOfTwo (K : Nat) : Ent G.P := mkEnt G 267 Tryz.f267 fn_internal_strconv_isPowerOfTwo [T_int] true T_bool true [] K (fun _ => []) (fun _ => [])
noncomputable def g_internal_strconv_isPowerOfTwo (K : Nat) (x0 : T_int.T) : Option T_bool.T := (e_internal_strconv_isPowerOfTwo K).g (x0, ())
/-! ### bits.TrailingZeros32 -/
theorem fn_math_bits_TrailingZeros32 : fnOk G 269 Tryz.f269 := ⟨Tryz.func269, by kernel_rfl⟩
noncomputable def e_math_bits_TrailingZeros32 (K : Nat) : Ent G.P := mkEnt G 269 Tryz.f269 fn_math_bits_TrailingZeros32 [T_u32] true T_int true [] K (fun _ => []) (fun _ => [])
noncomputable def g_math_bits_TrailingZeros32 (K : Nat) (x0 : T_u32.T) : Option T_int.T := (e_math_bits_TrailingZeros32 K).g (x0, ())
/-! ### strconv.FormatInt -/
theorem fn_internal_strconv_FormatInt : fnOk G 257 Tryz.f257 := ⟨Tryz.func257, by kernel_rfl⟩
noncomputable def e_internal_strconv_FormatInt (K : Nat) : Ent G.P := mkEnt G 257 Tryz.f257 fn_internal_strconv_FormatInt [T_int, T_int] true T_str true [e_internal_strconv_small K] K (fun _ => []) (fun _ => [])
noncomputable def g_internal_strconv_FormatInt (K : Nat) (x0 : T_int.T) (x1 : T_int.T) : Option T_str.T := (e_internal_strconv_FormatInt K).g (x0, x1, ())
/-! ### strconv.Itoa -/
theorem fn_internal_strconv_Itoa : fnOk G 249 Tryz.f249 := ⟨Tryz.func249, by kernel_rfl⟩
noncomputable def e_internal_strconv_Itoa (K : Nat) : Ent G.P := mkEnt G 249 Tryz.f249 fn_internal_strconv_Itoa [T_int] true T_str true [e_internal_strconv_FormatInt K] K (fun _ => []) (fun _ => [])
noncomputable def g_internal_strconv_Itoa (K : Nat) (x0 : T_int.T) : Option T_str.T := (e_internal_strconv_Itoa K).g (x0, ())
/-! ### strconv.Itoa -/
theorem fn_strconv_Itoa : fnOk G 220 Tryz.f220 := ⟨Tryz.func220, by kernel_rfl⟩
noncomputable def e_strconv_Itoa (K : Nat) : Ent G.P := mkEnt G 220 Tryz.f220 fn_strconv_Itoa [T_int] true T_str true [e_internal_strconv_Itoa K] K (fun _ => []) (fun _ => [])
noncomputable def g_strconv_Itoa (K : Nat) (x0 : T_int.T) : Option T_str.T := (e_strconv_Itoa K).g (x0, ())
/-! ### impl.NumText -/
theorem fn_impl_NumText : fnOk G 170 Tryz.f170 := ⟨Tryz.func170, by kernel_rfl⟩
noncomputable def e_impl_NumText (K : Nat) : Ent G.P := mkEnt G 170 Tryz.f170 fn_impl_NumText [T_int] true T_str true [e_strconv_Itoa K] K (fun _ => []) (fun _ => [])
noncomputable def g_impl_NumText (K : Nat) (x0 : T_int.T) : Option T_str.T := (e_impl_NumText K).g (x0, ())
/-! ### impl.ConfText -/
theorem fn_impl_ConfText : fnOk G 110 Tryz.f110 := ⟨Tryz.func110, by kernel_rfl⟩
noncomputable def e_impl_ConfText (K : Nat) : Ent G.P := mkEnt G 110 Tryz.f110 fn_impl_ConfText [T_S_impl_Db] true T_str true [e_impl_ConfOk K, e_impl_NumText K, e_strings_Join K] K (fun i => if i = 5 then [0, 1, 2, 4, 5, 6, 7, 8, 9, 13, 14, 15, 16, 17, 18, 19, 20, 21, 22, 23, 24, 25, 26, 27, 28, 29, 30, 31, 32, 33, 34, 35, 36, 37, 38, 39, 40, 41, 42, 43] else []) (fun i => if i = 5 then [5, 39] else [])
noncomputable def g_impl_ConfText (K : Nat) (x0 : T_S_impl_Db.T) : Option T_str.T := (e_impl_ConfText K).g (x0, ())
noncomputable def L_impl_ConfText_5 (K : Nat) (k : Nat) (x0 : T_S_impl_Db.T) (v12 : T_int.T) (o9 : T_S_str.T) : Option T_str.T := resume (envOf G [e_impl_ConfOk K, e_impl_NumText K, e_strings_Join K] K (fun i => if i = 5 then [0, 1, 2, 4, 5, 6, 7, 8, 9, 13, 14, 15, 16, 17, 18, 19, 20, 21, 22, 23, 24, 25, 26, 27, 28, 29, 30, 31, 32, 33, 34, 35, 36, 37, 38, 39, 40, 41, 42, 43] else []) (fun i => if i = 5 then [5, 39] else [])) dokB true T_str true Tryz.f110 [1, 1, 1, 0, 1, 0] k (mkSt 44 [(3, .own 9), (10, .d T_S_impl_Db false x0), (11, .d T_int true ((List.length x0 : Nat) : Int)), (12, .d T_int true v12)] [(9, .arr 9 T_str true o9)])
/-! ### impl.ParseConf -/
theorem fn_impl_ParseConf : fnOk G 50 Tryz.f50 := ⟨Tryz.func50, by kernel_rfl⟩
noncomputable def e_impl_ParseConf (K : Nat) : Ent G.P := mkEnt G 50 Tryz.f50 fn_impl_ParseConf [T_str] false (Ty.pair T_S_impl_Db (Ty.pair T_bool Ty.unit)) true [e_strings_Split K, e_strings_Cut K, e_strings_SplitN K, e_impl_ParseNum K, e_impl_ConfText K] K (fun i => if i = 3 then [1, 2, 3, 5, 6, 7, 8, 9, 10, 11, 12, 13, 14, 18, 19, 20, 21, 22, 23, 24, 25, 26, 27, 28, 29, 30, 31, 32, 33, 34, 35, 36, 37, 38, 39, 40, 41, 42, 43, 44, 45, 46, 47, 48, 49, 50, 51, 52, 53, 54, 55, 56, 57, 58, 59, 60, 61, 62, 63, 64, 65, 66, 67] else if i = 8 then [1, 2, 3, 5, 6, 8, 9, 11, 12, 13, 14, 18, 19, 20, 21, 22, 23, 24, 25, 26, 27, 28, 32, 33, 34, 35, 36, 37, 38, 39, 40, 41, 42, 43, 44, 45, 46, 47, 48, 49, 50, 51, 52, 53, 54, 55, 56, 57, 58, 59, 60, 61, 62, 63, 64, 65, 66, 67] else []) (fun i => if i = 3 then [2, 10, 55] else if i = 8 then [] else [])
noncomputable def g_impl_ParseConf (K : Nat) (x0 : T_str.T) : Option (Ty.pair T_S_impl_Db (Ty.pair T_bool Ty.unit)).T := (e_impl_ParseConf K).g (x0, ())
noncomputable def L_impl_ParseConf_3 (K : Nat) (k : Nat) (x0 : T_str.T) (y_1 : T_S_str.T) (v17 : T_int.T) (o13 : T_S_impl_Db.T) : Option (Ty.pair T_S_impl_Db (Ty.pair T_bool Ty.unit)).T := resume (envOf G [e_strings_Split K, e_strings_Cut K, e_strings_SplitN K, e_impl_ParseNum K, e_impl_ConfText K] K (fun i => if i = 3 then [1, 2, 3, 5, 6, 7, 8, 9, 10, 11, 12, 13, 14, 18, 19, 20, 21, 22, 23, 24, 25, 26, 27, 28, 29, 30, 31, 32, 33, 34, 35, 36, 37, 38, 39, 40, 41, 42, 43, 44, 45, 46, 47, 48, 49, 50, 51, 52, 53, 54, 55, 56, 57, 58, 59, 60, 61, 62, 63, 64, 65, 66, 67] else if i = 8 then [1, 2, 3, 5, 6, 8, 9, 11, 12, 13, 14, 18, 19, 20, 21, 22, 23, 24, 25, 26, 27, 28, 32, 33, 34, 35, 36, 37, 38, 39, 40, 41, 42, 43, 44, 45, 46, 47, 48, 49, 50, 51, 52, 53, 54, 55, 56, 57, 58, 59, 60, 61, 62, 63, 64, 65, 66, 67] else []) (fun i => if i = 3 then [2, 10, 55] else if i = 8 then [] else [])) dokB false (Ty.pair T_S_impl_Db (Ty.pair T_bool Ty.unit)) true Tryz.f50 [1, 1, 0, 1, 0] k (mkSt 68 [(0, .d T_str true x0), (4, .own 13), (15, .d T_S_str true y_1), (16, .d T_int true ((List.length y_1 : Nat) : Int)), (17, .d T_int true v17)] [(13, .arr 81 T_impl_Db true o13)])
noncomputable def L_impl_ParseConf_8 (K : Nat) (k : Nat) (n0 : Nat) (x0 : T_str.T) (y_1 : T_S_str.T) (v17 : T_int.T) (y_2 : (Ty.pair T_str (Ty.pair T_str (Ty.pair T_bool Ty.unit))).T) (y_3 : T_S_str.T) (v31 : T_int.T) (o13 : T_S_impl_Db.T) (o10 : T_impl_Hand.T) : Option (Ty.pair T_S_impl_Db (Ty.pair T_bool Ty.unit)).T := resume (envOf G [e_strings_Split K, e_strings_Cut K, e_strings_SplitN K, e_impl_ParseNum K, e_impl_ConfText K] K (fun i => if i = 3 then [1, 2, 3, 5, 6, 7, 8, 9, 10, 11, 12, 13, 14, 18, 19, 20, 21, 22, 23, 24, 25, 26, 27, 28, 29, 30, 31, 32, 33, 34, 35, 36, 37, 38, 39, 40, 41, 42, 43, 44, 45, 46, 47, 48, 49, 50, 51, 52, 53, 54, 55, 56, 57, 58, 59, 60, 61, 62, 63, 64, 65, 66, 67] else if i = 8 then [1, 2, 3, 5, 6, 8, 9, 11, 12, 13, 14, 18, 19, 20, 21, 22, 23, 24, 25, 26, 27, 28, 32, 33, 34, 35, 36, 37, 38, 39, 40, 41, 42, 43, 44, 45, 46, 47, 48, 49, 50, 51, 52, 53, 54, 55, 56, 57, 58, 59, 60, 61, 62, 63, 64, 65, 66, 67] else []) (fun i => if i = 3 then [2, 10, 55] else if i = 8 then [] else [])) dokB false (Ty.pair T_S_impl_Db (Ty.pair T_bool Ty.unit)) true Tryz.f50 [1, 1, 0, 1, 0, n0 + 2, 1, 1, 0, 0, 1, 1, 1, 0, 1, 0] k (mkSt 68 [(0, .d T_str true x0), (4, .own 13), (7, .d T_str true y_2.1), (10, .ptr 10 0 T_impl_Hand), (15, .d T_S_str true y_1), (16, .d T_int true ((List.length y_1 : Nat) : Int)), (17, .d T_int true v17), (29, .d T_S_str true y_3), (30, .d T_int true ((List.length y_3 : Nat) : Int)), (31, .d T_int true v31)] [(10, .box T_impl_Hand true o10), (13, .arr 81 T_impl_Db true o13)])
/-! ### impl.confOk -/
theorem fn_impl_confOk : fnOk G 238 Tryz.f238 := ⟨Tryz.func238, by kernel_rfl⟩
noncomputable def e_impl_confOk (K : Nat) : Ent G.P := mkEnt G 238 Tryz.f238 fn_impl_confOk [T_str] true T_bool true [e_impl_ParseConf K] K (fun _ => []) (fun _ => [])
noncomputable def g_impl_confOk (K : Nat) (x0 : T_str.T) : Option T_bool.T := (e_impl_confOk K).g (x0, ())
/-! ### impl.RecOk -/
theorem fn_impl_RecOk : fnOk G 210 Tryz.f210 := ⟨Tryz.func210, by kernel_rfl⟩
noncomputable def e_impl_RecOk (K : Nat) : Ent G.P := mkEnt G 210 Tryz.f210 fn_impl_RecOk [T_impl_Rec] true T_bool true [e_impl_isIn K, e_impl_confOk K] K (fun _ => []) (fun _ => [])
noncomputable def g_impl_RecOk (K : Nat) (x0 : T_impl_Rec.T) : Option T_bool.T := (e_impl_RecOk K).g (x0, ())
/-! ### impl.wordOk -/
theorem fn_impl_wordOk : fnOk G 177 Tryz.f177 := ⟨Tryz.func177, by kernel_rfl⟩
noncomputable def e_impl_wordOk (K : Nat) : Ent G.P := mkEnt G 177 Tryz.f177 fn_impl_wordOk [T_int] true T_bool true [e_impl_isIn K] K (fun _ => []) (fun _ => [])
noncomputable def g_impl_wordOk (K : Nat) (x0 : T_int.T) : Option T_bool.T := (e_impl_wordOk K).g (x0, ())
/-! ### impl.PutText -/
theorem fn_impl_PutText : fnOk G 236 Tryz.f236 := ⟨Tryz.func236, by kernel_rfl⟩
noncomputable def e_impl_PutText (K : Nat) : Ent G.P := mkEntO G 236 Tryz.f236 fn_impl_PutText [T_S_u8, T_str] 5 T_u8 false [e_slices_Clone_S_byte K, e_impl_TextOk K] K (fun _ => []) (fun _ => [])
noncomputable def g_impl_PutText (K : Nat) (x0 : T_S_u8.T) (x1 : T_str.T) : Option T_S_u8.T := (e_impl_PutText K).g (x0, x1, ())
/-! ### impl.PutRec -/
theorem fn_impl_PutRec : fnOk G 208 Tryz.f208 := ⟨Tryz.func208, by kernel_rfl⟩
noncomputable def e_impl_PutRec (K : Nat) : Ent G.P := mkEntO G 208 Tryz.f208 fn_impl_PutRec [T_int, T_int, T_impl_Rec] 5 T_u8 true [e_impl_RecOk K, e_impl_wordOk K, e_impl_PutWord K, e_impl_PutText K, e_impl_Sum K] K (fun _ => []) (fun _ => [])
noncomputable def g_impl_PutRec (K : Nat) (x0 : T_int.T) (x1 : T_int.T) (x2 : T_impl_Rec.T) : Option T_S_u8.T := (e_impl_PutRec K).g (x0, x1, x2, ())
/-! ### impl.GetRec -/
theorem fn_impl_GetRec : fnOk G 156 Tryz.f156 := ⟨Tryz.func156, by kernel_rfl⟩
noncomputable def e_impl_GetRec (K : Nat) : Ent G.P := mkEnt G 156 Tryz.f156 fn_impl_GetRec [T_S_u8] false (Ty.pair T_int (Ty.pair T_int (Ty.pair T_impl_Rec (Ty.pair T_bool Ty.unit)))) true [e_impl_GetWord K, e_impl_GetText K, e_impl_PutRec K, e_bytes_Equal K] K (fun _ => []) (fun _ => [])
noncomputable def g_impl_GetRec (K : Nat) (x0 : T_S_u8.T) : Option (Ty.pair T_int (Ty.pair T_int (Ty.pair T_impl_Rec (Ty.pair T_bool Ty.unit)))).T := (e_impl_GetRec K).g (x0, ())
/-! ### impl.genOk -/
theorem fn_impl_genOk : fnOk G 237 Tryz.f237 := ⟨Tryz.func237, by kernel_rfl⟩
noncomputable def e_impl_genOk (K : Nat) : Ent G.P := mkEnt G 237 Tryz.f237 fn_impl_genOk [T_int, T_str] true T_bool true [e_impl_isIn K, e_impl_confOk K] K (fun _ => []) (fun _ => [])
noncomputable def g_impl_genOk (K : Nat) (x0 : T_int.T) (x1 : T_str.T) : Option T_bool.T := (e_impl_genOk K).g (x0, x1, ())
/-! ### impl.KnownOk -/
theorem fn_impl_KnownOk : fnOk G 209 Tryz.f209 := ⟨Tryz.func209, by kernel_rfl⟩
noncomputable def e_impl_KnownOk (K : Nat) : Ent G.P := mkEnt G 209 Tryz.f209 fn_impl_KnownOk [T_impl_Known] true T_bool true [e_impl_genOk K, e_impl_isIn K] K (fun _ => []) (fun _ => [])
noncomputable def g_impl_KnownOk (K : Nat) (x0 : T_impl_Known.T) : Option T_bool.T := (e_impl_KnownOk K).g (x0, ())
/-! ### impl.Apply -/
theorem fn_impl_Apply : fnOk G 158 Tryz.f158 := ⟨Tryz.func158, by kernel_rfl⟩
noncomputable def e_impl_Apply (K : Nat) : Ent G.P := mkEnt G 158 Tryz.f158 fn_impl_Apply [T_impl_Known, T_impl_Rec] false (Ty.pair T_impl_Known (Ty.pair T_bool Ty.unit)) true [e_impl_KnownOk K, e_impl_RecOk K] K (fun _ => []) (fun _ => [])
noncomputable def g_impl_Apply (K : Nat) (x0 : T_impl_Known.T) (x1 : T_impl_Rec.T) : Option (Ty.pair T_impl_Known (Ty.pair T_bool Ty.unit)).T := (e_impl_Apply K).g (x0, x1, ())
/-! ### impl.Replay -/
theorem fn_impl_Replay : fnOk G 98 Tryz.f98 := ⟨Tryz.func98, by kernel_rfl⟩
noncomputable def e_impl_Replay (K : Nat) : Ent G.P := mkEnt G 98 Tryz.f98 fn_impl_Replay [T_impl_Disk, T_int] false (Ty.pair T_impl_Known (Ty.pair T_int Ty.unit)) true [e_impl_isIn K, e_impl_sectorOf K, e_impl_ReadSec K, e_impl_GetRec K, e_impl_Apply K] K (fun i => if i = 5 then [0, 3, 5, 7, 8, 9, 10, 11, 12, 13, 14, 15, 16, 17, 18, 20, 21, 22, 23, 24, 25, 26, 27, 28, 29, 30, 31, 32, 33, 34, 35, 36, 37, 38, 39, 40, 41, 42, 43, 44, 45, 46, 47, 48, 49, 50, 51, 52, 53, 54, 55, 56, 57, 58, 59] else []) (fun i => if i = 5 then [10, 12, 27] else [])
noncomputable def g_impl_Replay (K : Nat) (x0 : T_impl_Disk.T) (x1 : T_int.T) : Option (Ty.pair T_impl_Known (Ty.pair T_int Ty.unit)).T := (e_impl_Replay K).g (x0, x1, ())
noncomputable def L_impl_Replay_5 (K : Nat) (k : Nat) (x1 : T_int.T) (v19 : T_int.T) (o2 : T_impl_Disk.T) (o4 : T_impl_Known.T) (o6 : T_impl_Known.T) : Option (Ty.pair T_impl_Known (Ty.pair T_int Ty.unit)).T := resume (envOf G [e_impl_isIn K, e_impl_sectorOf K, e_impl_ReadSec K, e_impl_GetRec K, e_impl_Apply K] K (fun i => if i = 5 then [0, 3, 5, 7, 8, 9, 10, 11, 12, 13, 14, 15, 16, 17, 18, 20, 21, 22, 23, 24, 25, 26, 27, 28, 29, 30, 31, 32, 33, 34, 35, 36, 37, 38, 39, 40, 41, 42, 43, 44, 45, 46, 47, 48, 49, 50, 51, 52, 53, 54, 55, 56, 57, 58, 59] else []) (fun i => if i = 5 then [10, 12, 27] else [])) dokB false (Ty.pair T_impl_Known (Ty.pair T_int Ty.unit)) true Tryz.f98 [1, 1, 1, 0, 1, 0] k (mkSt 60 [(1, .d T_int true x1), (2, .ptr 2 0 T_impl_Disk), (4, .ptr 4 0 T_impl_Known), (6, .ptr 6 0 T_impl_Known), (19, .d T_int true v19)] [(2, .box T_impl_Disk false o2), (4, .box T_impl_Known true o4), (6, .box T_impl_Known true o6)])
/-! ### impl.OpenJour -/
theorem fn_impl_OpenJour : fnOk G 43 Tryz.f43 := ⟨Tryz.func43, by kernel_rfl⟩
noncomputable def e_impl_OpenJour (K : Nat) : Ent G.P := mkEnt G 43 Tryz.f43 fn_impl_OpenJour [T_impl_Disk] false (Ty.pair T_impl_Jour (Ty.pair T_bool Ty.unit)) true [e_impl_DiskOk K, e_impl_ReadSec K, e_impl_GetHead K, e_impl_Replay K] K (fun i => if i = 5 then [0, 3, 6, 7, 8, 9, 10, 11, 12, 13, 14, 15, 16, 17, 18, 19, 20, 21, 22, 24, 25, 26, 27, 28, 29, 30, 31, 32, 33, 34, 35, 36, 37, 38, 39, 40, 41, 42, 43, 44, 45, 46, 47, 48, 49, 50, 51, 52, 53, 54, 55, 56, 57, 58, 59, 60, 61, 62, 63, 64, 65, 66, 67] else []) (fun i => if i = 5 then [10, 29] else [])
noncomputable def g_impl_OpenJour (K : Nat) (x0 : T_impl_Disk.T) : Option (Ty.pair T_impl_Jour (Ty.pair T_bool Ty.unit)).T := (e_impl_OpenJour K).g (x0, ())
noncomputable def L_impl_OpenJour_5 (K : Nat) (k : Nat) (v5 : T_bool.T) (v23 : T_int.T) (o1 : T_impl_Disk.T) (o2 : T_impl_Jour.T) (o4 : T_impl_Jour.T) : Option (Ty.pair T_impl_Jour (Ty.pair T_bool Ty.unit)).T := resume (envOf G [e_impl_DiskOk K, e_impl_ReadSec K, e_impl_GetHead K, e_impl_Replay K] K (fun i => if i = 5 then [0, 3, 6, 7, 8, 9, 10, 11, 12, 13, 14, 15, 16, 17, 18, 19, 20, 21, 22, 24, 25, 26, 27, 28, 29, 30, 31, 32, 33, 34, 35, 36, 37, 38, 39, 40, 41, 42, 43, 44, 45, 46, 47, 48, 49, 50, 51, 52, 53, 54, 55, 56, 57, 58, 59, 60, 61, 62, 63, 64, 65, 66, 67] else []) (fun i => if i = 5 then [10, 29] else [])) dokB false (Ty.pair T_impl_Jour (Ty.pair T_bool Ty.unit)) true Tryz.f43 [1, 1, 1, 0, 1, 0] k (mkSt 68 [(1, .ptr 1 0 T_impl_Disk), (2, .ptr 2 0 T_impl_Jour), (4, .ptr 4 0 T_impl_Jour), (5, .d T_bool true v5), (23, .d T_int true v23)] [(1, .box T_impl_Disk false o1), (2, .box T_impl_Jour true o2), (4, .box T_impl_Jour true o4)])
/-! ### impl.KnownOf -/
theorem fn_impl_KnownOf : fnOk G 13 Tryz.f13 := ⟨Tryz.func13, by kernel_rfl⟩
noncomputable def e_impl_KnownOf (K : Nat) : Ent G.P := mkEnt G 13 Tryz.f13 fn_impl_KnownOf [T_impl_World] true T_impl_Known true [e_impl_OpenJour K] K (fun _ => []) (fun _ => [])
noncomputable def g_impl_KnownOf (K : Nat) (x0 : T_impl_World.T) : Option T_impl_Known.T := (e_impl_KnownOf K).g (x0, ())
/-! ### impl.Counts -/
theorem fn_impl_Counts : fnOk G 17 Tryz.f17 := ⟨Tryz.func17, by kernel_rfl⟩
noncomputable def e_impl_Counts (K : Nat) : Ent G.P := mkEnt G 17 Tryz.f17 fn_impl_Counts [T_impl_World] true T_S_impl_Db true [e_impl_KnownOf K, e_impl_ParseConf K] K (fun _ => []) (fun _ => [])
noncomputable def g_impl_Counts (K : Nat) (x0 : T_impl_World.T) : Option T_S_impl_Db.T := (e_impl_Counts K).g (x0, ())
/-! ### laws.markByteS -/
theorem fn_laws_markByteS : fnOk G 113 Tryz.f113 := ⟨Tryz.func113, by kernel_rfl⟩
noncomputable def e_laws_markByteS (K : Nat) : LEnt G.P := mkLEnt G 113 Tryz.f113 fn_laws_markByteS T_S_u8 [] [] K (fun i => if i = 2 then [2, 3, 4, 6, 7, 8, 9, 10, 11, 12, 13, 14, 15, 16, 17, 18, 19] else []) (fun i => if i = 2 then [] else [])
noncomputable def g_laws_markByteS (K : Nat) (x0 : T_S_u8.T) (x1 : Int) : Option Int := (e_laws_markByteS K).g x0 x1
noncomputable def L_laws_markByteS_2 (K : Nat) (k : Nat) (x0 : T_S_u8.T) (v1 : T_int.T) (v5 : T_int.T) : Option T_int.T := resume (envL G [] [] K (fun i => if i = 2 then [2, 3, 4, 6, 7, 8, 9, 10, 11, 12, 13, 14, 15, 16, 17, 18, 19] else []) (fun i => if i = 2 then [] else [])) dokB true T_int true Tryz.f113 [1, 0, 1, 0] k (mkSt 20 [(0, .lin T_S_u8 x0), (1, .d T_int true v1), (5, .d T_int true v5)] [])
/-! ### laws.markByteSS -/
theorem fn_laws_markByteSS : fnOk G 111 Tryz.f111 := ⟨Tryz.func111, by kernel_rfl⟩
noncomputable def e_laws_markByteSS (K : Nat) : LEnt G.P := mkLEnt G 111 Tryz.f111 fn_laws_markByteSS T_S_S_u8 [] [e_laws_markByteS K] K (fun i => if i = 2 then [2, 3, 4, 6, 7, 8, 9, 10, 11, 12, 13, 14, 15, 16, 17, 18] else []) (fun i => if i = 2 then [] else [])
noncomputable def g_laws_markByteSS (K : Nat) (x0 : T_S_S_u8.T) (x1 : Int) : Option Int := (e_laws_markByteSS K).g x0 x1
noncomputable def L_laws_markByteSS_2 (K : Nat) (k : Nat) (x0 : T_S_S_u8.T) (v1 : T_int.T) (v5 : T_int.T) : Option T_int.T := resume (envL G [] [e_laws_markByteS K] K (fun i => if i = 2 then [2, 3, 4, 6, 7, 8, 9, 10, 11, 12, 13, 14, 15, 16, 17, 18] else []) (fun i => if i = 2 then [] else [])) dokB true T_int true Tryz.f111 [1, 0, 1, 0] k (mkSt 19 [(0, .lin T_S_S_u8 x0), (1, .d T_int true v1), (5, .d T_int true v5)] [])
/-! ### laws.markWrS -/
theorem fn_laws_markWrS : fnOk G 112 Tryz.f112 := ⟨Tryz.func112, by kernel_rfl⟩
noncomputable def e_laws_markWrS (K : Nat) : LEnt G.P := mkLEnt G 112 Tryz.f112 fn_laws_markWrS T_S_impl_Wr [] [e_laws_markByteS K] K (fun i => if i = 2 then [2, 3, 4, 6, 7, 8, 9, 10, 11, 12, 13, 14, 15, 16, 17, 18, 19, 20, 21, 22, 23, 24, 25, 26] else []) (fun i => if i = 2 then [] else [])
noncomputable def g_laws_markWrS (K : Nat) (x0 : T_S_impl_Wr.T) (x1 : Int) : Option Int := (e_laws_markWrS K).g x0 x1
noncomputable def L_laws_markWrS_2 (K : Nat) (k : Nat) (x0 : T_S_impl_Wr.T) (v1 : T_int.T) (v5 : T_int.T) : Option T_int.T := resume (envL G [] [e_laws_markByteS K] K (fun i => if i = 2 then [2, 3, 4, 6, 7, 8, 9, 10, 11, 12, 13, 14, 15, 16, 17, 18, 19, 20, 21, 22, 23, 24, 25, 26] else []) (fun i => if i = 2 then [] else [])) dokB true T_int true Tryz.f112 [1, 0, 1, 0] k (mkSt 27 [(0, .lin T_S_impl_Wr x0), (1, .d T_int true v1), (5, .d T_int true v5)] [])
/-! ### laws.markDisk -/
theorem fn_laws_markDisk : fnOk G 52 Tryz.f52 := ⟨Tryz.func52, by kernel_rfl⟩
noncomputable def e_laws_markDisk (K : Nat) : LEnt G.P := mkLEnt G 52 Tryz.f52 fn_laws_markDisk T_impl_Disk [] [e_laws_markByteSS K, e_laws_markWrS K] K (fun _ => []) (fun _ => [])
noncomputable def g_laws_markDisk (K : Nat) (x0 : T_impl_Disk.T) (x1 : Int) : Option Int := (e_laws_markDisk K).g x0 x1
/-! ### laws.markSockS -/
theorem fn_laws_markSockS : fnOk G 53 Tryz.f53 := ⟨Tryz.func53, by kernel_rfl⟩
noncomputable def e_laws_markSockS (K : Nat) : LEnt G.P := mkLEnt G 53 Tryz.f53 fn_laws_markSockS T_S_impl_Sock [] [e_laws_markByteS K] K (fun i => if i = 2 then [2, 3, 4, 6, 7, 8, 9, 10, 11, 12, 13, 14, 15, 16, 17, 18, 19, 20, 21, 22, 23, 24, 25, 26, 27, 28, 29, 30, 31, 32, 33, 34, 35, 36, 37, 38, 39, 40, 41, 42, 43, 44, 45, 46, 47, 48, 49, 50, 51, 52, 53, 54, 55, 56, 57, 58, 59, 60, 61, 62, 63, 64, 65, 66, 67, 68, 69, 70] else []) (fun i => if i = 2 then [] else [])
noncomputable def g_laws_markSockS (K : Nat) (x0 : T_S_impl_Sock.T) (x1 : Int) : Option Int := (e_laws_markSockS K).g x0 x1
noncomputable def L_laws_markSockS_2 (K : Nat) (k : Nat) (x0 : T_S_impl_Sock.T) (v1 : T_int.T) (v5 : T_int.T) : Option T_int.T := resume (envL G [] [e_laws_markByteS K] K (fun i => if i = 2 then [2, 3, 4, 6, 7, 8, 9, 10, 11, 12, 13, 14, 15, 16, 17, 18, 19, 20, 21, 22, 23, 24, 25, 26, 27, 28, 29, 30, 31, 32, 33, 34, 35, 36, 37, 38, 39, 40, 41, 42, 43, 44, 45, 46, 47, 48, 49, 50, 51, 52, 53, 54, 55, 56, 57, 58, 59, 60, 61, 62, 63, 64, 65, 66, 67, 68, 69, 70] else []) (fun i => if i = 2 then [] else [])) dokB true T_int true Tryz.f53 [1, 0, 1, 0] k (mkSt 71 [(0, .lin T_S_impl_Sock x0), (1, .d T_int true v1), (5, .d T_int true v5)] [])
/-! ### laws.markText -/
theorem fn_laws_markText : fnOk G 57 Tryz.f57 := ⟨Tryz.func57, by kernel_rfl⟩
noncomputable def e_laws_markText (K : Nat) : Ent G.P := mkEnt G 57 Tryz.f57 fn_laws_markText [T_int] true T_str true [] K (fun i => if i = 4 then [1, 2, 4, 5, 6, 7, 8, 9, 10, 11, 12, 13, 14, 15, 16, 17, 18, 19] else []) (fun i => if i = 4 then [12] else [])
noncomputable def g_laws_markText (K : Nat) (x0 : T_int.T) : Option T_str.T := (e_laws_markText K).g (x0, ())
noncomputable def L_laws_markText_4 (K : Nat) (k : Nat) (v0 : T_int.T) (v3 : T_str.T) : Option T_str.T := resume (envOf G [] K (fun i => if i = 4 then [1, 2, 4, 5, 6, 7, 8, 9, 10, 11, 12, 13, 14, 15, 16, 17, 18, 19] else []) (fun i => if i = 4 then [12] else [])) dokB true T_str true Tryz.f57 [1, 1, 1, 0, 0] k (mkSt 20 [(0, .d T_int true v0), (3, .d T_str true v3)] [])
/-! ### laws.markDbS -/
theorem fn_laws_markDbS : fnOk G 20 Tryz.f20 := ⟨Tryz.func20, by kernel_rfl⟩
noncomputable def e_laws_markDbS (K : Nat) : LEnt G.P := mkLEnt G 20 Tryz.f20 fn_laws_markDbS T_S_impl_Db [e_laws_markText K] [] K (fun i => if i = 2 then [2, 3, 4, 6, 7, 8, 9, 10, 11, 12, 13, 14, 15, 16, 17, 18, 19, 20, 21, 22, 23, 24, 25, 26, 27, 28, 29, 30, 31, 32, 33, 34, 35, 36, 37, 38, 39, 40, 41, 42, 43, 44, 45, 46, 47, 48] else []) (fun i => if i = 2 then [] else [])
noncomputable def g_laws_markDbS (K : Nat) (x0 : T_S_impl_Db.T) (x1 : Int) : Option Int := (e_laws_markDbS K).g x0 x1
noncomputable def L_laws_markDbS_2 (K : Nat) (k : Nat) (x0 : T_S_impl_Db.T) (v1 : T_int.T) (v5 : T_int.T) : Option T_int.T := resume (envL G [e_laws_markText K] [] K (fun i => if i = 2 then [2, 3, 4, 6, 7, 8, 9, 10, 11, 12, 13, 14, 15, 16, 17, 18, 19, 20, 21, 22, 23, 24, 25, 26, 27, 28, 29, 30, 31, 32, 33, 34, 35, 36, 37, 38, 39, 40, 41, 42, 43, 44, 45, 46, 47, 48] else []) (fun i => if i = 2 then [] else [])) dokB true T_int true Tryz.f20 [1, 0, 1, 0] k (mkSt 49 [(0, .lin T_S_impl_Db x0), (1, .d T_int true v1), (5, .d T_int true v5)] [])
/-! ### laws.markAskerS -/
theorem fn_laws_markAskerS : fnOk G 114 Tryz.f114 := ⟨Tryz.func114, by kernel_rfl⟩
noncomputable def e_laws_markAskerS (K : Nat) : LEnt G.P := mkLEnt G 114 Tryz.f114 fn_laws_markAskerS T_S_impl_Asker [e_laws_markText K] [] K (fun i => if i = 2 then [2, 3, 4, 6, 7, 8, 9, 10, 11, 12, 13, 14, 15, 16, 17, 18, 19, 20, 21, 22, 23, 24, 25, 26, 27, 28, 29, 30, 31, 32, 33, 34, 35, 36, 37, 38, 39, 40, 41, 42, 43, 44, 45, 46, 47, 48, 49, 50, 51, 52, 53, 54, 55, 56, 57, 58, 59, 60, 61, 62, 63, 64, 65, 66, 67, 68, 69, 70] else []) (fun i => if i = 2 then [] else [])
noncomputable def g_laws_markAskerS (K : Nat) (x0 : T_S_impl_Asker.T) (x1 : Int) : Option Int := (e_laws_markAskerS K).g x0 x1
noncomputable def L_laws_markAskerS_2 (K : Nat) (k : Nat) (x0 : T_S_impl_Asker.T) (v1 : T_int.T) (v5 : T_int.T) : Option T_int.T := resume (envL G [e_laws_markText K] [] K (fun i => if i = 2 then [2, 3, 4, 6, 7, 8, 9, 10, 11, 12, 13, 14, 15, 16, 17, 18, 19, 20, 21, 22, 23, 24, 25, 26, 27, 28, 29, 30, 31, 32, 33, 34, 35, 36, 37, 38, 39, 40, 41, 42, 43, 44, 45, 46, 47, 48, 49, 50, 51, 52, 53, 54, 55, 56, 57, 58, 59, 60, 61, 62, 63, 64, 65, 66, 67, 68, 69, 70] else []) (fun i => if i = 2 then [] else [])) dokB true T_int true Tryz.f114 [1, 0, 1, 0] k (mkSt 71 [(0, .lin T_S_impl_Asker x0), (1, .d T_int true v1), (5, .d T_int true v5)] [])
/-! ### laws.markLineS -/
theorem fn_laws_markLineS : fnOk G 115 Tryz.f115 := ⟨Tryz.func115, by kernel_rfl⟩
noncomputable def e_laws_markLineS (K : Nat) : LEnt G.P := mkLEnt G 115 Tryz.f115 fn_laws_markLineS T_S_impl_Line [e_laws_markText K] [] K (fun i => if i = 2 then [2, 3, 4, 6, 7, 8, 9, 10, 11, 12, 13, 14, 15, 16, 17, 18, 19, 20, 21, 22, 23, 24, 25, 26, 27, 28, 29, 30, 31, 32, 33, 34, 35, 36, 37, 38, 39, 40, 41, 42, 43, 44, 45, 46, 47, 48, 49, 50, 51, 52, 53, 54, 55, 56, 57, 58, 59, 60, 61, 62] else []) (fun i => if i = 2 then [] else [])
noncomputable def g_laws_markLineS (K : Nat) (x0 : T_S_impl_Line.T) (x1 : Int) : Option Int := (e_laws_markLineS K).g x0 x1
noncomputable def L_laws_markLineS_2 (K : Nat) (k : Nat) (x0 : T_S_impl_Line.T) (v1 : T_int.T) (v5 : T_int.T) : Option T_int.T := resume (envL G [e_laws_markText K] [] K (fun i => if i = 2 then [2, 3, 4, 6, 7, 8, 9, 10, 11, 12, 13, 14, 15, 16, 17, 18, 19, 20, 21, 22, 23, 24, 25, 26, 27, 28, 29, 30, 31, 32, 33, 34, 35, 36, 37, 38, 39, 40, 41, 42, 43, 44, 45, 46, 47, 48, 49, 50, 51, 52, 53, 54, 55, 56, 57, 58, 59, 60, 61, 62] else []) (fun i => if i = 2 then [] else [])) dokB true T_int true Tryz.f115 [1, 0, 1, 0] k (mkSt 63 [(0, .lin T_S_impl_Line x0), (1, .d T_int true v1), (5, .d T_int true v5)] [])
/-! ### laws.markHouseS -/
theorem fn_laws_markHouseS : fnOk G 54 Tryz.f54 := ⟨Tryz.func54, by kernel_rfl⟩
noncomputable def e_laws_markHouseS (K : Nat) : LEnt G.P := mkLEnt G 54 Tryz.f54 fn_laws_markHouseS T_S_impl_House [] [e_laws_markDbS K, e_laws_markAskerS K, e_laws_markLineS K] K (fun i => if i = 2 then [2, 3, 4, 6, 7, 8, 9, 10, 11, 12, 13, 14, 15, 16, 17, 18, 19, 20, 21, 22, 23, 24, 25, 26, 27, 28, 29, 30, 31, 32, 33, 34, 35, 36, 37, 38, 39, 40, 41, 42, 43, 44, 45, 46, 47, 48, 49, 50, 51, 52, 53, 54, 55, 56, 57, 58, 59, 60, 61, 62, 63, 64, 65, 66, 67, 68, 69, 70, 71, 72, 73, 74, 75, 76, 77, 78, 79, 80, 81, 82, 83, 84, 85, 86, 87, 88, 89, 90, 91, 92, 93, 94, 95, 96, 97, 98, 99, 100, 101, 102] else []) (fun i => if i = 2 then [] else [])
noncomputable def g_laws_markHouseS (K : Nat) (x0 : T_S_impl_House.T) (x1 : Int) : Option Int := (e_laws_markHouseS K).g x0 x1
noncomputable def L_laws_markHouseS_2 (K : Nat) (k : Nat) (x0 : T_S_impl_House.T) (v1 : T_int.T) (v5 : T_int.T) : Option T_int.T := resume (envL G [] [e_laws_markDbS K, e_laws_markAskerS K, e_laws_markLineS K] K (fun i => if i = 2 then [2, 3, 4, 6, 7, 8, 9, 10, 11, 12, 13, 14, 15, 16, 17, 18, 19, 20, 21, 22, 23, 24, 25, 26, 27, 28, 29, 30, 31, 32, 33, 34, 35, 36, 37, 38, 39, 40, 41, 42, 43, 44, 45, 46, 47, 48, 49, 50, 51, 52, 53, 54, 55, 56, 57, 58, 59, 60, 61, 62, 63, 64, 65, 66, 67, 68, 69, 70, 71, 72, 73, 74, 75, 76, 77, 78, 79, 80, 81, 82, 83, 84, 85, 86, 87, 88, 89, 90, 91, 92, 93, 94, 95, 96, 97, 98, 99, 100, 101, 102] else []) (fun i => if i = 2 then [] else [])) dokB true T_int true Tryz.f54 [1, 0, 1, 0] k (mkSt 103 [(0, .lin T_S_impl_House x0), (1, .d T_int true v1), (5, .d T_int true v5)] [])
/-! ### laws.markPackS -/
theorem fn_laws_markPackS : fnOk G 55 Tryz.f55 := ⟨Tryz.func55, by kernel_rfl⟩
noncomputable def e_laws_markPackS (K : Nat) : LEnt G.P := mkLEnt G 55 Tryz.f55 fn_laws_markPackS T_S_impl_Pack [] [e_laws_markByteS K] K (fun i => if i = 2 then [2, 3, 4, 6, 7, 8, 9, 10, 11, 12, 13, 14, 15, 16, 17, 18, 19, 20, 21, 22, 23, 24, 25, 26] else []) (fun i => if i = 2 then [] else [])
noncomputable def g_laws_markPackS (K : Nat) (x0 : T_S_impl_Pack.T) (x1 : Int) : Option Int := (e_laws_markPackS K).g x0 x1
noncomputable def L_laws_markPackS_2 (K : Nat) (k : Nat) (x0 : T_S_impl_Pack.T) (v1 : T_int.T) (v5 : T_int.T) : Option T_int.T := resume (envL G [] [e_laws_markByteS K] K (fun i => if i = 2 then [2, 3, 4, 6, 7, 8, 9, 10, 11, 12, 13, 14, 15, 16, 17, 18, 19, 20, 21, 22, 23, 24, 25, 26] else []) (fun i => if i = 2 then [] else [])) dokB true T_int true Tryz.f55 [1, 0, 1, 0] k (mkSt 27 [(0, .lin T_S_impl_Pack x0), (1, .d T_int true v1), (5, .d T_int true v5)] [])
/-! ### laws.markNoteS -/
theorem fn_laws_markNoteS : fnOk G 56 Tryz.f56 := ⟨Tryz.func56, by kernel_rfl⟩
noncomputable def e_laws_markNoteS (K : Nat) : LEnt G.P := mkLEnt G 56 Tryz.f56 fn_laws_markNoteS T_S_impl_Note [] [] K (fun i => if i = 2 then [2, 3, 4, 6, 7, 8, 9, 10, 11, 12, 13, 14, 15, 16, 17, 18, 19, 20, 21, 22, 23, 24, 25, 26, 27, 28, 29, 30, 31, 32, 33, 34, 35, 36, 37, 38, 39, 40, 41, 42, 43, 44, 45, 46, 47, 48, 49, 50, 51, 52, 53, 54, 55, 56, 57, 58, 59, 60, 61, 62, 63, 64, 65, 66, 67, 68, 69, 70, 71, 72, 73, 74, 75] else []) (fun i => if i = 2 then [] else [])
noncomputable def g_laws_markNoteS (K : Nat) (x0 : T_S_impl_Note.T) (x1 : Int) : Option Int := (e_laws_markNoteS K).g x0 x1
noncomputable def L_laws_markNoteS_2 (K : Nat) (k : Nat) (x0 : T_S_impl_Note.T) (v1 : T_int.T) (v5 : T_int.T) : Option T_int.T := resume (envL G [] [] K (fun i => if i = 2 then [2, 3, 4, 6, 7, 8, 9, 10, 11, 12, 13, 14, 15, 16, 17, 18, 19, 20, 21, 22, 23, 24, 25, 26, 27, 28, 29, 30, 31, 32, 33, 34, 35, 36, 37, 38, 39, 40, 41, 42, 43, 44, 45, 46, 47, 48, 49, 50, 51, 52, 53, 54, 55, 56, 57, 58, 59, 60, 61, 62, 63, 64, 65, 66, 67, 68, 69, 70, 71, 72, 73, 74, 75] else []) (fun i => if i = 2 then [] else [])) dokB true T_int true Tryz.f56 [1, 0, 1, 0] k (mkSt 76 [(0, .lin T_S_impl_Note x0), (1, .d T_int true v1), (5, .d T_int true v5)] [])
/-! ### laws.markWorld -/
theorem fn_laws_markWorld : fnOk G 19 Tryz.f19 := ⟨Tryz.func19, by kernel_rfl⟩
noncomputable def e_laws_markWorld (K : Nat) : LEnt G.P := mkLEnt G 19 Tryz.f19 fn_laws_markWorld T_impl_World [] [e_laws_markDisk K, e_laws_markSockS K, e_laws_markHouseS K, e_laws_markPackS K, e_laws_markNoteS K] K (fun _ => []) (fun _ => [])
noncomputable def g_laws_markWorld (K : Nat) (x0 : T_impl_World.T) (x1 : Int) : Option Int := (e_laws_markWorld K).g x0 x1
/-! ### laws.heldDbS -/
theorem fn_laws_heldDbS : fnOk G 21 Tryz.f21 := ⟨Tryz.func21, by kernel_rfl⟩
noncomputable def e_laws_heldDbS (K : Nat) : Ent G.P := mkEnt G 21 Tryz.f21 fn_laws_heldDbS [T_S_impl_Db, T_int] true T_int true [e_laws_markText K] K (fun i => if i = 2 then [2, 3, 4, 6, 7, 8, 9, 10, 11, 12, 13, 14, 15, 16, 17, 18, 19, 20, 21, 22, 23, 24, 25, 26, 27, 28, 29, 30, 31, 32, 33, 34, 35, 36, 37, 38, 39, 40, 41, 42, 43, 44, 45, 46, 47, 48, 49, 50, 51, 52, 53, 54, 55, 56, 57, 58] else []) (fun i => if i = 2 then [] else [])
noncomputable def g_laws_heldDbS (K : Nat) (x0 : T_S_impl_Db.T) (x1 : T_int.T) : Option T_int.T := (e_laws_heldDbS K).g (x0, x1, ())
noncomputable def L_laws_heldDbS_2 (K : Nat) (k : Nat) (x0 : T_S_impl_Db.T) (v1 : T_int.T) (v5 : T_int.T) : Option T_int.T := resume (envOf G [e_laws_markText K] K (fun i => if i = 2 then [2, 3, 4, 6, 7, 8, 9, 10, 11, 12, 13, 14, 15, 16, 17, 18, 19, 20, 21, 22, 23, 24, 25, 26, 27, 28, 29, 30, 31, 32, 33, 34, 35, 36, 37, 38, 39, 40, 41, 42, 43, 44, 45, 46, 47, 48, 49, 50, 51, 52, 53, 54, 55, 56, 57, 58] else []) (fun i => if i = 2 then [] else [])) dokB true T_int true Tryz.f21 [1, 0, 1, 0] k (mkSt 59 [(0, .d T_S_impl_Db false x0), (1, .d T_int true v1), (5, .d T_int true v5)] [])
/-! ### laws.markDbS, its row as it is written -/
noncomputable def x_laws_markDbS (K : Nat) : XEnt G.P := mkXEnt G 20 Tryz.f20 fn_laws_markDbS 81 T_impl_Db rfl [e_laws_markText K] K (fun i => if i = 2 then [2, 3, 4, 6, 7, 8, 9, 10, 11, 12, 13, 14, 15, 16, 17, 18, 19, 20, 21, 22, 23, 24, 25, 26, 27, 28, 29, 30, 31, 32, 33, 34, 35, 36, 37, 38, 39, 40, 41, 42, 43, 44, 45, 46, 47, 48] else []) (fun i => if i = 2 then [] else [])
noncomputable def h_laws_markDbS (K : Nat) (x0 : List T_impl_Db.T) (x1 : Int) : Option (Int × List T_impl_Db.T) := (x_laws_markDbS K).g x0 x1
noncomputable def X_laws_markDbS_2 (K : Nat) (k : Nat) (v1 : T_int.T) (v5 : T_int.T) (o0 : T_S_impl_Db.T) : Option (Int × List T_impl_Db.T) := resumeX (envOf G [e_laws_markText K] K (fun i => if i = 2 then [2, 3, 4, 6, 7, 8, 9, 10, 11, 12, 13, 14, 15, 16, 17, 18, 19, 20, 21, 22, 23, 24, 25, 26, 27, 28, 29, 30, 31, 32, 33, 34, 35, 36, 37, 38, 39, 40, 41, 42, 43, 44, 45, 46, 47, 48] else []) (fun i => if i = 2 then [] else [])) dokB 81 T_impl_Db Tryz.f20 [1, 0, 1, 0] k (mkSt 49 [(0, .xr), (1, .d T_int true v1), (5, .d T_int true v5)] [(0, .row 81 T_impl_Db o0)])
noncomputable def E_laws_FnExactCounts_A (K : Nat) : Env := envX G [e_laws_szWorld K, e_laws_toWorld K, e_spec_Counts K] [] [] K (fun _ => []) (fun _ => [])
theorem E_laws_FnExactCounts_A.ok (K : Nat) : EnvOk G.P (E_laws_FnExactCounts_A K) := envX_ok ..
def S_laws_FnExactCounts_A (x : T_laws_World.T) : St := (mkSt 69 [(0, .d T_laws_World false x)] [])
noncomputable def E_laws_FnExactCounts_B (K : Nat) : Env := envX G [e_laws_toWorld K] [] [] K (fun _ => []) (fun _ => [])
theorem E_laws_FnExactCounts_B.ok (K : Nat) : EnvOk G.P (E_laws_FnExactCounts_B K) := envX_ok ..
def S_laws_FnExactCounts_B (x : T_laws_World.T) (w : T_S_impl_Db.T) : St := (mkSt 69 [(1, .orp 0 T_laws_World x), (4, .od 0 T_S_impl_Db w)] [])
noncomputable def E_laws_FnExactCounts_C (K : Nat) : Env := envX G [e_impl_Counts K, e_laws_eqDbS K, e_laws_toWorld K, e_laws_eqWorld K] [] [] K (fun _ => []) (fun _ => [])
theorem E_laws_FnExactCounts_C.ok (K : Nat) : EnvOk G.P (E_laws_FnExactCounts_C K) := envX_ok ..
def S_laws_FnExactCounts_C (x : T_laws_World.T) (w : T_S_impl_Db.T) (z : T_impl_World.T) : St := (mkSt 69 [(1, .orp 0 T_laws_World x), (4, .od 0 T_S_impl_Db w), (5, .orp 1 T_impl_World z)] [])
noncomputable def E_laws_FnExactCounts_D (K : Nat) : Env := envX G [e_laws_eqDbS K] [e_laws_markWorld K] [] K (fun _ => []) (fun _ => [])
theorem E_laws_FnExactCounts_D.ok (K : Nat) : EnvOk G.P (E_laws_FnExactCounts_D K) := envX_ok ..
def S_laws_FnExactCounts_D (x : T_laws_World.T) (w : T_S_impl_Db.T) (z : T_impl_World.T) (g : T_S_impl_Db.T) : St := (mkSt 69 [(1, .orp 0 T_laws_World x), (4, .od 0 T_S_impl_Db w), (5, .lb T_impl_World z), (6, .od 2 T_S_impl_Db g)] [])
noncomputable def E_laws_FnExactCounts_E (K : Nat) : Env := envX G [] [] [x_laws_markDbS K] K (fun _ => []) (fun _ => [])
theorem E_laws_FnExactCounts_E.ok (K : Nat) : EnvOk G.P (E_laws_FnExactCounts_E K) := envX_ok ..
def S_laws_FnExactCounts_E (x : T_laws_World.T) (w : T_S_impl_Db.T) (g : T_S_impl_Db.T) : St := (mkSt 69 [(1, .orp 0 T_laws_World x), (4, .od 0 T_S_impl_Db w), (6, .xr)] [(0, .row 81 T_impl_Db g)])
noncomputable def E_laws_FnExactCounts_F (K : Nat) : Env := envX G [e_laws_heldDbS K, e_laws_toWorld K, e_impl_Counts K, e_laws_eqDbS K] [] [] K (fun _ => []) (fun _ => [])
theorem E_laws_FnExactCounts_F.ok (K : Nat) : EnvOk G.P (E_laws_FnExactCounts_F K) := envX_ok ..
def S_laws_FnExactCounts_F (x : T_laws_World.T) (w : T_S_impl_Db.T) (g : T_S_impl_Db.T) (m : T_int_3.T) : St := (mkSt 69 [(1, .orp 0 T_laws_World x), (4, .od 0 T_S_impl_Db w), (6, .od 2 T_S_impl_Db g), (8, .d T_int true m)] [])

end F5
