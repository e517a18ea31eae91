/- The functions of the law as the evaluator tells them; written by gen.py and mkmod.py. -/
import Derived.Test.YtofllafpneanoaaGreatDoorFilQ
import Derived.Test.YtofllafpneanoaaGreatDoorProg
import Derived.Shelf.Strings.OnBuilder
import Derived.Lib.Strings
import Derived.Lib.Walk
import Derived.Lib.Bytealg
set_option linter.unusedSimpArgs false
namespace F5
open Go Go.Fil Go.Proofs
set_option maxRecDepth 100000
set_option linter.unusedVariables false
@[reducible] def T_int:Ty:=.int .i64
@[reducible] def T_int_3:Ty:=.int .i64
@[reducible] def T_bool:Ty:=.bool
@[reducible] def T_u8:Ty:=.int .u8
@[reducible] def T_internal_abi_BoundsErrorCode:Ty:=.int .u8
@[reducible] def T_u7:Ty:=.pair T_int (.pair T_int_3 (.pair T_bool (.pair T_internal_abi_BoundsErrorCode .unit)))
@[reducible] def T_runtime_boundsError:Ty:=.pair T_int (.pair T_int_3 (.pair T_bool (.pair T_internal_abi_BoundsErrorCode .unit)))
@[reducible] def T_str:Ty:=.str
@[reducible] def T_runtime_errorString:Ty:=.str
@[reducible] def T_runtime_plainError:Ty:=.str
@[reducible] def T_u64:Ty:=.int .u64
@[reducible] def T_u13:Ty:=.pair T_str (.pair T_u64 .unit)
@[reducible] def T_runtime_errorAddressString:Ty:=.pair T_str (.pair T_u64 .unit)
@[reducible] def T_i32:Ty:=.int .i32
@[reducible] def T_S_u8:Ty:=.slice 5 T_u8
@[reducible] def T_S_S_u8:Ty:=.slice 90 T_S_u8
@[reducible] def T_laws_Wr:Ty:=.pair T_int_3 (.pair T_S_u8 .unit)
@[reducible] def T_S_laws_Wr:Ty:=.slice 153 T_laws_Wr
@[reducible] def T_u24:Ty:=.pair T_S_S_u8 (.pair T_S_laws_Wr (.pair T_int_3 (.pair T_bool .unit)))
@[reducible] def T_laws_Disk:Ty:=.pair T_S_S_u8 (.pair T_S_laws_Wr (.pair T_int_3 (.pair T_bool .unit)))
@[reducible] def T_laws_Sock:Ty:=.pair T_int_3 (.pair T_int_3 (.pair T_int_3 (.pair T_bool (.pair T_S_u8 (.pair T_S_u8 (.pair T_int_3 (.pair T_int_3 .unit)))))))
@[reducible] def T_S_laws_Sock:Ty:=.slice 92 T_laws_Sock
@[reducible] def T_laws_Db:Ty:=.pair T_str (.pair T_int_3 (.pair T_int_3 (.pair T_int_3 (.pair T_int_3 .unit))))
@[reducible] def T_S_laws_Db:Ty:=.slice 188 T_laws_Db
@[reducible] def T_laws_Asker:Ty:=.pair T_int_3 (.pair T_str (.pair T_int_3 (.pair T_int_3 (.pair T_int_3 (.pair T_str (.pair T_int_3 (.pair T_int_3 .unit)))))))
@[reducible] def T_S_laws_Asker:Ty:=.slice 190 T_laws_Asker
@[reducible] def T_laws_Line:Ty:=.pair T_int_3 (.pair T_str (.pair T_int_3 (.pair T_int_3 (.pair T_int_3 (.pair T_int_3 (.pair T_int_3 .unit))))))
@[reducible] def T_S_laws_Line:Ty:=.slice 192 T_laws_Line
@[reducible] def T_laws_Hand:Ty:=.pair T_int_3 (.pair T_int_3 (.pair T_int_3 (.pair T_int_3 .unit)))
@[reducible] def T_laws_House:Ty:=.pair T_int_3 (.pair T_int_3 (.pair T_int_3 (.pair T_S_laws_Db (.pair T_bool (.pair T_S_laws_Asker (.pair T_S_laws_Line (.pair T_int_3 (.pair T_laws_Hand .unit))))))))
@[reducible] def T_S_laws_House:Ty:=.slice 99 T_laws_House
@[reducible] def T_laws_Pack:Ty:=.pair T_int_3 (.pair T_S_u8 .unit)
@[reducible] def T_S_laws_Pack:Ty:=.slice 102 T_laws_Pack
@[reducible] def T_laws_Note:Ty:=.pair T_int_3 (.pair T_int_3 (.pair T_int_3 (.pair T_int_3 (.pair T_int_3 (.pair T_int_3 (.pair T_int_3 (.pair T_int_3 (.pair T_int_3 .unit))))))))
@[reducible] def T_S_laws_Note:Ty:=.slice 132 T_laws_Note
@[reducible] def T_u30:Ty:=.pair T_int_3 (.pair T_laws_Disk (.pair T_S_laws_Sock (.pair T_S_laws_House (.pair T_S_laws_Pack (.pair T_S_laws_Note (.pair T_int_3 (.pair T_int_3 .unit)))))))
@[reducible] def T_laws_World:Ty:=.pair T_int_3 (.pair T_laws_Disk (.pair T_S_laws_Sock (.pair T_S_laws_House (.pair T_S_laws_Pack (.pair T_S_laws_Note (.pair T_int_3 (.pair T_int_3 .unit)))))))
@[reducible] def T_impl_Wr:Ty:=.pair T_int_3 (.pair T_S_u8 .unit)
@[reducible] def T_S_impl_Wr:Ty:=.slice 151 T_impl_Wr
@[reducible] def T_u34:Ty:=.pair T_S_S_u8 (.pair T_S_impl_Wr (.pair T_int_3 (.pair T_bool .unit)))
@[reducible] def T_impl_Disk:Ty:=.pair T_S_S_u8 (.pair T_S_impl_Wr (.pair T_int_3 (.pair T_bool .unit)))
@[reducible] def T_impl_Sock:Ty:=.pair T_int_3 (.pair T_int_3 (.pair T_int_3 (.pair T_bool (.pair T_S_u8 (.pair T_S_u8 (.pair T_int_3 (.pair T_int_3 .unit)))))))
@[reducible] def T_S_impl_Sock:Ty:=.slice 115 T_impl_Sock
@[reducible] def T_impl_Db:Ty:=.pair T_str (.pair T_int_3 (.pair T_int_3 (.pair T_int_3 (.pair T_int_3 .unit))))
@[reducible] def T_S_impl_Db:Ty:=.slice 178 T_impl_Db
@[reducible] def T_impl_Asker:Ty:=.pair T_int_3 (.pair T_str (.pair T_int_3 (.pair T_int_3 (.pair T_int_3 (.pair T_str (.pair T_int_3 (.pair T_int_3 .unit)))))))
@[reducible] def T_S_impl_Asker:Ty:=.slice 122 T_impl_Asker
@[reducible] def T_impl_Line:Ty:=.pair T_int_3 (.pair T_str (.pair T_int_3 (.pair T_int_3 (.pair T_int_3 (.pair T_int_3 (.pair T_int_3 .unit))))))
@[reducible] def T_S_impl_Line:Ty:=.slice 124 T_impl_Line
@[reducible] def T_impl_Hand:Ty:=.pair T_int_3 (.pair T_int_3 (.pair T_int_3 (.pair T_int_3 .unit)))
@[reducible] def T_impl_House:Ty:=.pair T_int_3 (.pair T_int_3 (.pair T_int_3 (.pair T_S_impl_Db (.pair T_bool (.pair T_S_impl_Asker (.pair T_S_impl_Line (.pair T_int_3 (.pair T_impl_Hand .unit))))))))
@[reducible] def T_S_impl_House:Ty:=.slice 63 T_impl_House
@[reducible] def T_impl_Pack:Ty:=.pair T_int_3 (.pair T_S_u8 .unit)
@[reducible] def T_S_impl_Pack:Ty:=.slice 129 T_impl_Pack
@[reducible] def T_impl_Note:Ty:=.pair T_int_3 (.pair T_int_3 (.pair T_int_3 (.pair T_int_3 (.pair T_int_3 (.pair T_int_3 (.pair T_int_3 (.pair T_int_3 (.pair T_int_3 .unit))))))))
@[reducible] def T_S_impl_Note:Ty:=.slice 118 T_impl_Note
@[reducible] def T_u40:Ty:=.pair T_int_3 (.pair T_impl_Disk (.pair T_S_impl_Sock (.pair T_S_impl_House (.pair T_S_impl_Pack (.pair T_S_impl_Note (.pair T_int_3 (.pair T_int_3 .unit)))))))
@[reducible] def T_impl_World:Ty:=.pair T_int_3 (.pair T_impl_Disk (.pair T_S_impl_Sock (.pair T_S_impl_House (.pair T_S_impl_Pack (.pair T_S_impl_Note (.pair T_int_3 (.pair T_int_3 .unit)))))))
@[reducible] def T_u60:Ty:=.pair T_int_3 (.pair T_int_3 (.pair T_int_3 (.pair T_int_3 .unit)))
@[reducible] def T_u62:Ty:=.pair T_int_3 (.pair T_int_3 (.pair T_int_3 (.pair T_S_impl_Db (.pair T_bool (.pair T_S_impl_Asker (.pair T_S_impl_Line (.pair T_int_3 (.pair T_impl_Hand .unit))))))))
@[reducible] def T_u72:Ty:=.pair T_impl_World (.pair T_int_3 .unit)
@[reducible] def T_impl_actor:Ty:=.pair T_impl_World (.pair T_int_3 .unit)
@[reducible] def T_u91:Ty:=.pair T_int_3 (.pair T_int_3 (.pair T_int_3 (.pair T_bool (.pair T_S_u8 (.pair T_S_u8 (.pair T_int_3 (.pair T_int_3 .unit)))))))
@[reducible] def T_u98:Ty:=.pair T_int_3 (.pair T_int_3 (.pair T_int_3 (.pair T_S_laws_Db (.pair T_bool (.pair T_S_laws_Asker (.pair T_S_laws_Line (.pair T_int_3 (.pair T_laws_Hand .unit))))))))
@[reducible] def T_u101:Ty:=.pair T_int_3 (.pair T_S_u8 .unit)
@[reducible] def T_u107:Ty:=.pair T_int_3 (.pair T_str (.pair T_int_3 (.pair T_str (.pair T_int_3 (.pair T_int_3 .unit)))))
@[reducible] def T_impl_Known:Ty:=.pair T_int_3 (.pair T_str (.pair T_int_3 (.pair T_str (.pair T_int_3 (.pair T_int_3 .unit)))))
@[reducible] def T_u109:Ty:=.pair T_impl_Known (.pair T_int_3 (.pair T_int_3 .unit))
@[reducible] def T_impl_Jour:Ty:=.pair T_impl_Known (.pair T_int_3 (.pair T_int_3 .unit))
@[reducible] def T_u117:Ty:=.pair T_int_3 (.pair T_int_3 (.pair T_int_3 (.pair T_int_3 (.pair T_int_3 (.pair T_int_3 (.pair T_int_3 (.pair T_int_3 (.pair T_int_3 .unit))))))))
@[reducible] def T_u121:Ty:=.pair T_int_3 (.pair T_str (.pair T_int_3 (.pair T_int_3 (.pair T_int_3 (.pair T_str (.pair T_int_3 (.pair T_int_3 .unit)))))))
@[reducible] def T_u123:Ty:=.pair T_int_3 (.pair T_str (.pair T_int_3 (.pair T_int_3 (.pair T_int_3 (.pair T_int_3 (.pair T_int_3 .unit))))))
@[reducible] def T_u150:Ty:=.pair T_int_3 (.pair T_S_u8 .unit)
@[reducible] def T_u177:Ty:=.pair T_str (.pair T_int_3 (.pair T_int_3 (.pair T_int_3 (.pair T_int_3 .unit))))
@[reducible] def T_u195:Ty:=.pair T_int_3 (.pair T_int_3 (.pair T_int_3 (.pair T_str .unit)))
@[reducible] def T_impl_Rec:Ty:=.pair T_int_3 (.pair T_int_3 (.pair T_int_3 (.pair T_str .unit)))
@[reducible] def T_S_int:Ty:=.slice 3 T_int_3
@[reducible] def T_S_str:Ty:=.slice 9 T_str
@[reducible] def T_arr4_int:Ty:=.pair T_int_3 (.pair T_int_3 (.pair T_int_3 (.pair T_int_3 .unit)))
@[reducible] def T_u64_235:Ty:=.int .u64
@[reducible] def T_u32:Ty:=.int .u32
@[reducible] def T_u268:Ty:=.pair T_u8 (.pair T_u8 .unit)
@[reducible] def T_unicode_utf8_acceptRange:Ty:=.pair T_u8 (.pair T_u8 .unit)
@[reducible] def T_u64_272:Ty:=.int .u64
def tab:List (Nat × TI):=[(2,⟨T_int,8,[],false,none⟩),(3,⟨T_int_3,8,[],false,none⟩),(4,⟨T_bool,1,[],false,none⟩),(5,⟨T_u8,1,[],false,none⟩),(6,⟨T_internal_abi_BoundsErrorCode,1,[],false,none⟩),(7,⟨T_u7,24,[(0,T_int),(1,T_int_3),(2,T_bool),(3,T_internal_abi_BoundsErrorCode)],false,none⟩),(8,⟨T_runtime_boundsError,24,[(0,T_int),(1,T_int_3),(2,T_bool),(3,T_internal_abi_BoundsErrorCode)],false,none⟩),(9,⟨T_str,16,[],false,none⟩),(10,⟨T_runtime_errorString,16,[],false,none⟩),(11,⟨T_runtime_plainError,16,[],false,none⟩),(12,⟨T_u64,8,[],false,none⟩),(13,⟨T_u13,24,[(0,T_str),(1,T_u64)],false,none⟩),(14,⟨T_runtime_errorAddressString,24,[(0,T_str),(1,T_u64)],false,none⟩),(21,⟨T_i32,4,[],false,none⟩),(22,⟨T_S_S_u8,24,[],false,none⟩),(23,⟨T_S_laws_Wr,24,[],false,none⟩),(24,⟨T_u24,64,[(0,T_S_S_u8),(1,T_S_laws_Wr),(2,T_int_3),(3,T_bool)],false,none⟩),(25,⟨T_laws_Disk,64,[(0,T_S_S_u8),(1,T_S_laws_Wr),(2,T_int_3),(3,T_bool)],false,none⟩),(26,⟨T_S_laws_Sock,24,[],false,none⟩),(27,⟨T_S_laws_House,24,[],false,none⟩),(28,⟨T_S_laws_Pack,24,[],false,none⟩),(29,⟨T_S_laws_Note,24,[],false,none⟩),(30,⟨T_u30,184,[(0,T_int_3),(1,T_laws_Disk),(5,T_S_laws_Sock),(6,T_S_laws_House),(7,T_S_laws_Pack),(8,T_S_laws_Note),(9,T_int_3),(10,T_int_3)],false,none⟩),(31,⟨T_laws_World,184,[(0,T_int_3),(1,T_laws_Disk),(5,T_S_laws_Sock),(6,T_S_laws_House),(7,T_S_laws_Pack),(8,T_S_laws_Note),(9,T_int_3),(10,T_int_3)],false,none⟩),(33,⟨T_S_impl_Wr,24,[],false,none⟩),(34,⟨T_u34,64,[(0,T_S_S_u8),(1,T_S_impl_Wr),(2,T_int_3),(3,T_bool)],false,none⟩),(35,⟨T_impl_Disk,64,[(0,T_S_S_u8),(1,T_S_impl_Wr),(2,T_int_3),(3,T_bool)],false,none⟩),(36,⟨T_S_impl_Sock,24,[],false,none⟩),(37,⟨T_S_impl_House,24,[],false,none⟩),(38,⟨T_S_impl_Pack,24,[],false,none⟩),(39,⟨T_S_impl_Note,24,[],false,none⟩),(40,⟨T_u40,184,[(0,T_int_3),(1,T_impl_Disk),(5,T_S_impl_Sock),(6,T_S_impl_House),(7,T_S_impl_Pack),(8,T_S_impl_Note),(9,T_int_3),(10,T_int_3)],false,none⟩),(41,⟨T_impl_World,184,[(0,T_int_3),(1,T_impl_Disk),(5,T_S_impl_Sock),(6,T_S_impl_House),(7,T_S_impl_Pack),(8,T_S_impl_Note),(9,T_int_3),(10,T_int_3)],false,none⟩),(57,⟨T_S_impl_Db,24,[],false,none⟩),(58,⟨T_S_impl_Asker,24,[],false,none⟩),(59,⟨T_S_impl_Line,24,[],false,none⟩),(60,⟨T_u60,32,[(0,T_int_3),(1,T_int_3),(2,T_int_3),(3,T_int_3)],false,none⟩),(61,⟨T_impl_Hand,32,[(0,T_int_3),(1,T_int_3),(2,T_int_3),(3,T_int_3)],true,none⟩),(62,⟨T_u62,144,[(0,T_int_3),(1,T_int_3),(2,T_int_3),(3,T_S_impl_Db),(4,T_bool),(5,T_S_impl_Asker),(6,T_S_impl_Line),(7,T_int_3),(8,T_impl_Hand)],false,none⟩),(63,⟨T_impl_House,144,[(0,T_int_3),(1,T_int_3),(2,T_int_3),(3,T_S_impl_Db),(4,T_bool),(5,T_S_impl_Asker),(6,T_S_impl_Line),(7,T_int_3),(8,T_impl_Hand)],false,none⟩),(72,⟨T_u72,192,[(0,T_impl_World),(11,T_int_3)],false,none⟩),(73,⟨T_impl_actor,192,[(0,T_impl_World),(11,T_int_3)],false,none⟩),(90,⟨T_S_u8,24,[],false,none⟩),(91,⟨T_u91,96,[(0,T_int_3),(1,T_int_3),(2,T_int_3),(3,T_bool),(4,T_S_u8),(5,T_S_u8),(6,T_int_3),(7,T_int_3)],false,none⟩),(92,⟨T_laws_Sock,96,[(0,T_int_3),(1,T_int_3),(2,T_int_3),(3,T_bool),(4,T_S_u8),(5,T_S_u8),(6,T_int_3),(7,T_int_3)],false,none⟩),(94,⟨T_S_laws_Db,24,[],false,none⟩),(95,⟨T_S_laws_Asker,24,[],false,none⟩),(96,⟨T_S_laws_Line,24,[],false,none⟩),(97,⟨T_laws_Hand,32,[(0,T_int_3),(1,T_int_3),(2,T_int_3),(3,T_int_3)],false,none⟩),(98,⟨T_u98,144,[(0,T_int_3),(1,T_int_3),(2,T_int_3),(3,T_S_laws_Db),(4,T_bool),(5,T_S_laws_Asker),(6,T_S_laws_Line),(7,T_int_3),(8,T_laws_Hand)],false,none⟩),(99,⟨T_laws_House,144,[(0,T_int_3),(1,T_int_3),(2,T_int_3),(3,T_S_laws_Db),(4,T_bool),(5,T_S_laws_Asker),(6,T_S_laws_Line),(7,T_int_3),(8,T_laws_Hand)],false,none⟩),(101,⟨T_u101,32,[(0,T_int_3),(1,T_S_u8)],false,none⟩),(102,⟨T_laws_Pack,32,[(0,T_int_3),(1,T_S_u8)],false,none⟩),(107,⟨T_u107,64,[(0,T_int_3),(1,T_str),(2,T_int_3),(3,T_str),(4,T_int_3),(5,T_int_3)],false,none⟩),(108,⟨T_impl_Known,64,[(0,T_int_3),(1,T_str),(2,T_int_3),(3,T_str),(4,T_int_3),(5,T_int_3)],false,none⟩),(109,⟨T_u109,80,[(0,T_impl_Known),(6,T_int_3),(7,T_int_3)],false,none⟩),(110,⟨T_impl_Jour,80,[(0,T_impl_Known),(6,T_int_3),(7,T_int_3)],false,none⟩),(115,⟨T_impl_Sock,96,[(0,T_int_3),(1,T_int_3),(2,T_int_3),(3,T_bool),(4,T_S_u8),(5,T_S_u8),(6,T_int_3),(7,T_int_3)],false,none⟩),(117,⟨T_u117,72,[(0,T_int_3),(1,T_int_3),(2,T_int_3),(3,T_int_3),(4,T_int_3),(5,T_int_3),(6,T_int_3),(7,T_int_3),(8,T_int_3)],false,none⟩),(118,⟨T_impl_Note,72,[(0,T_int_3),(1,T_int_3),(2,T_int_3),(3,T_int_3),(4,T_int_3),(5,T_int_3),(6,T_int_3),(7,T_int_3),(8,T_int_3)],false,none⟩),(121,⟨T_u121,80,[(0,T_int_3),(1,T_str),(2,T_int_3),(3,T_int_3),(4,T_int_3),(5,T_str),(6,T_int_3),(7,T_int_3)],false,none⟩),(122,⟨T_impl_Asker,80,[(0,T_int_3),(1,T_str),(2,T_int_3),(3,T_int_3),(4,T_int_3),(5,T_str),(6,T_int_3),(7,T_int_3)],true,none⟩),(123,⟨T_u123,64,[(0,T_int_3),(1,T_str),(2,T_int_3),(3,T_int_3),(4,T_int_3),(5,T_int_3),(6,T_int_3)],false,none⟩),(124,⟨T_impl_Line,64,[(0,T_int_3),(1,T_str),(2,T_int_3),(3,T_int_3),(4,T_int_3),(5,T_int_3),(6,T_int_3)],true,none⟩),(129,⟨T_impl_Pack,32,[(0,T_int_3),(1,T_S_u8)],false,none⟩),(132,⟨T_laws_Note,72,[(0,T_int_3),(1,T_int_3),(2,T_int_3),(3,T_int_3),(4,T_int_3),(5,T_int_3),(6,T_int_3),(7,T_int_3),(8,T_int_3)],false,none⟩),(150,⟨T_u150,32,[(0,T_int_3),(1,T_S_u8)],false,none⟩),(151,⟨T_impl_Wr,32,[(0,T_int_3),(1,T_S_u8)],false,none⟩),(153,⟨T_laws_Wr,32,[(0,T_int_3),(1,T_S_u8)],false,none⟩),(177,⟨T_u177,48,[(0,T_str),(1,T_int_3),(2,T_int_3),(3,T_int_3),(4,T_int_3)],false,none⟩),(178,⟨T_impl_Db,48,[(0,T_str),(1,T_int_3),(2,T_int_3),(3,T_int_3),(4,T_int_3)],true,none⟩),(188,⟨T_laws_Db,48,[(0,T_str),(1,T_int_3),(2,T_int_3),(3,T_int_3),(4,T_int_3)],false,none⟩),(190,⟨T_laws_Asker,80,[(0,T_int_3),(1,T_str),(2,T_int_3),(3,T_int_3),(4,T_int_3),(5,T_str),(6,T_int_3),(7,T_int_3)],false,none⟩),(192,⟨T_laws_Line,64,[(0,T_int_3),(1,T_str),(2,T_int_3),(3,T_int_3),(4,T_int_3),(5,T_int_3),(6,T_int_3)],false,none⟩),(195,⟨T_u195,40,[(0,T_int_3),(1,T_int_3),(2,T_int_3),(3,T_str)],false,none⟩),(196,⟨T_impl_Rec,40,[(0,T_int_3),(1,T_int_3),(2,T_int_3),(3,T_str)],false,none⟩),(207,⟨T_S_int,24,[],false,none⟩),(211,⟨T_S_str,24,[],false,none⟩),(215,⟨T_arr4_int,32,[],false,some (4,3,T_int_3)⟩),(235,⟨T_u64_235,8,[],false,none⟩),(260,⟨T_u32,4,[],false,none⟩),(268,⟨T_u268,2,[(0,T_u8),(1,T_u8)],false,none⟩),(269,⟨T_unicode_utf8_acceptRange,2,[(0,T_u8),(1,T_u8)],false,none⟩),(272,⟨T_u64_272,8,[],false,none⟩)]
theorem tabOk:(tab.all fun p=>tiOk Tryz.prog p.1 p.2) = true:=by kernel_rfl
noncomputable def G:Prg:=⟨Tryz.prog,tab,tabOk,by kernel_rfl⟩
open Go.Shelf
theorem fn_strings_Join:fnOk G 227 Tryz.f227:=⟨Tryz.func227,by kernel_rfl⟩
def lays156_ren:Go.Shelf.Ren:=⟨fun | 156=>227 | 165=>243 | 166=>244 | 169=>245 | 240=>254 | 241=>255 | 276=>260 | 277=>261 | n=>n,fun | 31=>211 | 9=>9 | 3=>3 | 4=>4 | 0=>0 | 20=>20 | 72=>248 | 76=>251 | 70=>246 | 37=>90 | 75=>250 | 127=>259 | 164=>264 | 5=>5 | 80=>253 | n=>n,fun n=>n⟩
theorem lays156:Lays.n156 Tryz.prog lays156_ren where
 mixed:=by kernel_rfl
 f156:=Tryz.func227.trans (congrArg some (by kernel_rfl))
 f165:=Tryz.func243.trans (congrArg some (by kernel_rfl))
 f166:=Tryz.func244.trans (congrArg some (by kernel_rfl))
 f169:=Tryz.func245.trans (congrArg some (by kernel_rfl))
 f240:=Tryz.func254.trans (congrArg some (by kernel_rfl))
 f241:=Tryz.func255.trans (congrArg some (by kernel_rfl))
 f276:=Tryz.func260.trans (congrArg some (by kernel_rfl))
 f277:=Tryz.func261.trans (congrArg some (by kernel_rfl))
 t0:=Tryz.underlying0
 a0:=Tryz.isAgg0
 z0:=Tryz.sizeOf0
 v0:=Tryz.zeroValue0
 t3:=Tryz.underlying3
 a3:=Tryz.isAgg3
 z3:=Tryz.sizeOf3
 v3:=Tryz.zeroValue3
 t4:=Tryz.underlying4
 a4:=Tryz.isAgg4
 z4:=Tryz.sizeOf4
 v4:=Tryz.zeroValue4
 t9:=Tryz.underlying9
 a9:=Tryz.isAgg9
 z9:=Tryz.sizeOf9
 v9:=Tryz.zeroValue9
 t20:=Tryz.underlying20
 a20:=Tryz.isAgg20
 z20:=Tryz.sizeOf20
 v20:=Tryz.zeroValue20
 t31:=Tryz.underlying211
 a31:=Tryz.isAgg211
 z31:=Tryz.sizeOf211
 v31:=Tryz.zeroValue211
 t37:=Tryz.underlying90
 a37:=Tryz.isAgg90
 z37:=Tryz.sizeOf90
 v37:=Tryz.zeroValue90
 t70:=Tryz.underlying246
 a70:=Tryz.isAgg246
 z70:=Tryz.sizeOf246
 v70:=Tryz.zeroValue246
 t72:=Tryz.underlying248
 a72:=Tryz.isAgg248
 z72:=Tryz.sizeOf248
 v72:=Tryz.zeroValue248
 t75:=Tryz.underlying250
 a75:=Tryz.isAgg250
 z75:=Tryz.sizeOf250
 v75:=Tryz.zeroValue250
 t76:=Tryz.underlying251
 a76:=Tryz.isAgg251
 z76:=Tryz.sizeOf251
 v76:=Tryz.zeroValue251
 t127:=Tryz.underlying259
 a127:=Tryz.isAgg259
 z127:=Tryz.sizeOf259
 v127:=Tryz.zeroValue259
 t164:=Tryz.underlying264
 a164:=Tryz.isAgg264
 z164:=Tryz.sizeOf264
 v164:=Tryz.zeroValue264
theorem extra156:Builder.Extra Tryz.prog lays156_ren where
 sizeBuilder:=by kernel_rfl
 liesBuilder:=by kernel_rfl
 t5:=Tryz.underlying5
 a5:=Tryz.isAgg5
 z5:=Tryz.sizeOf5
 v5:=Tryz.zeroValue5
 infoByte:=by kernel_rfl
 cellsByte:=by kernel_rfl
 sizeByte:=by kernel_rfl
 neB5:=by decide
theorem cells_str {w:World} {ok:Nat→Prop}:∀ {xs:List ByteArray} {css:List (List Value)},All2 (fun x r=>K w ok .str x r) xs css→∀ (j:Nat) (x:ByteArray),xs[j]? = some x→css.flatten[j]? = some (.string x)
 | [],[],_,j,x,h=>by simp at h
 | y :: xs,c :: css,h,j,x,hj=>by
  have h_gosem_cut:c = [.string y]:=h.1
  subst h_gosem_cut
  cases j with
  | zero=>simp at hj; subst hj; rfl
  | succ j=>simpa using cells_str h.2 j x (by simpa using hj)
theorem call227 (xs:List ByteArray) (sep:ByteArray) (c:Nat) (A:Option Addr) (w:World) (hc:xs.length≤c) (hN:xs.length≤1048576)
  (hcells:0 < xs.length→∃ ad,A = some ad∧ad.block < w.heap.size∧∀ (j:Nat) x,xs[j]? = some x→w.cell? (ad.add j) = some (.string x))
  (hlen:(Lib.join (xs.map (·.data.toList)) sep.data.toList).length≤1048576) :
  Calls Tryz.prog 227 #[.slice A xs.length c,.string sep] w fun e w'=>e = .returned (.string ⟨(Lib.join (xs.map (·.data.toList)) sep.data.toList).toArray⟩)∧RowKit.Below w.heap.size w w':=by
 match xs,hc,hN,hcells,hlen with
 | [],hc,hN,hcells,hlen =>
  refine (Any.strings_Join_none lays156 extra156 A c sep w).mono ?_
  rintro e w' ⟨rfl,rfl⟩
  exact ⟨rfl,RowKit.Below.refl _ _⟩
 | x :: xs,hc,hN,hcells,hlen =>
  obtain ⟨⟨b,o,s⟩,rfl,h_gosem_cut,h_gosem_cut_init⟩:=hcells (by simp)
  have hs:s = none:=by
   have h:=h_gosem_cut_init 0 x rfl
   cases s with
   | none=>rfl
   | some s =>
    simp only [Addr.add,if_pos,World.cell?] at h
    split at h <;> simp at h
  subst hs
  refine Any.strings_Join lays156 extra156 b o c (x :: xs) sep w ?_ h_gosem_cut (by omega) hc (by omega)
  intro j y hj
  have h:=h_gosem_cut_init j y hj
  unfold Addr.add at h
  split at h
  ·rename_i hj0; subst hj0; exact h
  ·exact h
noncomputable def joinS (xs:List ByteArray) (sep:ByteArray):Option ByteArray :=
 if xs.length≤1048576∧(Lib.join (xs.map (·.data.toList)) sep.data.toList).length≤1048576 then some ⟨(Lib.join (xs.map (·.data.toList)) sep.data.toList).toArray⟩ else none
noncomputable def e_strings_Join (K:Nat):Ent G.P where
 f:=227
 args:=[T_S_str,T_str]
 one:=true
 t:=T_str
 fr:=true
 ow:=false
 g:=fun x=>joinS x.1 x.2.1
 ok:=fun x=>⟨⟨_,fn_strings_Join.at_,fn_strings_Join.body,fn_strings_Join.name⟩,fun y hy w okA vs hok hv=>by
  match vs,hv with
  | [u,v],hv =>
   obtain ⟨xs,sep,z⟩:=x
   have h_gosem_cut_init:v = .string sep:=str_of_V hv.2.1
   obtain ⟨A,c,css,e_gosem_cut,e_gosem_cut_init,e_laws_FnExactCrash,e_laws_FnExactPower,e_laws_szWorld⟩:=slice_of_V hv.1
   have e_gosem_cut:u = .slice A (List.length xs) c:=e_gosem_cut
   subst h_gosem_cut_init; subst e_gosem_cut
   have hy:joinS xs sep = some y:=hy
   unfold joinS at hy
   split at hy
   ·rename_i hb
    injection hy with hy
    subst hy
    refine (call227 xs sep c A w e_gosem_cut_init hb.1 (fun hp=>?_) hb.2).mono ?_
    ·obtain ⟨ad,z1,z2,z3,z4⟩:=e_laws_szWorld hp
     exact ⟨ad,z1,z3,fun j x hj=>z4 j _ (cells_str e_laws_FnExactPower j x hj)⟩
    ·rintro e w' ⟨rfl,hbel⟩
     exact ⟨_,rfl,⟨_,rfl,rfl⟩,(fun h=>by cases h),⟨hbel⟩⟩
   ·cases hy⟩
noncomputable def g_strings_Join (K:Nat) (x0:T_S_str.T) (x1:T_str.T):Option T_str.T:=(e_strings_Join K).g (x0,x1,())
theorem g_strings_Join.eq (K:Nat) (x0:T_S_str.T) (x1:T_str.T):g_strings_Join K x0 x1 = joinS x0 x1:=rfl
set_option maxHeartbeats 1000000 in
theorem call249 (s:ByteArray) (c:Int) (w:World) :
  Calls Tryz.prog 249 #[.string s,.int .u8 c] w fun e w'=>e = .returned (.int .i64 (Lib.indexByte s.data.toList c.toNat.toUInt8))∧w' = w:=by
 go_enter Tryz.func249,Tryz.ntmps249
 go_wp2
 rw [run_callFunc_extern Tryz.func257 (by kernel_rfl) (by kernel_rfl) (by kernel_rfl) (e:=Extern.BytealgIndexByte.indexByte) (by kernel_rfl),Lib.run_indexByteString]
 simp only [Result.andThen]
 rw [Oper.upon_value]
 go_wp2
 go_ret
 exact ⟨rfl,rfl⟩
set_option maxHeartbeats 1000000 in
theorem call239 (s:ByteArray) (c:UInt8) (w:World) :
  Calls Tryz.prog 239 #[.string s,.string ⟨#[c]⟩] w fun e w'=>e = .returned (.int .i64 (Lib.countByte s.data.toList c))∧w' = w:=by
 go_enter Tryz.func239,Tryz.ntmps239
 go_wp2
 rw [run_callFunc_extern Tryz.func248 (by kernel_rfl) (by kernel_rfl) (by kernel_rfl) (e:=Extern.BytealgCount.count) (by kernel_rfl),Lib.run_countString]
 simp only [Result.andThen]
 rw [Oper.upon_value]
 go_wp2
 go_ret
 exact ⟨rfl,rfl⟩
theorem fn_internal_stringslite_IndexByte:fnOk G 249 Tryz.f249:=⟨Tryz.func249,by kernel_rfl⟩
noncomputable def e_internal_stringslite_IndexByte (K:Nat):Ent G.P where
 f:=249
 args:=[T_str,T_u8]
 one:=true
 t:=T_int_3
 fr:=true
 ow:=false
 g:=fun x=>some (Lib.indexByte x.1.data.toList x.2.1.toNat.toUInt8)
 ok:=fun x=>⟨⟨_,fn_internal_stringslite_IndexByte.at_,fn_internal_stringslite_IndexByte.body,fn_internal_stringslite_IndexByte.name⟩,fun y hy w okA vs hok hv=>by
  match vs,hv with
  | [u,v],hv =>
   have h_gosem_cut:=str_of_V hv.1
   have h_gosem_cut_init:=int_of_V hv.2.1
   subst h_gosem_cut; subst h_gosem_cut_init
   injection hy with hy
   subst hy
   refine (call249 _ _ w).mono ?_
   rintro e w' ⟨rfl,rfl⟩
   exact ⟨_,rfl,⟨_,rfl,rfl⟩,(fun h=>by cases h),⟨RowKit.Below.refl _ _⟩⟩⟩
noncomputable def g_internal_stringslite_IndexByte (K:Nat) (x0:T_str.T) (x1:T_u8.T):Option T_int_3.T:=(e_internal_stringslite_IndexByte K).g (x0,x1,())
theorem g_internal_stringslite_IndexByte.eq (K:Nat) (x0:T_str.T) (x1:T_u8.T):g_internal_stringslite_IndexByte K x0 x1 = some (Lib.indexByte x0.data.toList x1.toNat.toUInt8):=rfl
theorem fn_strings_Count:fnOk G 239 Tryz.f239:=⟨Tryz.func239,by kernel_rfl⟩
def count1 (s p:ByteArray):Option Int:=match p with
 | ⟨⟨[c]⟩⟩=>some (Lib.countByte s.data.toList c:Int)
 | _=>none
noncomputable def e_strings_Count (K:Nat):Ent G.P where
 f:=239
 args:=[T_str,T_str]
 one:=true
 t:=T_int_3
 fr:=true
 ow:=false
 g:=fun x=>count1 x.1 x.2.1
 ok:=fun x=>⟨⟨_,fn_strings_Count.at_,fn_strings_Count.body,fn_strings_Count.name⟩,fun y hy w okA vs hok hv=>by
  match vs,hv with
  | [u,v],hv =>
   obtain ⟨s,p,z⟩:=x
   have h_gosem_cut:=str_of_V hv.1
   have h_gosem_cut_init:=str_of_V hv.2.1
   have h_gosem_cut:u = .string s:=h_gosem_cut
   have h_gosem_cut_init:v = .string p:=h_gosem_cut_init
   subst h_gosem_cut; subst h_gosem_cut_init
   have hy:count1 s p = some y:=hy
   unfold count1 at hy
   split at hy
   ·injection hy with hy
    subst hy
    refine (call239 _ _ w).mono ?_
    rintro e w' ⟨rfl,rfl⟩
    exact ⟨_,rfl,⟨_,rfl,rfl⟩,(fun h=>by cases h),⟨RowKit.Below.refl _ _⟩⟩
   ·cases hy⟩
noncomputable def g_strings_Count (K:Nat) (x0:T_str.T) (x1:T_str.T):Option T_int_3.T:=(e_strings_Count K).g (x0,x1,())
theorem g_strings_Count.eq (K:Nat) (x0:T_str.T) (x1:T_str.T):g_strings_Count K x0 x1 = count1 x0 x1:=rfl
def shf0:Sh:=(.ow (.ow .fz))
def shf1:Sh:=(.pr .fz (.pr (.ow .fz) .fz))
def shf2:Sh:=(.ow shf1)
def shf3:Sh:=(.pr shf0 (.pr shf2 .fz))
def shf4:Sh:=(.pr .fz (.pr .fz (.pr .fz (.pr .fz (.pr (.ow .fz) (.pr (.ow .fz) .fz))))))
def shf5:Sh:=(.ow shf4)
def shf6:Sh:=(.pr .fz (.pr .fz (.pr .fz (.pr (.ow .fz) (.pr .fz (.pr (.ow .fz) (.pr (.ow .fz) .fz)))))))
def shf7:Sh:=(.ow shf6)
def shf8:Sh:=(.pr .fz (.pr shf3 (.pr shf5 (.pr shf7 (.pr shf2 (.pr (.ow .fz) .fz))))))
theorem fn_laws_szByteS:fnOk G 107 Tryz.f107:=⟨Tryz.func107,by kernel_rfl⟩
def tl1:Nat→List Nat:=fun _=>[]
noncomputable def e_laws_szByteS (K:Nat):Ent G.P:=mkEnt G 107 Tryz.f107 fn_laws_szByteS [T_S_u8,T_int] true T_int true [] K tl1 tl1
noncomputable def g_laws_szByteS (K:Nat) (x0:T_S_u8.T) (x1:T_int.T):Option T_int.T:=(e_laws_szByteS K).g (x0,x1,())
theorem fn_laws_szByteSS:fnOk G 51 Tryz.f51:=⟨Tryz.func51,by kernel_rfl⟩
def tl2:Nat→List Nat:=fun i=>if i = 5 then [2,3,4,6,7,8,9,10,11,12,13,14,15,16,17,18,19,20,21,22,23,24,25,26] else []
def tl3:Nat→List Nat:=fun i=>if i = 5 then [] else []
noncomputable def e_laws_szByteSS (K:Nat):Ent G.P:=mkEnt G 51 Tryz.f51 fn_laws_szByteSS [T_S_S_u8,T_int] true T_int true [e_laws_szByteS K] K tl2 tl3
noncomputable def g_laws_szByteSS (K:Nat) (x0:T_S_S_u8.T) (x1:T_int.T):Option T_int.T:=(e_laws_szByteSS K).g (x0,x1,())
noncomputable def L_laws_szByteSS_5 (K:Nat) (k:Nat) (x0:T_S_S_u8.T) (v1:T_int.T) (v5:T_int.T):Option T_int.T:=resume (envOf G [e_laws_szByteS K] K tl2 tl3) dokB true T_int true Tryz.f51 [1,1,1,0,1,0] k (mkSt 27 [(0,.d T_S_S_u8 false x0),(1,.d T_int true v1),(5,.d T_int true v5)] [])
theorem fn_laws_szWr:fnOk G 108 Tryz.f108:=⟨Tryz.func108,by kernel_rfl⟩
noncomputable def e_laws_szWr (K:Nat):Ent G.P:=mkEnt G 108 Tryz.f108 fn_laws_szWr [T_impl_Pack,T_int] true T_int true [e_laws_szByteS K] K tl1 tl1
noncomputable def g_laws_szWr (K:Nat) (x0:T_impl_Pack.T) (x1:T_int.T):Option T_int.T:=(e_laws_szWr K).g (x0,x1,())
theorem fn_laws_szWrS:fnOk G 52 Tryz.f52:=⟨Tryz.func52,by kernel_rfl⟩
noncomputable def e_laws_szWrS (K:Nat):Ent G.P:=mkEnt G 52 Tryz.f52 fn_laws_szWrS [T_S_laws_Wr,T_int] true T_int true [e_laws_szWr K] K tl2 tl3
noncomputable def g_laws_szWrS (K:Nat) (x0:T_S_laws_Wr.T) (x1:T_int.T):Option T_int.T:=(e_laws_szWrS K).g (x0,x1,())
noncomputable def L_laws_szWrS_5 (K:Nat) (k:Nat) (x0:T_S_laws_Wr.T) (v1:T_int.T) (v5:T_int.T):Option T_int.T:=resume (envOf G [e_laws_szWr K] K tl2 tl3) dokB true T_int true Tryz.f52 [1,1,1,0,1,0] k (mkSt 27 [(0,.d T_S_laws_Wr false x0),(1,.d T_int true v1),(5,.d T_int true v5)] [])
theorem fn_laws_szDisk:fnOk G 14 Tryz.f14:=⟨Tryz.func14,by kernel_rfl⟩
noncomputable def e_laws_szDisk (K:Nat):Ent G.P:=mkEnt G 14 Tryz.f14 fn_laws_szDisk [T_laws_Disk,T_int] true T_int true [e_laws_szByteSS K,e_laws_szWrS K] K tl1 tl1
noncomputable def g_laws_szDisk (K:Nat) (x0:T_laws_Disk.T) (x1:T_int.T):Option T_int.T:=(e_laws_szDisk K).g (x0,x1,())
theorem fn_laws_szSock:fnOk G 53 Tryz.f53:=⟨Tryz.func53,by kernel_rfl⟩
noncomputable def e_laws_szSock (K:Nat):Ent G.P:=mkEnt G 53 Tryz.f53 fn_laws_szSock [T_impl_Sock,T_int] true T_int true [e_laws_szByteS K] K tl1 tl1
noncomputable def g_laws_szSock (K:Nat) (x0:T_impl_Sock.T) (x1:T_int.T):Option T_int.T:=(e_laws_szSock K).g (x0,x1,())
theorem fn_laws_szSockS:fnOk G 15 Tryz.f15:=⟨Tryz.func15,by kernel_rfl⟩
noncomputable def e_laws_szSockS (K:Nat):Ent G.P:=mkEnt G 15 Tryz.f15 fn_laws_szSockS [T_S_laws_Sock,T_int] true T_int true [e_laws_szSock K] K tl2 tl3
noncomputable def g_laws_szSockS (K:Nat) (x0:T_S_laws_Sock.T) (x1:T_int.T):Option T_int.T:=(e_laws_szSockS K).g (x0,x1,())
noncomputable def L_laws_szSockS_5 (K:Nat) (k:Nat) (x0:T_S_laws_Sock.T) (v1:T_int.T) (v5:T_int.T):Option T_int.T:=resume (envOf G [e_laws_szSock K] K tl2 tl3) dokB true T_int true Tryz.f15 [1,1,1,0,1,0] k (mkSt 27 [(0,.d T_S_laws_Sock false x0),(1,.d T_int true v1),(5,.d T_int true v5)] [])
theorem fn_laws_szDb:fnOk G 155 Tryz.f155:=⟨Tryz.func155,by kernel_rfl⟩
noncomputable def e_laws_szDb (K:Nat):Ent G.P:=mkEnt G 155 Tryz.f155 fn_laws_szDb [T_impl_Db,T_int] true T_int true [] K tl1 tl1
noncomputable def g_laws_szDb (K:Nat) (x0:T_impl_Db.T) (x1:T_int.T):Option T_int.T:=(e_laws_szDb K).g (x0,x1,())
theorem fn_laws_szDbS:fnOk G 109 Tryz.f109:=⟨Tryz.func109,by kernel_rfl⟩
noncomputable def e_laws_szDbS (K:Nat):Ent G.P:=mkEnt G 109 Tryz.f109 fn_laws_szDbS [T_S_laws_Db,T_int] true T_int true [e_laws_szDb K] K tl2 tl3
noncomputable def g_laws_szDbS (K:Nat) (x0:T_S_laws_Db.T) (x1:T_int.T):Option T_int.T:=(e_laws_szDbS K).g (x0,x1,())
noncomputable def L_laws_szDbS_5 (K:Nat) (k:Nat) (x0:T_S_laws_Db.T) (v1:T_int.T) (v5:T_int.T):Option T_int.T:=resume (envOf G [e_laws_szDb K] K tl2 tl3) dokB true T_int true Tryz.f109 [1,1,1,0,1,0] k (mkSt 27 [(0,.d T_S_laws_Db false x0),(1,.d T_int true v1),(5,.d T_int true v5)] [])
theorem fn_laws_szAsker:fnOk G 156 Tryz.f156:=⟨Tryz.func156,by kernel_rfl⟩
noncomputable def e_laws_szAsker (K:Nat):Ent G.P:=mkEnt G 156 Tryz.f156 fn_laws_szAsker [T_impl_Asker,T_int] true T_int true [] K tl1 tl1
noncomputable def g_laws_szAsker (K:Nat) (x0:T_impl_Asker.T) (x1:T_int.T):Option T_int.T:=(e_laws_szAsker K).g (x0,x1,())
theorem fn_laws_szAskerS:fnOk G 110 Tryz.f110:=⟨Tryz.func110,by kernel_rfl⟩
noncomputable def e_laws_szAskerS (K:Nat):Ent G.P:=mkEnt G 110 Tryz.f110 fn_laws_szAskerS [T_S_laws_Asker,T_int] true T_int true [e_laws_szAsker K] K tl2 tl3
noncomputable def g_laws_szAskerS (K:Nat) (x0:T_S_laws_Asker.T) (x1:T_int.T):Option T_int.T:=(e_laws_szAskerS K).g (x0,x1,())
noncomputable def L_laws_szAskerS_5 (K:Nat) (k:Nat) (x0:T_S_laws_Asker.T) (v1:T_int.T) (v5:T_int.T):Option T_int.T:=resume (envOf G [e_laws_szAsker K] K tl2 tl3) dokB true T_int true Tryz.f110 [1,1,1,0,1,0] k (mkSt 27 [(0,.d T_S_laws_Asker false x0),(1,.d T_int true v1),(5,.d T_int true v5)] [])
theorem fn_laws_szLine:fnOk G 157 Tryz.f157:=⟨Tryz.func157,by kernel_rfl⟩
noncomputable def e_laws_szLine (K:Nat):Ent G.P:=mkEnt G 157 Tryz.f157 fn_laws_szLine [T_impl_Line,T_int] true T_int true [] K tl1 tl1
noncomputable def g_laws_szLine (K:Nat) (x0:T_impl_Line.T) (x1:T_int.T):Option T_int.T:=(e_laws_szLine K).g (x0,x1,())
theorem fn_laws_szLineS:fnOk G 111 Tryz.f111:=⟨Tryz.func111,by kernel_rfl⟩
noncomputable def e_laws_szLineS (K:Nat):Ent G.P:=mkEnt G 111 Tryz.f111 fn_laws_szLineS [T_S_laws_Line,T_int] true T_int true [e_laws_szLine K] K tl2 tl3
noncomputable def g_laws_szLineS (K:Nat) (x0:T_S_laws_Line.T) (x1:T_int.T):Option T_int.T:=(e_laws_szLineS K).g (x0,x1,())
noncomputable def L_laws_szLineS_5 (K:Nat) (k:Nat) (x0:T_S_laws_Line.T) (v1:T_int.T) (v5:T_int.T):Option T_int.T:=resume (envOf G [e_laws_szLine K] K tl2 tl3) dokB true T_int true Tryz.f111 [1,1,1,0,1,0] k (mkSt 27 [(0,.d T_S_laws_Line false x0),(1,.d T_int true v1),(5,.d T_int true v5)] [])
theorem fn_laws_szHouse:fnOk G 54 Tryz.f54:=⟨Tryz.func54,by kernel_rfl⟩
noncomputable def e_laws_szHouse (K:Nat):Ent G.P:=mkEnt G 54 Tryz.f54 fn_laws_szHouse [T_laws_House,T_int] true T_int true [e_laws_szDbS K,e_laws_szAskerS K,e_laws_szLineS K] K tl1 tl1
noncomputable def g_laws_szHouse (K:Nat) (x0:T_laws_House.T) (x1:T_int.T):Option T_int.T:=(e_laws_szHouse K).g (x0,x1,())
theorem fn_laws_szHouseS:fnOk G 16 Tryz.f16:=⟨Tryz.func16,by kernel_rfl⟩
noncomputable def e_laws_szHouseS (K:Nat):Ent G.P:=mkEnt G 16 Tryz.f16 fn_laws_szHouseS [T_S_laws_House,T_int] true T_int true [e_laws_szHouse K] K tl2 tl3
noncomputable def g_laws_szHouseS (K:Nat) (x0:T_S_laws_House.T) (x1:T_int.T):Option T_int.T:=(e_laws_szHouseS K).g (x0,x1,())
noncomputable def L_laws_szHouseS_5 (K:Nat) (k:Nat) (x0:T_S_laws_House.T) (v1:T_int.T) (v5:T_int.T):Option T_int.T:=resume (envOf G [e_laws_szHouse K] K tl2 tl3) dokB true T_int true Tryz.f16 [1,1,1,0,1,0] k (mkSt 27 [(0,.d T_S_laws_House false x0),(1,.d T_int true v1),(5,.d T_int true v5)] [])
theorem fn_laws_szPack:fnOk G 55 Tryz.f55:=⟨Tryz.func55,by kernel_rfl⟩
noncomputable def e_laws_szPack (K:Nat):Ent G.P:=mkEnt G 55 Tryz.f55 fn_laws_szPack [T_impl_Pack,T_int] true T_int true [e_laws_szByteS K] K tl1 tl1
noncomputable def g_laws_szPack (K:Nat) (x0:T_impl_Pack.T) (x1:T_int.T):Option T_int.T:=(e_laws_szPack K).g (x0,x1,())
theorem fn_laws_szPackS:fnOk G 17 Tryz.f17:=⟨Tryz.func17,by kernel_rfl⟩
noncomputable def e_laws_szPackS (K:Nat):Ent G.P:=mkEnt G 17 Tryz.f17 fn_laws_szPackS [T_S_laws_Pack,T_int] true T_int true [e_laws_szPack K] K tl2 tl3
noncomputable def g_laws_szPackS (K:Nat) (x0:T_S_laws_Pack.T) (x1:T_int.T):Option T_int.T:=(e_laws_szPackS K).g (x0,x1,())
noncomputable def L_laws_szPackS_5 (K:Nat) (k:Nat) (x0:T_S_laws_Pack.T) (v1:T_int.T) (v5:T_int.T):Option T_int.T:=resume (envOf G [e_laws_szPack K] K tl2 tl3) dokB true T_int true Tryz.f17 [1,1,1,0,1,0] k (mkSt 27 [(0,.d T_S_laws_Pack false x0),(1,.d T_int true v1),(5,.d T_int true v5)] [])
theorem fn_laws_szNoteS:fnOk G 18 Tryz.f18:=⟨Tryz.func18,by kernel_rfl⟩
noncomputable def e_laws_szNoteS (K:Nat):Ent G.P:=mkEnt G 18 Tryz.f18 fn_laws_szNoteS [T_S_laws_Note,T_int] true T_int true [] K tl1 tl1
noncomputable def g_laws_szNoteS (K:Nat) (x0:T_S_laws_Note.T) (x1:T_int.T):Option T_int.T:=(e_laws_szNoteS K).g (x0,x1,())
theorem fn_laws_szWorld:fnOk G 5 Tryz.f5:=⟨Tryz.func5,by kernel_rfl⟩
noncomputable def e_laws_szWorld (K:Nat):Ent G.P:=mkEnt G 5 Tryz.f5 fn_laws_szWorld [T_laws_World,T_int] true T_int true [e_laws_szDisk K,e_laws_szSockS K,e_laws_szHouseS K,e_laws_szPackS K,e_laws_szNoteS K] K tl1 tl1
noncomputable def g_laws_szWorld (K:Nat) (x0:T_laws_World.T) (x1:T_int.T):Option T_int.T:=(e_laws_szWorld K).g (x0,x1,())
theorem fn_laws_toByteS:fnOk G 124 Tryz.f124:=⟨Tryz.func124,by kernel_rfl⟩
def tl4:Nat→List Nat:=fun i=>if i = 3 then [1,2,5,6,7,8,9,10,11,12,13,14,15,16,17,18,19,20,21] else []
def tl5:Nat→List Nat:=fun i=>if i = 3 then [2] else []
noncomputable def e_laws_toByteS (K:Nat):SEnt G.P:=mkSEnt G 124 Tryz.f124 fn_laws_toByteS [T_S_u8] (.ow .fz) T_S_u8 [] [] [] [] ⟨[7],[],[]⟩ K tl4 tl5
noncomputable def g_laws_toByteS (K:Nat) (x0:T_S_u8.T):Option T_S_u8.T:=(e_laws_toByteS K).g (x0,())
noncomputable def L_laws_toByteS_3 (K:Nat) (k:Nat) (x0:T_S_u8.T) (v4:T_int.T) (o7:T_S_u8.T):Option T_S_u8.T:=resumeS (envT G [] [] [] [] ⟨[7],[],[]⟩ K tl4 tl5) dokB (.ow .fz) T_S_u8 Tryz.f124 [1,1,0,1,0] k (mkSt 22 [(0,.d T_S_u8 false x0),(3,.vw 7 [] 0 T_S_u8),(4,.d T_int true v4)] [(7,.tr false (.ow .fz) T_S_u8 o7)])
theorem fn_laws_toByteSS:fnOk G 66 Tryz.f66:=⟨Tryz.func66,by kernel_rfl⟩
def tl6:Nat→List Nat:=fun i=>if i = 3 then [1,2,5,6,7,8,9,10,11,12,13,14,15,16,17,18,19,20,21,22] else []
def tl7:Nat→List Nat:=fun i=>if i = 3 then [2,20] else []
noncomputable def e_laws_toByteSS (K:Nat):SEnt G.P:=mkSEnt G 66 Tryz.f66 fn_laws_toByteSS [T_S_S_u8] shf0 T_S_S_u8 [] [e_laws_toByteS K] [] [] ⟨[7],[],[]⟩ K tl6 tl7
noncomputable def g_laws_toByteSS (K:Nat) (x0:T_S_S_u8.T):Option T_S_S_u8.T:=(e_laws_toByteSS K).g (x0,())
noncomputable def L_laws_toByteSS_3 (K:Nat) (k:Nat) (x0:T_S_S_u8.T) (v4:T_int.T) (o7:T_S_S_u8.T):Option T_S_S_u8.T:=resumeS (envT G [] [e_laws_toByteS K] [] [] ⟨[7],[],[]⟩ K tl6 tl7) dokB shf0 T_S_S_u8 Tryz.f66 [1,1,0,1,0] k (mkSt 23 [(0,.d T_S_S_u8 false x0),(3,.vw 7 [] 0 T_S_S_u8),(4,.d T_int true v4)] [(7,.tr false shf0 T_S_S_u8 o7)])
theorem fn_laws_toWr:fnOk G 125 Tryz.f125:=⟨Tryz.func125,by kernel_rfl⟩
noncomputable def e_laws_toWr (K:Nat):SEnt G.P:=mkSEnt G 125 Tryz.f125 fn_laws_toWr [T_impl_Pack] shf1 T_impl_Pack [] [e_laws_toByteS K] [] [] ⟨[2,3],[],[]⟩ K tl1 tl1
noncomputable def g_laws_toWr (K:Nat) (x0:T_impl_Pack.T):Option T_impl_Pack.T:=(e_laws_toWr K).g (x0,())
theorem fn_laws_toWrS:fnOk G 67 Tryz.f67:=⟨Tryz.func67,by kernel_rfl⟩
noncomputable def e_laws_toWrS (K:Nat):SEnt G.P:=mkSEnt G 67 Tryz.f67 fn_laws_toWrS [T_S_laws_Wr] shf2 T_S_impl_Wr [] [e_laws_toWr K] [] [] ⟨[7],[],[]⟩ K tl6 tl7
noncomputable def g_laws_toWrS (K:Nat) (x0:T_S_laws_Wr.T):Option T_S_impl_Wr.T:=(e_laws_toWrS K).g (x0,())
noncomputable def L_laws_toWrS_3 (K:Nat) (k:Nat) (x0:T_S_laws_Wr.T) (v4:T_int.T) (o7:T_S_impl_Wr.T):Option T_S_impl_Wr.T:=resumeS (envT G [] [e_laws_toWr K] [] [] ⟨[7],[],[]⟩ K tl6 tl7) dokB shf2 T_S_impl_Wr Tryz.f67 [1,1,0,1,0] k (mkSt 23 [(0,.d T_S_laws_Wr false x0),(3,.vw 7 [] 0 T_S_impl_Wr),(4,.d T_int true v4)] [(7,.tr false shf2 T_S_impl_Wr o7)])
theorem fn_laws_toDisk:fnOk G 23 Tryz.f23:=⟨Tryz.func23,by kernel_rfl⟩
noncomputable def e_laws_toDisk (K:Nat):SEnt G.P:=mkSEnt G 23 Tryz.f23 fn_laws_toDisk [T_laws_Disk] shf3 T_impl_Disk [] [e_laws_toByteSS K,e_laws_toWrS K] [] [] ⟨[2,3],[],[]⟩ K tl1 tl1
noncomputable def g_laws_toDisk (K:Nat) (x0:T_laws_Disk.T):Option T_impl_Disk.T:=(e_laws_toDisk K).g (x0,())
theorem fn_laws_toSock:fnOk G 68 Tryz.f68:=⟨Tryz.func68,by kernel_rfl⟩
noncomputable def e_laws_toSock (K:Nat):SEnt G.P:=mkSEnt G 68 Tryz.f68 fn_laws_toSock [T_impl_Sock] shf4 T_impl_Sock [] [e_laws_toByteS K] [] [] ⟨[2,3],[],[]⟩ K tl1 tl1
noncomputable def g_laws_toSock (K:Nat) (x0:T_impl_Sock.T):Option T_impl_Sock.T:=(e_laws_toSock K).g (x0,())
theorem fn_laws_toSockS:fnOk G 24 Tryz.f24:=⟨Tryz.func24,by kernel_rfl⟩
noncomputable def e_laws_toSockS (K:Nat):SEnt G.P:=mkSEnt G 24 Tryz.f24 fn_laws_toSockS [T_S_laws_Sock] shf5 T_S_impl_Sock [] [e_laws_toSock K] [] [] ⟨[7],[],[]⟩ K tl6 tl7
noncomputable def g_laws_toSockS (K:Nat) (x0:T_S_laws_Sock.T):Option T_S_impl_Sock.T:=(e_laws_toSockS K).g (x0,())
noncomputable def L_laws_toSockS_3 (K:Nat) (k:Nat) (x0:T_S_laws_Sock.T) (v4:T_int.T) (o7:T_S_impl_Sock.T):Option T_S_impl_Sock.T:=resumeS (envT G [] [e_laws_toSock K] [] [] ⟨[7],[],[]⟩ K tl6 tl7) dokB shf5 T_S_impl_Sock Tryz.f24 [1,1,0,1,0] k (mkSt 23 [(0,.d T_S_laws_Sock false x0),(3,.vw 7 [] 0 T_S_impl_Sock),(4,.d T_int true v4)] [(7,.tr false shf5 T_S_impl_Sock o7)])
theorem fn_laws_toDb:fnOk G 170 Tryz.f170:=⟨Tryz.func170,by kernel_rfl⟩
noncomputable def e_laws_toDb (K:Nat):Ent G.P:=mkEnt G 170 Tryz.f170 fn_laws_toDb [T_impl_Db] true T_impl_Db true [] K tl1 tl1
noncomputable def g_laws_toDb (K:Nat) (x0:T_impl_Db.T):Option T_impl_Db.T:=(e_laws_toDb K).g (x0,())
theorem fn_laws_toDbS:fnOk G 126 Tryz.f126:=⟨Tryz.func126,by kernel_rfl⟩
noncomputable def e_laws_toDbS (K:Nat):SEnt G.P:=mkSEnt G 126 Tryz.f126 fn_laws_toDbS [T_S_laws_Db] (.ow .fz) T_S_impl_Db [e_laws_toDb K] [] [] [] ⟨[7],[],[]⟩ K tl6 tl5
noncomputable def g_laws_toDbS (K:Nat) (x0:T_S_laws_Db.T):Option T_S_impl_Db.T:=(e_laws_toDbS K).g (x0,())
noncomputable def L_laws_toDbS_3 (K:Nat) (k:Nat) (x0:T_S_laws_Db.T) (v4:T_int.T) (o7:T_S_impl_Db.T):Option T_S_impl_Db.T:=resumeS (envT G [e_laws_toDb K] [] [] [] ⟨[7],[],[]⟩ K tl6 tl5) dokB (.ow .fz) T_S_impl_Db Tryz.f126 [1,1,0,1,0] k (mkSt 23 [(0,.d T_S_laws_Db false x0),(3,.vw 7 [] 0 T_S_impl_Db),(4,.d T_int true v4)] [(7,.tr false (.ow .fz) T_S_impl_Db o7)])
theorem fn_laws_toAsker:fnOk G 171 Tryz.f171:=⟨Tryz.func171,by kernel_rfl⟩
noncomputable def e_laws_toAsker (K:Nat):Ent G.P:=mkEnt G 171 Tryz.f171 fn_laws_toAsker [T_impl_Asker] true T_impl_Asker true [] K tl1 tl1
noncomputable def g_laws_toAsker (K:Nat) (x0:T_impl_Asker.T):Option T_impl_Asker.T:=(e_laws_toAsker K).g (x0,())
theorem fn_laws_toAskerS:fnOk G 127 Tryz.f127:=⟨Tryz.func127,by kernel_rfl⟩
noncomputable def e_laws_toAskerS (K:Nat):SEnt G.P:=mkSEnt G 127 Tryz.f127 fn_laws_toAskerS [T_S_laws_Asker] (.ow .fz) T_S_impl_Asker [e_laws_toAsker K] [] [] [] ⟨[7],[],[]⟩ K tl6 tl5
noncomputable def g_laws_toAskerS (K:Nat) (x0:T_S_laws_Asker.T):Option T_S_impl_Asker.T:=(e_laws_toAskerS K).g (x0,())
noncomputable def L_laws_toAskerS_3 (K:Nat) (k:Nat) (x0:T_S_laws_Asker.T) (v4:T_int.T) (o7:T_S_impl_Asker.T):Option T_S_impl_Asker.T:=resumeS (envT G [e_laws_toAsker K] [] [] [] ⟨[7],[],[]⟩ K tl6 tl5) dokB (.ow .fz) T_S_impl_Asker Tryz.f127 [1,1,0,1,0] k (mkSt 23 [(0,.d T_S_laws_Asker false x0),(3,.vw 7 [] 0 T_S_impl_Asker),(4,.d T_int true v4)] [(7,.tr false (.ow .fz) T_S_impl_Asker o7)])
theorem fn_laws_toLine:fnOk G 172 Tryz.f172:=⟨Tryz.func172,by kernel_rfl⟩
noncomputable def e_laws_toLine (K:Nat):Ent G.P:=mkEnt G 172 Tryz.f172 fn_laws_toLine [T_impl_Line] true T_impl_Line true [] K tl1 tl1
noncomputable def g_laws_toLine (K:Nat) (x0:T_impl_Line.T):Option T_impl_Line.T:=(e_laws_toLine K).g (x0,())
theorem fn_laws_toLineS:fnOk G 128 Tryz.f128:=⟨Tryz.func128,by kernel_rfl⟩
noncomputable def e_laws_toLineS (K:Nat):SEnt G.P:=mkSEnt G 128 Tryz.f128 fn_laws_toLineS [T_S_laws_Line] (.ow .fz) T_S_impl_Line [e_laws_toLine K] [] [] [] ⟨[7],[],[]⟩ K tl6 tl5
noncomputable def g_laws_toLineS (K:Nat) (x0:T_S_laws_Line.T):Option T_S_impl_Line.T:=(e_laws_toLineS K).g (x0,())
noncomputable def L_laws_toLineS_3 (K:Nat) (k:Nat) (x0:T_S_laws_Line.T) (v4:T_int.T) (o7:T_S_impl_Line.T):Option T_S_impl_Line.T:=resumeS (envT G [e_laws_toLine K] [] [] [] ⟨[7],[],[]⟩ K tl6 tl5) dokB (.ow .fz) T_S_impl_Line Tryz.f128 [1,1,0,1,0] k (mkSt 23 [(0,.d T_S_laws_Line false x0),(3,.vw 7 [] 0 T_S_impl_Line),(4,.d T_int true v4)] [(7,.tr false (.ow .fz) T_S_impl_Line o7)])
theorem fn_laws_toHand:fnOk G 129 Tryz.f129:=⟨Tryz.func129,by kernel_rfl⟩
noncomputable def e_laws_toHand (K:Nat):Ent G.P:=mkEnt G 129 Tryz.f129 fn_laws_toHand [T_impl_Hand] true T_impl_Hand true [] K tl1 tl1
noncomputable def g_laws_toHand (K:Nat) (x0:T_impl_Hand.T):Option T_impl_Hand.T:=(e_laws_toHand K).g (x0,())
theorem fn_laws_toHouse:fnOk G 69 Tryz.f69:=⟨Tryz.func69,by kernel_rfl⟩
noncomputable def e_laws_toHouse (K:Nat):SEnt G.P:=mkSEnt G 69 Tryz.f69 fn_laws_toHouse [T_laws_House] shf6 T_impl_House [e_laws_toHand K] [e_laws_toDbS K,e_laws_toAskerS K,e_laws_toLineS K] [] [] ⟨[2,3],[],[]⟩ K tl1 tl1
noncomputable def g_laws_toHouse (K:Nat) (x0:T_laws_House.T):Option T_impl_House.T:=(e_laws_toHouse K).g (x0,())
theorem fn_laws_toHouseS:fnOk G 25 Tryz.f25:=⟨Tryz.func25,by kernel_rfl⟩
noncomputable def e_laws_toHouseS (K:Nat):SEnt G.P:=mkSEnt G 25 Tryz.f25 fn_laws_toHouseS [T_S_laws_House] shf7 T_S_impl_House [] [e_laws_toHouse K] [] [] ⟨[7],[],[]⟩ K tl6 tl7
noncomputable def g_laws_toHouseS (K:Nat) (x0:T_S_laws_House.T):Option T_S_impl_House.T:=(e_laws_toHouseS K).g (x0,())
noncomputable def L_laws_toHouseS_3 (K:Nat) (k:Nat) (x0:T_S_laws_House.T) (v4:T_int.T) (o7:T_S_impl_House.T):Option T_S_impl_House.T:=resumeS (envT G [] [e_laws_toHouse K] [] [] ⟨[7],[],[]⟩ K tl6 tl7) dokB shf7 T_S_impl_House Tryz.f25 [1,1,0,1,0] k (mkSt 23 [(0,.d T_S_laws_House false x0),(3,.vw 7 [] 0 T_S_impl_House),(4,.d T_int true v4)] [(7,.tr false shf7 T_S_impl_House o7)])
theorem fn_laws_toPack:fnOk G 70 Tryz.f70:=⟨Tryz.func70,by kernel_rfl⟩
noncomputable def e_laws_toPack (K:Nat):SEnt G.P:=mkSEnt G 70 Tryz.f70 fn_laws_toPack [T_impl_Pack] shf1 T_impl_Pack [] [e_laws_toByteS K] [] [] ⟨[2,3],[],[]⟩ K tl1 tl1
noncomputable def g_laws_toPack (K:Nat) (x0:T_impl_Pack.T):Option T_impl_Pack.T:=(e_laws_toPack K).g (x0,())
theorem fn_laws_toPackS:fnOk G 26 Tryz.f26:=⟨Tryz.func26,by kernel_rfl⟩
noncomputable def e_laws_toPackS (K:Nat):SEnt G.P:=mkSEnt G 26 Tryz.f26 fn_laws_toPackS [T_S_laws_Pack] shf2 T_S_impl_Pack [] [e_laws_toPack K] [] [] ⟨[7],[],[]⟩ K tl6 tl7
noncomputable def g_laws_toPackS (K:Nat) (x0:T_S_laws_Pack.T):Option T_S_impl_Pack.T:=(e_laws_toPackS K).g (x0,())
noncomputable def L_laws_toPackS_3 (K:Nat) (k:Nat) (x0:T_S_laws_Pack.T) (v4:T_int.T) (o7:T_S_impl_Pack.T):Option T_S_impl_Pack.T:=resumeS (envT G [] [e_laws_toPack K] [] [] ⟨[7],[],[]⟩ K tl6 tl7) dokB shf2 T_S_impl_Pack Tryz.f26 [1,1,0,1,0] k (mkSt 23 [(0,.d T_S_laws_Pack false x0),(3,.vw 7 [] 0 T_S_impl_Pack),(4,.d T_int true v4)] [(7,.tr false shf2 T_S_impl_Pack o7)])
theorem fn_laws_toNote:fnOk G 71 Tryz.f71:=⟨Tryz.func71,by kernel_rfl⟩
noncomputable def e_laws_toNote (K:Nat):Ent G.P:=mkEnt G 71 Tryz.f71 fn_laws_toNote [T_impl_Note] true T_impl_Note true [] K tl1 tl1
noncomputable def g_laws_toNote (K:Nat) (x0:T_impl_Note.T):Option T_impl_Note.T:=(e_laws_toNote K).g (x0,())
theorem fn_laws_toNoteS:fnOk G 27 Tryz.f27:=⟨Tryz.func27,by kernel_rfl⟩
noncomputable def e_laws_toNoteS (K:Nat):SEnt G.P:=mkSEnt G 27 Tryz.f27 fn_laws_toNoteS [T_S_laws_Note] (.ow .fz) T_S_impl_Note [e_laws_toNote K] [] [] [] ⟨[7],[],[]⟩ K tl6 tl5
noncomputable def g_laws_toNoteS (K:Nat) (x0:T_S_laws_Note.T):Option T_S_impl_Note.T:=(e_laws_toNoteS K).g (x0,())
noncomputable def L_laws_toNoteS_3 (K:Nat) (k:Nat) (x0:T_S_laws_Note.T) (v4:T_int.T) (o7:T_S_impl_Note.T):Option T_S_impl_Note.T:=resumeS (envT G [e_laws_toNote K] [] [] [] ⟨[7],[],[]⟩ K tl6 tl5) dokB (.ow .fz) T_S_impl_Note Tryz.f27 [1,1,0,1,0] k (mkSt 23 [(0,.d T_S_laws_Note false x0),(3,.vw 7 [] 0 T_S_impl_Note),(4,.d T_int true v4)] [(7,.tr false (.ow .fz) T_S_impl_Note o7)])
theorem fn_laws_toWorld:fnOk G 7 Tryz.f7:=⟨Tryz.func7,by kernel_rfl⟩
noncomputable def e_laws_toWorld (K:Nat):SEnt G.P:=mkSEnt G 7 Tryz.f7 fn_laws_toWorld [T_laws_World] shf8 T_impl_World [] [e_laws_toDisk K,e_laws_toSockS K,e_laws_toHouseS K,e_laws_toPackS K,e_laws_toNoteS K] [] [] ⟨[2,3],[],[]⟩ K tl1 tl1
noncomputable def g_laws_toWorld (K:Nat) (x0:T_laws_World.T):Option T_impl_World.T:=(e_laws_toWorld K).g (x0,())
theorem w_laws_toWorld (K:Nat):(e_laws_toWorld K).sh.whole = true:=by kernel_rfl
noncomputable def d_laws_toWorld (K:Nat):Ent G.P:=(e_laws_toWorld K).data (w_laws_toWorld K) fn_laws_toWorld.ex
theorem ok7 (K:Nat):∀ x,CallOk G.P 7 (toDts [T_laws_World] x) ⟨true,T_impl_World,false,false,(e_laws_toWorld K).g x⟩:=Eq.mp (by kernel_rfl) (d_laws_toWorld K).ok
theorem fn_spec_l2Copy:fnOk G 56 Tryz.f56:=⟨Tryz.func56,by kernel_rfl⟩
def tl8:Nat→List Nat:=fun i=>if i = 3 then [0,5,6,7,8,9,10,11,12,13,14,15,16,17,18,19,20,21,22,23,24,25,26,27,28,29,30,31,32,33,34,35,36,37,38,39,40,41,42,43,44,45,46,47,48,49,50,51,52,53,54,55,56,57] else if i = 7 then [0,4,6,7,8,9,10,11,12,13,14,15,16,17,18,19,20,21,22,23,24,25,26,27,28,29,30,31,32,33,34,35,36,37,38,39,40,41,42,43,44,45,46,47,48,49,50,51,52,53,54,55,56,57] else []
def tl9:Nat→List Nat:=fun i=>if i = 3 then [10,20,26,27,28] else if i = 7 then [45,52,53,54,55] else []
noncomputable def e_spec_l2Copy (K:Nat):SEnt G.P:=mkSEnt G 56 Tryz.f56 fn_spec_l2Copy [T_impl_Disk] shf3 T_impl_Disk [] [] [] [] ⟨[2,3,10,20,27,45,53,54],[],[]⟩ K tl8 tl9
noncomputable def g_spec_l2Copy (K:Nat) (x0:T_impl_Disk.T):Option T_impl_Disk.T:=(e_spec_l2Copy K).g (x0,())
theorem w_spec_l2Copy (K:Nat):(e_spec_l2Copy K).sh.whole = true:=by kernel_rfl
noncomputable def d_spec_l2Copy (K:Nat):Ent G.P:=(e_spec_l2Copy K).data (w_spec_l2Copy K) fn_spec_l2Copy.ex
noncomputable def ev1 (K:Nat):Env:=envT G [] [] [] [] ⟨[2,3,10,20,27,45,53,54],[],[]⟩ K tl8 tl9
noncomputable def L_spec_l2Copy_3 (K:Nat) (k:Nat) (v4:T_int.T) (o1:T_impl_Disk.T) (o2:T_impl_Disk.T) (o3:T_impl_Disk.T):Option T_impl_Disk.T:=resumeS (ev1 K) dokB shf3 T_impl_Disk Tryz.f56 [1,1,0,1,0] k (mkSt 58 [(1,.ptr 1 0 T_impl_Disk),(2,.pt 2 [] 0 T_impl_Disk),(3,.pt 3 [] 0 T_impl_Disk),(4,.d T_int true v4)] [(1,.box T_impl_Disk false o1),(2,.tr true shf3 T_impl_Disk o2),(3,.tr true shf3 T_impl_Disk o3)])
noncomputable def L_spec_l2Copy_7 (K:Nat) (k:Nat) (v5:T_int.T) (o1:T_impl_Disk.T) (o2:T_impl_Disk.T) (o3:T_impl_Disk.T):Option T_impl_Disk.T:=resumeS (ev1 K) dokB shf3 T_impl_Disk Tryz.f56 [1,1,1,0,1,0] k (mkSt 58 [(1,.ptr 1 0 T_impl_Disk),(2,.pt 2 [] 0 T_impl_Disk),(3,.pt 3 [] 0 T_impl_Disk),(5,.d T_int true v5)] [(1,.box T_impl_Disk false o1),(2,.tr true shf3 T_impl_Disk o2),(3,.tr true shf3 T_impl_Disk o3)])
theorem fn_spec_l8Copy:fnOk G 112 Tryz.f112:=⟨Tryz.func112,by kernel_rfl⟩
noncomputable def e_spec_l8Copy (K:Nat):Ent G.P:=mkEnt G 112 Tryz.f112 fn_spec_l8Copy [T_impl_Sock] true T_impl_Sock false [] K tl1 tl1
noncomputable def g_spec_l8Copy (K:Nat) (x0:T_impl_Sock.T):Option T_impl_Sock.T:=(e_spec_l8Copy K).g (x0,())
theorem fn_spec_l8All:fnOk G 57 Tryz.f57:=⟨Tryz.func57,by kernel_rfl⟩
def tl10:Nat→List Nat:=fun i=>if i = 3 then [1,2,5,6,7,8,9,10,11,12,13,14,15,16,17,18,19,20] else []
noncomputable def e_spec_l8All (K:Nat):SEnt G.P:=mkSEnt G 57 Tryz.f57 fn_spec_l8All [T_S_impl_Sock] (.ow .fz) T_S_impl_Sock [e_spec_l8Copy K] [] [] [] ⟨[5,18],[(36,(.ow .fz))],[(17,.mv)]⟩ K tl10 (fun i=>if i = 3 then [2,18,19] else [])
noncomputable def g_spec_l8All (K:Nat) (x0:T_S_impl_Sock.T):Option T_S_impl_Sock.T:=(e_spec_l8All K).g (x0,())
theorem w_spec_l8All (K:Nat):(e_spec_l8All K).sh.whole = true:=by kernel_rfl
noncomputable def d_spec_l8All (K:Nat):Ent G.P:=(e_spec_l8All K).data (w_spec_l8All K) fn_spec_l8All.ex
noncomputable def L_spec_l8All_3 (K:Nat) (k:Nat) (x0:T_S_impl_Sock.T) (v4:T_int.T) (o5:T_S_impl_Sock.T):Option T_S_impl_Sock.T:=resumeS (envT G [e_spec_l8Copy K] [] [] [] ⟨[5,18],[(36,(.ow .fz))],[(17,.mv)]⟩ K tl10 (fun i=>if i = 3 then [2,18,19] else [])) dokB (.ow .fz) T_S_impl_Sock Tryz.f57 [1,1,0,1,0] k (mkSt 21 [(0,.d T_S_impl_Sock false x0),(3,.vw 5 [] 0 T_S_impl_Sock),(4,.d T_int true v4)] [(5,.tr false (.ow .fz) T_S_impl_Sock o5)])
theorem fn_spec_l10Copy:fnOk G 58 Tryz.f58:=⟨Tryz.func58,by kernel_rfl⟩
noncomputable def e_spec_l10Copy (K:Nat):Ent G.P:=mkEnt G 58 Tryz.f58 fn_spec_l10Copy [T_impl_House] true T_impl_House false [] K tl1 tl1
noncomputable def g_spec_l10Copy (K:Nat) (x0:T_impl_House.T):Option T_impl_House.T:=(e_spec_l10Copy K).g (x0,())
theorem fn_spec_l12Pack:fnOk G 113 Tryz.f113:=⟨Tryz.func113,by kernel_rfl⟩
noncomputable def e_spec_l12Pack (K:Nat):SEnt G.P:=mkSEnt G 113 Tryz.f113 fn_spec_l12Pack [T_impl_Pack] shf1 T_impl_Pack [] [] [] [] ⟨[2,5,9],[],[]⟩ K tl1 tl1
noncomputable def g_spec_l12Pack (K:Nat) (x0:T_impl_Pack.T):Option T_impl_Pack.T:=(e_spec_l12Pack K).g (x0,())
theorem w_spec_l12Pack (K:Nat):(e_spec_l12Pack K).sh.whole = true:=by kernel_rfl
noncomputable def d_spec_l12Pack (K:Nat):Ent G.P:=(e_spec_l12Pack K).data (w_spec_l12Pack K) fn_spec_l12Pack.ex
theorem fn_spec_l12Copy:fnOk G 59 Tryz.f59:=⟨Tryz.func59,by kernel_rfl⟩
noncomputable def e_spec_l12Copy (K:Nat):SEnt G.P:=mkSEnt G 59 Tryz.f59 fn_spec_l12Copy [T_S_impl_Pack] (.ow .fz) T_S_impl_Pack [d_spec_l12Pack K] [] [] [] ⟨[5,18],[(38,(.ow .fz))],[(17,.mv)]⟩ K tl10 (fun i=>if i = 3 then [2,17,18,19] else [])
noncomputable def g_spec_l12Copy (K:Nat) (x0:T_S_impl_Pack.T):Option T_S_impl_Pack.T:=(e_spec_l12Copy K).g (x0,())
theorem w_spec_l12Copy (K:Nat):(e_spec_l12Copy K).sh.whole = true:=by kernel_rfl
noncomputable def d_spec_l12Copy (K:Nat):Ent G.P:=(e_spec_l12Copy K).data (w_spec_l12Copy K) fn_spec_l12Copy.ex
noncomputable def L_spec_l12Copy_3 (K:Nat) (k:Nat) (x0:T_S_impl_Pack.T) (v4:T_int.T) (o5:T_S_impl_Pack.T):Option T_S_impl_Pack.T:=resumeS (envT G [d_spec_l12Pack K] [] [] [] ⟨[5,18],[(38,(.ow .fz))],[(17,.mv)]⟩ K tl10 (fun i=>if i = 3 then [2,17,18,19] else [])) dokB (.ow .fz) T_S_impl_Pack Tryz.f59 [1,1,0,1,0] k (mkSt 21 [(0,.d T_S_impl_Pack false x0),(3,.vw 5 [] 0 T_S_impl_Pack),(4,.d T_int true v4)] [(5,.tr false (.ow .fz) T_S_impl_Pack o5)])
theorem fn_spec_l14Copy:fnOk G 19 Tryz.f19:=⟨Tryz.func19,by kernel_rfl⟩
def tl11:Nat→List Nat:=fun i=>if i = 6 then [0,5,6,7,8,9,10,11,12,13,14,15,16,17,18,19,20,21,22,23,24,25,26,27,28,29,30,31,32,33,34,35,36,37,38,39,40,41,42,43] else []
noncomputable def e_spec_l14Copy (K:Nat):SEnt G.P:=mkSEnt G 19 Tryz.f19 fn_spec_l14Copy [T_impl_World] (.pr .fz (.pr .fz shf1)) T_impl_World [d_spec_l2Copy K,d_spec_l8All K,e_spec_l10Copy K,d_spec_l12Copy K] [] [] [] ⟨[2,3,14,31],[(37,(.ow .fz))],[(8,.mv),(12,.mv),(36,.mv)]⟩ K tl11 (fun i=>if i = 6 then [14,31,32] else [])
noncomputable def g_spec_l14Copy (K:Nat) (x0:T_impl_World.T):Option T_impl_World.T:=(e_spec_l14Copy K).g (x0,())
noncomputable def L_spec_l14Copy_6 (K:Nat) (k:Nat) (v4:T_int.T) (o1:T_impl_World.T) (o2:T_impl_World.T) (o3:T_impl_World.T):Option T_impl_World.T:=resumeS (envT G [d_spec_l2Copy K,d_spec_l8All K,e_spec_l10Copy K,d_spec_l12Copy K] [] [] [] ⟨[2,3,14,31],[(37,(.ow .fz))],[(8,.mv),(12,.mv),(36,.mv)]⟩ K tl11 (fun i=>if i = 6 then [14,31,32] else [])) dokB (.pr .fz (.pr .fz shf1)) T_impl_World Tryz.f19 [1,1,1,1,1,0,1,0] k (mkSt 44 [(1,.ptr 1 0 T_impl_World),(2,.pt 2 [] 0 T_impl_World),(3,.pt 3 [] 0 T_impl_World),(4,.d T_int true v4)] [(1,.box T_impl_World false o1),(2,.tr true shf8 T_impl_World o2),(3,.tr true (.pr .fz (.pr .fz shf1)) T_impl_World o3)])
theorem fn_spec_l1In:fnOk G 21 Tryz.f21:=⟨Tryz.func21,by kernel_rfl⟩
noncomputable def e_spec_l1In (K:Nat):Ent G.P:=mkEnt G 21 Tryz.f21 fn_spec_l1In [T_int,T_int,T_int] true T_bool true [] K tl1 tl1
noncomputable def g_spec_l1In (K:Nat) (x0:T_int.T) (x1:T_int.T) (x2:T_int.T):Option T_bool.T:=(e_spec_l1In K).g (x0,x1,x2,())
theorem fn_spec_DiskOk:fnOk G 105 Tryz.f105:=⟨Tryz.func105,by kernel_rfl⟩
def tl12:Nat→List Nat:=fun i=>if i = 2 then [0,2,4,5,6,7,8,9,10,11,12,13,14,15,16,17,18,19,20,21,22,23,24,25,26,27,28,29,30,31,32,33,34,35,36,37,38,39,40,41,42,43,44,45,46,47,48,49,50,51,52,53,54,55,56,57,58,59,60,61,62] else if i = 7 then [0,2,3,5,6,7,8,9,10,11,12,13,14,15,16,17,18,19,20,21,22,23,24,25,26,27,28,29,30,31,32,33,34,35,36,37,38,39,40,41,42,43,44,45,46,47,48,49,50,51,52,53,54,55,56,57,58,59,60,61,62] else []
def tl13:Nat→List Nat:=fun i=>if i = 2 then [] else if i = 7 then [] else []
noncomputable def e_spec_DiskOk (K:Nat):Ent G.P:=mkEnt G 105 Tryz.f105 fn_spec_DiskOk [T_impl_Disk] true T_bool true [e_spec_l1In K] K tl12 tl13
noncomputable def g_spec_DiskOk (K:Nat) (x0:T_impl_Disk.T):Option T_bool.T:=(e_spec_DiskOk K).g (x0,())
noncomputable def L_spec_DiskOk_2 (K:Nat) (k:Nat) (v3:T_int.T) (o1:T_impl_Disk.T):Option T_bool.T:=resume (envOf G [e_spec_l1In K] K tl12 tl13) dokB true T_bool true Tryz.f105 [1,0,1,0] k (mkSt 63 [(1,.ptr 1 0 T_impl_Disk),(3,.d T_int true v3)] [(1,.box T_impl_Disk false o1)])
noncomputable def L_spec_DiskOk_7 (K:Nat) (k:Nat) (v4:T_int.T) (o1:T_impl_Disk.T):Option T_bool.T:=resume (envOf G [e_spec_l1In K] K tl12 tl13) dokB true T_bool true Tryz.f105 [1,1,0,1,0] k (mkSt 63 [(1,.ptr 1 0 T_impl_Disk),(4,.d T_int true v4)] [(1,.box T_impl_Disk false o1)])
theorem fn_spec_ReadSec:fnOk G 115 Tryz.f115:=⟨Tryz.func115,by kernel_rfl⟩
def tl14:Nat→List Nat:=fun i=>if i = 5 then [0,3,4,7,8,9,10,11,12,13,14,15,16,17,18,19,20,21,22,23,24,25,26,27,28,29,30,31,32,33,34,35,36,37,38,39,40,41,42,43,44,45,46,47,48] else []
noncomputable def e_spec_ReadSec (K:Nat):Ent G.P:=mkEntO G 115 Tryz.f115 fn_spec_ReadSec [T_impl_Disk,T_int] 5 T_u8 false [e_spec_DiskOk K,e_spec_l1In K] K tl14 (fun i=>if i = 5 then [4] else [])
noncomputable def g_spec_ReadSec (K:Nat) (x0:T_impl_Disk.T) (x1:T_int.T):Option T_S_u8.T:=(e_spec_ReadSec K).g (x0,x1,())
noncomputable def L_spec_ReadSec_5 (K:Nat) (k:Nat) (x1:T_int.T) (v5:T_S_u8.T) (v6:T_int.T) (o2:T_impl_Disk.T):Option T_S_u8.T:=resumeO (envOf G [e_spec_DiskOk K,e_spec_l1In K] K tl14 (fun i=>if i = 5 then [4] else [])) dokB 5 T_u8 false Tryz.f115 [1,1,1,0,1,0] k (mkSt 49 [(1,.d T_int true x1),(2,.ptr 2 0 T_impl_Disk),(5,.d T_S_u8 false v5),(6,.d T_int true v6)] [(2,.box T_impl_Disk false o2)])
theorem fn_spec_GetWord:fnOk G 158 Tryz.f158:=⟨Tryz.func158,by kernel_rfl⟩
noncomputable def e_spec_GetWord (K:Nat):Ent G.P:=mkEnt G 158 Tryz.f158 fn_spec_GetWord [T_S_u8,T_int] false (Ty.pair T_int (Ty.pair T_int (Ty.pair T_bool Ty.unit))) true [] K tl1 tl1
noncomputable def g_spec_GetWord (K:Nat) (x0:T_S_u8.T) (x1:T_int.T):Option (Ty.pair T_int (Ty.pair T_int (Ty.pair T_bool Ty.unit))).T:=(e_spec_GetWord K).g (x0,x1,())
theorem fn_spec_PutWord:fnOk G 201 Tryz.f201:=⟨Tryz.func201,by kernel_rfl⟩
noncomputable def e_spec_PutWord (K:Nat):Ent G.P:=mkEntO G 201 Tryz.f201 fn_spec_PutWord [T_S_u8,T_int] 5 T_u8 false [] K tl1 tl1
noncomputable def g_spec_PutWord (K:Nat) (x0:T_S_u8.T) (x1:T_int.T):Option T_S_u8.T:=(e_spec_PutWord K).g (x0,x1,())
theorem fn_spec_Sum:fnOk G 202 Tryz.f202:=⟨Tryz.func202,by kernel_rfl⟩
def tl15:Nat→List Nat:=fun i=>if i = 3 then [1,2,5,6,7,8,9,10,11,12,13,14,15,16,17,18,19,20,21,22,23,24,25,26,27,28,29,30,31] else if i = 7 then [1,2,6,7,8,9,10,11,12,13,14,15,16,17,18,19,20,21,22,23,24,25,26,27,28,29,30,31] else []
def tl16:Nat→List Nat:=fun i=>if i = 3 then [] else if i = 7 then [] else []
noncomputable def e_spec_Sum (K:Nat):Ent G.P:=mkEnt G 202 Tryz.f202 fn_spec_Sum [T_S_u8] true T_int true [] K tl15 tl16
noncomputable def g_spec_Sum (K:Nat) (x0:T_S_u8.T):Option T_int.T:=(e_spec_Sum K).g (x0,())
noncomputable def L_spec_Sum_3 (K:Nat) (k:Nat) (x0:T_S_u8.T) (v3:T_int.T) (v4:T_int.T):Option T_int.T:=resume (envOf G [] K tl15 tl16) dokB true T_int true Tryz.f202 [1,1,0,1,0] k (mkSt 32 [(0,.d T_S_u8 false x0),(3,.d T_int true v3),(4,.d T_int true v4)] [])
noncomputable def L_spec_Sum_7 (K:Nat) (k:Nat) (n0:Nat) (x0:T_S_u8.T) (v4:T_int.T) (v3:T_int.T) (v5:T_int.T):Option T_int.T:=resume (envOf G [] K tl15 tl16) dokB true T_int true Tryz.f202 [1,1,0,1,0,n0 + 2,1,0,0,1,1,0] k (mkSt 32 [(0,.d T_S_u8 false x0),(3,.d T_int true v3),(4,.d T_int true v4),(5,.d T_int true v5)] [])
theorem fn_spec_HeadOf:fnOk G 160 Tryz.f160:=⟨Tryz.func160,by kernel_rfl⟩
noncomputable def e_spec_HeadOf (K:Nat):Ent G.P:=mkEntO G 160 Tryz.f160 fn_spec_HeadOf [T_int,T_int] 5 T_u8 true [e_spec_l1In K,e_spec_PutWord K,e_spec_Sum K] K tl1 tl1
noncomputable def g_spec_HeadOf (K:Nat) (x0:T_int.T) (x1:T_int.T):Option T_S_u8.T:=(e_spec_HeadOf K).g (x0,x1,())
theorem fn_spec_l1Same:fnOk G 159 Tryz.f159:=⟨Tryz.func159,by kernel_rfl⟩
noncomputable def e_spec_l1Same (K:Nat):Ent G.P:=mkEnt G 159 Tryz.f159 fn_spec_l1Same [T_S_u8,T_S_u8] true T_bool true [] K tl1 tl1
noncomputable def g_spec_l1Same (K:Nat) (x0:T_S_u8.T) (x1:T_S_u8.T):Option T_bool.T:=(e_spec_l1Same K).g (x0,x1,())
theorem fn_spec_GetHead:fnOk G 114 Tryz.f114:=⟨Tryz.func114,by kernel_rfl⟩
noncomputable def e_spec_GetHead (K:Nat):Ent G.P:=mkEnt G 114 Tryz.f114 fn_spec_GetHead [T_S_u8] false (Ty.pair T_int (Ty.pair T_int (Ty.pair T_bool Ty.unit))) true [e_spec_GetWord K,e_spec_HeadOf K,e_spec_l1Same K] K tl1 tl1
noncomputable def g_spec_GetHead (K:Nat) (x0:T_S_u8.T):Option (Ty.pair T_int (Ty.pair T_int (Ty.pair T_bool Ty.unit))).T:=(e_spec_GetHead K).g (x0,())
theorem fn_spec_l5At:fnOk G 162 Tryz.f162:=⟨Tryz.func162,by kernel_rfl⟩
noncomputable def e_spec_l5At (K:Nat):Ent G.P:=mkEnt G 162 Tryz.f162 fn_spec_l5At [T_int,T_int] true T_int true [] K tl1 tl1
noncomputable def g_spec_l5At (K:Nat) (x0:T_int.T) (x1:T_int.T):Option T_int.T:=(e_spec_l5At K).g (x0,x1,())
theorem fn_spec_TextOk:fnOk G 228 Tryz.f228:=⟨Tryz.func228,by kernel_rfl⟩
def tl17:Nat→List Nat:=fun i=>if i = 2 then [1,2,4,5,6,7,8,9,10,11,12,13,14,15,16,17,18,19,20,21,22,23,24,25,26] else []
def tl18:Nat→List Nat:=fun i=>if i = 2 then [] else []
noncomputable def e_spec_TextOk (K:Nat):Ent G.P:=mkEnt G 228 Tryz.f228 fn_spec_TextOk [T_str] true T_bool true [] K tl17 tl18
noncomputable def g_spec_TextOk (K:Nat) (x0:T_str.T):Option T_bool.T:=(e_spec_TextOk K).g (x0,())
noncomputable def L_spec_TextOk_2 (K:Nat) (k:Nat) (x0:T_str.T) (v3:T_int.T):Option T_bool.T:=resume (envOf G [] K tl17 tl18) dokB true T_bool true Tryz.f228 [1,0,1,0] k (mkSt 27 [(0,.d T_str true x0),(3,.d T_int true v3)] [])
theorem fn_spec_GetText:fnOk G 203 Tryz.f203:=⟨Tryz.func203,by kernel_rfl⟩
noncomputable def e_spec_GetText (K:Nat):Ent G.P:=mkEnt G 203 Tryz.f203 fn_spec_GetText [T_S_u8,T_int] false (Ty.pair T_str (Ty.pair T_int (Ty.pair T_bool Ty.unit))) true [e_spec_TextOk K] K tl1 tl1
noncomputable def g_spec_GetText (K:Nat) (x0:T_S_u8.T) (x1:T_int.T):Option (Ty.pair T_str (Ty.pair T_int (Ty.pair T_bool Ty.unit))).T:=(e_spec_GetText K).g (x0,x1,())
theorem fn_spec_l3Split:fnOk G 211 Tryz.f211:=⟨Tryz.func211,by kernel_rfl⟩
def tl19:Nat→List Nat:=fun i=>if i = 4 then [2,3,4,8,9,10,11,12,13,14,15,16,17,18,19,20,21,22,23,24,25,26,27,28,29,30,31,32,33,34,35] else []
noncomputable def e_spec_l3Split (K:Nat):Ent G.P:=mkEntO G 211 Tryz.f211 fn_spec_l3Split [T_str,T_u8] 9 T_str true [] K tl19 (fun i=>if i = 4 then [4,31] else [])
noncomputable def g_spec_l3Split (K:Nat) (x0:T_str.T) (x1:T_u8.T):Option T_S_str.T:=(e_spec_l3Split K).g (x0,x1,())
noncomputable def L_spec_l3Split_4 (K:Nat) (k:Nat) (x0:T_str.T) (x1:T_u8.T) (v6:T_int.T) (v7:T_int.T) (o8:T_S_str.T):Option T_S_str.T:=resumeO (envOf G [] K tl19 (fun i=>if i = 4 then [4,31] else [])) dokB 9 T_str true Tryz.f211 [1,1,1,0,1,0] k (mkSt 36 [(0,.d T_str true x0),(1,.d T_u8 true x1),(5,.own 8),(6,.d T_int true v6),(7,.d T_int true v7)] [(8,.arr 9 T_str true o8)])
theorem fn_spec_ParseNum:fnOk G 212 Tryz.f212:=⟨Tryz.func212,by kernel_rfl⟩
def tl20:Nat→List Nat:=fun i=>if i = 5 then [2,3,4,5,8,9,10,11,12,13,14,15,16,17,18,19,20,21,22,23,24,25,26,27,28,29,30,31,32,33,34,35,36,37,38,39,40,41,42,43,44,45,46,47,48,49,50,51,52,53] else []
noncomputable def e_spec_ParseNum (K:Nat):Ent G.P:=mkEnt G 212 Tryz.f212 fn_spec_ParseNum [T_str,T_int] false (Ty.pair T_int (Ty.pair T_bool Ty.unit)) true [e_spec_l1In K] K tl20 tl3
noncomputable def g_spec_ParseNum (K:Nat) (x0:T_str.T) (x1:T_int.T):Option (Ty.pair T_int (Ty.pair T_bool Ty.unit)).T:=(e_spec_ParseNum K).g (x0,x1,())
noncomputable def L_spec_ParseNum_5 (K:Nat) (k:Nat) (x0:T_str.T) (x1:T_int.T) (v6:T_int.T) (v7:T_int.T):Option (Ty.pair T_int (Ty.pair T_bool Ty.unit)).T:=resume (envOf G [e_spec_l1In K] K tl20 tl3) dokB false (Ty.pair T_int (Ty.pair T_bool Ty.unit)) true Tryz.f212 [1,1,1,0,1,0] k (mkSt 54 [(0,.d T_str true x0),(1,.d T_int true x1),(6,.d T_int true v6),(7,.d T_int true v7)] [])
theorem fn_spec_l1Name:fnOk G 232 Tryz.f232:=⟨Tryz.func232,by kernel_rfl⟩
def tl21:Nat→List Nat:=fun i=>if i = 2 then [1,2,4,5,6,7,8,9,10,11,12,13,14,15,16,17,18,19,20,21,22] else []
noncomputable def e_spec_l1Name (K:Nat):Ent G.P:=mkEnt G 232 Tryz.f232 fn_spec_l1Name [T_str] true T_bool true [e_spec_l1In K] K tl21 tl18
noncomputable def g_spec_l1Name (K:Nat) (x0:T_str.T):Option T_bool.T:=(e_spec_l1Name K).g (x0,())
noncomputable def L_spec_l1Name_2 (K:Nat) (k:Nat) (x0:T_str.T) (v3:T_int.T):Option T_bool.T:=resume (envOf G [e_spec_l1In K] K tl21 tl18) dokB true T_bool true Tryz.f232 [1,0,1,0] k (mkSt 23 [(0,.d T_str true x0),(3,.d T_int true v3)] [])
theorem fn_spec_l3Db:fnOk G 209 Tryz.f209:=⟨Tryz.func209,by kernel_rfl⟩
noncomputable def e_spec_l3Db (K:Nat):Ent G.P:=mkEnt G 209 Tryz.f209 fn_spec_l3Db [T_impl_Db] true T_bool true [e_spec_l1Name K,e_spec_l1In K] K tl1 tl1
noncomputable def g_spec_l3Db (K:Nat) (x0:T_impl_Db.T):Option T_bool.T:=(e_spec_l3Db K).g (x0,())
theorem fn_spec_ConfOk:fnOk G 167 Tryz.f167:=⟨Tryz.func167,by kernel_rfl⟩
def tl22:Nat→List Nat:=fun i=>if i = 2 then [1,2,4,5,6,7,8,9,10,11,12,13,14,15,16,17,18,19,20,21,22,23,24,25,26,27,28,29,30,31,32,33,34,35] else if i = 7 then [1,2,5,6,7,8,9,10,11,12,13,14,15,16,17,18,19,20,21,22,23,24,25,26,27,28,29,30,31,32,33,34,35] else []
noncomputable def e_spec_ConfOk (K:Nat):Ent G.P:=mkEnt G 167 Tryz.f167 fn_spec_ConfOk [T_S_impl_Db] true T_bool true [e_spec_l3Db K,e_spec_l1In K] K tl22 tl13
noncomputable def g_spec_ConfOk (K:Nat) (x0:T_S_impl_Db.T):Option T_bool.T:=(e_spec_ConfOk K).g (x0,())
noncomputable def ev2 (K:Nat):Env:=envOf G [e_spec_l3Db K,e_spec_l1In K] K tl22 tl13
noncomputable def L_spec_ConfOk_2 (K:Nat) (k:Nat) (x0:T_S_impl_Db.T) (v3:T_int.T):Option T_bool.T:=resume (ev2 K) dokB true T_bool true Tryz.f167 [1,0,1,0] k (mkSt 36 [(0,.d T_S_impl_Db false x0),(3,.d T_int true v3)] [])
noncomputable def L_spec_ConfOk_7 (K:Nat) (k:Nat) (n0:Nat) (x0:T_S_impl_Db.T) (v3:T_int.T) (v4:T_int.T):Option T_bool.T:=resume (ev2 K) dokB true T_bool true Tryz.f167 [1,0,1,0,n0 + 2,1,0,0,1,1,0] k (mkSt 36 [(0,.d T_S_impl_Db false x0),(3,.d T_int true v3),(4,.d T_int true v4)] [])
theorem fn_spec_ParseConf:fnOk G 169 Tryz.f169:=⟨Tryz.func169,by kernel_rfl⟩
def tl23:Nat→List Nat:=fun i=>if i = 6 then [0,1,2,3,7,8,9,10,11,12,13,14,15,16,17,18,19,20,21,22,23,24,25,26,27,28,29,30,31,32,33,34,35,36,37,38,39,40,41,42,43,44,45,46,47,48,49,50,51,52,53,54,55,56,57,58,59,60,61,62,63,64,65,66,67,68,69,70,71,72,73,74,75,76,77,78,79,80,81,82,83,84,85,86] else if i = 16 then [0,1,2,3,11,12,13,14,15,16,17,18,19,20,21,22,23,24,25,26,27,28,29,30,31,32,33,34,35,36,37,38,39,40,41,42,43,44,45,46,47,48,49,50,51,52,53,54,55,56,57,58,59,60,61,62,63,64,65,66,67,68,69,70,71,72,73,74,75,76,77,78,79,80,81,82,83,84,85,86] else []
def tl24:Nat→List Nat:=fun i=>if i = 6 then [2,30,34,38,42,43,58,80] else if i = 16 then [58] else []
noncomputable def e_spec_ParseConf (K:Nat):Ent G.P:=mkEnt G 169 Tryz.f169 fn_spec_ParseConf [T_str] false (Ty.pair T_S_impl_Db (Ty.pair T_bool Ty.unit)) true [e_spec_l3Split K,e_spec_ParseNum K,e_spec_ConfOk K] K tl23 tl24
noncomputable def g_spec_ParseConf (K:Nat) (x0:T_str.T):Option (Ty.pair T_S_impl_Db (Ty.pair T_bool Ty.unit)).T:=(e_spec_ParseConf K).g (x0,())
noncomputable def ev3 (K:Nat):Env:=envOf G [e_spec_l3Split K,e_spec_ParseNum K,e_spec_ConfOk K] K tl23 tl24
noncomputable def L_spec_ParseConf_6 (K:Nat) (k:Nat) (v6:T_int.T) (o18:T_S_str.T) (o19:T_S_impl_Db.T):Option (Ty.pair T_S_impl_Db (Ty.pair T_bool Ty.unit)).T:=resume (ev3 K) dokB false (Ty.pair T_S_impl_Db (Ty.pair T_bool Ty.unit)) true Tryz.f169 [1,1,1,1,0,1,0] k (mkSt 87 [(4,.own 18),(5,.own 19),(6,.d T_int true v6)] [(18,.arr 9 T_str true o18),(19,.arr 178 T_impl_Db true o19)])
noncomputable def L_spec_ParseConf_16 (K:Nat) (k:Nat) (n0:Nat) (v6:T_int.T) (v10:T_int.T) (o18:T_S_str.T) (o19:T_S_impl_Db.T) (o30:T_S_str.T) (o38:T_S_str.T) (o43:T_S_int.T):Option (Ty.pair T_S_impl_Db (Ty.pair T_bool Ty.unit)).T:=resume (ev3 K) dokB false (Ty.pair T_S_impl_Db (Ty.pair T_bool Ty.unit)) true Tryz.f169 [1,1,1,1,0,1,0,n0 + 2,1,0,0,1,1,1,1,1,0,1,0] k (mkSt 87 [(4,.own 18),(5,.own 19),(6,.d T_int true v6),(7,.own 30),(8,.own 38),(9,.own 43),(10,.d T_int true v10)] [(18,.arr 9 T_str true o18),(19,.arr 178 T_impl_Db true o19),(30,.arr 9 T_str true o30),(38,.arr 9 T_str true o38),(43,.arr 3 T_int true o43)])
theorem fn_spec_l4Text:fnOk G 229 Tryz.f229:=⟨Tryz.func229,by kernel_rfl⟩
noncomputable def e_spec_l4Text (K:Nat):Ent G.P:=mkEnt G 229 Tryz.f229 fn_spec_l4Text [T_str] true T_bool true [e_spec_ParseConf K] K tl1 tl1
noncomputable def g_spec_l4Text (K:Nat) (x0:T_str.T):Option T_bool.T:=(e_spec_l4Text K).g (x0,())
theorem fn_spec_RecOk:fnOk G 204 Tryz.f204:=⟨Tryz.func204,by kernel_rfl⟩
noncomputable def e_spec_RecOk (K:Nat):Ent G.P:=mkEnt G 204 Tryz.f204 fn_spec_RecOk [T_impl_Rec] true T_bool true [e_spec_l1In K,e_spec_l4Text K] K tl1 tl1
noncomputable def g_spec_RecOk (K:Nat) (x0:T_impl_Rec.T):Option T_bool.T:=(e_spec_RecOk K).g (x0,())
theorem fn_spec_l4Word:fnOk G 230 Tryz.f230:=⟨Tryz.func230,by kernel_rfl⟩
noncomputable def e_spec_l4Word (K:Nat):Ent G.P:=mkEnt G 230 Tryz.f230 fn_spec_l4Word [T_int] true T_bool true [e_spec_l1In K] K tl1 tl1
noncomputable def g_spec_l4Word (K:Nat) (x0:T_int.T):Option T_bool.T:=(e_spec_l4Word K).g (x0,())
theorem fn_spec_PutText:fnOk G 231 Tryz.f231:=⟨Tryz.func231,by kernel_rfl⟩
noncomputable def e_spec_PutText (K:Nat):Ent G.P:=mkEntO G 231 Tryz.f231 fn_spec_PutText [T_S_u8,T_str] 5 T_u8 false [e_spec_TextOk K] K tl1 tl1
noncomputable def g_spec_PutText (K:Nat) (x0:T_S_u8.T) (x1:T_str.T):Option T_S_u8.T:=(e_spec_PutText K).g (x0,x1,())
theorem fn_spec_PutRec:fnOk G 205 Tryz.f205:=⟨Tryz.func205,by kernel_rfl⟩
noncomputable def e_spec_PutRec (K:Nat):Ent G.P:=mkEntO G 205 Tryz.f205 fn_spec_PutRec [T_int,T_int,T_impl_Rec] 5 T_u8 true [e_spec_RecOk K,e_spec_l4Word K,e_spec_PutWord K,e_spec_PutText K,e_spec_Sum K] K tl1 tl1
noncomputable def g_spec_PutRec (K:Nat) (x0:T_int.T) (x1:T_int.T) (x2:T_impl_Rec.T):Option T_S_u8.T:=(e_spec_PutRec K).g (x0,x1,x2,())
theorem fn_spec_GetRec:fnOk G 161 Tryz.f161:=⟨Tryz.func161,by kernel_rfl⟩
noncomputable def e_spec_GetRec (K:Nat):Ent G.P:=mkEnt G 161 Tryz.f161 fn_spec_GetRec [T_S_u8] false (Ty.pair T_int (Ty.pair T_int (Ty.pair T_impl_Rec (Ty.pair T_bool Ty.unit)))) true [e_spec_GetWord K,e_spec_GetText K,e_spec_RecOk K,e_spec_PutRec K,e_spec_l1Same K] K tl1 tl1
noncomputable def g_spec_GetRec (K:Nat) (x0:T_S_u8.T):Option (Ty.pair T_int (Ty.pair T_int (Ty.pair T_impl_Rec (Ty.pair T_bool Ty.unit)))).T:=(e_spec_GetRec K).g (x0,())
theorem fn_spec_KnownOk:fnOk G 206 Tryz.f206:=⟨Tryz.func206,by kernel_rfl⟩
noncomputable def e_spec_KnownOk (K:Nat):Ent G.P:=mkEnt G 206 Tryz.f206 fn_spec_KnownOk [T_impl_Known] true T_bool true [e_spec_l1In K,e_spec_l4Text K] K tl1 tl1
noncomputable def g_spec_KnownOk (K:Nat) (x0:T_impl_Known.T):Option T_bool.T:=(e_spec_KnownOk K).g (x0,())
theorem fn_spec_Apply:fnOk G 163 Tryz.f163:=⟨Tryz.func163,by kernel_rfl⟩
noncomputable def e_spec_Apply (K:Nat):Ent G.P:=mkEnt G 163 Tryz.f163 fn_spec_Apply [T_impl_Known,T_impl_Rec] false (Ty.pair T_impl_Known (Ty.pair T_bool Ty.unit)) true [e_spec_KnownOk K,e_spec_RecOk K] K tl1 tl1
noncomputable def g_spec_Apply (K:Nat) (x0:T_impl_Known.T) (x1:T_impl_Rec.T):Option (Ty.pair T_impl_Known (Ty.pair T_bool Ty.unit)).T:=(e_spec_Apply K).g (x0,x1,())
theorem fn_spec_Replay:fnOk G 116 Tryz.f116:=⟨Tryz.func116,by kernel_rfl⟩
def tl25:Nat→List Nat:=fun i=>if i = 5 then [0,3,5,8,9,10,11,12,13,14,15,16,17,18,19,20,21,22,23,24,25,26,27,28,29,30,31,32,33,34,35,36,37,38,39,40,41,42,43,44,45,46,47,48,49,50,51,52,53,54,55,56,57,58,59] else []
noncomputable def e_spec_Replay (K:Nat):Ent G.P:=mkEnt G 116 Tryz.f116 fn_spec_Replay [T_impl_Disk,T_int] false (Ty.pair T_impl_Known (Ty.pair T_int Ty.unit)) true [e_spec_l1In K,e_spec_l5At K,e_spec_ReadSec K,e_spec_GetRec K,e_spec_Apply K] K tl25 (fun i=>if i = 5 then [10,12,28] else [])
noncomputable def g_spec_Replay (K:Nat) (x0:T_impl_Disk.T) (x1:T_int.T):Option (Ty.pair T_impl_Known (Ty.pair T_int Ty.unit)).T:=(e_spec_Replay K).g (x0,x1,())
noncomputable def L_spec_Replay_5 (K:Nat) (k:Nat) (x1:T_int.T) (v7:T_int.T) (o2:T_impl_Disk.T) (o4:T_impl_Known.T) (o6:T_impl_Known.T):Option (Ty.pair T_impl_Known (Ty.pair T_int Ty.unit)).T:=resume (envOf G [e_spec_l1In K,e_spec_l5At K,e_spec_ReadSec K,e_spec_GetRec K,e_spec_Apply K] K tl25 (fun i=>if i = 5 then [10,12,28] else [])) dokB false (Ty.pair T_impl_Known (Ty.pair T_int Ty.unit)) true Tryz.f116 [1,1,1,0,1,0] k (mkSt 60 [(1,.d T_int true x1),(2,.ptr 2 0 T_impl_Disk),(4,.ptr 4 0 T_impl_Known),(6,.ptr 6 0 T_impl_Known),(7,.d T_int true v7)] [(2,.box T_impl_Disk false o2),(4,.box T_impl_Known true o4),(6,.box T_impl_Known true o6)])
theorem fn_spec_OpenJour:fnOk G 60 Tryz.f60:=⟨Tryz.func60,by kernel_rfl⟩
def tl26:Nat→List Nat:=fun i=>if i = 5 then [0,3,6,7,8,9,10,11,12,13,14,15,16,17,18,19,20,21,22,23,24,25,26,27,28,29,30,31,32,33,34,35,36,37,38,39,40,41,42,43,44,45,46,47,48,49,50,51,52,53,54,55,56,57,58,59,60,61,62,63,64] else []
noncomputable def e_spec_OpenJour (K:Nat):Ent G.P:=mkEnt G 60 Tryz.f60 fn_spec_OpenJour [T_impl_Disk] false (Ty.pair T_impl_Jour (Ty.pair T_bool Ty.unit)) true [e_spec_DiskOk K,e_spec_ReadSec K,e_spec_GetHead K,e_spec_Replay K] K tl26 (fun i=>if i = 5 then [9,29] else [])
noncomputable def g_spec_OpenJour (K:Nat) (x0:T_impl_Disk.T):Option (Ty.pair T_impl_Jour (Ty.pair T_bool Ty.unit)).T:=(e_spec_OpenJour K).g (x0,())
noncomputable def L_spec_OpenJour_5 (K:Nat) (k:Nat) (v5:T_int.T) (o1:T_impl_Disk.T) (o2:T_impl_Jour.T) (o4:T_impl_Jour.T):Option (Ty.pair T_impl_Jour (Ty.pair T_bool Ty.unit)).T:=resume (envOf G [e_spec_DiskOk K,e_spec_ReadSec K,e_spec_GetHead K,e_spec_Replay K] K tl26 (fun i=>if i = 5 then [9,29] else [])) dokB false (Ty.pair T_impl_Jour (Ty.pair T_bool Ty.unit)) true Tryz.f60 [1,1,1,0,1,0] k (mkSt 65 [(1,.ptr 1 0 T_impl_Disk),(2,.ptr 2 0 T_impl_Jour),(4,.ptr 4 0 T_impl_Jour),(5,.d T_int true v5)] [(1,.box T_impl_Disk false o1),(2,.box T_impl_Jour true o2),(4,.box T_impl_Jour true o4)])
theorem fn_spec_SockOk:fnOk G 117 Tryz.f117:=⟨Tryz.func117,by kernel_rfl⟩
noncomputable def e_spec_SockOk (K:Nat):Ent G.P:=mkEnt G 117 Tryz.f117 fn_spec_SockOk [T_impl_Sock] true T_bool true [e_spec_l1In K] K tl1 tl1
noncomputable def g_spec_SockOk (K:Nat) (x0:T_impl_Sock.T):Option T_bool.T:=(e_spec_SockOk K).g (x0,())
theorem fn_spec_SocksOk:fnOk G 61 Tryz.f61:=⟨Tryz.func61,by kernel_rfl⟩
def tl27:Nat→List Nat:=fun i=>if i = 2 then [1,2,4,5,6,7,8,9,10,11,12,13,14,15,16,17,18,19,20,21,22,23,24,25,26,27,28,29,30,31,32,33,34,35,36] else []
noncomputable def e_spec_SocksOk (K:Nat):Ent G.P:=mkEnt G 61 Tryz.f61 fn_spec_SocksOk [T_S_impl_Sock] true T_bool true [e_spec_SockOk K] K tl27 tl18
noncomputable def g_spec_SocksOk (K:Nat) (x0:T_S_impl_Sock.T):Option T_bool.T:=(e_spec_SocksOk K).g (x0,())
noncomputable def L_spec_SocksOk_2 (K:Nat) (k:Nat) (x0:T_S_impl_Sock.T) (v3:T_int.T):Option T_bool.T:=resume (envOf G [e_spec_SockOk K] K tl27 tl18) dokB true T_bool true Tryz.f61 [1,0,1,0] k (mkSt 37 [(0,.d T_S_impl_Sock false x0),(3,.d T_int true v3)] [])
theorem fn_spec_WayOk:fnOk G 62 Tryz.f62:=⟨Tryz.func62,by kernel_rfl⟩
def tl28:Nat→List Nat:=fun i=>if i = 2 then [1,2,4,5,6,7,8,9,10,11,12,13,14,15,16,17,18,19,20,21,22,23,24,25,26,27,28] else []
noncomputable def e_spec_WayOk (K:Nat):Ent G.P:=mkEnt G 62 Tryz.f62 fn_spec_WayOk [T_S_impl_Pack] true T_bool true [e_spec_l1In K] K tl28 tl18
noncomputable def g_spec_WayOk (K:Nat) (x0:T_S_impl_Pack.T):Option T_bool.T:=(e_spec_WayOk K).g (x0,())
noncomputable def L_spec_WayOk_2 (K:Nat) (k:Nat) (x0:T_S_impl_Pack.T) (v3:T_int.T):Option T_bool.T:=resume (envOf G [e_spec_l1In K] K tl28 tl18) dokB true T_bool true Tryz.f62 [1,0,1,0] k (mkSt 29 [(0,.d T_S_impl_Pack false x0),(3,.d T_int true v3)] [])
theorem fn_spec_NoteOk:fnOk G 63 Tryz.f63:=⟨Tryz.func63,by kernel_rfl⟩
noncomputable def e_spec_NoteOk (K:Nat):Ent G.P:=mkEnt G 63 Tryz.f63 fn_spec_NoteOk [T_impl_Note] true T_bool true [e_spec_l1In K] K tl1 tl1
noncomputable def g_spec_NoteOk (K:Nat) (x0:T_impl_Note.T):Option T_bool.T:=(e_spec_NoteOk K).g (x0,())
theorem fn_spec_l9Time:fnOk G 166 Tryz.f166:=⟨Tryz.func166,by kernel_rfl⟩
noncomputable def e_spec_l9Time (K:Nat):Ent G.P:=mkEnt G 166 Tryz.f166 fn_spec_l9Time [T_int] true T_bool true [e_spec_l1In K] K tl1 tl1
noncomputable def g_spec_l9Time (K:Nat) (x0:T_int.T):Option T_bool.T:=(e_spec_l9Time K).g (x0,())
theorem fn_spec_AskerOk:fnOk G 207 Tryz.f207:=⟨Tryz.func207,by kernel_rfl⟩
noncomputable def e_spec_AskerOk (K:Nat):Ent G.P:=mkEnt G 207 Tryz.f207 fn_spec_AskerOk [T_impl_Asker] true T_bool true [e_spec_l1In K,e_spec_l1Name K,e_spec_l9Time K,e_spec_TextOk K] K tl1 tl1
noncomputable def g_spec_AskerOk (K:Nat) (x0:T_impl_Asker.T):Option T_bool.T:=(e_spec_AskerOk K).g (x0,())
theorem fn_spec_LineAt:fnOk G 123 Tryz.f123:=⟨Tryz.func123,by kernel_rfl⟩
def tl29:Nat→List Nat:=fun i=>if i = 2 then [2,3,4,6,7,8,9,10,11,12,13,14,15,16,17,18,19] else []
noncomputable def e_spec_LineAt (K:Nat):Ent G.P:=mkEnt G 123 Tryz.f123 fn_spec_LineAt [T_S_impl_Line,T_int] true T_int true [] K tl29 tl18
noncomputable def g_spec_LineAt (K:Nat) (x0:T_S_impl_Line.T) (x1:T_int.T):Option T_int.T:=(e_spec_LineAt K).g (x0,x1,())
noncomputable def L_spec_LineAt_2 (K:Nat) (k:Nat) (x0:T_S_impl_Line.T) (x1:T_int.T) (v5:T_int.T):Option T_int.T:=resume (envOf G [] K tl29 tl18) dokB true T_int true Tryz.f123 [1,0,1,0] k (mkSt 20 [(0,.d T_S_impl_Line false x0),(1,.d T_int true x1),(5,.d T_int true v5)] [])
theorem fn_spec_LineOk:fnOk G 208 Tryz.f208:=⟨Tryz.func208,by kernel_rfl⟩
noncomputable def e_spec_LineOk (K:Nat):Ent G.P:=mkEnt G 208 Tryz.f208 fn_spec_LineOk [T_impl_Line] true T_bool true [e_spec_l1In K,e_spec_l1Name K,e_spec_l9Time K] K tl1 tl1
noncomputable def g_spec_LineOk (K:Nat) (x0:T_impl_Line.T):Option T_bool.T:=(e_spec_LineOk K).g (x0,())
theorem fn_spec_l10Lists:fnOk G 164 Tryz.f164:=⟨Tryz.func164,by kernel_rfl⟩
def tl30:Nat→List Nat:=fun i=>if i = 2 then [0,2,4,5,6,7,8,9,10,11,12,13,14,15,16,17,18,19,20,21,22,23,24,25,26,27,28,29,30,31,32,33,34,35,36,37,38,39,40,41,42,43,44,45,46,47,48,49,50,51,52,53,54,55,56,57,58,59,60,61,62,63,64,65,66,67,68,69,70,71,72,73,74,75,76,77,78,79,80,81,82,83,84,85,86,87,88,89,90,91,92,93,94,95,96,97,98,99,100,101,102,103,104,105,106,107,108,109,110,111,112,113,114,115,116,117,118,119,120,121,122,123,124,125] else if i = 11 then [0,2,6,7,8,9,10,11,12,13,14,15,16,17,18,19,20,21,22,23,24,25,26,27,28,29,30,31,32,33,34,35,36,37,38,39,40,41,42,43,44,45,46,47,48,49,50,51,52,53,54,55,56,57,58,59,60,61,62,63,64,65,66,67,68,69,70,71,72,73,74,75,76,77,78,79,80,81,82,83,84,85,86,87,88,89,90,91,92,93,94,95,96,97,98,99,100,101,102,103,104,105,106,107,108,109,110,111,112,113,114,115,116,117,118,119,120,121,122,123,124,125] else if i = 16 then [0,2,3,4,5,7,8,9,10,11,12,13,14,15,16,17,18,19,20,21,22,23,24,25,26,27,28,29,30,31,32,33,34,35,36,37,38,39,40,41,42,43,44,45,46,47,48,49,50,51,52,53,54,55,56,57,58,59,60,61,62,63,64,65,66,67,68,69,70,71,72,73,74,75,76,77,78,79,80,81,82,83,84,85,86,87,88,89,90,91,92,93,94,95,96,97,98,99,100,101,102,103,104,105,106,107,108,109,110,111,112,113,114,115,116,117,118,119,120,121,122,123,124,125] else []
def tl31:Nat→List Nat:=fun i=>if i = 2 then [4] else if i = 11 then [] else if i = 16 then [] else []
noncomputable def e_spec_l10Lists (K:Nat):Ent G.P:=mkEnt G 164 Tryz.f164 fn_spec_l10Lists [T_impl_House] true T_bool true [e_spec_AskerOk K,e_spec_LineAt K,e_spec_LineOk K,e_spec_l1In K] K tl30 tl31
noncomputable def g_spec_l10Lists (K:Nat) (x0:T_impl_House.T):Option T_bool.T:=(e_spec_l10Lists K).g (x0,())
noncomputable def ev4 (K:Nat):Env:=envOf G [e_spec_AskerOk K,e_spec_LineAt K,e_spec_LineOk K,e_spec_l1In K] K tl30 tl31
noncomputable def L_spec_l10Lists_2 (K:Nat) (k:Nat) (v3:T_int.T) (o1:T_impl_House.T):Option T_bool.T:=resume (ev4 K) dokB true T_bool true Tryz.f164 [1,0,1,0] k (mkSt 126 [(1,.ptr 1 0 T_impl_House),(3,.d T_int true v3)] [(1,.box T_impl_House false o1)])
noncomputable def L_spec_l10Lists_11 (K:Nat) (k:Nat) (n0:Nat) (v3:T_int.T) (v5:T_int.T) (o1:T_impl_House.T) (o4:T_impl_Asker.T):Option T_bool.T:=resume (ev4 K) dokB true T_bool true Tryz.f164 [1,0,1,0,n0 + 2,1,0,0,1,1,1,0,1,1,0] k (mkSt 126 [(1,.ptr 1 0 T_impl_House),(3,.d T_int true v3),(4,.ptr 4 0 T_impl_Asker),(5,.d T_int true v5)] [(1,.box T_impl_House false o1),(4,.box T_impl_Asker true o4)])
noncomputable def L_spec_l10Lists_16 (K:Nat) (k:Nat) (v6:T_int.T) (o1:T_impl_House.T):Option T_bool.T:=resume (ev4 K) dokB true T_bool true Tryz.f164 [1,1,0,1,0] k (mkSt 126 [(1,.ptr 1 0 T_impl_House),(6,.d T_int true v6)] [(1,.box T_impl_House false o1)])
theorem fn_spec_l10NoHand:fnOk G 165 Tryz.f165:=⟨Tryz.func165,by kernel_rfl⟩
noncomputable def e_spec_l10NoHand (K:Nat):Ent G.P:=mkEnt G 165 Tryz.f165 fn_spec_l10NoHand [T_impl_Hand] true T_bool true [] K tl1 tl1
noncomputable def g_spec_l10NoHand (K:Nat) (x0:T_impl_Hand.T):Option T_bool.T:=(e_spec_l10NoHand K).g (x0,())
theorem fn_spec_l10Lent:fnOk G 210 Tryz.f210:=⟨Tryz.func210,by kernel_rfl⟩
noncomputable def e_spec_l10Lent (K:Nat):Ent G.P:=mkEnt G 210 Tryz.f210 fn_spec_l10Lent [T_impl_Asker,T_impl_Line] true T_bool true [] K tl1 tl1
noncomputable def g_spec_l10Lent (K:Nat) (x0:T_impl_Asker.T) (x1:T_impl_Line.T):Option T_bool.T:=(e_spec_l10Lent K).g (x0,x1,())
theorem fn_spec_AskerAt:fnOk G 122 Tryz.f122:=⟨Tryz.func122,by kernel_rfl⟩
noncomputable def e_spec_AskerAt (K:Nat):Ent G.P:=mkEnt G 122 Tryz.f122 fn_spec_AskerAt [T_S_impl_Asker,T_int] true T_int true [] K tl29 tl18
noncomputable def g_spec_AskerAt (K:Nat) (x0:T_S_impl_Asker.T) (x1:T_int.T):Option T_int.T:=(e_spec_AskerAt K).g (x0,x1,())
noncomputable def L_spec_AskerAt_2 (K:Nat) (k:Nat) (x0:T_S_impl_Asker.T) (x1:T_int.T) (v5:T_int.T):Option T_int.T:=resume (envOf G [] K tl29 tl18) dokB true T_int true Tryz.f122 [1,0,1,0] k (mkSt 20 [(0,.d T_S_impl_Asker false x0),(1,.d T_int true x1),(5,.d T_int true v5)] [])
theorem fn_spec_l10Pairs:fnOk G 168 Tryz.f168:=⟨Tryz.func168,by kernel_rfl⟩
def tl32:Nat→List Nat:=fun i=>if i = 2 then [0,2,4,5,6,7,8,9,10,11,12,13,14,15,16,17,18,19,20,21,22,23,24,25,26,27,28,29,30,31,32,33,34,35,36,37,38,39,40,41,42,43,44,45,46,47,48,49,50,51,52,53,54,55,56,57,58,59,60,61,62,63,64,65,66,67,68,69,70,71,72,73,74,75,76,77,78,79,80,81,82,83,84] else if i = 9 then [0,2,3,4,6,7,8,9,10,11,12,13,14,15,16,17,18,19,20,21,22,23,24,25,26,27,28,29,30,31,32,33,34,35,36,37,38,39,40,41,42,43,44,45,46,47,48,49,50,51,52,53,54,55,56,57,58,59,60,61,62,63,64,65,66,67,68,69,70,71,72,73,74,75,76,77,78,79,80,81,82,83,84] else []
def tl33:Nat→List Nat:=fun i=>if i = 2 then [] else if i = 9 then [] else []
noncomputable def e_spec_l10Pairs (K:Nat):Ent G.P:=mkEnt G 168 Tryz.f168 fn_spec_l10Pairs [T_impl_House] true T_bool true [e_spec_LineAt K,e_spec_l10Lent K,e_spec_AskerAt K] K tl32 tl33
noncomputable def g_spec_l10Pairs (K:Nat) (x0:T_impl_House.T):Option T_bool.T:=(e_spec_l10Pairs K).g (x0,())
noncomputable def ev5 (K:Nat):Env:=envOf G [e_spec_LineAt K,e_spec_l10Lent K,e_spec_AskerAt K] K tl32 tl33
noncomputable def L_spec_l10Pairs_2 (K:Nat) (k:Nat) (v3:T_int.T) (o1:T_impl_House.T):Option T_bool.T:=resume (ev5 K) dokB true T_bool true Tryz.f168 [1,0,1,0] k (mkSt 85 [(1,.ptr 1 0 T_impl_House),(3,.d T_int true v3)] [(1,.box T_impl_House false o1)])
noncomputable def L_spec_l10Pairs_9 (K:Nat) (k:Nat) (v5:T_int.T) (o1:T_impl_House.T):Option T_bool.T:=resume (ev5 K) dokB true T_bool true Tryz.f168 [1,1,0,1,0] k (mkSt 85 [(1,.ptr 1 0 T_impl_House),(5,.d T_int true v5)] [(1,.box T_impl_House false o1)])
theorem fn_spec_HouseOk:fnOk G 118 Tryz.f118:=⟨Tryz.func118,by kernel_rfl⟩
noncomputable def e_spec_HouseOk (K:Nat):Ent G.P:=mkEnt G 118 Tryz.f118 fn_spec_HouseOk [T_impl_House] true T_bool true [e_spec_l10Lists K,e_spec_l10NoHand K,e_spec_l1In K,e_spec_l9Time K,e_spec_ConfOk K,e_spec_l10Pairs K] K tl1 tl1
noncomputable def g_spec_HouseOk (K:Nat) (x0:T_impl_House.T):Option T_bool.T:=(e_spec_HouseOk K).g (x0,())
theorem fn_spec_l14Conf:fnOk G 120 Tryz.f120:=⟨Tryz.func120,by kernel_rfl⟩
noncomputable def e_spec_l14Conf (K:Nat):Ent G.P:=mkEnt G 120 Tryz.f120 fn_spec_l14Conf [T_impl_Known] true T_S_impl_Db true [e_spec_ParseConf K] K tl1 tl1
noncomputable def g_spec_l14Conf (K:Nat) (x0:T_impl_Known.T):Option T_S_impl_Db.T:=(e_spec_l14Conf K).g (x0,())
theorem fn_spec_SameConf:fnOk G 119 Tryz.f119:=⟨Tryz.func119,by kernel_rfl⟩
def tl34:Nat→List Nat:=fun i=>if i = 4 then [2,3,4,6,7,8,9,10,11,12,13,14,15,16,17,18,19,20,21,22,23,24,25] else []
def tl35:Nat→List Nat:=fun i=>if i = 4 then [] else []
noncomputable def e_spec_SameConf (K:Nat):Ent G.P:=mkEnt G 119 Tryz.f119 fn_spec_SameConf [T_S_impl_Db,T_S_impl_Db] true T_bool true [] K tl34 tl35
noncomputable def g_spec_SameConf (K:Nat) (x0:T_S_impl_Db.T) (x1:T_S_impl_Db.T):Option T_bool.T:=(e_spec_SameConf K).g (x0,x1,())
noncomputable def L_spec_SameConf_4 (K:Nat) (k:Nat) (x0:T_S_impl_Db.T) (x1:T_S_impl_Db.T) (v5:T_int.T):Option T_bool.T:=resume (envOf G [] K tl34 tl35) dokB true T_bool true Tryz.f119 [1,1,0,1,0] k (mkSt 26 [(0,.d T_S_impl_Db false x0),(1,.d T_S_impl_Db false x1),(5,.d T_int true v5)] [])
theorem fn_spec_SockAt:fnOk G 121 Tryz.f121:=⟨Tryz.func121,by kernel_rfl⟩
noncomputable def e_spec_SockAt (K:Nat):Ent G.P:=mkEnt G 121 Tryz.f121 fn_spec_SockAt [T_S_impl_Sock,T_int] true T_int true [] K tl29 tl18
noncomputable def g_spec_SockAt (K:Nat) (x0:T_S_impl_Sock.T) (x1:T_int.T):Option T_int.T:=(e_spec_SockAt K).g (x0,x1,())
noncomputable def L_spec_SockAt_2 (K:Nat) (k:Nat) (x0:T_S_impl_Sock.T) (x1:T_int.T) (v5:T_int.T):Option T_int.T:=resume (envOf G [] K tl29 tl18) dokB true T_int true Tryz.f121 [1,0,1,0] k (mkSt 20 [(0,.d T_S_impl_Sock false x0),(1,.d T_int true x1),(5,.d T_int true v5)] [])
theorem fn_spec_l14House:fnOk G 64 Tryz.f64:=⟨Tryz.func64,by kernel_rfl⟩
def tl36:Nat→List Nat:=fun i=>if i = 7 then [0,2,4,5,6,9,10,11,12,13,14,15,16,17,18,19,20,21,22,23,24,25,26,27,28,29,30,31,32,33,34,35,36,37,38,39,40,41,42,43,44,45,46,47,48,49,50,51,52,53,54,55,56,57,58,59,60,61,62,63,64,65,66,67,68,69,70,71,72,73,74,75,76,77,78,79,80,81,82,83,84,85,86,87,88,89,90,91,92,93,94,95,96,97,98,99,100,101,102,103,104,105,106,107,108,109,110,111,112,113,114,115,116,117,118,119,120,121,122,123,124,125,126,127,128,129,130,131,132,133,134,135,136,137,138,139,140,141,142,143,144,145,146,147,148,149,150,151,152,153,154,155,156,157,158,159,160,161,162,163,164,165,166,167,168,169,170,171,172,173,174,175,176,177,178,179,180,181,182,183,184,185,186,187,188,189,190,191,192,193,194,195,196,197,198,199,200,201,202,203,204] else if i = 13 then [0,2,4,5,6,8,9,11,12,13,14,15,16,17,18,19,20,21,22,23,24,25,26,27,28,29,30,31,32,33,34,35,36,37,38,39,40,41,42,43,44,45,46,47,48,49,50,51,52,53,54,55,56,57,58,59,60,61,62,63,64,65,66,67,68,69,70,71,72,73,74,75,76,77,78,79,80,81,82,83,84,85,86,87,88,89,90,91,92,93,94,95,96,97,98,99,100,101,102,103,104,105,106,107,108,109,110,111,112,113,114,115,116,117,118,119,120,121,122,123,124,125,126,127,128,129,130,131,132,133,134,135,136,137,138,139,140,141,142,143,144,145,146,147,148,149,150,151,152,153,154,155,156,157,158,159,160,161,162,163,164,165,166,167,168,169,170,171,172,173,174,175,176,177,178,179,180,181,182,183,184,185,186,187,188,189,190,191,192,193,194,195,196,197,198,199,200,201,202,203,204] else if i = 19 then [0,2,4,5,6,8,9,10,11,13,14,15,16,17,18,19,20,21,22,23,24,25,26,27,28,29,30,31,32,33,34,35,36,37,38,39,40,41,42,43,44,45,46,47,48,49,50,51,52,53,54,55,56,57,58,59,60,61,62,63,64,65,66,67,68,69,70,71,72,73,74,75,76,77,78,79,80,81,82,83,84,85,86,87,88,89,90,91,92,93,94,95,96,97,98,99,100,101,102,103,104,105,106,107,108,109,110,111,112,113,114,115,116,117,118,119,120,121,122,123,124,125,126,127,128,129,130,131,132,133,134,135,136,137,138,139,140,141,142,143,144,145,146,147,148,149,150,151,152,153,154,155,156,157,158,159,160,161,162,163,164,165,166,167,168,169,170,171,172,173,174,175,176,177,178,179,180,181,182,183,184,185,186,187,188,189,190,191,192,193,194,195,196,197,198,199,200,201,202,203,204] else []
def tl37:Nat→List Nat:=fun i=>if i = 7 then [5] else if i = 13 then [] else if i = 19 then [] else []
noncomputable def e_spec_l14House (K:Nat):Ent G.P:=mkEnt G 64 Tryz.f64 fn_spec_l14House [T_impl_World,T_int,T_impl_Known] true T_bool true [e_spec_HouseOk K,e_spec_l14Conf K,e_spec_SameConf K,e_spec_SockAt K,e_spec_AskerAt K,e_spec_LineAt K] K tl36 tl37
noncomputable def g_spec_l14House (K:Nat) (x0:T_impl_World.T) (x1:T_int.T) (x2:T_impl_Known.T):Option T_bool.T:=(e_spec_l14House K).g (x0,x1,x2,())
noncomputable def ev6 (K:Nat):Env:=envOf G [e_spec_HouseOk K,e_spec_l14Conf K,e_spec_SameConf K,e_spec_SockAt K,e_spec_AskerAt K,e_spec_LineAt K] K tl36 tl37
noncomputable def L_spec_l14House_7 (K:Nat) (k:Nat) (x1:T_int.T) (v8:T_int.T) (o3:T_impl_World.T) (o7:T_impl_House.T):Option T_bool.T:=resume (ev6 K) dokB true T_bool true Tryz.f64 [1,1,1,1,0,1,0] k (mkSt 205 [(1,.d T_int true x1),(3,.ptr 3 0 T_impl_World),(7,.ptr 7 0 T_impl_House),(8,.d T_int true v8)] [(3,.box T_impl_World false o3),(7,.box T_impl_House false o7)])
noncomputable def L_spec_l14House_13 (K:Nat) (k:Nat) (x1:T_int.T) (v10:T_int.T) (o3:T_impl_World.T) (o7:T_impl_House.T):Option T_bool.T:=resume (ev6 K) dokB true T_bool true Tryz.f64 [1,1,1,1,1,0,1,0] k (mkSt 205 [(1,.d T_int true x1),(3,.ptr 3 0 T_impl_World),(7,.ptr 7 0 T_impl_House),(10,.d T_int true v10)] [(3,.box T_impl_World false o3),(7,.box T_impl_House false o7)])
noncomputable def L_spec_l14House_19 (K:Nat) (k:Nat) (x1:T_int.T) (v12:T_int.T) (o3:T_impl_World.T) (o7:T_impl_House.T):Option T_bool.T:=resume (ev6 K) dokB true T_bool true Tryz.f64 [1,1,1,1,1,1,0,1,0] k (mkSt 205 [(1,.d T_int true x1),(3,.ptr 3 0 T_impl_World),(7,.ptr 7 0 T_impl_House),(12,.d T_int true v12)] [(3,.box T_impl_World false o3),(7,.box T_impl_House false o7)])
theorem fn_spec_WorldOk:fnOk G 20 Tryz.f20:=⟨Tryz.func20,by kernel_rfl⟩
def tl38:Nat→List Nat:=fun i=>if i = 7 then [0,2,4,6,7,8,9,10,11,12,13,14,15,16,17,18,19,20,21,22,23,24,25,26,27,28,29,30,31,32,33,34,35,36,37,38,39,40,41,42,43,44,45,46,47,48,49,50,51,52,53,54,55,56,57,58,59,60,61,62,63,64,65,66,67,68,69,70,71,72,73,74,75,76,77,78,79,80,81,82,83,84,85,86,87,88,89,90,91,92,93,94,95,96,97,98,99,100,101,102,103,104,105,106,107,108,109,110,111,112,113,114,115,116,117,118,119] else if i = 12 then [0,2,4,5,7,8,9,10,11,12,13,14,15,16,17,18,19,20,21,22,23,24,25,26,27,28,29,30,31,32,33,34,35,36,37,38,39,40,41,42,43,44,45,46,47,48,49,50,51,52,53,54,55,56,57,58,59,60,61,62,63,64,65,66,67,68,69,70,71,72,73,74,75,76,77,78,79,80,81,82,83,84,85,86,87,88,89,90,91,92,93,94,95,96,97,98,99,100,101,102,103,104,105,106,107,108,109,110,111,112,113,114,115,116,117,118,119] else []
def tl39:Nat→List Nat:=fun i=>if i = 7 then [] else if i = 12 then [] else []
noncomputable def e_spec_WorldOk (K:Nat):Ent G.P:=mkEnt G 20 Tryz.f20 fn_spec_WorldOk [T_impl_World] true T_bool true [e_spec_OpenJour K,e_spec_l1In K,e_spec_SocksOk K,e_spec_WayOk K,e_spec_NoteOk K,e_spec_l14House K] K tl38 tl39
noncomputable def g_spec_WorldOk (K:Nat) (x0:T_impl_World.T):Option T_bool.T:=(e_spec_WorldOk K).g (x0,())
noncomputable def ev7 (K:Nat):Env:=envOf G [e_spec_OpenJour K,e_spec_l1In K,e_spec_SocksOk K,e_spec_WayOk K,e_spec_NoteOk K,e_spec_l14House K] K tl38 tl39
noncomputable def L_spec_WorldOk_7 (K:Nat) (k:Nat) (v5:T_int.T) (o1:T_impl_World.T) (o3:T_impl_Jour.T):Option T_bool.T:=resume (ev7 K) dokB true T_bool true Tryz.f20 [1,1,1,1,0,1,0] k (mkSt 120 [(1,.ptr 1 0 T_impl_World),(3,.ptr 3 0 T_impl_Jour),(5,.d T_int true v5)] [(1,.box T_impl_World false o1),(3,.box T_impl_Jour true o3)])
noncomputable def L_spec_WorldOk_12 (K:Nat) (k:Nat) (v6:T_int.T) (o1:T_impl_World.T) (o3:T_impl_Jour.T):Option T_bool.T:=resume (ev7 K) dokB true T_bool true Tryz.f20 [1,1,1,1,1,0,1,0] k (mkSt 120 [(1,.ptr 1 0 T_impl_World),(3,.ptr 3 0 T_impl_Jour),(6,.d T_int true v6)] [(1,.box T_impl_World false o1),(3,.box T_impl_Jour true o3)])
theorem fn_spec_l14Dark:fnOk G 47 Tryz.f47:=⟨Tryz.func47,by kernel_rfl⟩
noncomputable def p_spec_l14Dark (K:Nat):PEnt G.P:=mkPEnt G 47 Tryz.f47 fn_spec_l14Dark [] .fz .fz T_impl_World [] [] [] [] ⟨[],[],[]⟩ K tl1 tl1
noncomputable def q_spec_l14Dark (K:Nat) (x0:T_impl_World.T):Option T_impl_World.T:=(p_spec_l14Dark K).g x0 (())
theorem fn_spec_FallDisk:fnOk G 48 Tryz.f48:=⟨Tryz.func48,by kernel_rfl⟩
def tl40:Nat→List Nat:=fun i=>if i = 8 then [0,1,2,3,8,9,10,11,12,13,14,15,16,17,18,19,20,21,22,23,24,25,26,27,28,29,30,31,32,33,34,35,36,37,38,39,40,41,42,43,44,45,46,47,48,49] else []
noncomputable def e_spec_FallDisk (K:Nat):SEnt G.P:=mkSEnt G 48 Tryz.f48 fn_spec_FallDisk [T_impl_Disk,T_int] (.pr (.ow .fz) .fz) T_impl_Disk [e_spec_DiskOk K,e_spec_l1In K] [e_spec_l2Copy K] [] [] ⟨[4,5],[],[(9,(.pr (.ow .fz) .fz))]⟩ K tl40 (fun i=>if i = 8 then [2,9] else [])
noncomputable def g_spec_FallDisk (K:Nat) (x0:T_impl_Disk.T) (x1:T_int.T):Option T_impl_Disk.T:=(e_spec_FallDisk K).g (x0,x1,())
theorem w_spec_FallDisk (K:Nat):(e_spec_FallDisk K).sh.whole = true:=by kernel_rfl
noncomputable def d_spec_FallDisk (K:Nat):Ent G.P:=(e_spec_FallDisk K).data (w_spec_FallDisk K) fn_spec_FallDisk.ex
theorem ok48 (K:Nat):∀ x,CallOk G.P 48 (toDts [T_impl_Disk,T_int] x) ⟨true,T_impl_Disk,false,false,(e_spec_FallDisk K).g x⟩:=Eq.mp (by kernel_rfl) (d_spec_FallDisk K).ok
noncomputable def L_spec_FallDisk_8 (K:Nat) (k:Nat) (v6:T_int.T) (v7:T_int.T) (o4:T_impl_Disk.T) (o5:T_impl_Disk.T):Option T_impl_Disk.T:=resumeS (envT G [e_spec_DiskOk K,e_spec_l1In K] [e_spec_l2Copy K] [] [] ⟨[4,5],[],[(9,(.pr (.ow .fz) .fz))]⟩ K tl40 (fun i=>if i = 8 then [2,9] else [])) dokB (.pr (.ow .fz) .fz) T_impl_Disk Tryz.f48 [1,1,1,1,1,0,1,0] k (mkSt 50 [(4,.pt 4 [] 0 T_impl_Disk),(5,.pt 5 [] 0 T_impl_Disk),(6,.d T_int true v6),(7,.d T_int true v7)] [(4,.tr true shf3 T_impl_Disk o4),(5,.tr true (.pr (.ow .fz) .fz) T_impl_Disk o5)])
theorem fn_spec_Power:fnOk G 12 Tryz.f12:=⟨Tryz.func12,by kernel_rfl⟩
noncomputable def e_spec_Power (K:Nat):Ent G.P:=mkEntT G 12 Tryz.f12 fn_spec_Power [T_impl_World,T_int] true T_impl_World false [e_spec_WorldOk K,d_spec_FallDisk K] [e_spec_l14Copy K] [p_spec_l14Dark K] [] ⟨[5],[],[(7,.fz),(16,.mv)]⟩ K tl1 tl1
noncomputable def g_spec_Power (K:Nat) (x0:T_impl_World.T) (x1:T_int.T):Option T_impl_World.T:=(e_spec_Power K).g (x0,x1,())
theorem fn_impl_isIn:fnOk G 29 Tryz.f29:=⟨Tryz.func29,by kernel_rfl⟩
noncomputable def e_impl_isIn (K:Nat):Ent G.P:=mkEnt G 29 Tryz.f29 fn_impl_isIn [T_int,T_int,T_int] true T_bool true [] K tl1 tl1
noncomputable def g_impl_isIn (K:Nat) (x0:T_int.T) (x1:T_int.T) (x2:T_int.T):Option T_bool.T:=(e_impl_isIn K).g (x0,x1,x2,())
theorem fn_impl_DiskOk:fnOk G 106 Tryz.f106:=⟨Tryz.func106,by kernel_rfl⟩
def tl41:Nat→List Nat:=fun i=>if i = 4 then [0,2,3,4,5,6,7,8,9,10,11,12,13,14,15,16,17,18,19,20,21,22,23,24,28,29,30,31,32,33,34,35,36,37,38,39,40,41,42,43,44,45,46,47,48,49,50,51,52,53,54,55,56] else if i = 10 then [0,2,3,4,5,6,7,8,9,10,11,12,13,14,15,16,17,18,19,20,21,22,23,24,25,26,27,28,29,30,31,32,33,34,35,39,40,41,42,43,44,45,46,47,48,49,50,51,52,53,54,55,56] else []
def tl42:Nat→List Nat:=fun i=>if i = 4 then [] else if i = 10 then [6] else []
noncomputable def e_impl_DiskOk (K:Nat):Ent G.P:=mkEnt G 106 Tryz.f106 fn_impl_DiskOk [T_impl_Disk] true T_bool true [e_impl_isIn K] K tl41 tl42
noncomputable def g_impl_DiskOk (K:Nat) (x0:T_impl_Disk.T):Option T_bool.T:=(e_impl_DiskOk K).g (x0,())
noncomputable def L_impl_DiskOk_4 (K:Nat) (k:Nat) (x0:T_impl_Disk.T) (v27:T_int.T) (o1:T_impl_Disk.T):Option T_bool.T:=resume (envOf G [e_impl_isIn K] K tl41 tl42) dokB true T_bool true Tryz.f106 [1,1,0,1,0] k (mkSt 57 [(1,.ptr 1 0 T_impl_Disk),(25,.d T_S_S_u8 false x0.1),(26,.d T_int true ((List.length x0.1:Nat):Int)),(27,.d T_int true v27)] [(1,.box T_impl_Disk false o1)])
noncomputable def L_impl_DiskOk_10 (K:Nat) (k:Nat) (v38:T_int.T) (o1:T_impl_Disk.T):Option T_bool.T:=resume (envOf G [e_impl_isIn K] K tl41 tl42) dokB true T_bool true Tryz.f106 [1,1,1,0,1,0] k (mkSt 57 [(1,.ptr 1 0 T_impl_Disk),(36,.d T_S_impl_Wr false o1.2.1),(37,.d T_int true ((List.length o1.2.1:Nat):Int)),(38,.d T_int true v38)] [(1,.box T_impl_Disk false o1)])
theorem fn_slices_Clone_S_byte:fnOk G 142 Tryz.f142:=⟨Tryz.func142,by kernel_rfl⟩
noncomputable def e_slices_Clone_S_byte (K:Nat):Ent G.P:=mkEntO G 142 Tryz.f142 fn_slices_Clone_S_byte [T_S_u8] 5 T_u8 false [] K tl1 tl1
noncomputable def g_slices_Clone_S_byte (K:Nat) (x0:T_S_u8.T):Option T_S_u8.T:=(e_slices_Clone_S_byte K).g (x0,())
theorem fn_impl_ReadSec:fnOk G 131 Tryz.f131:=⟨Tryz.func131,by kernel_rfl⟩
def tl43:Nat→List Nat:=fun i=>if i = 4 then [0,3,4,6,7,8,9,10,11,12,13,14,15,16,17,18,19,20,21,22,23,24,25,26,27,28,29,30,31,32,33,34,35,36,37,38,39,40,41,42,43,44,45,46,47] else []
noncomputable def e_impl_ReadSec (K:Nat):Ent G.P:=mkEntO G 131 Tryz.f131 fn_impl_ReadSec [T_impl_Disk,T_int] 5 T_u8 false [e_impl_DiskOk K,e_impl_isIn K,e_slices_Clone_S_byte K] K tl43 (fun i=>if i = 4 then [4,41] else [])
noncomputable def g_impl_ReadSec (K:Nat) (x0:T_impl_Disk.T) (x1:T_int.T):Option T_S_u8.T:=(e_impl_ReadSec K).g (x0,x1,())
noncomputable def L_impl_ReadSec_4 (K:Nat) (k:Nat) (x1:T_int.T) (v5:T_int.T) (o2:T_impl_Disk.T):Option T_S_u8.T:=resumeO (envOf G [e_impl_DiskOk K,e_impl_isIn K,e_slices_Clone_S_byte K] K tl43 (fun i=>if i = 4 then [4,41] else [])) dokB 5 T_u8 false Tryz.f131 [1,1,0,1,0] k (mkSt 48 [(1,.d T_int true x1),(2,.ptr 2 0 T_impl_Disk),(5,.d T_int true v5)] [(2,.box T_impl_Disk false o2)])
theorem fn_impl_GetWord:fnOk G 173 Tryz.f173:=⟨Tryz.func173,by kernel_rfl⟩
noncomputable def e_impl_GetWord (K:Nat):Ent G.P:=mkEnt G 173 Tryz.f173 fn_impl_GetWord [T_S_u8,T_int] false (Ty.pair T_int (Ty.pair T_int (Ty.pair T_bool Ty.unit))) true [e_impl_isIn K] K tl1 tl1
noncomputable def g_impl_GetWord (K:Nat) (x0:T_S_u8.T) (x1:T_int.T):Option (Ty.pair T_int (Ty.pair T_int (Ty.pair T_bool Ty.unit))).T:=(e_impl_GetWord K).g (x0,x1,())
theorem fn_impl_PutWord:fnOk G 213 Tryz.f213:=⟨Tryz.func213,by kernel_rfl⟩
noncomputable def e_impl_PutWord (K:Nat):Ent G.P:=mkEntO G 213 Tryz.f213 fn_impl_PutWord [T_S_u8,T_int] 5 T_u8 false [e_slices_Clone_S_byte K] K tl1 tl1
noncomputable def g_impl_PutWord (K:Nat) (x0:T_S_u8.T) (x1:T_int.T):Option T_S_u8.T:=(e_impl_PutWord K).g (x0,x1,())
theorem fn_impl_Sum:fnOk G 214 Tryz.f214:=⟨Tryz.func214,by kernel_rfl⟩
def tl44:Nat→List Nat:=fun i=>if i = 3 then [0,1,2,4,5,9,10,11,12,13,14,15,16,17,18,19,20,21,22,23,24,25,26,27,28] else if i = 7 then [0,1,2,4,5,9,10,11,12,13,14,15,16,18,19,20,21,22,23,24,25,26,27,28] else []
noncomputable def e_impl_Sum (K:Nat):Ent G.P:=mkEnt G 214 Tryz.f214 fn_impl_Sum [T_S_u8] true T_int true [] K tl44 tl16
noncomputable def g_impl_Sum (K:Nat) (x0:T_S_u8.T):Option T_int.T:=(e_impl_Sum K).g (x0,())
noncomputable def L_impl_Sum_3 (K:Nat) (k:Nat) (x0:T_S_u8.T) (v3:T_int.T) (v8:T_int.T):Option T_int.T:=resume (envOf G [] K tl44 tl16) dokB true T_int true Tryz.f214 [1,1,0,1,0] k (mkSt 29 [(3,.d T_int true v3),(6,.d T_S_u8 false x0),(7,.d T_int true ((List.length x0:Nat):Int)),(8,.d T_int true v8)] [])
noncomputable def L_impl_Sum_7 (K:Nat) (k:Nat) (n0:Nat) (x0:T_S_u8.T) (v8:T_int.T) (v3:T_int.T) (v17:T_int.T):Option T_int.T:=resume (envOf G [] K tl44 tl16) dokB true T_int true Tryz.f214 [1,1,0,1,0,n0 + 2,1,1,0,0,1,1,1,0] k (mkSt 29 [(3,.d T_int true v3),(6,.d T_S_u8 false x0),(7,.d T_int true ((List.length x0:Nat):Int)),(8,.d T_int true v8),(17,.d T_int true v17)] [])
theorem fn_impl_HeadOf:fnOk G 175 Tryz.f175:=⟨Tryz.func175,by kernel_rfl⟩
noncomputable def e_impl_HeadOf (K:Nat):Ent G.P:=mkEntO G 175 Tryz.f175 fn_impl_HeadOf [T_int,T_int] 5 T_u8 true [e_impl_isIn K,e_impl_PutWord K,e_impl_Sum K] K tl1 tl1
noncomputable def g_impl_HeadOf (K:Nat) (x0:T_int.T) (x1:T_int.T):Option T_S_u8.T:=(e_impl_HeadOf K).g (x0,x1,())
theorem fn_bytes_Equal:fnOk G 174 Tryz.f174:=⟨Tryz.func174,by kernel_rfl⟩
noncomputable def e_bytes_Equal (K:Nat):Ent G.P:=mkEnt G 174 Tryz.f174 fn_bytes_Equal [T_S_u8,T_S_u8] true T_bool true [] K tl1 tl1
noncomputable def g_bytes_Equal (K:Nat) (x0:T_S_u8.T) (x1:T_S_u8.T):Option T_bool.T:=(e_bytes_Equal K).g (x0,x1,())
theorem fn_impl_GetHead:fnOk G 130 Tryz.f130:=⟨Tryz.func130,by kernel_rfl⟩
noncomputable def e_impl_GetHead (K:Nat):Ent G.P:=mkEnt G 130 Tryz.f130 fn_impl_GetHead [T_S_u8] false (Ty.pair T_int (Ty.pair T_int (Ty.pair T_bool Ty.unit))) true [e_impl_GetWord K,e_impl_HeadOf K,e_bytes_Equal K] K tl1 tl1
noncomputable def g_impl_GetHead (K:Nat) (x0:T_S_u8.T):Option (Ty.pair T_int (Ty.pair T_int (Ty.pair T_bool Ty.unit))).T:=(e_impl_GetHead K).g (x0,())
theorem fn_impl_sectorOf:fnOk G 177 Tryz.f177:=⟨Tryz.func177,by kernel_rfl⟩
noncomputable def e_impl_sectorOf (K:Nat):Ent G.P:=mkEnt G 177 Tryz.f177 fn_impl_sectorOf [T_int,T_int] true T_int true [] K tl1 tl1
noncomputable def g_impl_sectorOf (K:Nat) (x0:T_int.T) (x1:T_int.T):Option T_int.T:=(e_impl_sectorOf K).g (x0,x1,())
theorem fn_impl_TextOk:fnOk G 220 Tryz.f220:=⟨Tryz.func220,by kernel_rfl⟩
def tl45:Nat→List Nat:=fun i=>if i = 2 then [1,2,3,4,7,8,9,10,11,12,13,14,15,16,17,18,19,20,21,22] else []
noncomputable def e_impl_TextOk (K:Nat):Ent G.P:=mkEnt G 220 Tryz.f220 fn_impl_TextOk [T_str] true T_bool true [] K tl45 tl18
noncomputable def g_impl_TextOk (K:Nat) (x0:T_str.T):Option T_bool.T:=(e_impl_TextOk K).g (x0,())
noncomputable def L_impl_TextOk_2 (K:Nat) (k:Nat) (x0:T_str.T) (v6:T_int.T):Option T_bool.T:=resume (envOf G [] K tl45 tl18) dokB true T_bool true Tryz.f220 [1,0,1,0] k (mkSt 23 [(0,.d T_str true x0),(5,.d T_int true ((ByteArray.size x0:Nat):Int)),(6,.d T_int true v6)] [])
theorem fn_impl_GetText:fnOk G 215 Tryz.f215:=⟨Tryz.func215,by kernel_rfl⟩
noncomputable def e_impl_GetText (K:Nat):Ent G.P:=mkEnt G 215 Tryz.f215 fn_impl_GetText [T_S_u8,T_int] false (Ty.pair T_str (Ty.pair T_int (Ty.pair T_bool Ty.unit))) true [e_impl_isIn K,e_impl_TextOk K] K tl1 tl1
noncomputable def g_impl_GetText (K:Nat) (x0:T_S_u8.T) (x1:T_int.T):Option (Ty.pair T_str (Ty.pair T_int (Ty.pair T_bool Ty.unit))).T:=(e_impl_GetText K).g (x0,x1,())
theorem fn_internal_stringslite_Index:fnOk G 241 Tryz.f241:=⟨Tryz.func241,by kernel_rfl⟩
noncomputable def e_internal_stringslite_Index (K:Nat):Ent G.P:=mkEnt G 241 Tryz.f241 fn_internal_stringslite_Index [T_str,T_str] true T_int true [e_internal_stringslite_IndexByte K] K tl1 tl1
noncomputable def g_internal_stringslite_Index (K:Nat) (x0:T_str.T) (x1:T_str.T):Option T_int.T:=(e_internal_stringslite_Index K).g (x0,x1,())
theorem fn_strings_Index:fnOk G 240 Tryz.f240:=⟨Tryz.func240,by kernel_rfl⟩
noncomputable def e_strings_Index (K:Nat):Ent G.P:=mkEnt G 240 Tryz.f240 fn_strings_Index [T_str,T_str] true T_int true [e_internal_stringslite_Index K] K tl1 tl1
noncomputable def g_strings_Index (K:Nat) (x0:T_str.T) (x1:T_str.T):Option T_int.T:=(e_strings_Index K).g (x0,x1,())
theorem fn_strings_genSplit:fnOk G 224 Tryz.f224:=⟨Tryz.func224,by kernel_rfl⟩
def tl50:Nat→List Nat:=fun i=>if i = 11 then [4,5,6,7,8,11,12,13,14,15,16,17,18,19,20,21,22,23,24,25,26,27,28,29,30,31,32,33,34,35,36,37,38,39,40,41,42,43,44,45,46,47,48,49,50,51,52,53,54,55,56,57,58,59,60,61,62,63,64,65] else []
noncomputable def e_strings_genSplit (K:Nat):Ent G.P:=mkEnt G 224 Tryz.f224 fn_strings_genSplit [T_str,T_str,T_int,T_int] true T_S_str true [e_strings_Count K,e_strings_Index K] K tl50 (fun i=>if i = 11 then [8] else [])
noncomputable def g_strings_genSplit (K:Nat) (x0:T_str.T) (x1:T_str.T) (x2:T_int.T) (x3:T_int.T):Option T_S_str.T:=(e_strings_genSplit K).g (x0,x1,x2,x3,())
noncomputable def L_strings_genSplit_11 (K:Nat) (k:Nat) (x1:T_str.T) (x2:T_int.T) (v0:T_str.T) (v3:T_int.T) (v10:T_int.T) (o31:T_S_str.T):Option T_S_str.T:=resume (envOf G [e_strings_Count K,e_strings_Index K] K tl50 (fun i=>if i = 11 then [8] else [])) dokB true T_S_str true Tryz.f224 [1,1,1,1,1,1,1,1,0,0] k (mkSt 66 [(0,.d T_str true v0),(1,.d T_str true x1),(2,.d T_int true x2),(3,.d T_int true v3),(9,.own 31),(10,.d T_int true v10)] [(31,.arr 9 T_str true o31)])
theorem fn_strings_Split:fnOk G 188 Tryz.f188:=⟨Tryz.func188,by kernel_rfl⟩
noncomputable def e_strings_Split (K:Nat):Ent G.P:=mkEnt G 188 Tryz.f188 fn_strings_Split [T_str,T_str] true T_S_str true [e_strings_genSplit K] K tl1 tl1
noncomputable def g_strings_Split (K:Nat) (x0:T_str.T) (x1:T_str.T):Option T_S_str.T:=(e_strings_Split K).g (x0,x1,())
theorem fn_internal_stringslite_Cut:fnOk G 225 Tryz.f225:=⟨Tryz.func225,by kernel_rfl⟩
noncomputable def e_internal_stringslite_Cut (K:Nat):Ent G.P:=mkEnt G 225 Tryz.f225 fn_internal_stringslite_Cut [T_str,T_str] false (Ty.pair T_str (Ty.pair T_str (Ty.pair T_bool Ty.unit))) true [e_internal_stringslite_Index K] K tl1 tl1
noncomputable def g_internal_stringslite_Cut (K:Nat) (x0:T_str.T) (x1:T_str.T):Option (Ty.pair T_str (Ty.pair T_str (Ty.pair T_bool Ty.unit))).T:=(e_internal_stringslite_Cut K).g (x0,x1,())
theorem fn_strings_Cut:fnOk G 189 Tryz.f189:=⟨Tryz.func189,by kernel_rfl⟩
noncomputable def e_strings_Cut (K:Nat):Ent G.P:=mkEnt G 189 Tryz.f189 fn_strings_Cut [T_str,T_str] false (Ty.pair T_str (Ty.pair T_str (Ty.pair T_bool Ty.unit))) true [e_internal_stringslite_Cut K] K tl1 tl1
noncomputable def g_strings_Cut (K:Nat) (x0:T_str.T) (x1:T_str.T):Option (Ty.pair T_str (Ty.pair T_str (Ty.pair T_bool Ty.unit))).T:=(e_strings_Cut K).g (x0,x1,())
theorem fn_strings_SplitN:fnOk G 190 Tryz.f190:=⟨Tryz.func190,by kernel_rfl⟩
noncomputable def e_strings_SplitN (K:Nat):Ent G.P:=mkEnt G 190 Tryz.f190 fn_strings_SplitN [T_str,T_str,T_int] true T_S_str true [e_strings_genSplit K] K tl1 tl1
noncomputable def g_strings_SplitN (K:Nat) (x0:T_str.T) (x1:T_str.T) (x2:T_int.T):Option T_S_str.T:=(e_strings_SplitN K).g (x0,x1,x2,())
theorem fn_impl_ParseNum:fnOk G 191 Tryz.f191:=⟨Tryz.func191,by kernel_rfl⟩
def tl51:Nat→List Nat:=fun i=>if i = 5 then [2,3,4,5,7,8,9,10,11,12,13,14,15,16,17,18,19,20,21,22,23,24,25,26,29,30,31,32,33,34,35,36,37,38,39,40,41,42,43,44,45,46,47,48,49,50,51,52,53] else []
noncomputable def e_impl_ParseNum (K:Nat):Ent G.P:=mkEnt G 191 Tryz.f191 fn_impl_ParseNum [T_str,T_int] false (Ty.pair T_int (Ty.pair T_bool Ty.unit)) true [e_impl_isIn K] K tl51 tl3
noncomputable def g_impl_ParseNum (K:Nat) (x0:T_str.T) (x1:T_int.T):Option (Ty.pair T_int (Ty.pair T_bool Ty.unit)).T:=(e_impl_ParseNum K).g (x0,x1,())
noncomputable def L_impl_ParseNum_5 (K:Nat) (k:Nat) (x0:T_str.T) (x1:T_int.T) (v6:T_int.T) (v28:T_int.T):Option (Ty.pair T_int (Ty.pair T_bool Ty.unit)).T:=resume (envOf G [e_impl_isIn K] K tl51 tl3) dokB false (Ty.pair T_int (Ty.pair T_bool Ty.unit)) true Tryz.f191 [1,1,1,0,1,0] k (mkSt 54 [(0,.d T_str true x0),(1,.d T_int true x1),(6,.d T_int true v6),(27,.d T_int true ((ByteArray.size x0:Nat):Int)),(28,.d T_int true v28)] [])
theorem fn_impl_nameOk:fnOk G 219 Tryz.f219:=⟨Tryz.func219,by kernel_rfl⟩
noncomputable def e_impl_nameOk (K:Nat):Ent G.P:=mkEnt G 219 Tryz.f219 fn_impl_nameOk [T_str] true T_bool true [e_impl_isIn K] K tl45 tl18
noncomputable def g_impl_nameOk (K:Nat) (x0:T_str.T):Option T_bool.T:=(e_impl_nameOk K).g (x0,())
noncomputable def L_impl_nameOk_2 (K:Nat) (k:Nat) (x0:T_str.T) (v6:T_int.T):Option T_bool.T:=resume (envOf G [e_impl_isIn K] K tl45 tl18) dokB true T_bool true Tryz.f219 [1,0,1,0] k (mkSt 23 [(0,.d T_str true x0),(5,.d T_int true ((ByteArray.size x0:Nat):Int)),(6,.d T_int true v6)] [])
theorem fn_impl_dbPlace_1:fnOk G 237 Tryz.f237:=⟨Tryz.func237,by kernel_rfl⟩
noncomputable def e_impl_dbPlace_1 (K:Nat):FEnt G.P:=mkFEnt G 237 Tryz.f237 fn_impl_dbPlace_1 T_str T_impl_Db rfl [] K tl1 tl1
noncomputable def g_impl_dbPlace_1 (K:Nat) (x0:T_impl_Db.T) (x1:T_str.T):Option Bool:=(e_impl_dbPlace_1 K).g x0 x1
theorem fn_slices_IndexFunc_S_impl_Db:fnOk G 236 Tryz.f236:=⟨Tryz.func236,by kernel_rfl⟩
def tl52:Nat→List Nat:=fun i=>if i = 2 then [2,3,4,5,6,9,10,11,12,13,14,15,16,17,18] else []
noncomputable def e_slices_IndexFunc_S_impl_Db (K:Nat):HEnt G.P:=mkHEnt G 236 Tryz.f236 fn_slices_IndexFunc_S_impl_Db 178 T_impl_Db 237 T_str [] [e_impl_dbPlace_1 K] K tl52 tl18
noncomputable def g_slices_IndexFunc_S_impl_Db (K:Nat) (x0:T_S_impl_Db.T) (x1:T_str.T):Option Int:=(e_slices_IndexFunc_S_impl_Db K).g x0 x1
noncomputable def L_slices_IndexFunc_S_impl_Db_2 (K:Nat) (k:Nat) (x0:T_S_impl_Db.T) (x1:T_str.T) (v8:T_int.T):Option T_int.T:=resume (envF G [] [e_impl_dbPlace_1 K] [] K tl52 tl18) dokB true T_int true Tryz.f236 [1,0,1,0] k (mkSt 19 [(0,.d T_S_impl_Db false x0),(1,.fnv 237 T_str x1),(7,.d T_int true ((List.length x0:Nat):Int)),(8,.d T_int true v8)] [])
theorem fn_impl_dbPlace:fnOk G 222 Tryz.f222:=⟨Tryz.func222,by kernel_rfl⟩
noncomputable def e_impl_dbPlace (K:Nat):Ent G.P:=mkEntF G 222 Tryz.f222 fn_impl_dbPlace [T_S_impl_Db,T_str] true T_int true [] [] [e_slices_IndexFunc_S_impl_Db K] K tl1 tl1
noncomputable def g_impl_dbPlace (K:Nat) (x0:T_S_impl_Db.T) (x1:T_str.T):Option T_int.T:=(e_impl_dbPlace K).g (x0,x1,())
theorem fn_impl_ConfOk:fnOk G 186 Tryz.f186:=⟨Tryz.func186,by kernel_rfl⟩
def tl53:Nat→List Nat:=fun i=>if i = 2 then [1,2,3,4,8,9,10,11,12,13,14,15,16,17,18,19,20,21,22,23,24,25,26,27,28,29,30,31,32,33,34,35,36,37,38,39,40,41,42,43,44,45,46,47,48,49,50,51] else []
def tl54:Nat→List Nat:=fun i=>if i = 2 then [4] else []
noncomputable def e_impl_ConfOk (K:Nat):Ent G.P:=mkEnt G 186 Tryz.f186 fn_impl_ConfOk [T_S_impl_Db] true T_bool true [e_impl_nameOk K,e_impl_dbPlace K,e_impl_isIn K] K tl53 tl54
noncomputable def g_impl_ConfOk (K:Nat) (x0:T_S_impl_Db.T):Option T_bool.T:=(e_impl_ConfOk K).g (x0,())
noncomputable def L_impl_ConfOk_2 (K:Nat) (k:Nat) (x0:T_S_impl_Db.T) (v7:T_int.T):Option T_bool.T:=resume (envOf G [e_impl_nameOk K,e_impl_dbPlace K,e_impl_isIn K] K tl53 tl54) dokB true T_bool true Tryz.f186 [1,0,1,0] k (mkSt 52 [(0,.d T_S_impl_Db false x0),(5,.d T_S_impl_Db false x0),(6,.d T_int true ((List.length x0:Nat):Int)),(7,.d T_int true v7)] [])
theorem fn_internal_strconv_small:fnOk G 262 Tryz.f262:=⟨Tryz.func262,by kernel_rfl⟩
noncomputable def e_internal_strconv_small (K:Nat):Ent G.P:=mkEnt G 262 Tryz.f262 fn_internal_strconv_small [T_int] true T_str true [] K tl1 tl1
noncomputable def g_internal_strconv_small (K:Nat) (x0:T_int.T):Option T_str.T:=(e_internal_strconv_small K).g (x0,())
theorem fn_internal_strconv_FormatInt:fnOk G 259 Tryz.f259:=⟨Tryz.func259,by kernel_rfl⟩
noncomputable def e_internal_strconv_FormatInt (K:Nat):Ent G.P:=mkEnt G 259 Tryz.f259 fn_internal_strconv_FormatInt [T_int,T_int] true T_str true [e_internal_strconv_small K] K tl1 tl1
noncomputable def g_internal_strconv_FormatInt (K:Nat) (x0:T_int.T) (x1:T_int.T):Option T_str.T:=(e_internal_strconv_FormatInt K).g (x0,x1,())
theorem fn_internal_strconv_Itoa:fnOk G 253 Tryz.f253:=⟨Tryz.func253,by kernel_rfl⟩
noncomputable def e_internal_strconv_Itoa (K:Nat):Ent G.P:=mkEnt G 253 Tryz.f253 fn_internal_strconv_Itoa [T_int] true T_str true [e_internal_strconv_FormatInt K] K tl1 tl1
noncomputable def g_internal_strconv_Itoa (K:Nat) (x0:T_int.T):Option T_str.T:=(e_internal_strconv_Itoa K).g (x0,())
theorem fn_strconv_Itoa:fnOk G 242 Tryz.f242:=⟨Tryz.func242,by kernel_rfl⟩
noncomputable def e_strconv_Itoa (K:Nat):Ent G.P:=mkEnt G 242 Tryz.f242 fn_strconv_Itoa [T_int] true T_str true [e_internal_strconv_Itoa K] K tl1 tl1
noncomputable def g_strconv_Itoa (K:Nat) (x0:T_int.T):Option T_str.T:=(e_strconv_Itoa K).g (x0,())
theorem fn_impl_NumText:fnOk G 226 Tryz.f226:=⟨Tryz.func226,by kernel_rfl⟩
noncomputable def e_impl_NumText (K:Nat):Ent G.P:=mkEnt G 226 Tryz.f226 fn_impl_NumText [T_int] true T_str true [e_strconv_Itoa K] K tl1 tl1
noncomputable def g_impl_NumText (K:Nat) (x0:T_int.T):Option T_str.T:=(e_impl_NumText K).g (x0,())
theorem fn_impl_ConfText:fnOk G 192 Tryz.f192:=⟨Tryz.func192,by kernel_rfl⟩
def tl56:Nat→List Nat:=fun i=>if i = 5 then [0,1,2,4,5,6,7,8,9,13,14,15,16,17,18,19,20,21,22,23,24,25,26,27,28,29,30,31,32,33,34,35,36,37,38,39,40,41,42,43] else []
noncomputable def e_impl_ConfText (K:Nat):Ent G.P:=mkEnt G 192 Tryz.f192 fn_impl_ConfText [T_S_impl_Db] true T_str true [e_impl_ConfOk K,e_impl_NumText K,e_strings_Join K] K tl56 (fun i=>if i = 5 then [5,39] else [])
noncomputable def g_impl_ConfText (K:Nat) (x0:T_S_impl_Db.T):Option T_str.T:=(e_impl_ConfText K).g (x0,())
noncomputable def L_impl_ConfText_5 (K:Nat) (k:Nat) (x0:T_S_impl_Db.T) (v12:T_int.T) (o9:T_S_str.T):Option T_str.T:=resume (envOf G [e_impl_ConfOk K,e_impl_NumText K,e_strings_Join K] K tl56 (fun i=>if i = 5 then [5,39] else [])) dokB true T_str true Tryz.f192 [1,1,1,0,1,0] k (mkSt 44 [(3,.own 9),(10,.d T_S_impl_Db false x0),(11,.d T_int true ((List.length x0:Nat):Int)),(12,.d T_int true v12)] [(9,.arr 9 T_str true o9)])
theorem fn_impl_ParseConf:fnOk G 138 Tryz.f138:=⟨Tryz.func138,by kernel_rfl⟩
def tl57:Nat→List Nat:=fun i=>if i = 3 then [1,2,3,5,6,7,8,9,10,11,12,13,14,18,19,20,21,22,23,24,25,26,27,28,29,30,31,32,33,34,35,36,37,38,39,40,41,42,43,44,45,46,47,48,49,50,51,52,53,54,55,56,57,58,59,60,61,62,63,64,65,66,67] else if i = 8 then [1,2,3,5,6,8,9,11,12,13,14,18,19,20,21,22,23,24,25,26,27,28,32,33,34,35,36,37,38,39,40,41,42,43,44,45,46,47,48,49,50,51,52,53,54,55,56,57,58,59,60,61,62,63,64,65,66,67] else []
def tl58:Nat→List Nat:=fun i=>if i = 3 then [2,10,55] else if i = 8 then [] else []
noncomputable def e_impl_ParseConf (K:Nat):Ent G.P:=mkEnt G 138 Tryz.f138 fn_impl_ParseConf [T_str] false (Ty.pair T_S_impl_Db (Ty.pair T_bool Ty.unit)) true [e_strings_Split K,e_strings_Cut K,e_strings_SplitN K,e_impl_ParseNum K,e_impl_ConfText K] K tl57 tl58
noncomputable def g_impl_ParseConf (K:Nat) (x0:T_str.T):Option (Ty.pair T_S_impl_Db (Ty.pair T_bool Ty.unit)).T:=(e_impl_ParseConf K).g (x0,())
noncomputable def ev9 (K:Nat):Env:=envOf G [e_strings_Split K,e_strings_Cut K,e_strings_SplitN K,e_impl_ParseNum K,e_impl_ConfText K] K tl57 tl58
noncomputable def L_impl_ParseConf_3 (K:Nat) (k:Nat) (x0:T_str.T) (y_1:T_S_str.T) (v17:T_int.T) (o13:T_S_impl_Db.T):Option (Ty.pair T_S_impl_Db (Ty.pair T_bool Ty.unit)).T:=resume (ev9 K) dokB false (Ty.pair T_S_impl_Db (Ty.pair T_bool Ty.unit)) true Tryz.f138 [1,1,0,1,0] k (mkSt 68 [(0,.d T_str true x0),(4,.own 13),(15,.d T_S_str true y_1),(16,.d T_int true ((List.length y_1:Nat):Int)),(17,.d T_int true v17)] [(13,.arr 178 T_impl_Db true o13)])
noncomputable def L_impl_ParseConf_8 (K:Nat) (k:Nat) (n0:Nat) (x0:T_str.T) (y_1:T_S_str.T) (v17:T_int.T) (y_2:(Ty.pair T_str (Ty.pair T_str (Ty.pair T_bool Ty.unit))).T) (y_3:T_S_str.T) (v31:T_int.T) (o13:T_S_impl_Db.T) (o10:T_impl_Hand.T):Option (Ty.pair T_S_impl_Db (Ty.pair T_bool Ty.unit)).T:=resume (ev9 K) dokB false (Ty.pair T_S_impl_Db (Ty.pair T_bool Ty.unit)) true Tryz.f138 [1,1,0,1,0,n0 + 2,1,1,0,0,1,1,1,0,1,0] k (mkSt 68 [(0,.d T_str true x0),(4,.own 13),(7,.d T_str true y_2.1),(10,.ptr 10 0 T_impl_Hand),(15,.d T_S_str true y_1),(16,.d T_int true ((List.length y_1:Nat):Int)),(17,.d T_int true v17),(29,.d T_S_str true y_3),(30,.d T_int true ((List.length y_3:Nat):Int)),(31,.d T_int true v31)] [(10,.box T_impl_Hand true o10),(13,.arr 178 T_impl_Db true o13)])
theorem fn_impl_confOk:fnOk G 235 Tryz.f235:=⟨Tryz.func235,by kernel_rfl⟩
noncomputable def e_impl_confOk (K:Nat):Ent G.P:=mkEnt G 235 Tryz.f235 fn_impl_confOk [T_str] true T_bool true [e_impl_ParseConf K] K tl1 tl1
noncomputable def g_impl_confOk (K:Nat) (x0:T_str.T):Option T_bool.T:=(e_impl_confOk K).g (x0,())
theorem fn_impl_RecOk:fnOk G 218 Tryz.f218:=⟨Tryz.func218,by kernel_rfl⟩
noncomputable def e_impl_RecOk (K:Nat):Ent G.P:=mkEnt G 218 Tryz.f218 fn_impl_RecOk [T_impl_Rec] true T_bool true [e_impl_isIn K,e_impl_confOk K] K tl1 tl1
noncomputable def g_impl_RecOk (K:Nat) (x0:T_impl_Rec.T):Option T_bool.T:=(e_impl_RecOk K).g (x0,())
theorem fn_impl_wordOk:fnOk G 180 Tryz.f180:=⟨Tryz.func180,by kernel_rfl⟩
noncomputable def e_impl_wordOk (K:Nat):Ent G.P:=mkEnt G 180 Tryz.f180 fn_impl_wordOk [T_int] true T_bool true [e_impl_isIn K] K tl1 tl1
noncomputable def g_impl_wordOk (K:Nat) (x0:T_int.T):Option T_bool.T:=(e_impl_wordOk K).g (x0,())
theorem fn_impl_PutText:fnOk G 233 Tryz.f233:=⟨Tryz.func233,by kernel_rfl⟩
noncomputable def e_impl_PutText (K:Nat):Ent G.P:=mkEntO G 233 Tryz.f233 fn_impl_PutText [T_S_u8,T_str] 5 T_u8 false [e_slices_Clone_S_byte K,e_impl_TextOk K] K tl1 tl1
noncomputable def g_impl_PutText (K:Nat) (x0:T_S_u8.T) (x1:T_str.T):Option T_S_u8.T:=(e_impl_PutText K).g (x0,x1,())
theorem fn_impl_PutRec:fnOk G 216 Tryz.f216:=⟨Tryz.func216,by kernel_rfl⟩
noncomputable def e_impl_PutRec (K:Nat):Ent G.P:=mkEntO G 216 Tryz.f216 fn_impl_PutRec [T_int,T_int,T_impl_Rec] 5 T_u8 true [e_impl_RecOk K,e_impl_wordOk K,e_impl_PutWord K,e_impl_PutText K,e_impl_Sum K] K tl1 tl1
noncomputable def g_impl_PutRec (K:Nat) (x0:T_int.T) (x1:T_int.T) (x2:T_impl_Rec.T):Option T_S_u8.T:=(e_impl_PutRec K).g (x0,x1,x2,())
theorem fn_impl_GetRec:fnOk G 176 Tryz.f176:=⟨Tryz.func176,by kernel_rfl⟩
noncomputable def e_impl_GetRec (K:Nat):Ent G.P:=mkEnt G 176 Tryz.f176 fn_impl_GetRec [T_S_u8] false (Ty.pair T_int (Ty.pair T_int (Ty.pair T_impl_Rec (Ty.pair T_bool Ty.unit)))) true [e_impl_GetWord K,e_impl_GetText K,e_impl_PutRec K,e_bytes_Equal K] K tl1 tl1
noncomputable def g_impl_GetRec (K:Nat) (x0:T_S_u8.T):Option (Ty.pair T_int (Ty.pair T_int (Ty.pair T_impl_Rec (Ty.pair T_bool Ty.unit)))).T:=(e_impl_GetRec K).g (x0,())
theorem fn_impl_genOk:fnOk G 234 Tryz.f234:=⟨Tryz.func234,by kernel_rfl⟩
noncomputable def e_impl_genOk (K:Nat):Ent G.P:=mkEnt G 234 Tryz.f234 fn_impl_genOk [T_int,T_str] true T_bool true [e_impl_isIn K,e_impl_confOk K] K tl1 tl1
noncomputable def g_impl_genOk (K:Nat) (x0:T_int.T) (x1:T_str.T):Option T_bool.T:=(e_impl_genOk K).g (x0,x1,())
theorem fn_impl_KnownOk:fnOk G 217 Tryz.f217:=⟨Tryz.func217,by kernel_rfl⟩
noncomputable def e_impl_KnownOk (K:Nat):Ent G.P:=mkEnt G 217 Tryz.f217 fn_impl_KnownOk [T_impl_Known] true T_bool true [e_impl_genOk K,e_impl_isIn K] K tl1 tl1
noncomputable def g_impl_KnownOk (K:Nat) (x0:T_impl_Known.T):Option T_bool.T:=(e_impl_KnownOk K).g (x0,())
theorem fn_impl_Apply:fnOk G 178 Tryz.f178:=⟨Tryz.func178,by kernel_rfl⟩
noncomputable def e_impl_Apply (K:Nat):Ent G.P:=mkEnt G 178 Tryz.f178 fn_impl_Apply [T_impl_Known,T_impl_Rec] false (Ty.pair T_impl_Known (Ty.pair T_bool Ty.unit)) true [e_impl_KnownOk K,e_impl_RecOk K] K tl1 tl1
noncomputable def g_impl_Apply (K:Nat) (x0:T_impl_Known.T) (x1:T_impl_Rec.T):Option (Ty.pair T_impl_Known (Ty.pair T_bool Ty.unit)).T:=(e_impl_Apply K).g (x0,x1,())
theorem fn_impl_Replay:fnOk G 132 Tryz.f132:=⟨Tryz.func132,by kernel_rfl⟩
def tl59:Nat→List Nat:=fun i=>if i = 5 then [0,3,5,7,8,9,10,11,12,13,14,15,16,17,18,20,21,22,23,24,25,26,27,28,29,30,31,32,33,34,35,36,37,38,39,40,41,42,43,44,45,46,47,48,49,50,51,52,53,54,55,56,57,58,59] else []
noncomputable def e_impl_Replay (K:Nat):Ent G.P:=mkEnt G 132 Tryz.f132 fn_impl_Replay [T_impl_Disk,T_int] false (Ty.pair T_impl_Known (Ty.pair T_int Ty.unit)) true [e_impl_isIn K,e_impl_sectorOf K,e_impl_ReadSec K,e_impl_GetRec K,e_impl_Apply K] K tl59 (fun i=>if i = 5 then [10,12,27] else [])
noncomputable def g_impl_Replay (K:Nat) (x0:T_impl_Disk.T) (x1:T_int.T):Option (Ty.pair T_impl_Known (Ty.pair T_int Ty.unit)).T:=(e_impl_Replay K).g (x0,x1,())
noncomputable def L_impl_Replay_5 (K:Nat) (k:Nat) (x1:T_int.T) (v19:T_int.T) (o2:T_impl_Disk.T) (o4:T_impl_Known.T) (o6:T_impl_Known.T):Option (Ty.pair T_impl_Known (Ty.pair T_int Ty.unit)).T:=resume (envOf G [e_impl_isIn K,e_impl_sectorOf K,e_impl_ReadSec K,e_impl_GetRec K,e_impl_Apply K] K tl59 (fun i=>if i = 5 then [10,12,27] else [])) dokB false (Ty.pair T_impl_Known (Ty.pair T_int Ty.unit)) true Tryz.f132 [1,1,1,0,1,0] k (mkSt 60 [(1,.d T_int true x1),(2,.ptr 2 0 T_impl_Disk),(4,.ptr 4 0 T_impl_Known),(6,.ptr 6 0 T_impl_Known),(19,.d T_int true v19)] [(2,.box T_impl_Disk false o2),(4,.box T_impl_Known true o4),(6,.box T_impl_Known true o6)])
theorem fn_impl_OpenJour:fnOk G 72 Tryz.f72:=⟨Tryz.func72,by kernel_rfl⟩
def tl60:Nat→List Nat:=fun i=>if i = 5 then [0,3,6,7,8,9,10,11,12,13,14,15,16,17,18,19,20,21,22,24,25,26,27,28,29,30,31,32,33,34,35,36,37,38,39,40,41,42,43,44,45,46,47,48,49,50,51,52,53,54,55,56,57,58,59,60,61,62,63,64,65,66,67] else []
noncomputable def e_impl_OpenJour (K:Nat):Ent G.P:=mkEnt G 72 Tryz.f72 fn_impl_OpenJour [T_impl_Disk] false (Ty.pair T_impl_Jour (Ty.pair T_bool Ty.unit)) true [e_impl_DiskOk K,e_impl_ReadSec K,e_impl_GetHead K,e_impl_Replay K] K tl60 (fun i=>if i = 5 then [10,29] else [])
noncomputable def g_impl_OpenJour (K:Nat) (x0:T_impl_Disk.T):Option (Ty.pair T_impl_Jour (Ty.pair T_bool Ty.unit)).T:=(e_impl_OpenJour K).g (x0,())
noncomputable def L_impl_OpenJour_5 (K:Nat) (k:Nat) (v5:T_bool.T) (v23:T_int.T) (o1:T_impl_Disk.T) (o2:T_impl_Jour.T) (o4:T_impl_Jour.T):Option (Ty.pair T_impl_Jour (Ty.pair T_bool Ty.unit)).T:=resume (envOf G [e_impl_DiskOk K,e_impl_ReadSec K,e_impl_GetHead K,e_impl_Replay K] K tl60 (fun i=>if i = 5 then [10,29] else [])) dokB false (Ty.pair T_impl_Jour (Ty.pair T_bool Ty.unit)) true Tryz.f72 [1,1,1,0,1,0] k (mkSt 68 [(1,.ptr 1 0 T_impl_Disk),(2,.ptr 2 0 T_impl_Jour),(4,.ptr 4 0 T_impl_Jour),(5,.d T_bool true v5),(23,.d T_int true v23)] [(1,.box T_impl_Disk false o1),(2,.box T_impl_Jour true o2),(4,.box T_impl_Jour true o4)])
theorem fn_impl_sockIdOk:fnOk G 179 Tryz.f179:=⟨Tryz.func179,by kernel_rfl⟩
noncomputable def e_impl_sockIdOk (K:Nat):Ent G.P:=mkEnt G 179 Tryz.f179 fn_impl_sockIdOk [T_int] true T_bool true [e_impl_isIn K] K tl1 tl1
noncomputable def g_impl_sockIdOk (K:Nat) (x0:T_int.T):Option T_bool.T:=(e_impl_sockIdOk K).g (x0,())
theorem fn_impl_SockOk:fnOk G 133 Tryz.f133:=⟨Tryz.func133,by kernel_rfl⟩
noncomputable def e_impl_SockOk (K:Nat):Ent G.P:=mkEnt G 133 Tryz.f133 fn_impl_SockOk [T_impl_Sock] true T_bool true [e_impl_sockIdOk K,e_impl_isIn K] K tl1 tl1
noncomputable def g_impl_SockOk (K:Nat) (x0:T_impl_Sock.T):Option T_bool.T:=(e_impl_SockOk K).g (x0,())
theorem fn_impl_SocksOk:fnOk G 73 Tryz.f73:=⟨Tryz.func73,by kernel_rfl⟩
def tl61:Nat→List Nat:=fun i=>if i = 2 then [1,2,3,4,8,9,10,11,12,13,14,15,16,17,18,19,20,21,22,23,24,25,26,27,28,29,30,31,32,33] else []
noncomputable def e_impl_SocksOk (K:Nat):Ent G.P:=mkEnt G 73 Tryz.f73 fn_impl_SocksOk [T_S_impl_Sock] true T_bool true [e_impl_SockOk K] K tl61 tl54
noncomputable def g_impl_SocksOk (K:Nat) (x0:T_S_impl_Sock.T):Option T_bool.T:=(e_impl_SocksOk K).g (x0,())
noncomputable def L_impl_SocksOk_2 (K:Nat) (k:Nat) (x0:T_S_impl_Sock.T) (v7:T_int.T):Option T_bool.T:=resume (envOf G [e_impl_SockOk K] K tl61 tl54) dokB true T_bool true Tryz.f73 [1,0,1,0] k (mkSt 34 [(0,.d T_S_impl_Sock false x0),(5,.d T_S_impl_Sock false x0),(6,.d T_int true ((List.length x0:Nat):Int)),(7,.d T_int true v7)] [])
theorem fn_impl_WayOk:fnOk G 74 Tryz.f74:=⟨Tryz.func74,by kernel_rfl⟩
def tl62:Nat→List Nat:=fun i=>if i = 2 then [1,2,3,4,8,9,10,11,12,13,14,15,16,17,18,19,20,21,22,23,24] else []
noncomputable def e_impl_WayOk (K:Nat):Ent G.P:=mkEnt G 74 Tryz.f74 fn_impl_WayOk [T_S_impl_Pack] true T_bool true [e_impl_isIn K] K tl62 tl54
noncomputable def g_impl_WayOk (K:Nat) (x0:T_S_impl_Pack.T):Option T_bool.T:=(e_impl_WayOk K).g (x0,())
noncomputable def L_impl_WayOk_2 (K:Nat) (k:Nat) (x0:T_S_impl_Pack.T) (v7:T_int.T):Option T_bool.T:=resume (envOf G [e_impl_isIn K] K tl62 tl54) dokB true T_bool true Tryz.f74 [1,0,1,0] k (mkSt 25 [(0,.d T_S_impl_Pack false x0),(5,.d T_S_impl_Pack false x0),(6,.d T_int true ((List.length x0:Nat):Int)),(7,.d T_int true v7)] [])
theorem fn_impl_NoteOk:fnOk G 75 Tryz.f75:=⟨Tryz.func75,by kernel_rfl⟩
noncomputable def e_impl_NoteOk (K:Nat):Ent G.P:=mkEnt G 75 Tryz.f75 fn_impl_NoteOk [T_impl_Note] true T_bool true [e_impl_isIn K] K tl1 tl1
noncomputable def g_impl_NoteOk (K:Nat) (x0:T_impl_Note.T):Option T_bool.T:=(e_impl_NoteOk K).g (x0,())
theorem fn_impl_sinceOk:fnOk G 137 Tryz.f137:=⟨Tryz.func137,by kernel_rfl⟩
noncomputable def e_impl_sinceOk (K:Nat):Ent G.P:=mkEnt G 137 Tryz.f137 fn_impl_sinceOk [T_int] true T_bool true [e_impl_isIn K] K tl1 tl1
noncomputable def g_impl_sinceOk (K:Nat) (x0:T_int.T):Option T_bool.T:=(e_impl_sinceOk K).g (x0,())
theorem fn_impl_AskerOk:fnOk G 181 Tryz.f181:=⟨Tryz.func181,by kernel_rfl⟩
noncomputable def e_impl_AskerOk (K:Nat):Ent G.P:=mkEnt G 181 Tryz.f181 fn_impl_AskerOk [T_impl_Asker] true T_bool true [e_impl_sockIdOk K,e_impl_nameOk K,e_impl_wordOk K,e_impl_sinceOk K,e_impl_TextOk K] K tl1 tl1
noncomputable def g_impl_AskerOk (K:Nat) (x0:T_impl_Asker.T):Option T_bool.T:=(e_impl_AskerOk K).g (x0,())
theorem fn_impl_LineAt_1:fnOk G 197 Tryz.f197:=⟨Tryz.func197,by kernel_rfl⟩
noncomputable def e_impl_LineAt_1 (K:Nat):FEnt G.P:=mkFEnt G 197 Tryz.f197 fn_impl_LineAt_1 T_int T_impl_Line rfl [] K tl1 tl1
noncomputable def g_impl_LineAt_1 (K:Nat) (x0:T_impl_Line.T) (x1:T_int.T):Option Bool:=(e_impl_LineAt_1 K).g x0 x1
theorem fn_slices_IndexFunc_S_impl_Line:fnOk G 196 Tryz.f196:=⟨Tryz.func196,by kernel_rfl⟩
noncomputable def e_slices_IndexFunc_S_impl_Line (K:Nat):HEnt G.P:=mkHEnt G 196 Tryz.f196 fn_slices_IndexFunc_S_impl_Line 124 T_impl_Line 197 T_int [] [e_impl_LineAt_1 K] K tl52 tl18
noncomputable def g_slices_IndexFunc_S_impl_Line (K:Nat) (x0:T_S_impl_Line.T) (x1:T_int.T):Option Int:=(e_slices_IndexFunc_S_impl_Line K).g x0 x1
noncomputable def L_slices_IndexFunc_S_impl_Line_2 (K:Nat) (k:Nat) (x0:T_S_impl_Line.T) (x1:T_int.T) (v8:T_int.T):Option T_int.T:=resume (envF G [] [e_impl_LineAt_1 K] [] K tl52 tl18) dokB true T_int true Tryz.f196 [1,0,1,0] k (mkSt 19 [(0,.d T_S_impl_Line false x0),(1,.fnv 197 T_int x1),(7,.d T_int true ((List.length x0:Nat):Int)),(8,.d T_int true v8)] [])
theorem fn_impl_LineAt:fnOk G 141 Tryz.f141:=⟨Tryz.func141,by kernel_rfl⟩
noncomputable def e_impl_LineAt (K:Nat):Ent G.P:=mkEntF G 141 Tryz.f141 fn_impl_LineAt [T_S_impl_Line,T_int] true T_int true [] [] [e_slices_IndexFunc_S_impl_Line K] K tl1 tl1
noncomputable def g_impl_LineAt (K:Nat) (x0:T_S_impl_Line.T) (x1:T_int.T):Option T_int.T:=(e_impl_LineAt K).g (x0,x1,())
theorem fn_slices_Index_S_int:fnOk G 221 Tryz.f221:=⟨Tryz.func221,by kernel_rfl⟩
noncomputable def e_slices_Index_S_int (K:Nat):Ent G.P:=mkEnt G 221 Tryz.f221 fn_slices_Index_S_int [T_S_int,T_int] true T_int true [] K tl52 tl18
noncomputable def g_slices_Index_S_int (K:Nat) (x0:T_S_int.T) (x1:T_int.T):Option T_int.T:=(e_slices_Index_S_int K).g (x0,x1,())
noncomputable def L_slices_Index_S_int_2 (K:Nat) (k:Nat) (x0:T_S_int.T) (x1:T_int.T) (v8:T_int.T):Option T_int.T:=resume (envOf G [] K tl52 tl18) dokB true T_int true Tryz.f221 [1,0,1,0] k (mkSt 19 [(0,.d T_S_int false x0),(1,.d T_int true x1),(7,.d T_int true ((List.length x0:Nat):Int)),(8,.d T_int true v8)] [])
theorem fn_slices_Contains_S_int:fnOk G 182 Tryz.f182:=⟨Tryz.func182,by kernel_rfl⟩
noncomputable def e_slices_Contains_S_int (K:Nat):Ent G.P:=mkEnt G 182 Tryz.f182 fn_slices_Contains_S_int [T_S_int,T_int] true T_bool true [e_slices_Index_S_int K] K tl1 tl1
noncomputable def g_slices_Contains_S_int (K:Nat) (x0:T_S_int.T) (x1:T_int.T):Option T_bool.T:=(e_slices_Contains_S_int K).g (x0,x1,())
theorem fn_impl_LineOk:fnOk G 183 Tryz.f183:=⟨Tryz.func183,by kernel_rfl⟩
noncomputable def e_impl_LineOk (K:Nat):Ent G.P:=mkEnt G 183 Tryz.f183 fn_impl_LineOk [T_impl_Line] true T_bool true [e_impl_sockIdOk K,e_impl_nameOk K,e_impl_isIn K,e_impl_sinceOk K] K tl1 tl1
noncomputable def g_impl_LineOk (K:Nat) (x0:T_impl_Line.T):Option T_bool.T:=(e_impl_LineOk K).g (x0,())
theorem fn_impl_listsOk:fnOk G 134 Tryz.f134:=⟨Tryz.func134,by kernel_rfl⟩
def tl63:Nat→List Nat:=fun i=>if i = 5 then [0,2,4,5,6,7,8,9,10,11,12,13,14,15,16,17,18,19,20,21,22,23,24,25,29,30,31,32,33,34,35,36,37,38,39,40,41,42,43,44,45,46,47,48,49,50,51,52,53,54,55,56,57,58,59,60,61,62,63,64,65,66,67,68,69,70,71,72,73,74,75,76,77,78,79,80,81,82,83,84,85,86,87,88,89,90,91,92,93,94,95,96,97,98,99,100,101,102,103,104,105,106,107] else if i = 15 then [0,2,3,4,5,6,7,8,9,10,11,12,13,14,15,16,17,18,19,20,21,22,23,24,25,26,27,28,29,30,31,32,33,34,35,36,37,38,39,40,41,42,43,44,45,46,47,48,49,50,51,52,53,54,55,56,57,58,59,60,61,62,63,64,65,66,67,68,69,70,71,72,73,74,75,76,77,78,79,80,84,85,86,87,88,89,90,91,92,93,94,95,96,97,98,99,100,101,102,103,104,105,106,107] else []
def tl64:Nat→List Nat:=fun i=>if i = 5 then [5,77] else if i = 15 then [7,24] else []
noncomputable def e_impl_listsOk (K:Nat):Ent G.P:=mkEnt G 134 Tryz.f134 fn_impl_listsOk [T_impl_House] true T_bool true [e_impl_wordOk K,e_impl_AskerOk K,e_impl_LineAt K,e_slices_Contains_S_int K,e_impl_LineOk K] K tl63 tl64
noncomputable def g_impl_listsOk (K:Nat) (x0:T_impl_House.T):Option T_bool.T:=(e_impl_listsOk K).g (x0,())
noncomputable def ev10 (K:Nat):Env:=envOf G [e_impl_wordOk K,e_impl_AskerOk K,e_impl_LineAt K,e_slices_Contains_S_int K,e_impl_LineOk K] K tl63 tl64
noncomputable def L_impl_listsOk_5 (K:Nat) (k:Nat) (x0:T_impl_House.T) (v28:T_int.T) (o1:T_impl_House.T) (o24:T_S_int.T):Option T_bool.T:=resume (ev10 K) dokB true T_bool true Tryz.f134 [1,1,1,0,1,0] k (mkSt 108 [(1,.ptr 1 0 T_impl_House),(3,.own 24),(26,.d T_S_impl_Asker false x0.2.2.2.2.2.1),(27,.d T_int true ((List.length x0.2.2.2.2.2.1:Nat):Int)),(28,.d T_int true v28)] [(1,.box T_impl_House false o1),(24,.arr 3 T_int true o24)])
noncomputable def L_impl_listsOk_15 (K:Nat) (k:Nat) (v83:T_int.T) (o1:T_impl_House.T):Option T_bool.T:=resume (ev10 K) dokB true T_bool true Tryz.f134 [1,1,1,1,0,1,0] k (mkSt 108 [(1,.ptr 1 0 T_impl_House),(81,.d T_S_impl_Line false o1.2.2.2.2.2.2.1),(82,.d T_int true ((List.length o1.2.2.2.2.2.2.1:Nat):Int)),(83,.d T_int true v83)] [(1,.box T_impl_House false o1)])
theorem fn_slices_Equal_S_impl_Db:fnOk G 193 Tryz.f193:=⟨Tryz.func193,by kernel_rfl⟩
def tl65:Nat→List Nat:=fun i=>if i = 4 then [2,3,4,5,6,7,8,9,10,11,14,15,16,17,18,19,20,21,22,23,24,25] else []
noncomputable def e_slices_Equal_S_impl_Db (K:Nat):Ent G.P:=mkEnt G 193 Tryz.f193 fn_slices_Equal_S_impl_Db [T_S_impl_Db,T_S_impl_Db] true T_bool true [] K tl65 tl35
noncomputable def g_slices_Equal_S_impl_Db (K:Nat) (x0:T_S_impl_Db.T) (x1:T_S_impl_Db.T):Option T_bool.T:=(e_slices_Equal_S_impl_Db K).g (x0,x1,())
noncomputable def L_slices_Equal_S_impl_Db_4 (K:Nat) (k:Nat) (x0:T_S_impl_Db.T) (x1:T_S_impl_Db.T) (v13:T_int.T):Option T_bool.T:=resume (envOf G [] K tl65 tl35) dokB true T_bool true Tryz.f193 [1,1,0,1,0] k (mkSt 26 [(0,.d T_S_impl_Db false x0),(1,.d T_S_impl_Db false x1),(12,.d T_int true ((List.length x0:Nat):Int)),(13,.d T_int true v13)] [])
theorem fn_impl_SameConf:fnOk G 139 Tryz.f139:=⟨Tryz.func139,by kernel_rfl⟩
noncomputable def e_impl_SameConf (K:Nat):Ent G.P:=mkEnt G 139 Tryz.f139 fn_impl_SameConf [T_S_impl_Db,T_S_impl_Db] true T_bool true [e_slices_Equal_S_impl_Db K] K tl1 tl1
noncomputable def g_impl_SameConf (K:Nat) (x0:T_S_impl_Db.T) (x1:T_S_impl_Db.T):Option T_bool.T:=(e_impl_SameConf K).g (x0,x1,())
theorem fn_slices_Equal_S_impl_Asker:fnOk G 184 Tryz.f184:=⟨Tryz.func184,by kernel_rfl⟩
noncomputable def e_slices_Equal_S_impl_Asker (K:Nat):Ent G.P:=mkEnt G 184 Tryz.f184 fn_slices_Equal_S_impl_Asker [T_S_impl_Asker,T_S_impl_Asker] true T_bool true [] K tl65 tl35
noncomputable def g_slices_Equal_S_impl_Asker (K:Nat) (x0:T_S_impl_Asker.T) (x1:T_S_impl_Asker.T):Option T_bool.T:=(e_slices_Equal_S_impl_Asker K).g (x0,x1,())
noncomputable def L_slices_Equal_S_impl_Asker_4 (K:Nat) (k:Nat) (x0:T_S_impl_Asker.T) (x1:T_S_impl_Asker.T) (v13:T_int.T):Option T_bool.T:=resume (envOf G [] K tl65 tl35) dokB true T_bool true Tryz.f184 [1,1,0,1,0] k (mkSt 26 [(0,.d T_S_impl_Asker false x0),(1,.d T_S_impl_Asker false x1),(12,.d T_int true ((List.length x0:Nat):Int)),(13,.d T_int true v13)] [])
theorem fn_slices_Equal_S_impl_Line:fnOk G 185 Tryz.f185:=⟨Tryz.func185,by kernel_rfl⟩
noncomputable def e_slices_Equal_S_impl_Line (K:Nat):Ent G.P:=mkEnt G 185 Tryz.f185 fn_slices_Equal_S_impl_Line [T_S_impl_Line,T_S_impl_Line] true T_bool true [] K tl65 tl35
noncomputable def g_slices_Equal_S_impl_Line (K:Nat) (x0:T_S_impl_Line.T) (x1:T_S_impl_Line.T):Option T_bool.T:=(e_slices_Equal_S_impl_Line K).g (x0,x1,())
noncomputable def L_slices_Equal_S_impl_Line_4 (K:Nat) (k:Nat) (x0:T_S_impl_Line.T) (x1:T_S_impl_Line.T) (v13:T_int.T):Option T_bool.T:=resume (envOf G [] K tl65 tl35) dokB true T_bool true Tryz.f185 [1,1,0,1,0] k (mkSt 26 [(0,.d T_S_impl_Line false x0),(1,.d T_S_impl_Line false x1),(12,.d T_int true ((List.length x0:Nat):Int)),(13,.d T_int true v13)] [])
theorem fn_impl_SameHouse:fnOk G 135 Tryz.f135:=⟨Tryz.func135,by kernel_rfl⟩
noncomputable def e_impl_SameHouse (K:Nat):Ent G.P:=mkEnt G 135 Tryz.f135 fn_impl_SameHouse [T_impl_House,T_impl_House] true T_bool true [e_impl_SameConf K,e_slices_Equal_S_impl_Asker K,e_slices_Equal_S_impl_Line K] K tl1 tl1
noncomputable def g_impl_SameHouse (K:Nat) (x0:T_impl_House.T) (x1:T_impl_House.T):Option T_bool.T:=(e_impl_SameHouse K).g (x0,x1,())
theorem fn_impl_leased:fnOk G 223 Tryz.f223:=⟨Tryz.func223,by kernel_rfl⟩
noncomputable def e_impl_leased (K:Nat):Ent G.P:=mkEnt G 223 Tryz.f223 fn_impl_leased [T_impl_Asker,T_impl_Line] true T_bool true [] K tl1 tl1
noncomputable def g_impl_leased (K:Nat) (x0:T_impl_Asker.T) (x1:T_impl_Line.T):Option T_bool.T:=(e_impl_leased K).g (x0,x1,())
theorem fn_impl_AskerAt_1:fnOk G 195 Tryz.f195:=⟨Tryz.func195,by kernel_rfl⟩
noncomputable def e_impl_AskerAt_1 (K:Nat):FEnt G.P:=mkFEnt G 195 Tryz.f195 fn_impl_AskerAt_1 T_int T_impl_Asker rfl [] K tl1 tl1
noncomputable def g_impl_AskerAt_1 (K:Nat) (x0:T_impl_Asker.T) (x1:T_int.T):Option Bool:=(e_impl_AskerAt_1 K).g x0 x1
theorem fn_slices_IndexFunc_S_impl_Asker:fnOk G 194 Tryz.f194:=⟨Tryz.func194,by kernel_rfl⟩
noncomputable def e_slices_IndexFunc_S_impl_Asker (K:Nat):HEnt G.P:=mkHEnt G 194 Tryz.f194 fn_slices_IndexFunc_S_impl_Asker 122 T_impl_Asker 195 T_int [] [e_impl_AskerAt_1 K] K tl52 tl18
noncomputable def g_slices_IndexFunc_S_impl_Asker (K:Nat) (x0:T_S_impl_Asker.T) (x1:T_int.T):Option Int:=(e_slices_IndexFunc_S_impl_Asker K).g x0 x1
noncomputable def L_slices_IndexFunc_S_impl_Asker_2 (K:Nat) (k:Nat) (x0:T_S_impl_Asker.T) (x1:T_int.T) (v8:T_int.T):Option T_int.T:=resume (envF G [] [e_impl_AskerAt_1 K] [] K tl52 tl18) dokB true T_int true Tryz.f194 [1,0,1,0] k (mkSt 19 [(0,.d T_S_impl_Asker false x0),(1,.fnv 195 T_int x1),(7,.d T_int true ((List.length x0:Nat):Int)),(8,.d T_int true v8)] [])
theorem fn_impl_AskerAt:fnOk G 140 Tryz.f140:=⟨Tryz.func140,by kernel_rfl⟩
noncomputable def e_impl_AskerAt (K:Nat):Ent G.P:=mkEntF G 140 Tryz.f140 fn_impl_AskerAt [T_S_impl_Asker,T_int] true T_int true [] [] [e_slices_IndexFunc_S_impl_Asker K] K tl1 tl1
noncomputable def g_impl_AskerAt (K:Nat) (x0:T_S_impl_Asker.T) (x1:T_int.T):Option T_int.T:=(e_impl_AskerAt K).g (x0,x1,())
theorem fn_impl_pairsOk:fnOk G 187 Tryz.f187:=⟨Tryz.func187,by kernel_rfl⟩
def tl66:Nat→List Nat:=fun i=>if i = 2 then [0,2,3,4,5,6,7,8,9,13,14,15,16,17,18,19,20,21,22,23,24,25,26,27,28,29,30,31,32,33,34,35,36,37,38,39,40,41,42,43,44,45,46,47,48,49,50,51,52,53,54,55,56,57,58,59,60,61,62,63,64,65,66,67,68,69] else if i = 10 then [0,2,3,4,5,6,7,8,9,10,11,12,13,14,15,16,17,18,19,20,21,22,23,24,25,26,27,28,29,30,31,32,33,34,35,36,37,38,39,40,41,42,46,47,48,49,50,51,52,53,54,55,56,57,58,59,60,61,62,63,64,65,66,67,68,69] else []
def tl67:Nat→List Nat:=fun i=>if i = 2 then [4] else if i = 10 then [7] else []
noncomputable def e_impl_pairsOk (K:Nat):Ent G.P:=mkEnt G 187 Tryz.f187 fn_impl_pairsOk [T_impl_House] true T_bool true [e_impl_LineAt K,e_impl_leased K,e_impl_AskerAt K] K tl66 tl67
noncomputable def g_impl_pairsOk (K:Nat) (x0:T_impl_House.T):Option T_bool.T:=(e_impl_pairsOk K).g (x0,())
noncomputable def ev11 (K:Nat):Env:=envOf G [e_impl_LineAt K,e_impl_leased K,e_impl_AskerAt K] K tl66 tl67
noncomputable def L_impl_pairsOk_2 (K:Nat) (k:Nat) (x0:T_impl_House.T) (v12:T_int.T) (o1:T_impl_House.T):Option T_bool.T:=resume (ev11 K) dokB true T_bool true Tryz.f187 [1,0,1,0] k (mkSt 70 [(1,.ptr 1 0 T_impl_House),(10,.d T_S_impl_Asker false x0.2.2.2.2.2.1),(11,.d T_int true ((List.length x0.2.2.2.2.2.1:Nat):Int)),(12,.d T_int true v12)] [(1,.box T_impl_House false o1)])
noncomputable def L_impl_pairsOk_10 (K:Nat) (k:Nat) (v45:T_int.T) (o1:T_impl_House.T):Option T_bool.T:=resume (ev11 K) dokB true T_bool true Tryz.f187 [1,1,0,1,0] k (mkSt 70 [(1,.ptr 1 0 T_impl_House),(43,.d T_S_impl_Line false o1.2.2.2.2.2.2.1),(44,.d T_int true ((List.length o1.2.2.2.2.2.2.1:Nat):Int)),(45,.d T_int true v45)] [(1,.box T_impl_House false o1)])
theorem fn_impl_owningOk:fnOk G 136 Tryz.f136:=⟨Tryz.func136,by kernel_rfl⟩
noncomputable def e_impl_owningOk (K:Nat):Ent G.P:=mkEnt G 136 Tryz.f136 fn_impl_owningOk [T_impl_House] true T_bool true [e_impl_isIn K,e_impl_ConfOk K,e_impl_pairsOk K] K tl1 tl1
noncomputable def g_impl_owningOk (K:Nat) (x0:T_impl_House.T):Option T_bool.T:=(e_impl_owningOk K).g (x0,())
theorem fn_impl_HouseOk:fnOk G 76 Tryz.f76:=⟨Tryz.func76,by kernel_rfl⟩
noncomputable def e_impl_HouseOk (K:Nat):Ent G.P:=mkEnt G 76 Tryz.f76 fn_impl_HouseOk [T_impl_House] true T_bool true [e_impl_listsOk K,e_impl_SameHouse K,e_impl_owningOk K,e_impl_isIn K,e_impl_sinceOk K] K tl1 tl1
noncomputable def g_impl_HouseOk (K:Nat) (x0:T_impl_House.T):Option T_bool.T:=(e_impl_HouseOk K).g (x0,())
theorem fn_impl_ownedOk:fnOk G 77 Tryz.f77:=⟨Tryz.func77,by kernel_rfl⟩
def tl68:Nat→List Nat:=fun i=>if i = 3 then [0,2,4,6,8,9,10,11,12,13,14,15,16,17,18,19,23,24,25,26,27,28,29,30,31,32,33,34,35,36,37,38,39,40,41,42,43,44,45,46,47,48,49,50,51,52,53,54,55,56,57,58,59,60,61,62,63,64,65,66,67,68,69,70,71,72,73,74,75,76,77,78,79,80,81,82,83,84,85] else if i = 9 then [0,2,4,6,8,9,10,11,12,13,14,15,16,17,18,19,20,21,22,23,24,25,26,27,28,29,30,31,32,36,37,38,39,40,41,42,43,44,45,46,47,48,49,50,51,52,53,54,55,56,57,58,59,60,61,62,63,64,65,66,67,68,69,70,71,72,73,74,75,76,77,78,79,80,81,82,83,84,85] else []
def tl69:Nat→List Nat:=fun i=>if i = 3 then [9] else if i = 9 then [11] else []
noncomputable def e_impl_ownedOk (K:Nat):Ent G.P:=mkEnt G 77 Tryz.f77 fn_impl_ownedOk [T_impl_World,T_int,T_impl_Known] true T_bool true [e_impl_ParseConf K,e_impl_SameConf K] K tl68 tl69
noncomputable def g_impl_ownedOk (K:Nat) (x0:T_impl_World.T) (x1:T_int.T) (x2:T_impl_Known.T):Option T_bool.T:=(e_impl_ownedOk K).g (x0,x1,x2,())
noncomputable def ev12 (K:Nat):Env:=envOf G [e_impl_ParseConf K,e_impl_SameConf K] K tl68 tl69
noncomputable def L_impl_ownedOk_3 (K:Nat) (k:Nat) (x0:T_impl_World.T) (x1:T_int.T) (v22:T_int.T) (o3:T_impl_World.T) (o5:T_impl_Known.T) (o7:T_impl_House.T):Option T_bool.T:=resume (ev12 K) dokB true T_bool true Tryz.f77 [1,1,0,1,0] k (mkSt 86 [(1,.d T_int true x1),(3,.ptr 3 0 T_impl_World),(5,.ptr 5 0 T_impl_Known),(7,.ptr 7 0 T_impl_House),(20,.d T_S_impl_Asker false ((List.getD x0.2.2.2.1 (Int.toNat x1) T_impl_House.zero).2.2.2.2.2.1)),(21,.d T_int true ((List.length ((List.getD x0.2.2.2.1 (Int.toNat x1) T_impl_House.zero).2.2.2.2.2.1):Nat):Int)),(22,.d T_int true v22)] [(3,.box T_impl_World false o3),(5,.box T_impl_Known true o5),(7,.box T_impl_House false o7)])
noncomputable def L_impl_ownedOk_9 (K:Nat) (k:Nat) (x1:T_int.T) (v35:T_int.T) (o3:T_impl_World.T) (o5:T_impl_Known.T) (o7:T_impl_House.T):Option T_bool.T:=resume (ev12 K) dokB true T_bool true Tryz.f77 [1,1,1,0,1,0] k (mkSt 86 [(1,.d T_int true x1),(3,.ptr 3 0 T_impl_World),(5,.ptr 5 0 T_impl_Known),(7,.ptr 7 0 T_impl_House),(33,.d T_S_impl_Line false o7.2.2.2.2.2.2.1),(34,.d T_int true ((List.length o7.2.2.2.2.2.2.1:Nat):Int)),(35,.d T_int true v35)] [(3,.box T_impl_World false o3),(5,.box T_impl_Known true o5),(7,.box T_impl_House false o7)])
theorem fn_impl_heldOk:fnOk G 78 Tryz.f78:=⟨Tryz.func78,by kernel_rfl⟩
def tl70:Nat→List Nat:=fun i=>if i = 3 then [0,3,4,6,7,8,12,13,14,15,16,17,18,19,20,21,22,23,24,25,26,27,28,29,30,31,32,33,34,35,36,37,38,39,40,41,42,43,44,45,46,47,48,49,50,51,52,53,54,55,56,57,58,59,60,61,62,63,64,65,66,67,68,69,70,71,72] else []
noncomputable def e_impl_heldOk (K:Nat):Ent G.P:=mkEnt G 78 Tryz.f78 fn_impl_heldOk [T_impl_World,T_int] true T_bool true [e_impl_AskerAt K,e_impl_LineAt K] K tl70 (fun i=>if i = 3 then [7] else [])
noncomputable def g_impl_heldOk (K:Nat) (x0:T_impl_World.T) (x1:T_int.T):Option T_bool.T:=(e_impl_heldOk K).g (x0,x1,())
noncomputable def L_impl_heldOk_3 (K:Nat) (k:Nat) (x0:T_impl_World.T) (x1:T_int.T) (v5:T_int.T) (v11:T_int.T) (o2:T_impl_World.T):Option T_bool.T:=resume (envOf G [e_impl_AskerAt K,e_impl_LineAt K] K tl70 (fun i=>if i = 3 then [7] else [])) dokB true T_bool true Tryz.f78 [1,1,0,1,0] k (mkSt 73 [(1,.d T_int true x1),(2,.ptr 2 0 T_impl_World),(5,.d T_int true v5),(9,.d T_S_impl_Sock false x0.2.2.1),(10,.d T_int true ((List.length x0.2.2.1:Nat):Int)),(11,.d T_int true v11)] [(2,.box T_impl_World false o2)])
theorem fn_impl_WorldOk:fnOk G 28 Tryz.f28:=⟨Tryz.func28,by kernel_rfl⟩
def tl71:Nat→List Nat:=fun i=>if i = 5 then [0,2,4,5,6,7,8,9,10,11,12,13,14,15,16,17,18,19,20,21,22,23,24,25,26,27,28,29,30,31,32,33,34,35,36,37,38,39,40,41,42,43,44,45,46,47,48,49,50,51,52,53,57,58,59,60,61,62,63,64,65,66,67,68,69,70,71,72,73,74,75,76,77,78,79,80,81,82,83,84,85,86,87,88,89,90,91,92,93,94,95,96,97,98,99,100,101,102,103,104,105,106,107,108,109,110,111,112,113,114,115,116,117,118,119,120,121,122,123,124,125,126,127,128] else if i = 11 then [0,2,4,5,6,7,8,9,10,11,12,13,14,15,16,17,18,19,20,21,22,23,24,25,26,27,28,29,30,31,32,33,34,35,36,37,38,39,40,41,42,43,44,45,46,47,48,49,50,51,52,53,54,55,56,57,58,59,60,61,62,63,64,65,66,70,71,72,73,74,75,76,77,78,79,80,81,82,83,84,85,86,87,88,89,90,91,92,93,94,95,96,97,98,99,100,101,102,103,104,105,106,107,108,109,110,111,112,113,114,115,116,117,118,119,120,121,122,123,124,125,126,127,128] else if i = 17 then [0,2,4,5,6,7,8,9,10,11,12,13,14,15,16,17,18,19,20,21,22,23,24,25,26,27,28,29,30,31,32,33,34,35,36,37,38,39,40,41,42,43,44,45,46,47,48,49,50,51,52,53,54,55,56,57,58,59,60,61,62,63,64,65,66,67,68,69,70,71,72,73,74,75,76,77,81,82,83,84,85,86,87,88,89,90,91,92,93,94,95,96,97,98,99,100,101,102,103,104,105,106,107,108,109,110,111,112,113,114,115,116,117,118,119,120,121,122,123,124,125,126,127,128] else []
def tl72:Nat→List Nat:=fun i=>if i = 5 then [6] else if i = 11 then [8] else if i = 17 then [10] else []
noncomputable def e_impl_WorldOk (K:Nat):Ent G.P:=mkEnt G 28 Tryz.f28 fn_impl_WorldOk [T_impl_World] true T_bool true [e_impl_OpenJour K,e_impl_isIn K,e_impl_SocksOk K,e_impl_WayOk K,e_impl_NoteOk K,e_impl_HouseOk K,e_impl_ownedOk K,e_impl_heldOk K] K tl71 tl72
noncomputable def g_impl_WorldOk (K:Nat) (x0:T_impl_World.T):Option T_bool.T:=(e_impl_WorldOk K).g (x0,())
noncomputable def ev13 (K:Nat):Env:=envOf G [e_impl_OpenJour K,e_impl_isIn K,e_impl_SocksOk K,e_impl_WayOk K,e_impl_NoteOk K,e_impl_HouseOk K,e_impl_ownedOk K,e_impl_heldOk K] K tl71 tl72
noncomputable def L_impl_WorldOk_5 (K:Nat) (k:Nat) (x0:T_impl_World.T) (v56:T_int.T) (o1:T_impl_World.T) (o3:T_impl_Jour.T):Option T_bool.T:=resume (ev13 K) dokB true T_bool true Tryz.f28 [1,1,1,0,1,0] k (mkSt 129 [(1,.ptr 1 0 T_impl_World),(3,.ptr 3 0 T_impl_Jour),(54,.d T_S_impl_Sock false x0.2.2.1),(55,.d T_int true ((List.length x0.2.2.1:Nat):Int)),(56,.d T_int true v56)] [(1,.box T_impl_World false o1),(3,.box T_impl_Jour true o3)])
noncomputable def L_impl_WorldOk_11 (K:Nat) (k:Nat) (v69:T_int.T) (o1:T_impl_World.T) (o3:T_impl_Jour.T):Option T_bool.T:=resume (ev13 K) dokB true T_bool true Tryz.f28 [1,1,1,1,0,1,0] k (mkSt 129 [(1,.ptr 1 0 T_impl_World),(3,.ptr 3 0 T_impl_Jour),(67,.d T_S_impl_Note false o1.2.2.2.2.2.1),(68,.d T_int true ((List.length o1.2.2.2.2.2.1:Nat):Int)),(69,.d T_int true v69)] [(1,.box T_impl_World false o1),(3,.box T_impl_Jour true o3)])
noncomputable def L_impl_WorldOk_17 (K:Nat) (k:Nat) (v80:T_int.T) (o1:T_impl_World.T) (o3:T_impl_Jour.T):Option T_bool.T:=resume (ev13 K) dokB true T_bool true Tryz.f28 [1,1,1,1,1,0,1,0] k (mkSt 129 [(1,.ptr 1 0 T_impl_World),(3,.ptr 3 0 T_impl_Jour),(78,.d T_S_impl_House false o1.2.2.2.1),(79,.d T_int true ((List.length o1.2.2.2.1:Nat):Int)),(80,.d T_int true v80)] [(1,.box T_impl_World false o1),(3,.box T_impl_Jour true o3)])
theorem fn_impl_diskCopy:fnOk G 79 Tryz.f79:=⟨Tryz.func79,by kernel_rfl⟩
def tl73:Nat→List Nat:=fun i=>if i = 3 then [0,5,6,7,8,9,10,11,15,16,17,18,19,20,21,22,23,24,25,26,27,28,29,30,31,32,33,34,35,36,37,38,39,40,41,42,43,44,45,46,47] else if i = 8 then [0,5,6,7,8,9,10,11,12,13,14,15,16,17,18,19,20,21,22,23,24,28,29,30,31,32,33,34,35,36,37,38,39,40,41,42,43,44,45,46,47] else []
def tl74:Nat→List Nat:=fun i=>if i = 3 then [20,21,22] else if i = 8 then [8,36,37,38,39] else []
noncomputable def e_impl_diskCopy (K:Nat):SEnt G.P:=mkSEnt G 79 Tryz.f79 fn_impl_diskCopy [T_impl_Disk] shf3 T_impl_Disk [] [(e_slices_Clone_S_byte K).tree rfl rfl ⟨_,_,rfl⟩] [] [] ⟨[2,9,10,21,37,38,47],[],[]⟩ K tl73 tl74
noncomputable def g_impl_diskCopy (K:Nat) (x0:T_impl_Disk.T):Option T_impl_Disk.T:=(e_impl_diskCopy K).g (x0,())
noncomputable def ev14 (K:Nat):Env:=envT G [] [(e_slices_Clone_S_byte K).tree rfl rfl ⟨_,_,rfl⟩] [] [] ⟨[2,9,10,21,37,38,47],[],[]⟩ K tl73 tl74
noncomputable def L_impl_diskCopy_3 (K:Nat) (k:Nat) (x0:T_impl_Disk.T) (v14:T_int.T) (o1:T_impl_Disk.T) (o2:T_impl_Disk.T) (o9:T_S_S_u8.T) (o10:T_S_impl_Wr.T):Option T_impl_Disk.T:=resumeS (ev14 K) dokB shf3 T_impl_Disk Tryz.f79 [1,1,0,1,0] k (mkSt 48 [(1,.ptr 1 0 T_impl_Disk),(2,.pt 2 [] 0 T_impl_Disk),(3,.vw 9 [] 0 T_S_S_u8),(4,.vw 10 [] 0 T_S_impl_Wr),(12,.d T_S_S_u8 false x0.1),(13,.d T_int true ((List.length x0.1:Nat):Int)),(14,.d T_int true v14)] [(1,.box T_impl_Disk false o1),(2,.tr true shf3 T_impl_Disk o2),(9,.tr false shf0 T_S_S_u8 o9),(10,.tr false shf2 T_S_impl_Wr o10)])
noncomputable def L_impl_diskCopy_8 (K:Nat) (k:Nat) (v27:T_int.T) (o1:T_impl_Disk.T) (o2:T_impl_Disk.T) (o9:T_S_S_u8.T) (o10:T_S_impl_Wr.T):Option T_impl_Disk.T:=resumeS (ev14 K) dokB shf3 T_impl_Disk Tryz.f79 [1,1,1,0,1,0] k (mkSt 48 [(1,.ptr 1 0 T_impl_Disk),(2,.pt 2 [] 0 T_impl_Disk),(3,.vw 9 [] 0 T_S_S_u8),(4,.vw 10 [] 0 T_S_impl_Wr),(25,.d T_S_impl_Wr false o1.2.1),(26,.d T_int true ((List.length o1.2.1:Nat):Int)),(27,.d T_int true v27)] [(1,.box T_impl_Disk false o1),(2,.tr true shf3 T_impl_Disk o2),(9,.tr false shf0 T_S_S_u8 o9),(10,.tr false shf2 T_S_impl_Wr o10)])
theorem fn_impl_sockCopy:fnOk G 143 Tryz.f143:=⟨Tryz.func143,by kernel_rfl⟩
noncomputable def e_impl_sockCopy (K:Nat):SEnt G.P:=mkSEnt G 143 Tryz.f143 fn_impl_sockCopy [T_impl_Sock] shf4 T_impl_Sock [] [(e_slices_Clone_S_byte K).tree rfl rfl ⟨_,_,rfl⟩] [] [] ⟨[1,2],[],[]⟩ K tl1 tl1
noncomputable def g_impl_sockCopy (K:Nat) (x0:T_impl_Sock.T):Option T_impl_Sock.T:=(e_impl_sockCopy K).g (x0,())
theorem fn_impl_socksCopy:fnOk G 80 Tryz.f80:=⟨Tryz.func80,by kernel_rfl⟩
def tl75:Nat→List Nat:=fun i=>if i = 3 then [0,1,2,4,5,6,10,11,12,13,14,15,16,17,18,19] else []
def tl76:Nat→List Nat:=fun i=>if i = 3 then [2,5,15,16,17] else []
noncomputable def e_impl_socksCopy (K:Nat):SEnt G.P:=mkSEnt G 80 Tryz.f80 fn_impl_socksCopy [T_S_impl_Sock] shf5 T_S_impl_Sock [] [e_impl_sockCopy K] [] [] ⟨[6,16],[],[]⟩ K tl75 tl76
noncomputable def g_impl_socksCopy (K:Nat) (x0:T_S_impl_Sock.T):Option T_S_impl_Sock.T:=(e_impl_socksCopy K).g (x0,())
noncomputable def L_impl_socksCopy_3 (K:Nat) (k:Nat) (x0:T_S_impl_Sock.T) (v9:T_int.T) (o6:T_S_impl_Sock.T):Option T_S_impl_Sock.T:=resumeS (envT G [] [e_impl_sockCopy K] [] [] ⟨[6,16],[],[]⟩ K tl75 tl76) dokB shf5 T_S_impl_Sock Tryz.f80 [1,1,0,1,0] k (mkSt 20 [(3,.vw 6 [] 0 T_S_impl_Sock),(7,.d T_S_impl_Sock false x0),(8,.d T_int true ((List.length x0:Nat):Int)),(9,.d T_int true v9)] [(6,.tr false shf5 T_S_impl_Sock o6)])
theorem fn_impl_packCopy:fnOk G 144 Tryz.f144:=⟨Tryz.func144,by kernel_rfl⟩
noncomputable def e_impl_packCopy (K:Nat):SEnt G.P:=mkSEnt G 144 Tryz.f144 fn_impl_packCopy [T_impl_Pack] shf1 T_impl_Pack [] [(e_slices_Clone_S_byte K).tree rfl rfl ⟨_,_,rfl⟩] [] [] ⟨[2,8],[],[]⟩ K tl1 tl1
noncomputable def g_impl_packCopy (K:Nat) (x0:T_impl_Pack.T):Option T_impl_Pack.T:=(e_impl_packCopy K).g (x0,())
theorem fn_impl_wayCopy:fnOk G 81 Tryz.f81:=⟨Tryz.func81,by kernel_rfl⟩
noncomputable def e_impl_wayCopy (K:Nat):SEnt G.P:=mkSEnt G 81 Tryz.f81 fn_impl_wayCopy [T_S_impl_Pack] shf2 T_S_impl_Pack [] [e_impl_packCopy K] [] [] ⟨[6,16],[],[]⟩ K tl75 tl76
noncomputable def g_impl_wayCopy (K:Nat) (x0:T_S_impl_Pack.T):Option T_S_impl_Pack.T:=(e_impl_wayCopy K).g (x0,())
noncomputable def L_impl_wayCopy_3 (K:Nat) (k:Nat) (x0:T_S_impl_Pack.T) (v9:T_int.T) (o6:T_S_impl_Pack.T):Option T_S_impl_Pack.T:=resumeS (envT G [] [e_impl_packCopy K] [] [] ⟨[6,16],[],[]⟩ K tl75 tl76) dokB shf2 T_S_impl_Pack Tryz.f81 [1,1,0,1,0] k (mkSt 20 [(3,.vw 6 [] 0 T_S_impl_Pack),(7,.d T_S_impl_Pack false x0),(8,.d T_int true ((List.length x0:Nat):Int)),(9,.d T_int true v9)] [(6,.tr false shf2 T_S_impl_Pack o6)])
theorem fn_slices_Clone_S_impl_Note:fnOk G 82 Tryz.f82:=⟨Tryz.func82,by kernel_rfl⟩
noncomputable def e_slices_Clone_S_impl_Note (K:Nat):Ent G.P:=mkEntO G 82 Tryz.f82 fn_slices_Clone_S_impl_Note [T_S_impl_Note] 118 T_impl_Note false [] K tl1 tl1
noncomputable def g_slices_Clone_S_impl_Note (K:Nat) (x0:T_S_impl_Note.T):Option T_S_impl_Note.T:=(e_slices_Clone_S_impl_Note K).g (x0,())
theorem fn_slices_Clone_S_impl_Db:fnOk G 145 Tryz.f145:=⟨Tryz.func145,by kernel_rfl⟩
noncomputable def e_slices_Clone_S_impl_Db (K:Nat):Ent G.P:=mkEntO G 145 Tryz.f145 fn_slices_Clone_S_impl_Db [T_S_impl_Db] 178 T_impl_Db false [] K tl1 tl1
noncomputable def g_slices_Clone_S_impl_Db (K:Nat) (x0:T_S_impl_Db.T):Option T_S_impl_Db.T:=(e_slices_Clone_S_impl_Db K).g (x0,())
theorem fn_slices_Clone_S_impl_Asker:fnOk G 146 Tryz.f146:=⟨Tryz.func146,by kernel_rfl⟩
noncomputable def e_slices_Clone_S_impl_Asker (K:Nat):Ent G.P:=mkEntO G 146 Tryz.f146 fn_slices_Clone_S_impl_Asker [T_S_impl_Asker] 122 T_impl_Asker false [] K tl1 tl1
noncomputable def g_slices_Clone_S_impl_Asker (K:Nat) (x0:T_S_impl_Asker.T):Option T_S_impl_Asker.T:=(e_slices_Clone_S_impl_Asker K).g (x0,())
theorem fn_slices_Clone_S_impl_Line:fnOk G 147 Tryz.f147:=⟨Tryz.func147,by kernel_rfl⟩
noncomputable def e_slices_Clone_S_impl_Line (K:Nat):Ent G.P:=mkEntO G 147 Tryz.f147 fn_slices_Clone_S_impl_Line [T_S_impl_Line] 124 T_impl_Line false [] K tl1 tl1
noncomputable def g_slices_Clone_S_impl_Line (K:Nat) (x0:T_S_impl_Line.T):Option T_S_impl_Line.T:=(e_slices_Clone_S_impl_Line K).g (x0,())
theorem fn_impl_houseCopy:fnOk G 83 Tryz.f83:=⟨Tryz.func83,by kernel_rfl⟩
noncomputable def e_impl_houseCopy (K:Nat):SEnt G.P:=mkSEnt G 83 Tryz.f83 fn_impl_houseCopy [T_impl_House] shf6 T_impl_House [] [(e_slices_Clone_S_impl_Db K).tree rfl rfl ⟨_,_,rfl⟩,(e_slices_Clone_S_impl_Asker K).tree rfl rfl ⟨_,_,rfl⟩,(e_slices_Clone_S_impl_Line K).tree rfl rfl ⟨_,_,rfl⟩] [] [] ⟨[1,2],[],[]⟩ K tl1 tl1
noncomputable def g_impl_houseCopy (K:Nat) (x0:T_impl_House.T):Option T_impl_House.T:=(e_impl_houseCopy K).g (x0,())
theorem fn_impl_worldCopy:fnOk G 30 Tryz.f30:=⟨Tryz.func30,by kernel_rfl⟩
def tl77:Nat→List Nat:=fun i=>if i = 5 then [0,1,4,5,6,7,8,9,10,11,12,13,14,15,16,17,18,19,20,21,22,23,24,28,29,30,31,32,33,34,35,36,37,38,39] else []
noncomputable def e_impl_worldCopy (K:Nat):SEnt G.P:=mkSEnt G 30 Tryz.f30 fn_impl_worldCopy [T_impl_World] shf8 T_impl_World [] [e_impl_diskCopy K,e_impl_socksCopy K,e_impl_wayCopy K,(e_slices_Clone_S_impl_Note K).tree rfl rfl ⟨_,_,rfl⟩,e_impl_houseCopy K] [] [] ⟨[2,3,35],[],[]⟩ K tl77 (fun i=>if i = 5 then [1,5,9,12,15,18,34,35,36] else [])
noncomputable def g_impl_worldCopy (K:Nat) (x0:T_impl_World.T):Option T_impl_World.T:=(e_impl_worldCopy K).g (x0,())
noncomputable def L_impl_worldCopy_5 (K:Nat) (k:Nat) (x0:T_impl_World.T) (v27:T_int.T) (o2:T_impl_World.T) (o3:T_impl_World.T):Option T_impl_World.T:=resumeS (envT G [] [e_impl_diskCopy K,e_impl_socksCopy K,e_impl_wayCopy K,(e_slices_Clone_S_impl_Note K).tree rfl rfl ⟨_,_,rfl⟩,e_impl_houseCopy K] [] [] ⟨[2,3,35],[],[]⟩ K tl77 (fun i=>if i = 5 then [1,5,9,12,15,18,34,35,36] else [])) dokB shf8 T_impl_World Tryz.f30 [1,1,1,1,0,1,0] k (mkSt 40 [(2,.pt 2 [] 0 T_impl_World),(3,.pt 3 [] 0 T_impl_World),(25,.d T_S_impl_House false x0.2.2.2.1),(26,.d T_int true ((List.length x0.2.2.2.1:Nat):Int)),(27,.d T_int true v27)] [(2,.tr true shf8 T_impl_World o2),(3,.tr true shf8 T_impl_World o3)])
theorem fn_impl_Dark:fnOk G 49 Tryz.f49:=⟨Tryz.func49,by kernel_rfl⟩
noncomputable def e_impl_Dark (K:Nat):SEnt G.P:=mkSEnt G 49 Tryz.f49 fn_impl_Dark [T_impl_World] shf8 T_impl_World [] [e_impl_worldCopy K] [] [] ⟨[2,3,11],[],[]⟩ K tl1 tl1
noncomputable def g_impl_Dark (K:Nat) (x0:T_impl_World.T):Option T_impl_World.T:=(e_impl_Dark K).g (x0,())
theorem fn_impl_FallDisk:fnOk G 50 Tryz.f50:=⟨Tryz.func50,by kernel_rfl⟩
def tl78:Nat→List Nat:=fun i=>if i = 7 then [0,2,3,6,7,8,9,10,11,12,13,14,15,16,17,21,22,23,24,25,26,27,28,29,30,31,32,33,34,35,36,37,38,39,40,41,42] else []
noncomputable def e_impl_FallDisk (K:Nat):SEnt G.P:=mkSEnt G 50 Tryz.f50 fn_impl_FallDisk [T_impl_Disk,T_int] shf3 T_impl_Disk [e_impl_DiskOk K,e_impl_isIn K] [e_impl_diskCopy K] [] [] ⟨[4,5],[],[(9,(.pr (.ow .fz) .fz))]⟩ K tl78 (fun i=>if i = 7 then [2,7,9] else [])
noncomputable def g_impl_FallDisk (K:Nat) (x0:T_impl_Disk.T) (x1:T_int.T):Option T_impl_Disk.T:=(e_impl_FallDisk K).g (x0,x1,())
noncomputable def L_impl_FallDisk_7 (K:Nat) (k:Nat) (y_1:T_impl_Disk.T) (v1:T_int.T) (v20:T_int.T) (o4:T_impl_Disk.T) (o5:T_impl_Disk.T):Option T_impl_Disk.T:=resumeS (envT G [e_impl_DiskOk K,e_impl_isIn K] [e_impl_diskCopy K] [] [] ⟨[4,5],[],[(9,(.pr (.ow .fz) .fz))]⟩ K tl78 (fun i=>if i = 7 then [2,7,9] else [])) dokB shf3 T_impl_Disk Tryz.f50 [1,1,1,1,0,1,0] k (mkSt 43 [(1,.d T_int true v1),(4,.pt 4 [] 0 T_impl_Disk),(5,.pt 5 [] 0 T_impl_Disk),(18,.d T_S_impl_Wr false y_1.2.1),(19,.d T_int true ((List.length y_1.2.1:Nat):Int)),(20,.d T_int true v20)] [(4,.tr true shf3 T_impl_Disk o4),(5,.tr true (.pr (.ow .fz) .fz) T_impl_Disk o5)])
theorem fn_impl_Power:fnOk G 13 Tryz.f13:=⟨Tryz.func13,by kernel_rfl⟩
noncomputable def e_impl_Power (K:Nat):SEnt G.P:=mkSEnt G 13 Tryz.f13 fn_impl_Power [T_impl_World,T_int] shf8 T_impl_World [e_impl_WorldOk K] [e_impl_worldCopy K,e_impl_Dark K,e_impl_FallDisk K] [] [] ⟨[4,5],[],[]⟩ K tl1 tl1
noncomputable def g_impl_Power (K:Nat) (x0:T_impl_World.T) (x1:T_int.T):Option T_impl_World.T:=(e_impl_Power K).g (x0,x1,())
theorem fn_laws_eqByteS:fnOk G 148 Tryz.f148:=⟨Tryz.func148,by kernel_rfl⟩
noncomputable def e_laws_eqByteS (K:Nat):Ent G.P:=mkEnt G 148 Tryz.f148 fn_laws_eqByteS [T_S_u8,T_S_u8] true T_bool true [] K tl34 tl35
noncomputable def g_laws_eqByteS (K:Nat) (x0:T_S_u8.T) (x1:T_S_u8.T):Option T_bool.T:=(e_laws_eqByteS K).g (x0,x1,())
noncomputable def L_laws_eqByteS_4 (K:Nat) (k:Nat) (x0:T_S_u8.T) (x1:T_S_u8.T) (v5:T_int.T):Option T_bool.T:=resume (envOf G [] K tl34 tl35) dokB true T_bool true Tryz.f148 [1,1,0,1,0] k (mkSt 26 [(0,.d T_S_u8 false x0),(1,.d T_S_u8 false x1),(5,.d T_int true v5)] [])
theorem fn_laws_eqByteSS:fnOk G 87 Tryz.f87:=⟨Tryz.func87,by kernel_rfl⟩
def tl79:Nat→List Nat:=fun i=>if i = 4 then [2,3,4,6,7,8,9,10,11,12,13,14,15,16,17,18,19,20,21,22,23,24,25,26] else []
noncomputable def e_laws_eqByteSS (K:Nat):Ent G.P:=mkEnt G 87 Tryz.f87 fn_laws_eqByteSS [T_S_S_u8,T_S_S_u8] true T_bool true [e_laws_eqByteS K] K tl79 tl35
noncomputable def g_laws_eqByteSS (K:Nat) (x0:T_S_S_u8.T) (x1:T_S_S_u8.T):Option T_bool.T:=(e_laws_eqByteSS K).g (x0,x1,())
noncomputable def L_laws_eqByteSS_4 (K:Nat) (k:Nat) (x0:T_S_S_u8.T) (x1:T_S_S_u8.T) (v5:T_int.T):Option T_bool.T:=resume (envOf G [e_laws_eqByteS K] K tl79 tl35) dokB true T_bool true Tryz.f87 [1,1,0,1,0] k (mkSt 27 [(0,.d T_S_S_u8 false x0),(1,.d T_S_S_u8 false x1),(5,.d T_int true v5)] [])
theorem fn_laws_eqWr:fnOk G 149 Tryz.f149:=⟨Tryz.func149,by kernel_rfl⟩
noncomputable def e_laws_eqWr (K:Nat):Ent G.P:=mkEnt G 149 Tryz.f149 fn_laws_eqWr [T_impl_Pack,T_impl_Pack] true T_bool true [e_laws_eqByteS K] K tl1 tl1
noncomputable def g_laws_eqWr (K:Nat) (x0:T_impl_Pack.T) (x1:T_impl_Pack.T):Option T_bool.T:=(e_laws_eqWr K).g (x0,x1,())
theorem fn_laws_eqWrS:fnOk G 88 Tryz.f88:=⟨Tryz.func88,by kernel_rfl⟩
noncomputable def e_laws_eqWrS (K:Nat):Ent G.P:=mkEnt G 88 Tryz.f88 fn_laws_eqWrS [T_S_impl_Wr,T_S_impl_Wr] true T_bool true [e_laws_eqWr K] K tl79 tl35
noncomputable def g_laws_eqWrS (K:Nat) (x0:T_S_impl_Wr.T) (x1:T_S_impl_Wr.T):Option T_bool.T:=(e_laws_eqWrS K).g (x0,x1,())
noncomputable def L_laws_eqWrS_4 (K:Nat) (k:Nat) (x0:T_S_impl_Wr.T) (x1:T_S_impl_Wr.T) (v5:T_int.T):Option T_bool.T:=resume (envOf G [e_laws_eqWr K] K tl79 tl35) dokB true T_bool true Tryz.f88 [1,1,0,1,0] k (mkSt 27 [(0,.d T_S_impl_Wr false x0),(1,.d T_S_impl_Wr false x1),(5,.d T_int true v5)] [])
theorem fn_laws_eqDisk:fnOk G 32 Tryz.f32:=⟨Tryz.func32,by kernel_rfl⟩
noncomputable def e_laws_eqDisk (K:Nat):Ent G.P:=mkEnt G 32 Tryz.f32 fn_laws_eqDisk [T_impl_Disk,T_impl_Disk] true T_bool true [e_laws_eqByteSS K,e_laws_eqWrS K] K tl1 tl1
noncomputable def g_laws_eqDisk (K:Nat) (x0:T_impl_Disk.T) (x1:T_impl_Disk.T):Option T_bool.T:=(e_laws_eqDisk K).g (x0,x1,())
theorem fn_laws_eqSock:fnOk G 89 Tryz.f89:=⟨Tryz.func89,by kernel_rfl⟩
noncomputable def e_laws_eqSock (K:Nat):Ent G.P:=mkEnt G 89 Tryz.f89 fn_laws_eqSock [T_impl_Sock,T_impl_Sock] true T_bool true [e_laws_eqByteS K] K tl1 tl1
noncomputable def g_laws_eqSock (K:Nat) (x0:T_impl_Sock.T) (x1:T_impl_Sock.T):Option T_bool.T:=(e_laws_eqSock K).g (x0,x1,())
theorem fn_laws_eqSockS:fnOk G 33 Tryz.f33:=⟨Tryz.func33,by kernel_rfl⟩
noncomputable def e_laws_eqSockS (K:Nat):Ent G.P:=mkEnt G 33 Tryz.f33 fn_laws_eqSockS [T_S_impl_Sock,T_S_impl_Sock] true T_bool true [e_laws_eqSock K] K tl79 tl35
noncomputable def g_laws_eqSockS (K:Nat) (x0:T_S_impl_Sock.T) (x1:T_S_impl_Sock.T):Option T_bool.T:=(e_laws_eqSockS K).g (x0,x1,())
noncomputable def L_laws_eqSockS_4 (K:Nat) (k:Nat) (x0:T_S_impl_Sock.T) (x1:T_S_impl_Sock.T) (v5:T_int.T):Option T_bool.T:=resume (envOf G [e_laws_eqSock K] K tl79 tl35) dokB true T_bool true Tryz.f33 [1,1,0,1,0] k (mkSt 27 [(0,.d T_S_impl_Sock false x0),(1,.d T_S_impl_Sock false x1),(5,.d T_int true v5)] [])
theorem fn_laws_eqDb:fnOk G 198 Tryz.f198:=⟨Tryz.func198,by kernel_rfl⟩
noncomputable def e_laws_eqDb (K:Nat):Ent G.P:=mkEnt G 198 Tryz.f198 fn_laws_eqDb [T_impl_Db,T_impl_Db] true T_bool true [] K tl1 tl1
noncomputable def g_laws_eqDb (K:Nat) (x0:T_impl_Db.T) (x1:T_impl_Db.T):Option T_bool.T:=(e_laws_eqDb K).g (x0,x1,())
theorem fn_laws_eqDbS:fnOk G 150 Tryz.f150:=⟨Tryz.func150,by kernel_rfl⟩
noncomputable def e_laws_eqDbS (K:Nat):Ent G.P:=mkEnt G 150 Tryz.f150 fn_laws_eqDbS [T_S_impl_Db,T_S_impl_Db] true T_bool true [e_laws_eqDb K] K tl79 tl35
noncomputable def g_laws_eqDbS (K:Nat) (x0:T_S_impl_Db.T) (x1:T_S_impl_Db.T):Option T_bool.T:=(e_laws_eqDbS K).g (x0,x1,())
noncomputable def L_laws_eqDbS_4 (K:Nat) (k:Nat) (x0:T_S_impl_Db.T) (x1:T_S_impl_Db.T) (v5:T_int.T):Option T_bool.T:=resume (envOf G [e_laws_eqDb K] K tl79 tl35) dokB true T_bool true Tryz.f150 [1,1,0,1,0] k (mkSt 27 [(0,.d T_S_impl_Db false x0),(1,.d T_S_impl_Db false x1),(5,.d T_int true v5)] [])
theorem fn_laws_eqAsker:fnOk G 199 Tryz.f199:=⟨Tryz.func199,by kernel_rfl⟩
noncomputable def e_laws_eqAsker (K:Nat):Ent G.P:=mkEnt G 199 Tryz.f199 fn_laws_eqAsker [T_impl_Asker,T_impl_Asker] true T_bool true [] K tl1 tl1
noncomputable def g_laws_eqAsker (K:Nat) (x0:T_impl_Asker.T) (x1:T_impl_Asker.T):Option T_bool.T:=(e_laws_eqAsker K).g (x0,x1,())
theorem fn_laws_eqAskerS:fnOk G 151 Tryz.f151:=⟨Tryz.func151,by kernel_rfl⟩
noncomputable def e_laws_eqAskerS (K:Nat):Ent G.P:=mkEnt G 151 Tryz.f151 fn_laws_eqAskerS [T_S_impl_Asker,T_S_impl_Asker] true T_bool true [e_laws_eqAsker K] K tl79 tl35
noncomputable def g_laws_eqAskerS (K:Nat) (x0:T_S_impl_Asker.T) (x1:T_S_impl_Asker.T):Option T_bool.T:=(e_laws_eqAskerS K).g (x0,x1,())
noncomputable def L_laws_eqAskerS_4 (K:Nat) (k:Nat) (x0:T_S_impl_Asker.T) (x1:T_S_impl_Asker.T) (v5:T_int.T):Option T_bool.T:=resume (envOf G [e_laws_eqAsker K] K tl79 tl35) dokB true T_bool true Tryz.f151 [1,1,0,1,0] k (mkSt 27 [(0,.d T_S_impl_Asker false x0),(1,.d T_S_impl_Asker false x1),(5,.d T_int true v5)] [])
theorem fn_laws_eqLine:fnOk G 200 Tryz.f200:=⟨Tryz.func200,by kernel_rfl⟩
noncomputable def e_laws_eqLine (K:Nat):Ent G.P:=mkEnt G 200 Tryz.f200 fn_laws_eqLine [T_impl_Line,T_impl_Line] true T_bool true [] K tl1 tl1
noncomputable def g_laws_eqLine (K:Nat) (x0:T_impl_Line.T) (x1:T_impl_Line.T):Option T_bool.T:=(e_laws_eqLine K).g (x0,x1,())
theorem fn_laws_eqLineS:fnOk G 152 Tryz.f152:=⟨Tryz.func152,by kernel_rfl⟩
noncomputable def e_laws_eqLineS (K:Nat):Ent G.P:=mkEnt G 152 Tryz.f152 fn_laws_eqLineS [T_S_impl_Line,T_S_impl_Line] true T_bool true [e_laws_eqLine K] K tl79 tl35
noncomputable def g_laws_eqLineS (K:Nat) (x0:T_S_impl_Line.T) (x1:T_S_impl_Line.T):Option T_bool.T:=(e_laws_eqLineS K).g (x0,x1,())
noncomputable def L_laws_eqLineS_4 (K:Nat) (k:Nat) (x0:T_S_impl_Line.T) (x1:T_S_impl_Line.T) (v5:T_int.T):Option T_bool.T:=resume (envOf G [e_laws_eqLine K] K tl79 tl35) dokB true T_bool true Tryz.f152 [1,1,0,1,0] k (mkSt 27 [(0,.d T_S_impl_Line false x0),(1,.d T_S_impl_Line false x1),(5,.d T_int true v5)] [])
theorem fn_laws_eqHand:fnOk G 153 Tryz.f153:=⟨Tryz.func153,by kernel_rfl⟩
noncomputable def e_laws_eqHand (K:Nat):Ent G.P:=mkEnt G 153 Tryz.f153 fn_laws_eqHand [T_impl_Hand,T_impl_Hand] true T_bool true [] K tl1 tl1
noncomputable def g_laws_eqHand (K:Nat) (x0:T_impl_Hand.T) (x1:T_impl_Hand.T):Option T_bool.T:=(e_laws_eqHand K).g (x0,x1,())
theorem fn_laws_eqHouse:fnOk G 90 Tryz.f90:=⟨Tryz.func90,by kernel_rfl⟩
noncomputable def e_laws_eqHouse (K:Nat):Ent G.P:=mkEnt G 90 Tryz.f90 fn_laws_eqHouse [T_impl_House,T_impl_House] true T_bool true [e_laws_eqDbS K,e_laws_eqAskerS K,e_laws_eqLineS K,e_laws_eqHand K] K tl1 tl1
noncomputable def g_laws_eqHouse (K:Nat) (x0:T_impl_House.T) (x1:T_impl_House.T):Option T_bool.T:=(e_laws_eqHouse K).g (x0,x1,())
theorem fn_laws_eqHouseS:fnOk G 34 Tryz.f34:=⟨Tryz.func34,by kernel_rfl⟩
noncomputable def e_laws_eqHouseS (K:Nat):Ent G.P:=mkEnt G 34 Tryz.f34 fn_laws_eqHouseS [T_S_impl_House,T_S_impl_House] true T_bool true [e_laws_eqHouse K] K tl79 tl35
noncomputable def g_laws_eqHouseS (K:Nat) (x0:T_S_impl_House.T) (x1:T_S_impl_House.T):Option T_bool.T:=(e_laws_eqHouseS K).g (x0,x1,())
noncomputable def L_laws_eqHouseS_4 (K:Nat) (k:Nat) (x0:T_S_impl_House.T) (x1:T_S_impl_House.T) (v5:T_int.T):Option T_bool.T:=resume (envOf G [e_laws_eqHouse K] K tl79 tl35) dokB true T_bool true Tryz.f34 [1,1,0,1,0] k (mkSt 27 [(0,.d T_S_impl_House false x0),(1,.d T_S_impl_House false x1),(5,.d T_int true v5)] [])
theorem fn_laws_eqPack:fnOk G 91 Tryz.f91:=⟨Tryz.func91,by kernel_rfl⟩
noncomputable def e_laws_eqPack (K:Nat):Ent G.P:=mkEnt G 91 Tryz.f91 fn_laws_eqPack [T_impl_Pack,T_impl_Pack] true T_bool true [e_laws_eqByteS K] K tl1 tl1
noncomputable def g_laws_eqPack (K:Nat) (x0:T_impl_Pack.T) (x1:T_impl_Pack.T):Option T_bool.T:=(e_laws_eqPack K).g (x0,x1,())
theorem fn_laws_eqPackS:fnOk G 35 Tryz.f35:=⟨Tryz.func35,by kernel_rfl⟩
noncomputable def e_laws_eqPackS (K:Nat):Ent G.P:=mkEnt G 35 Tryz.f35 fn_laws_eqPackS [T_S_impl_Pack,T_S_impl_Pack] true T_bool true [e_laws_eqPack K] K tl79 tl35
noncomputable def g_laws_eqPackS (K:Nat) (x0:T_S_impl_Pack.T) (x1:T_S_impl_Pack.T):Option T_bool.T:=(e_laws_eqPackS K).g (x0,x1,())
noncomputable def L_laws_eqPackS_4 (K:Nat) (k:Nat) (x0:T_S_impl_Pack.T) (x1:T_S_impl_Pack.T) (v5:T_int.T):Option T_bool.T:=resume (envOf G [e_laws_eqPack K] K tl79 tl35) dokB true T_bool true Tryz.f35 [1,1,0,1,0] k (mkSt 27 [(0,.d T_S_impl_Pack false x0),(1,.d T_S_impl_Pack false x1),(5,.d T_int true v5)] [])
theorem fn_laws_eqNote:fnOk G 92 Tryz.f92:=⟨Tryz.func92,by kernel_rfl⟩
noncomputable def e_laws_eqNote (K:Nat):Ent G.P:=mkEnt G 92 Tryz.f92 fn_laws_eqNote [T_impl_Note,T_impl_Note] true T_bool true [] K tl1 tl1
noncomputable def g_laws_eqNote (K:Nat) (x0:T_impl_Note.T) (x1:T_impl_Note.T):Option T_bool.T:=(e_laws_eqNote K).g (x0,x1,())
theorem fn_laws_eqNoteS:fnOk G 36 Tryz.f36:=⟨Tryz.func36,by kernel_rfl⟩
noncomputable def e_laws_eqNoteS (K:Nat):Ent G.P:=mkEnt G 36 Tryz.f36 fn_laws_eqNoteS [T_S_impl_Note,T_S_impl_Note] true T_bool true [e_laws_eqNote K] K tl79 tl35
noncomputable def g_laws_eqNoteS (K:Nat) (x0:T_S_impl_Note.T) (x1:T_S_impl_Note.T):Option T_bool.T:=(e_laws_eqNoteS K).g (x0,x1,())
noncomputable def L_laws_eqNoteS_4 (K:Nat) (k:Nat) (x0:T_S_impl_Note.T) (x1:T_S_impl_Note.T) (v5:T_int.T):Option T_bool.T:=resume (envOf G [e_laws_eqNote K] K tl79 tl35) dokB true T_bool true Tryz.f36 [1,1,0,1,0] k (mkSt 27 [(0,.d T_S_impl_Note false x0),(1,.d T_S_impl_Note false x1),(5,.d T_int true v5)] [])
theorem fn_laws_eqWorld:fnOk G 9 Tryz.f9:=⟨Tryz.func9,by kernel_rfl⟩
noncomputable def e_laws_eqWorld (K:Nat):Ent G.P:=mkEnt G 9 Tryz.f9 fn_laws_eqWorld [T_impl_World,T_impl_World] true T_bool true [e_laws_eqDisk K,e_laws_eqSockS K,e_laws_eqHouseS K,e_laws_eqPackS K,e_laws_eqNoteS K] K tl1 tl1
noncomputable def g_laws_eqWorld (K:Nat) (x0:T_impl_World.T) (x1:T_impl_World.T):Option T_bool.T:=(e_laws_eqWorld K).g (x0,x1,())
theorem fn_laws_markByteS:fnOk G 95 Tryz.f95:=⟨Tryz.func95,by kernel_rfl⟩
noncomputable def x_laws_markByteS (K:Nat):TEnt G.P:=mkTEnt G 95 Tryz.f95 fn_laws_markByteS (.ow .fz) T_S_u8 [] [] [] [] ⟨[],[],[]⟩ K tl29 tl18
noncomputable def h_laws_markByteS (K:Nat) (x0:T_S_u8.T) (x1:T_int.T):Option (Int × T_S_u8.T):=(x_laws_markByteS K).g x0 x1
noncomputable def L_laws_markByteS_2 (K:Nat) (k:Nat) (v1:T_int.T) (v5:T_int.T) (o0:T_S_u8.T):Option (Int × T_S_u8.T):=resumeT (envT G [] [] [] [] ⟨[],[],[]⟩ K tl29 tl18) dokB (.ow .fz) T_S_u8 Tryz.f95 [1,0,1,0] k (mkSt 20 [(0,.pv T_S_u8),(1,.d T_int true v1),(5,.d T_int true v5)] [(0,.tr false (.ow .fz) T_S_u8 o0)])
theorem fn_laws_markByteSS:fnOk G 93 Tryz.f93:=⟨Tryz.func93,by kernel_rfl⟩
def tl80:Nat→List Nat:=fun i=>if i = 2 then [2,3,4,6,7,8,9,10,11,12,13,14,15,16,17,18] else []
noncomputable def x_laws_markByteSS (K:Nat):TEnt G.P:=mkTEnt G 93 Tryz.f93 fn_laws_markByteSS shf0 T_S_S_u8 [] [] [] [x_laws_markByteS K] ⟨[],[],[]⟩ K tl80 tl18
noncomputable def h_laws_markByteSS (K:Nat) (x0:T_S_S_u8.T) (x1:T_int.T):Option (Int × T_S_S_u8.T):=(x_laws_markByteSS K).g x0 x1
noncomputable def L_laws_markByteSS_2 (K:Nat) (k:Nat) (v1:T_int.T) (v5:T_int.T) (o0:T_S_S_u8.T):Option (Int × T_S_S_u8.T):=resumeT (envT G [] [] [] [x_laws_markByteS K] ⟨[],[],[]⟩ K tl80 tl18) dokB shf0 T_S_S_u8 Tryz.f93 [1,0,1,0] k (mkSt 19 [(0,.pv T_S_S_u8),(1,.d T_int true v1),(5,.d T_int true v5)] [(0,.tr false shf0 T_S_S_u8 o0)])
theorem fn_laws_markWrS:fnOk G 94 Tryz.f94:=⟨Tryz.func94,by kernel_rfl⟩
def tl81:Nat→List Nat:=fun i=>if i = 2 then [2,3,4,6,7,8,9,10,11,12,13,14,15,16,17,18,19,20,21,22,23,24,25,26] else []
noncomputable def x_laws_markWrS (K:Nat):TEnt G.P:=mkTEnt G 94 Tryz.f94 fn_laws_markWrS shf2 T_S_impl_Wr [] [] [] [x_laws_markByteS K] ⟨[],[],[]⟩ K tl81 tl18
noncomputable def h_laws_markWrS (K:Nat) (x0:T_S_impl_Wr.T) (x1:T_int.T):Option (Int × T_S_impl_Wr.T):=(x_laws_markWrS K).g x0 x1
noncomputable def ev15 (K:Nat):Env:=envT G [] [] [] [x_laws_markByteS K] ⟨[],[],[]⟩ K tl81 tl18
noncomputable def L_laws_markWrS_2 (K:Nat) (k:Nat) (v1:T_int.T) (v5:T_int.T) (o0:T_S_impl_Wr.T):Option (Int × T_S_impl_Wr.T):=resumeT (ev15 K) dokB shf2 T_S_impl_Wr Tryz.f94 [1,0,1,0] k (mkSt 27 [(0,.pv T_S_impl_Wr),(1,.d T_int true v1),(5,.d T_int true v5)] [(0,.tr false shf2 T_S_impl_Wr o0)])
theorem fn_laws_markDisk:fnOk G 37 Tryz.f37:=⟨Tryz.func37,by kernel_rfl⟩
noncomputable def x_laws_markDisk (K:Nat):TEnt G.P:=mkTEnt G 37 Tryz.f37 fn_laws_markDisk shf3 T_impl_Disk [] [] [] [x_laws_markByteSS K,x_laws_markWrS K] ⟨[],[],[]⟩ K tl1 tl1
noncomputable def h_laws_markDisk (K:Nat) (x0:T_impl_Disk.T) (x1:T_int.T):Option (Int × T_impl_Disk.T):=(x_laws_markDisk K).g x0 x1
theorem fn_laws_markSockS:fnOk G 38 Tryz.f38:=⟨Tryz.func38,by kernel_rfl⟩
def tl82:Nat→List Nat:=fun i=>if i = 2 then [2,3,4,6,7,8,9,10,11,12,13,14,15,16,17,18,19,20,21,22,23,24,25,26,27,28,29,30,31,32,33,34,35,36,37,38,39,40,41,42,43,44,45,46,47,48,49,50,51,52,53,54,55,56,57,58,59,60,61,62,63,64,65,66,67,68,69,70] else []
noncomputable def x_laws_markSockS (K:Nat):TEnt G.P:=mkTEnt G 38 Tryz.f38 fn_laws_markSockS shf5 T_S_impl_Sock [] [] [] [x_laws_markByteS K] ⟨[],[],[]⟩ K tl82 tl18
noncomputable def h_laws_markSockS (K:Nat) (x0:T_S_impl_Sock.T) (x1:T_int.T):Option (Int × T_S_impl_Sock.T):=(x_laws_markSockS K).g x0 x1
noncomputable def L_laws_markSockS_2 (K:Nat) (k:Nat) (v1:T_int.T) (v5:T_int.T) (o0:T_S_impl_Sock.T):Option (Int × T_S_impl_Sock.T):=resumeT (envT G [] [] [] [x_laws_markByteS K] ⟨[],[],[]⟩ K tl82 tl18) dokB shf5 T_S_impl_Sock Tryz.f38 [1,0,1,0] k (mkSt 71 [(0,.pv T_S_impl_Sock),(1,.d T_int true v1),(5,.d T_int true v5)] [(0,.tr false shf5 T_S_impl_Sock o0)])
theorem fn_laws_markText:fnOk G 154 Tryz.f154:=⟨Tryz.func154,by kernel_rfl⟩
def tl83:Nat→List Nat:=fun i=>if i = 4 then [1,2,4,5,6,7,8,9,10,11,12,13,14,15,16,17,18,19] else []
noncomputable def e_laws_markText (K:Nat):Ent G.P:=mkEnt G 154 Tryz.f154 fn_laws_markText [T_int] true T_str true [] K tl83 (fun i=>if i = 4 then [12] else [])
noncomputable def g_laws_markText (K:Nat) (x0:T_int.T):Option T_str.T:=(e_laws_markText K).g (x0,())
noncomputable def L_laws_markText_4 (K:Nat) (k:Nat) (v0:T_int.T) (v3:T_str.T):Option T_str.T:=resume (envOf G [] K tl83 (fun i=>if i = 4 then [12] else [])) dokB true T_str true Tryz.f154 [1,1,1,0,0] k (mkSt 20 [(0,.d T_int true v0),(3,.d T_str true v3)] [])
theorem fn_laws_markDbS:fnOk G 96 Tryz.f96:=⟨Tryz.func96,by kernel_rfl⟩
def tl84:Nat→List Nat:=fun i=>if i = 2 then [2,3,4,6,7,8,9,10,11,12,13,14,15,16,17,18,19,20,21,22,23,24,25,26,27,28,29,30,31,32,33,34,35,36,37,38,39,40,41,42,43,44,45,46,47,48] else []
noncomputable def x_laws_markDbS (K:Nat):TEnt G.P:=mkTEnt G 96 Tryz.f96 fn_laws_markDbS (.ow .fz) T_S_impl_Db [e_laws_markText K] [] [] [] ⟨[],[],[]⟩ K tl84 tl18
noncomputable def h_laws_markDbS (K:Nat) (x0:T_S_impl_Db.T) (x1:T_int.T):Option (Int × T_S_impl_Db.T):=(x_laws_markDbS K).g x0 x1
noncomputable def L_laws_markDbS_2 (K:Nat) (k:Nat) (v1:T_int.T) (v5:T_int.T) (o0:T_S_impl_Db.T):Option (Int × T_S_impl_Db.T):=resumeT (envT G [e_laws_markText K] [] [] [] ⟨[],[],[]⟩ K tl84 tl18) dokB (.ow .fz) T_S_impl_Db Tryz.f96 [1,0,1,0] k (mkSt 49 [(0,.pv T_S_impl_Db),(1,.d T_int true v1),(5,.d T_int true v5)] [(0,.tr false (.ow .fz) T_S_impl_Db o0)])
theorem fn_laws_markAskerS:fnOk G 97 Tryz.f97:=⟨Tryz.func97,by kernel_rfl⟩
noncomputable def x_laws_markAskerS (K:Nat):TEnt G.P:=mkTEnt G 97 Tryz.f97 fn_laws_markAskerS (.ow .fz) T_S_impl_Asker [e_laws_markText K] [] [] [] ⟨[],[],[]⟩ K tl82 tl18
noncomputable def h_laws_markAskerS (K:Nat) (x0:T_S_impl_Asker.T) (x1:T_int.T):Option (Int × T_S_impl_Asker.T):=(x_laws_markAskerS K).g x0 x1
noncomputable def L_laws_markAskerS_2 (K:Nat) (k:Nat) (v1:T_int.T) (v5:T_int.T) (o0:T_S_impl_Asker.T):Option (Int × T_S_impl_Asker.T):=resumeT (envT G [e_laws_markText K] [] [] [] ⟨[],[],[]⟩ K tl82 tl18) dokB (.ow .fz) T_S_impl_Asker Tryz.f97 [1,0,1,0] k (mkSt 71 [(0,.pv T_S_impl_Asker),(1,.d T_int true v1),(5,.d T_int true v5)] [(0,.tr false (.ow .fz) T_S_impl_Asker o0)])
theorem fn_laws_markLineS:fnOk G 98 Tryz.f98:=⟨Tryz.func98,by kernel_rfl⟩
def tl85:Nat→List Nat:=fun i=>if i = 2 then [2,3,4,6,7,8,9,10,11,12,13,14,15,16,17,18,19,20,21,22,23,24,25,26,27,28,29,30,31,32,33,34,35,36,37,38,39,40,41,42,43,44,45,46,47,48,49,50,51,52,53,54,55,56,57,58,59,60,61,62] else []
noncomputable def x_laws_markLineS (K:Nat):TEnt G.P:=mkTEnt G 98 Tryz.f98 fn_laws_markLineS (.ow .fz) T_S_impl_Line [e_laws_markText K] [] [] [] ⟨[],[],[]⟩ K tl85 tl18
noncomputable def h_laws_markLineS (K:Nat) (x0:T_S_impl_Line.T) (x1:T_int.T):Option (Int × T_S_impl_Line.T):=(x_laws_markLineS K).g x0 x1
noncomputable def L_laws_markLineS_2 (K:Nat) (k:Nat) (v1:T_int.T) (v5:T_int.T) (o0:T_S_impl_Line.T):Option (Int × T_S_impl_Line.T):=resumeT (envT G [e_laws_markText K] [] [] [] ⟨[],[],[]⟩ K tl85 tl18) dokB (.ow .fz) T_S_impl_Line Tryz.f98 [1,0,1,0] k (mkSt 63 [(0,.pv T_S_impl_Line),(1,.d T_int true v1),(5,.d T_int true v5)] [(0,.tr false (.ow .fz) T_S_impl_Line o0)])
theorem fn_laws_markHouseS:fnOk G 39 Tryz.f39:=⟨Tryz.func39,by kernel_rfl⟩
def tl86:Nat→List Nat:=fun i=>if i = 2 then [2,3,4,6,7,8,9,10,11,12,13,14,15,16,17,18,19,20,21,22,23,24,25,26,27,28,29,30,31,32,33,34,35,36,37,38,39,40,41,42,43,44,45,46,47,48,49,50,51,52,53,54,55,56,57,58,59,60,61,62,63,64,65,66,67,68,69,70,71,72,73,74,75,76,77,78,79,80,81,82,83,84,85,86,87,88,89,90,91,92,93,94,95,96,97,98,99,100,101,102] else []
noncomputable def x_laws_markHouseS (K:Nat):TEnt G.P:=mkTEnt G 39 Tryz.f39 fn_laws_markHouseS shf7 T_S_impl_House [] [] [] [x_laws_markDbS K,x_laws_markAskerS K,x_laws_markLineS K] ⟨[],[],[]⟩ K tl86 tl18
noncomputable def h_laws_markHouseS (K:Nat) (x0:T_S_impl_House.T) (x1:T_int.T):Option (Int × T_S_impl_House.T):=(x_laws_markHouseS K).g x0 x1
noncomputable def L_laws_markHouseS_2 (K:Nat) (k:Nat) (v1:T_int.T) (v5:T_int.T) (o0:T_S_impl_House.T):Option (Int × T_S_impl_House.T):=resumeT (envT G [] [] [] [x_laws_markDbS K,x_laws_markAskerS K,x_laws_markLineS K] ⟨[],[],[]⟩ K tl86 tl18) dokB shf7 T_S_impl_House Tryz.f39 [1,0,1,0] k (mkSt 103 [(0,.pv T_S_impl_House),(1,.d T_int true v1),(5,.d T_int true v5)] [(0,.tr false shf7 T_S_impl_House o0)])
theorem fn_laws_markPackS:fnOk G 40 Tryz.f40:=⟨Tryz.func40,by kernel_rfl⟩
noncomputable def x_laws_markPackS (K:Nat):TEnt G.P:=mkTEnt G 40 Tryz.f40 fn_laws_markPackS shf2 T_S_impl_Pack [] [] [] [x_laws_markByteS K] ⟨[],[],[]⟩ K tl81 tl18
noncomputable def h_laws_markPackS (K:Nat) (x0:T_S_impl_Pack.T) (x1:T_int.T):Option (Int × T_S_impl_Pack.T):=(x_laws_markPackS K).g x0 x1
noncomputable def L_laws_markPackS_2 (K:Nat) (k:Nat) (v1:T_int.T) (v5:T_int.T) (o0:T_S_impl_Pack.T):Option (Int × T_S_impl_Pack.T):=resumeT (ev15 K) dokB shf2 T_S_impl_Pack Tryz.f40 [1,0,1,0] k (mkSt 27 [(0,.pv T_S_impl_Pack),(1,.d T_int true v1),(5,.d T_int true v5)] [(0,.tr false shf2 T_S_impl_Pack o0)])
theorem fn_laws_markNoteS:fnOk G 41 Tryz.f41:=⟨Tryz.func41,by kernel_rfl⟩
def tl87:Nat→List Nat:=fun i=>if i = 2 then [2,3,4,6,7,8,9,10,11,12,13,14,15,16,17,18,19,20,21,22,23,24,25,26,27,28,29,30,31,32,33,34,35,36,37,38,39,40,41,42,43,44,45,46,47,48,49,50,51,52,53,54,55,56,57,58,59,60,61,62,63,64,65,66,67,68,69,70,71,72,73,74,75] else []
noncomputable def x_laws_markNoteS (K:Nat):TEnt G.P:=mkTEnt G 41 Tryz.f41 fn_laws_markNoteS (.ow .fz) T_S_impl_Note [] [] [] [] ⟨[],[],[]⟩ K tl87 tl18
noncomputable def h_laws_markNoteS (K:Nat) (x0:T_S_impl_Note.T) (x1:T_int.T):Option (Int × T_S_impl_Note.T):=(x_laws_markNoteS K).g x0 x1
noncomputable def L_laws_markNoteS_2 (K:Nat) (k:Nat) (v1:T_int.T) (v5:T_int.T) (o0:T_S_impl_Note.T):Option (Int × T_S_impl_Note.T):=resumeT (envT G [] [] [] [] ⟨[],[],[]⟩ K tl87 tl18) dokB (.ow .fz) T_S_impl_Note Tryz.f41 [1,0,1,0] k (mkSt 76 [(0,.pv T_S_impl_Note),(1,.d T_int true v1),(5,.d T_int true v5)] [(0,.tr false (.ow .fz) T_S_impl_Note o0)])
theorem fn_laws_markWorld:fnOk G 10 Tryz.f10:=⟨Tryz.func10,by kernel_rfl⟩
noncomputable def x_laws_markWorld (K:Nat):TEnt G.P:=mkTEnt G 10 Tryz.f10 fn_laws_markWorld shf8 T_impl_World [] [] [] [x_laws_markDisk K,x_laws_markSockS K,x_laws_markHouseS K,x_laws_markPackS K,x_laws_markNoteS K] ⟨[],[],[]⟩ K tl1 tl1
noncomputable def h_laws_markWorld (K:Nat) (x0:T_impl_World.T) (x1:T_int.T):Option (Int × T_impl_World.T):=(x_laws_markWorld K).g x0 x1
theorem fn_laws_heldByteS:fnOk G 101 Tryz.f101:=⟨Tryz.func101,by kernel_rfl⟩
def tl88:Nat→List Nat:=fun i=>if i = 2 then [2,3,4,6,7,8,9,10,11,12,13,14,15,16,17,18,19,20,21] else []
noncomputable def e_laws_heldByteS (K:Nat):Ent G.P:=mkEnt G 101 Tryz.f101 fn_laws_heldByteS [T_S_u8,T_int] true T_int true [] K tl88 tl18
noncomputable def g_laws_heldByteS (K:Nat) (x0:T_S_u8.T) (x1:T_int.T):Option T_int.T:=(e_laws_heldByteS K).g (x0,x1,())
noncomputable def L_laws_heldByteS_2 (K:Nat) (k:Nat) (x0:T_S_u8.T) (v1:T_int.T) (v5:T_int.T):Option T_int.T:=resume (envOf G [] K tl88 tl18) dokB true T_int true Tryz.f101 [1,0,1,0] k (mkSt 22 [(0,.d T_S_u8 false x0),(1,.d T_int true v1),(5,.d T_int true v5)] [])
theorem fn_laws_heldByteSS:fnOk G 99 Tryz.f99:=⟨Tryz.func99,by kernel_rfl⟩
def tl89:Nat→List Nat:=fun i=>if i = 2 then [2,3,4,6,7,8,9,10,11,12,13,14,15,16,17,18,19,20] else []
noncomputable def e_laws_heldByteSS (K:Nat):Ent G.P:=mkEnt G 99 Tryz.f99 fn_laws_heldByteSS [T_S_S_u8,T_int] true T_int true [e_laws_heldByteS K] K tl89 tl18
noncomputable def g_laws_heldByteSS (K:Nat) (x0:T_S_S_u8.T) (x1:T_int.T):Option T_int.T:=(e_laws_heldByteSS K).g (x0,x1,())
noncomputable def L_laws_heldByteSS_2 (K:Nat) (k:Nat) (x0:T_S_S_u8.T) (v1:T_int.T) (v5:T_int.T):Option T_int.T:=resume (envOf G [e_laws_heldByteS K] K tl89 tl18) dokB true T_int true Tryz.f99 [1,0,1,0] k (mkSt 21 [(0,.d T_S_S_u8 false x0),(1,.d T_int true v1),(5,.d T_int true v5)] [])
theorem fn_laws_heldWrS:fnOk G 100 Tryz.f100:=⟨Tryz.func100,by kernel_rfl⟩
def tl90:Nat→List Nat:=fun i=>if i = 2 then [2,3,4,6,7,8,9,10,11,12,13,14,15,16,17,18,19,20,21,22,23,24,25,26,27,28,29,30] else []
noncomputable def e_laws_heldWrS (K:Nat):Ent G.P:=mkEnt G 100 Tryz.f100 fn_laws_heldWrS [T_S_impl_Wr,T_int] true T_int true [e_laws_heldByteS K] K tl90 tl18
noncomputable def g_laws_heldWrS (K:Nat) (x0:T_S_impl_Wr.T) (x1:T_int.T):Option T_int.T:=(e_laws_heldWrS K).g (x0,x1,())
noncomputable def ev16 (K:Nat):Env:=envOf G [e_laws_heldByteS K] K tl90 tl18
noncomputable def L_laws_heldWrS_2 (K:Nat) (k:Nat) (x0:T_S_impl_Wr.T) (v1:T_int.T) (v5:T_int.T):Option T_int.T:=resume (ev16 K) dokB true T_int true Tryz.f100 [1,0,1,0] k (mkSt 31 [(0,.d T_S_impl_Wr false x0),(1,.d T_int true v1),(5,.d T_int true v5)] [])
theorem fn_laws_heldDisk:fnOk G 42 Tryz.f42:=⟨Tryz.func42,by kernel_rfl⟩
noncomputable def e_laws_heldDisk (K:Nat):Ent G.P:=mkEnt G 42 Tryz.f42 fn_laws_heldDisk [T_impl_Disk,T_int] true T_int true [e_laws_heldByteSS K,e_laws_heldWrS K] K tl1 tl1
noncomputable def g_laws_heldDisk (K:Nat) (x0:T_impl_Disk.T) (x1:T_int.T):Option T_int.T:=(e_laws_heldDisk K).g (x0,x1,())
theorem fn_laws_heldSockS:fnOk G 43 Tryz.f43:=⟨Tryz.func43,by kernel_rfl⟩
def tl91:Nat→List Nat:=fun i=>if i = 2 then [2,3,4,6,7,8,9,10,11,12,13,14,15,16,17,18,19,20,21,22,23,24,25,26,27,28,29,30,31,32,33,34,35,36,37,38,39,40,41,42,43,44,45,46,47,48,49,50,51,52,53,54,55,56,57,58,59,60,61,62,63,64,65,66,67,68,69,70,71,72,73,74,75,76,77,78,79,80,81,82,83,84,85,86] else []
noncomputable def e_laws_heldSockS (K:Nat):Ent G.P:=mkEnt G 43 Tryz.f43 fn_laws_heldSockS [T_S_impl_Sock,T_int] true T_int true [e_laws_heldByteS K] K tl91 tl18
noncomputable def g_laws_heldSockS (K:Nat) (x0:T_S_impl_Sock.T) (x1:T_int.T):Option T_int.T:=(e_laws_heldSockS K).g (x0,x1,())
noncomputable def L_laws_heldSockS_2 (K:Nat) (k:Nat) (x0:T_S_impl_Sock.T) (v1:T_int.T) (v5:T_int.T):Option T_int.T:=resume (envOf G [e_laws_heldByteS K] K tl91 tl18) dokB true T_int true Tryz.f43 [1,0,1,0] k (mkSt 87 [(0,.d T_S_impl_Sock false x0),(1,.d T_int true v1),(5,.d T_int true v5)] [])
theorem fn_laws_heldDbS:fnOk G 102 Tryz.f102:=⟨Tryz.func102,by kernel_rfl⟩
def tl92:Nat→List Nat:=fun i=>if i = 2 then [2,3,4,6,7,8,9,10,11,12,13,14,15,16,17,18,19,20,21,22,23,24,25,26,27,28,29,30,31,32,33,34,35,36,37,38,39,40,41,42,43,44,45,46,47,48,49,50,51,52,53,54,55,56,57,58] else []
noncomputable def e_laws_heldDbS (K:Nat):Ent G.P:=mkEnt G 102 Tryz.f102 fn_laws_heldDbS [T_S_impl_Db,T_int] true T_int true [e_laws_markText K] K tl92 tl18
noncomputable def g_laws_heldDbS (K:Nat) (x0:T_S_impl_Db.T) (x1:T_int.T):Option T_int.T:=(e_laws_heldDbS K).g (x0,x1,())
noncomputable def L_laws_heldDbS_2 (K:Nat) (k:Nat) (x0:T_S_impl_Db.T) (v1:T_int.T) (v5:T_int.T):Option T_int.T:=resume (envOf G [e_laws_markText K] K tl92 tl18) dokB true T_int true Tryz.f102 [1,0,1,0] k (mkSt 59 [(0,.d T_S_impl_Db false x0),(1,.d T_int true v1),(5,.d T_int true v5)] [])
theorem fn_laws_heldAskerS:fnOk G 103 Tryz.f103:=⟨Tryz.func103,by kernel_rfl⟩
noncomputable def e_laws_heldAskerS (K:Nat):Ent G.P:=mkEnt G 103 Tryz.f103 fn_laws_heldAskerS [T_S_impl_Asker,T_int] true T_int true [e_laws_markText K] K tl91 tl18
noncomputable def g_laws_heldAskerS (K:Nat) (x0:T_S_impl_Asker.T) (x1:T_int.T):Option T_int.T:=(e_laws_heldAskerS K).g (x0,x1,())
noncomputable def L_laws_heldAskerS_2 (K:Nat) (k:Nat) (x0:T_S_impl_Asker.T) (v1:T_int.T) (v5:T_int.T):Option T_int.T:=resume (envOf G [e_laws_markText K] K tl91 tl18) dokB true T_int true Tryz.f103 [1,0,1,0] k (mkSt 87 [(0,.d T_S_impl_Asker false x0),(1,.d T_int true v1),(5,.d T_int true v5)] [])
theorem fn_laws_heldLineS:fnOk G 104 Tryz.f104:=⟨Tryz.func104,by kernel_rfl⟩
def tl93:Nat→List Nat:=fun i=>if i = 2 then [2,3,4,6,7,8,9,10,11,12,13,14,15,16,17,18,19,20,21,22,23,24,25,26,27,28,29,30,31,32,33,34,35,36,37,38,39,40,41,42,43,44,45,46,47,48,49,50,51,52,53,54,55,56,57,58,59,60,61,62,63,64,65,66,67,68,69,70,71,72,73,74,75,76] else []
noncomputable def e_laws_heldLineS (K:Nat):Ent G.P:=mkEnt G 104 Tryz.f104 fn_laws_heldLineS [T_S_impl_Line,T_int] true T_int true [e_laws_markText K] K tl93 tl18
noncomputable def g_laws_heldLineS (K:Nat) (x0:T_S_impl_Line.T) (x1:T_int.T):Option T_int.T:=(e_laws_heldLineS K).g (x0,x1,())
noncomputable def L_laws_heldLineS_2 (K:Nat) (k:Nat) (x0:T_S_impl_Line.T) (v1:T_int.T) (v5:T_int.T):Option T_int.T:=resume (envOf G [e_laws_markText K] K tl93 tl18) dokB true T_int true Tryz.f104 [1,0,1,0] k (mkSt 77 [(0,.d T_S_impl_Line false x0),(1,.d T_int true v1),(5,.d T_int true v5)] [])
theorem fn_laws_heldHouseS:fnOk G 44 Tryz.f44:=⟨Tryz.func44,by kernel_rfl⟩
def tl94:Nat→List Nat:=fun i=>if i = 2 then [2,3,4,6,7,8,9,10,11,12,13,14,15,16,17,18,19,20,21,22,23,24,25,26,27,28,29,30,31,32,33,34,35,36,37,38,39,40,41,42,43,44,45,46,47,48,49,50,51,52,53,54,55,56,57,58,59,60,61,62,63,64,65,66,67,68,69,70,71,72,73,74,75,76,77,78,79,80,81,82,83,84,85,86,87,88,89,90,91,92,93,94,95,96,97,98,99,100,101,102,103,104,105,106,107,108,109,110,111,112,113,114,115,116,117,118,119,120,121,122,123,124,125,126] else []
noncomputable def e_laws_heldHouseS (K:Nat):Ent G.P:=mkEnt G 44 Tryz.f44 fn_laws_heldHouseS [T_S_impl_House,T_int] true T_int true [e_laws_heldDbS K,e_laws_heldAskerS K,e_laws_heldLineS K] K tl94 tl18
noncomputable def g_laws_heldHouseS (K:Nat) (x0:T_S_impl_House.T) (x1:T_int.T):Option T_int.T:=(e_laws_heldHouseS K).g (x0,x1,())
noncomputable def L_laws_heldHouseS_2 (K:Nat) (k:Nat) (x0:T_S_impl_House.T) (v1:T_int.T) (v5:T_int.T):Option T_int.T:=resume (envOf G [e_laws_heldDbS K,e_laws_heldAskerS K,e_laws_heldLineS K] K tl94 tl18) dokB true T_int true Tryz.f44 [1,0,1,0] k (mkSt 127 [(0,.d T_S_impl_House false x0),(1,.d T_int true v1),(5,.d T_int true v5)] [])
theorem fn_laws_heldPackS:fnOk G 45 Tryz.f45:=⟨Tryz.func45,by kernel_rfl⟩
noncomputable def e_laws_heldPackS (K:Nat):Ent G.P:=mkEnt G 45 Tryz.f45 fn_laws_heldPackS [T_S_impl_Pack,T_int] true T_int true [e_laws_heldByteS K] K tl90 tl18
noncomputable def g_laws_heldPackS (K:Nat) (x0:T_S_impl_Pack.T) (x1:T_int.T):Option T_int.T:=(e_laws_heldPackS K).g (x0,x1,())
noncomputable def L_laws_heldPackS_2 (K:Nat) (k:Nat) (x0:T_S_impl_Pack.T) (v1:T_int.T) (v5:T_int.T):Option T_int.T:=resume (ev16 K) dokB true T_int true Tryz.f45 [1,0,1,0] k (mkSt 31 [(0,.d T_S_impl_Pack false x0),(1,.d T_int true v1),(5,.d T_int true v5)] [])
theorem fn_laws_heldNoteS:fnOk G 46 Tryz.f46:=⟨Tryz.func46,by kernel_rfl⟩
def tl95:Nat→List Nat:=fun i=>if i = 2 then [2,3,4,6,7,8,9,10,11,12,13,14,15,16,17,18,19,20,21,22,23,24,25,26,27,28,29,30,31,32,33,34,35,36,37,38,39,40,41,42,43,44,45,46,47,48,49,50,51,52,53,54,55,56,57,58,59,60,61,62,63,64,65,66,67,68,69,70,71,72,73,74,75,76,77,78,79,80,81,82,83,84,85,86,87,88,89,90,91,92,93] else []
noncomputable def e_laws_heldNoteS (K:Nat):Ent G.P:=mkEnt G 46 Tryz.f46 fn_laws_heldNoteS [T_S_impl_Note,T_int] true T_int true [] K tl95 tl18
noncomputable def g_laws_heldNoteS (K:Nat) (x0:T_S_impl_Note.T) (x1:T_int.T):Option T_int.T:=(e_laws_heldNoteS K).g (x0,x1,())
noncomputable def L_laws_heldNoteS_2 (K:Nat) (k:Nat) (x0:T_S_impl_Note.T) (v1:T_int.T) (v5:T_int.T):Option T_int.T:=resume (envOf G [] K tl95 tl18) dokB true T_int true Tryz.f46 [1,0,1,0] k (mkSt 94 [(0,.d T_S_impl_Note false x0),(1,.d T_int true v1),(5,.d T_int true v5)] [])
theorem fn_laws_heldWorld:fnOk G 11 Tryz.f11:=⟨Tryz.func11,by kernel_rfl⟩
noncomputable def e_laws_heldWorld (K:Nat):Ent G.P:=mkEnt G 11 Tryz.f11 fn_laws_heldWorld [T_impl_World,T_int] true T_int true [e_laws_heldDisk K,e_laws_heldSockS K,e_laws_heldHouseS K,e_laws_heldPackS K,e_laws_heldNoteS K] K tl1 tl1
noncomputable def g_laws_heldWorld (K:Nat) (x0:T_impl_World.T) (x1:T_int.T):Option T_int.T:=(e_laws_heldWorld K).g (x0,x1,())
theorem fn_laws_FnExactPower:fnOk G 4 Tryz.f4:=⟨Tryz.func4,by kernel_rfl⟩
noncomputable def e_laws_FnExactPower (K:Nat):Ent G.P:=mkEntT G 4 Tryz.f4 fn_laws_FnExactPower [T_laws_World,T_int] true T_bool true [e_laws_szWorld K,d_laws_toWorld K,e_spec_Power K,e_laws_eqWorld K,e_laws_heldWorld K] [e_laws_toWorld K,e_impl_Power K] [] [x_laws_markWorld K] ⟨[7,8,12],[],[(19,.mv)]⟩ K tl1 tl1
noncomputable def g_laws_FnExactPower (K:Nat) (x0:T_laws_World.T) (x1:T_int.T):Option T_bool.T:=(e_laws_FnExactPower K).g (x0,x1,())
end F5
