/- The functions of the law as the evaluator tells them; written by gen.py and mkmod.py. -/
import Derived.Test.YtofllafpneanoaaGreatDoorFilQ
import Derived.Test.YtofllafpneanoaaGreatDoorProg
import Derived.Shelf.Strings.OnBuilder
import Derived.Lib.Strings
import Derived.Lib.Walk
import Derived.Lib.Bytealg
set_option linter.unusedSimpArgs false
namespace F5
open Go Go.Fil Go.Proofs
set_option maxRecDepth 100000
set_option linter.unusedVariables false
@[reducible] def T_int:Ty:=.int .i64
@[reducible] def T_int_3:Ty:=.int .i64
@[reducible] def T_bool:Ty:=.bool
@[reducible] def T_u8:Ty:=.int .u8
@[reducible] def Z3s:Ty:=.int .u8
@[reducible] def T_u7:Ty:=.pair T_int (.pair T_int_3 (.pair T_bool (.pair Z3s .unit)))
@[reducible] def T_runtime_boundsError:Ty:=.pair T_int (.pair T_int_3 (.pair T_bool (.pair Z3s .unit)))
@[reducible] def T_str:Ty:=.str
@[reducible] def T_runtime_errorString:Ty:=.str
@[reducible] def T_runtime_plainError:Ty:=.str
@[reducible] def T_u64:Ty:=.int .u64
@[reducible] def T_u13:Ty:=.pair T_str (.pair T_u64 .unit)
@[reducible] def T_runtime_errorAddressString:Ty:=.pair T_str (.pair T_u64 .unit)
@[reducible] def T_i32:Ty:=.int .i32
@[reducible] def Zj:Ty:=.slice 5 T_u8
@[reducible] def Zx:Ty:=.slice 90 Zj
@[reducible] def Zdl:Ty:=.pair T_int_3 (.pair Zj .unit)
@[reducible] def Z1u:Ty:=.slice 153 Zdl
@[reducible] def T_u24:Ty:=.pair Zx (.pair Z1u (.pair T_int_3 (.pair T_bool .unit)))
@[reducible] def Z28:Ty:=.pair Zx (.pair Z1u (.pair T_int_3 (.pair T_bool .unit)))
@[reducible] def Zba:Ty:=.pair T_int_3 (.pair T_int_3 (.pair T_int_3 (.pair T_bool (.pair Zj (.pair Zj (.pair T_int_3 (.pair T_int_3 .unit)))))))
@[reducible] def Z1k:Ty:=.slice 92 Zba
@[reducible] def Zce:Ty:=.pair T_str (.pair T_int_3 (.pair T_int_3 (.pair T_int_3 (.pair T_int_3 .unit))))
@[reducible] def Z1v:Ty:=.slice 188 Zce
@[reducible] def Z6n:Ty:=.pair T_int_3 (.pair T_str (.pair T_int_3 (.pair T_int_3 (.pair T_int_3 (.pair T_str (.pair T_int_3 (.pair T_int_3 .unit)))))))
@[reducible] def Z1f:Ty:=.slice 190 Z6n
@[reducible] def Z93:Ty:=.pair T_int_3 (.pair T_str (.pair T_int_3 (.pair T_int_3 (.pair T_int_3 (.pair T_int_3 (.pair T_int_3 .unit))))))
@[reducible] def Z1l:Ty:=.slice 192 Z93
@[reducible] def Zbb:Ty:=.pair T_int_3 (.pair T_int_3 (.pair T_int_3 (.pair T_int_3 .unit)))
@[reducible] def Z1i:Ty:=.pair T_int_3 (.pair T_int_3 (.pair T_int_3 (.pair Z1v (.pair T_bool (.pair Z1f (.pair Z1l (.pair T_int_3 (.pair Zbb .unit))))))))
@[reducible] def Z1d:Ty:=.slice 99 Z1i
@[reducible] def Zbc:Ty:=.pair T_int_3 (.pair Zj .unit)
@[reducible] def Z1m:Ty:=.slice 102 Zbc
@[reducible] def Zeb:Ty:=.pair T_int_3 (.pair T_int_3 (.pair T_int_3 (.pair T_int_3 (.pair T_int_3 (.pair T_int_3 (.pair T_int_3 (.pair T_int_3 (.pair T_int_3 .unit))))))))
@[reducible] def Z1p:Ty:=.slice 132 Zeb
@[reducible] def T_u30:Ty:=.pair T_int_3 (.pair Z28 (.pair Z1k (.pair Z1d (.pair Z1m (.pair Z1p (.pair T_int_3 (.pair T_int_3 .unit)))))))
@[reducible] def Zq:Ty:=.pair T_int_3 (.pair Z28 (.pair Z1k (.pair Z1d (.pair Z1m (.pair Z1p (.pair T_int_3 (.pair T_int_3 .unit)))))))
@[reducible] def Zqa:Ty:=.pair T_int_3 (.pair Zj .unit)
@[reducible] def Zz:Ty:=.slice 151 Zqa
@[reducible] def T_u34:Ty:=.pair Zx (.pair Zz (.pair T_int_3 (.pair T_bool .unit)))
@[reducible] def Z9:Ty:=.pair Zx (.pair Zz (.pair T_int_3 (.pair T_bool .unit)))
@[reducible] def Z5:Ty:=.pair T_int_3 (.pair T_int_3 (.pair T_int_3 (.pair T_bool (.pair Zj (.pair Zj (.pair T_int_3 (.pair T_int_3 .unit)))))))
@[reducible] def Z7:Ty:=.slice 115 Z5
@[reducible] def Zl:Ty:=.pair T_str (.pair T_int_3 (.pair T_int_3 (.pair T_int_3 (.pair T_int_3 .unit))))
@[reducible] def Z6:Ty:=.slice 178 Zl
@[reducible] def Z4:Ty:=.pair T_int_3 (.pair T_str (.pair T_int_3 (.pair T_int_3 (.pair T_int_3 (.pair T_str (.pair T_int_3 (.pair T_int_3 .unit)))))))
@[reducible] def Zf:Ty:=.slice 122 Z4
@[reducible] def Zb:Ty:=.pair T_int_3 (.pair T_str (.pair T_int_3 (.pair T_int_3 (.pair T_int_3 (.pair T_int_3 (.pair T_int_3 .unit))))))
@[reducible] def Zk:Ty:=.slice 124 Zb
@[reducible] def Zp:Ty:=.pair T_int_3 (.pair T_int_3 (.pair T_int_3 (.pair T_int_3 .unit)))
@[reducible] def Z0:Ty:=.pair T_int_3 (.pair T_int_3 (.pair T_int_3 (.pair Z6 (.pair T_bool (.pair Zf (.pair Zk (.pair T_int_3 (.pair Zp .unit))))))))
@[reducible] def Zv:Ty:=.slice 63 Z0
@[reducible] def Za:Ty:=.pair T_int_3 (.pair Zj .unit)
@[reducible] def Zg:Ty:=.slice 129 Za
@[reducible] def Zd:Ty:=.pair T_int_3 (.pair T_int_3 (.pair T_int_3 (.pair T_int_3 (.pair T_int_3 (.pair T_int_3 (.pair T_int_3 (.pair T_int_3 (.pair T_int_3 .unit))))))))
@[reducible] def Zw:Ty:=.slice 118 Zd
@[reducible] def T_u40:Ty:=.pair T_int_3 (.pair Z9 (.pair Z7 (.pair Zv (.pair Zg (.pair Zw (.pair T_int_3 (.pair T_int_3 .unit)))))))
@[reducible] def Z1:Ty:=.pair T_int_3 (.pair Z9 (.pair Z7 (.pair Zv (.pair Zg (.pair Zw (.pair T_int_3 (.pair T_int_3 .unit)))))))
@[reducible] def T_u60:Ty:=.pair T_int_3 (.pair T_int_3 (.pair T_int_3 (.pair T_int_3 .unit)))
@[reducible] def T_u62:Ty:=.pair T_int_3 (.pair T_int_3 (.pair T_int_3 (.pair Z6 (.pair T_bool (.pair Zf (.pair Zk (.pair T_int_3 (.pair Zp .unit))))))))
@[reducible] def T_u72:Ty:=.pair Z1 (.pair T_int_3 .unit)
@[reducible] def Z29:Ty:=.pair Z1 (.pair T_int_3 .unit)
@[reducible] def T_u91:Ty:=.pair T_int_3 (.pair T_int_3 (.pair T_int_3 (.pair T_bool (.pair Zj (.pair Zj (.pair T_int_3 (.pair T_int_3 .unit)))))))
@[reducible] def T_u98:Ty:=.pair T_int_3 (.pair T_int_3 (.pair T_int_3 (.pair Z1v (.pair T_bool (.pair Z1f (.pair Z1l (.pair T_int_3 (.pair Zbb .unit))))))))
@[reducible] def T_u101:Ty:=.pair T_int_3 (.pair Zj .unit)
@[reducible] def T_u107:Ty:=.pair T_int_3 (.pair T_str (.pair T_int_3 (.pair T_str (.pair T_int_3 (.pair T_int_3 .unit)))))
@[reducible] def Zt:Ty:=.pair T_int_3 (.pair T_str (.pair T_int_3 (.pair T_str (.pair T_int_3 (.pair T_int_3 .unit)))))
@[reducible] def T_u109:Ty:=.pair Zt (.pair T_int_3 (.pair T_int_3 .unit))
@[reducible] def Z1a:Ty:=.pair Zt (.pair T_int_3 (.pair T_int_3 .unit))
@[reducible] def T_u117:Ty:=.pair T_int_3 (.pair T_int_3 (.pair T_int_3 (.pair T_int_3 (.pair T_int_3 (.pair T_int_3 (.pair T_int_3 (.pair T_int_3 (.pair T_int_3 .unit))))))))
@[reducible] def T_u121:Ty:=.pair T_int_3 (.pair T_str (.pair T_int_3 (.pair T_int_3 (.pair T_int_3 (.pair T_str (.pair T_int_3 (.pair T_int_3 .unit)))))))
@[reducible] def T_u123:Ty:=.pair T_int_3 (.pair T_str (.pair T_int_3 (.pair T_int_3 (.pair T_int_3 (.pair T_int_3 (.pair T_int_3 .unit))))))
@[reducible] def T_u150:Ty:=.pair T_int_3 (.pair Zj .unit)
@[reducible] def T_u177:Ty:=.pair T_str (.pair T_int_3 (.pair T_int_3 (.pair T_int_3 (.pair T_int_3 .unit))))
@[reducible] def T_u195:Ty:=.pair T_int_3 (.pair T_int_3 (.pair T_int_3 (.pair T_str .unit)))
@[reducible] def Z3t:Ty:=.pair T_int_3 (.pair T_int_3 (.pair T_int_3 (.pair T_str .unit)))
@[reducible] def Ze1:Ty:=.slice 3 T_int_3
@[reducible] def Z30:Ty:=.slice 9 T_str
@[reducible] def T_arr4_int:Ty:=.pair T_int_3 (.pair T_int_3 (.pair T_int_3 (.pair T_int_3 .unit)))
@[reducible] def T_u64_235:Ty:=.int .u64
@[reducible] def T_u32:Ty:=.int .u32
@[reducible] def T_u268:Ty:=.pair T_u8 (.pair T_u8 .unit)
@[reducible] def Zgs:Ty:=.pair T_u8 (.pair T_u8 .unit)
@[reducible] def T_u64_272:Ty:=.int .u64
def tab:List (Nat × TI):=[(2,⟨T_int,8,[],false,none⟩),(3,⟨T_int_3,8,[],false,none⟩),(4,⟨T_bool,1,[],false,none⟩),(5,⟨T_u8,1,[],false,none⟩),(6,⟨Z3s,1,[],false,none⟩),(7,⟨T_u7,24,[(0,T_int),(1,T_int_3),(2,T_bool),(3,Z3s)],false,none⟩),(8,⟨T_runtime_boundsError,24,[(0,T_int),(1,T_int_3),(2,T_bool),(3,Z3s)],false,none⟩),(9,⟨T_str,16,[],false,none⟩),(10,⟨T_runtime_errorString,16,[],false,none⟩),(11,⟨T_runtime_plainError,16,[],false,none⟩),(12,⟨T_u64,8,[],false,none⟩),(13,⟨T_u13,24,[(0,T_str),(1,T_u64)],false,none⟩),(14,⟨T_runtime_errorAddressString,24,[(0,T_str),(1,T_u64)],false,none⟩),(21,⟨T_i32,4,[],false,none⟩),(22,⟨Zx,24,[],false,none⟩),(23,⟨Z1u,24,[],false,none⟩),(24,⟨T_u24,64,[(0,Zx),(1,Z1u),(2,T_int_3),(3,T_bool)],false,none⟩),(25,⟨Z28,64,[(0,Zx),(1,Z1u),(2,T_int_3),(3,T_bool)],false,none⟩),(26,⟨Z1k,24,[],false,none⟩),(27,⟨Z1d,24,[],false,none⟩),(28,⟨Z1m,24,[],false,none⟩),(29,⟨Z1p,24,[],false,none⟩),(30,⟨T_u30,184,[(0,T_int_3),(1,Z28),(5,Z1k),(6,Z1d),(7,Z1m),(8,Z1p),(9,T_int_3),(10,T_int_3)],false,none⟩),(31,⟨Zq,184,[(0,T_int_3),(1,Z28),(5,Z1k),(6,Z1d),(7,Z1m),(8,Z1p),(9,T_int_3),(10,T_int_3)],false,none⟩),(33,⟨Zz,24,[],false,none⟩),(34,⟨T_u34,64,[(0,Zx),(1,Zz),(2,T_int_3),(3,T_bool)],false,none⟩),(35,⟨Z9,64,[(0,Zx),(1,Zz),(2,T_int_3),(3,T_bool)],false,none⟩),(36,⟨Z7,24,[],false,none⟩),(37,⟨Zv,24,[],false,none⟩),(38,⟨Zg,24,[],false,none⟩),(39,⟨Zw,24,[],false,none⟩),(40,⟨T_u40,184,[(0,T_int_3),(1,Z9),(5,Z7),(6,Zv),(7,Zg),(8,Zw),(9,T_int_3),(10,T_int_3)],false,none⟩),(41,⟨Z1,184,[(0,T_int_3),(1,Z9),(5,Z7),(6,Zv),(7,Zg),(8,Zw),(9,T_int_3),(10,T_int_3)],false,none⟩),(57,⟨Z6,24,[],false,none⟩),(58,⟨Zf,24,[],false,none⟩),(59,⟨Zk,24,[],false,none⟩),(60,⟨T_u60,32,[(0,T_int_3),(1,T_int_3),(2,T_int_3),(3,T_int_3)],false,none⟩),(61,⟨Zp,32,[(0,T_int_3),(1,T_int_3),(2,T_int_3),(3,T_int_3)],true,none⟩),(62,⟨T_u62,144,[(0,T_int_3),(1,T_int_3),(2,T_int_3),(3,Z6),(4,T_bool),(5,Zf),(6,Zk),(7,T_int_3),(8,Zp)],false,none⟩),(63,⟨Z0,144,[(0,T_int_3),(1,T_int_3),(2,T_int_3),(3,Z6),(4,T_bool),(5,Zf),(6,Zk),(7,T_int_3),(8,Zp)],false,none⟩),(72,⟨T_u72,192,[(0,Z1),(11,T_int_3)],false,none⟩),(73,⟨Z29,192,[(0,Z1),(11,T_int_3)],false,none⟩),(90,⟨Zj,24,[],false,none⟩),(91,⟨T_u91,96,[(0,T_int_3),(1,T_int_3),(2,T_int_3),(3,T_bool),(4,Zj),(5,Zj),(6,T_int_3),(7,T_int_3)],false,none⟩),(92,⟨Zba,96,[(0,T_int_3),(1,T_int_3),(2,T_int_3),(3,T_bool),(4,Zj),(5,Zj),(6,T_int_3),(7,T_int_3)],false,none⟩),(94,⟨Z1v,24,[],false,none⟩),(95,⟨Z1f,24,[],false,none⟩),(96,⟨Z1l,24,[],false,none⟩),(97,⟨Zbb,32,[(0,T_int_3),(1,T_int_3),(2,T_int_3),(3,T_int_3)],false,none⟩),(98,⟨T_u98,144,[(0,T_int_3),(1,T_int_3),(2,T_int_3),(3,Z1v),(4,T_bool),(5,Z1f),(6,Z1l),(7,T_int_3),(8,Zbb)],false,none⟩),(99,⟨Z1i,144,[(0,T_int_3),(1,T_int_3),(2,T_int_3),(3,Z1v),(4,T_bool),(5,Z1f),(6,Z1l),(7,T_int_3),(8,Zbb)],false,none⟩),(101,⟨T_u101,32,[(0,T_int_3),(1,Zj)],false,none⟩),(102,⟨Zbc,32,[(0,T_int_3),(1,Zj)],false,none⟩),(107,⟨T_u107,64,[(0,T_int_3),(1,T_str),(2,T_int_3),(3,T_str),(4,T_int_3),(5,T_int_3)],false,none⟩),(108,⟨Zt,64,[(0,T_int_3),(1,T_str),(2,T_int_3),(3,T_str),(4,T_int_3),(5,T_int_3)],false,none⟩),(109,⟨T_u109,80,[(0,Zt),(6,T_int_3),(7,T_int_3)],false,none⟩),(110,⟨Z1a,80,[(0,Zt),(6,T_int_3),(7,T_int_3)],false,none⟩),(115,⟨Z5,96,[(0,T_int_3),(1,T_int_3),(2,T_int_3),(3,T_bool),(4,Zj),(5,Zj),(6,T_int_3),(7,T_int_3)],false,none⟩),(117,⟨T_u117,72,[(0,T_int_3),(1,T_int_3),(2,T_int_3),(3,T_int_3),(4,T_int_3),(5,T_int_3),(6,T_int_3),(7,T_int_3),(8,T_int_3)],false,none⟩),(118,⟨Zd,72,[(0,T_int_3),(1,T_int_3),(2,T_int_3),(3,T_int_3),(4,T_int_3),(5,T_int_3),(6,T_int_3),(7,T_int_3),(8,T_int_3)],false,none⟩),(121,⟨T_u121,80,[(0,T_int_3),(1,T_str),(2,T_int_3),(3,T_int_3),(4,T_int_3),(5,T_str),(6,T_int_3),(7,T_int_3)],false,none⟩),(122,⟨Z4,80,[(0,T_int_3),(1,T_str),(2,T_int_3),(3,T_int_3),(4,T_int_3),(5,T_str),(6,T_int_3),(7,T_int_3)],true,none⟩),(123,⟨T_u123,64,[(0,T_int_3),(1,T_str),(2,T_int_3),(3,T_int_3),(4,T_int_3),(5,T_int_3),(6,T_int_3)],false,none⟩),(124,⟨Zb,64,[(0,T_int_3),(1,T_str),(2,T_int_3),(3,T_int_3),(4,T_int_3),(5,T_int_3),(6,T_int_3)],true,none⟩),(129,⟨Za,32,[(0,T_int_3),(1,Zj)],false,none⟩),(132,⟨Zeb,72,[(0,T_int_3),(1,T_int_3),(2,T_int_3),(3,T_int_3),(4,T_int_3),(5,T_int_3),(6,T_int_3),(7,T_int_3),(8,T_int_3)],false,none⟩),(150,⟨T_u150,32,[(0,T_int_3),(1,Zj)],false,none⟩),(151,⟨Zqa,32,[(0,T_int_3),(1,Zj)],false,none⟩),(153,⟨Zdl,32,[(0,T_int_3),(1,Zj)],false,none⟩),(177,⟨T_u177,48,[(0,T_str),(1,T_int_3),(2,T_int_3),(3,T_int_3),(4,T_int_3)],false,none⟩),(178,⟨Zl,48,[(0,T_str),(1,T_int_3),(2,T_int_3),(3,T_int_3),(4,T_int_3)],true,none⟩),(188,⟨Zce,48,[(0,T_str),(1,T_int_3),(2,T_int_3),(3,T_int_3),(4,T_int_3)],false,none⟩),(190,⟨Z6n,80,[(0,T_int_3),(1,T_str),(2,T_int_3),(3,T_int_3),(4,T_int_3),(5,T_str),(6,T_int_3),(7,T_int_3)],false,none⟩),(192,⟨Z93,64,[(0,T_int_3),(1,T_str),(2,T_int_3),(3,T_int_3),(4,T_int_3),(5,T_int_3),(6,T_int_3)],false,none⟩),(195,⟨T_u195,40,[(0,T_int_3),(1,T_int_3),(2,T_int_3),(3,T_str)],false,none⟩),(196,⟨Z3t,40,[(0,T_int_3),(1,T_int_3),(2,T_int_3),(3,T_str)],false,none⟩),(207,⟨Ze1,24,[],false,none⟩),(211,⟨Z30,24,[],false,none⟩),(215,⟨T_arr4_int,32,[],false,some (4,3,T_int_3)⟩),(235,⟨T_u64_235,8,[],false,none⟩),(260,⟨T_u32,4,[],false,none⟩),(268,⟨T_u268,2,[(0,T_u8),(1,T_u8)],false,none⟩),(269,⟨Zgs,2,[(0,T_u8),(1,T_u8)],false,none⟩),(272,⟨T_u64_272,8,[],false,none⟩)]
theorem tabOk:(tab.all fun p=>tiOk Tryz.prog p.1 p.2) = true:=by kernel_rfl
noncomputable def G:Prg:=⟨Tryz.prog,tab,tabOk,by kernel_rfl⟩
open Go.Shelf
theorem Zev:fnOk G 227 Tryz.f227:=⟨Tryz.func227,by kernel_rfl⟩
def lays156_ren:Go.Shelf.Ren:=⟨fun | 156=>227 | 165=>243 | 166=>244 | 169=>245 | 240=>254 | 241=>255 | 276=>260 | 277=>261 | n=>n,fun | 31=>211 | 9=>9 | 3=>3 | 4=>4 | 0=>0 | 20=>20 | 72=>248 | 76=>251 | 70=>246 | 37=>90 | 75=>250 | 127=>259 | 164=>264 | 5=>5 | 80=>253 | n=>n,fun n=>n⟩
theorem lays156:Lays.n156 Tryz.prog lays156_ren where
 mixed:=by kernel_rfl
 f156:=Tryz.func227.trans (congrArg some (by kernel_rfl))
 f165:=Tryz.func243.trans (congrArg some (by kernel_rfl))
 f166:=Tryz.func244.trans (congrArg some (by kernel_rfl))
 f169:=Tryz.func245.trans (congrArg some (by kernel_rfl))
 f240:=Tryz.func254.trans (congrArg some (by kernel_rfl))
 f241:=Tryz.func255.trans (congrArg some (by kernel_rfl))
 f276:=Tryz.func260.trans (congrArg some (by kernel_rfl))
 f277:=Tryz.func261.trans (congrArg some (by kernel_rfl))
 t0:=Tryz.underlying0
 a0:=Tryz.isAgg0
 z0:=Tryz.sizeOf0
 v0:=Tryz.zeroValue0
 t3:=Tryz.underlying3
 a3:=Tryz.isAgg3
 z3:=Tryz.sizeOf3
 v3:=Tryz.zeroValue3
 t4:=Tryz.underlying4
 a4:=Tryz.isAgg4
 z4:=Tryz.sizeOf4
 v4:=Tryz.zeroValue4
 t9:=Tryz.underlying9
 a9:=Tryz.isAgg9
 z9:=Tryz.sizeOf9
 v9:=Tryz.zeroValue9
 t20:=Tryz.underlying20
 a20:=Tryz.isAgg20
 z20:=Tryz.sizeOf20
 v20:=Tryz.zeroValue20
 t31:=Tryz.underlying211
 a31:=Tryz.isAgg211
 z31:=Tryz.sizeOf211
 v31:=Tryz.zeroValue211
 t37:=Tryz.underlying90
 a37:=Tryz.isAgg90
 z37:=Tryz.sizeOf90
 v37:=Tryz.zeroValue90
 t70:=Tryz.underlying246
 a70:=Tryz.isAgg246
 z70:=Tryz.sizeOf246
 v70:=Tryz.zeroValue246
 t72:=Tryz.underlying248
 a72:=Tryz.isAgg248
 z72:=Tryz.sizeOf248
 v72:=Tryz.zeroValue248
 t75:=Tryz.underlying250
 a75:=Tryz.isAgg250
 z75:=Tryz.sizeOf250
 v75:=Tryz.zeroValue250
 t76:=Tryz.underlying251
 a76:=Tryz.isAgg251
 z76:=Tryz.sizeOf251
 v76:=Tryz.zeroValue251
 t127:=Tryz.underlying259
 a127:=Tryz.isAgg259
 z127:=Tryz.sizeOf259
 v127:=Tryz.zeroValue259
 t164:=Tryz.underlying264
 a164:=Tryz.isAgg264
 z164:=Tryz.sizeOf264
 v164:=Tryz.zeroValue264
theorem extra156:Builder.Extra Tryz.prog lays156_ren where
 sizeBuilder:=by kernel_rfl
 liesBuilder:=by kernel_rfl
 t5:=Tryz.underlying5
 a5:=Tryz.isAgg5
 z5:=Tryz.sizeOf5
 v5:=Tryz.zeroValue5
 infoByte:=by kernel_rfl
 cellsByte:=by kernel_rfl
 sizeByte:=by kernel_rfl
 neB5:=by decide
theorem cells_str {w:World} {ok:Nat→Prop}:∀ {xs:List ByteArray} {css:List (List Value)},All2 (fun x r=>K w ok .str x r) xs css→∀ (j:Nat) (x:ByteArray),xs[j]? = some x→css.flatten[j]? = some (.string x)
 | [],[],_,j,x,h=>by simp at h
 | y :: xs,c :: css,h,j,x,hj=>by
  have h_gosem_cut:c = [.string y]:=h.1
  subst h_gosem_cut
  cases j with
  | zero=>simp at hj; subst hj; rfl
  | succ j=>simpa using cells_str h.2 j x (by simpa using hj)
theorem call227 (xs:List ByteArray) (sep:ByteArray) (c:Nat) (A:Option Addr) (w:World) (hc:xs.length≤c) (hN:xs.length≤1048576)
  (hcells:0 < xs.length→∃ ad,A = some ad∧ad.block < w.heap.size∧∀ (j:Nat) x,xs[j]? = some x→w.cell? (ad.add j) = some (.string x))
  (hlen:(Lib.join (xs.map (·.data.toList)) sep.data.toList).length≤1048576) :
  Calls Tryz.prog 227 #[.slice A xs.length c,.string sep] w fun e w'=>e = .returned (.string ⟨(Lib.join (xs.map (·.data.toList)) sep.data.toList).toArray⟩)∧RowKit.Below w.heap.size w w':=by
 match xs,hc,hN,hcells,hlen with
 | [],hc,hN,hcells,hlen =>
  refine (Any.strings_Join_none lays156 extra156 A c sep w).mono ?_
  rintro e w' ⟨rfl,rfl⟩
  exact ⟨rfl,RowKit.Below.refl _ _⟩
 | x :: xs,hc,hN,hcells,hlen =>
  obtain ⟨⟨b,o,s⟩,rfl,h_gosem_cut,h_gosem_cut_init⟩:=hcells (by simp)
  have hs:s = none:=by
   have h:=h_gosem_cut_init 0 x rfl
   cases s with
   | none=>rfl
   | some s =>
    simp only [Addr.add,if_pos,World.cell?] at h
    split at h <;> simp at h
  subst hs
  refine Any.strings_Join lays156 extra156 b o c (x :: xs) sep w ?_ h_gosem_cut (by omega) hc (by omega)
  intro j y hj
  have h:=h_gosem_cut_init j y hj
  unfold Addr.add at h
  split at h
  ·rename_i hj0; subst hj0; exact h
  ·exact h
noncomputable def joinS (xs:List ByteArray) (sep:ByteArray):Option ByteArray :=
 if xs.length≤1048576∧(Lib.join (xs.map (·.data.toList)) sep.data.toList).length≤1048576 then some ⟨(Lib.join (xs.map (·.data.toList)) sep.data.toList).toArray⟩ else none
noncomputable def Zfh (K:Nat):Ent G.P where
 f:=227
 args:=[Z30,T_str]
 one:=true
 t:=T_str
 fr:=true
 ow:=false
 g:=fun x=>joinS x.1 x.2.1
 ok:=fun x=>⟨⟨_,Zev.at_,Zev.body,Zev.name⟩,fun y hy w okA vs hok hv=>by
  match vs,hv with
  | [u,v],hv =>
   obtain ⟨xs,sep,z⟩:=x
   have h_gosem_cut_init:v = .string sep:=str_of_V hv.2.1
   obtain ⟨A,c,css,e_gosem_cut,e_gosem_cut_init,Z2r,Zk5,Z5p⟩:=slice_of_V hv.1
   have e_gosem_cut:u = .slice A (List.length xs) c:=e_gosem_cut
   subst h_gosem_cut_init; subst e_gosem_cut
   have hy:joinS xs sep = some y:=hy
   unfold joinS at hy
   split at hy
   ·rename_i hb
    injection hy with hy
    subst hy
    refine (call227 xs sep c A w e_gosem_cut_init hb.1 (fun hp=>?_) hb.2).mono ?_
    ·obtain ⟨ad,z1,z2,z3,z4⟩:=Z5p hp
     exact ⟨ad,z1,z3,fun j x hj=>z4 j _ (cells_str Zk5 j x hj)⟩
    ·rintro e w' ⟨rfl,hbel⟩
     exact ⟨_,rfl,⟨_,rfl,rfl⟩,(fun h=>by cases h),⟨hbel⟩⟩
   ·cases hy⟩
noncomputable def Ze2 (K:Nat) (x0:Z30.T) (x1:T_str.T):Option T_str.T:=(Zfh K).g (x0,x1,())
theorem Ze2.eq (K:Nat) (x0:Z30.T) (x1:T_str.T):Ze2 K x0 x1 = joinS x0 x1:=rfl
set_option maxHeartbeats 1000000 in
theorem call249 (s:ByteArray) (c:Int) (w:World) :
  Calls Tryz.prog 249 #[.string s,.int .u8 c] w fun e w'=>e = .returned (.int .i64 (Lib.indexByte s.data.toList c.toNat.toUInt8))∧w' = w:=by
 go_enter Tryz.func249,Tryz.ntmps249
 go_wp2
 rw [run_callFunc_extern Tryz.func257 (by kernel_rfl) (by kernel_rfl) (by kernel_rfl) (e:=Extern.BytealgIndexByte.indexByte) (by kernel_rfl),Lib.run_indexByteString]
 simp only [Result.andThen]
 rw [Oper.upon_value]
 go_wp2
 go_ret
 exact ⟨rfl,rfl⟩
set_option maxHeartbeats 1000000 in
theorem call239 (s:ByteArray) (c:UInt8) (w:World) :
  Calls Tryz.prog 239 #[.string s,.string ⟨#[c]⟩] w fun e w'=>e = .returned (.int .i64 (Lib.countByte s.data.toList c))∧w' = w:=by
 go_enter Tryz.func239,Tryz.ntmps239
 go_wp2
 rw [run_callFunc_extern Tryz.func248 (by kernel_rfl) (by kernel_rfl) (by kernel_rfl) (e:=Extern.BytealgCount.count) (by kernel_rfl),Lib.run_countString]
 simp only [Result.andThen]
 rw [Oper.upon_value]
 go_wp2
 go_ret
 exact ⟨rfl,rfl⟩
theorem Z63:fnOk G 249 Tryz.f249:=⟨Tryz.func249,by kernel_rfl⟩
noncomputable def Z9y (K:Nat):Ent G.P where
 f:=249
 args:=[T_str,T_u8]
 one:=true
 t:=T_int_3
 fr:=true
 ow:=false
 g:=fun x=>some (Lib.indexByte x.1.data.toList x.2.1.toNat.toUInt8)
 ok:=fun x=>⟨⟨_,Z63.at_,Z63.body,Z63.name⟩,fun y hy w okA vs hok hv=>by
  match vs,hv with
  | [u,v],hv =>
   have h_gosem_cut:=str_of_V hv.1
   have h_gosem_cut_init:=int_of_V hv.2.1
   subst h_gosem_cut; subst h_gosem_cut_init
   injection hy with hy
   subst hy
   refine (call249 _ _ w).mono ?_
   rintro e w' ⟨rfl,rfl⟩
   exact ⟨_,rfl,⟨_,rfl,rfl⟩,(fun h=>by cases h),⟨RowKit.Below.refl _ _⟩⟩⟩
noncomputable def Z4l (K:Nat) (x0:T_str.T) (x1:T_u8.T):Option T_int_3.T:=(Z9y K).g (x0,x1,())
theorem Z4l.eq (K:Nat) (x0:T_str.T) (x1:T_u8.T):Z4l K x0 x1 = some (Lib.indexByte x0.data.toList x1.toNat.toUInt8):=rfl
theorem Zel:fnOk G 239 Tryz.f239:=⟨Tryz.func239,by kernel_rfl⟩
def count1 (s p:ByteArray):Option Int:=match p with
 | ⟨⟨[c]⟩⟩=>some (Lib.countByte s.data.toList c:Int)
 | _=>none
noncomputable def Zew (K:Nat):Ent G.P where
 f:=239
 args:=[T_str,T_str]
 one:=true
 t:=T_int_3
 fr:=true
 ow:=false
 g:=fun x=>count1 x.1 x.2.1
 ok:=fun x=>⟨⟨_,Zel.at_,Zel.body,Zel.name⟩,fun y hy w okA vs hok hv=>by
  match vs,hv with
  | [u,v],hv =>
   obtain ⟨s,p,z⟩:=x
   have h_gosem_cut:=str_of_V hv.1
   have h_gosem_cut_init:=str_of_V hv.2.1
   have h_gosem_cut:u = .string s:=h_gosem_cut
   have h_gosem_cut_init:v = .string p:=h_gosem_cut_init
   subst h_gosem_cut; subst h_gosem_cut_init
   have hy:count1 s p = some y:=hy
   unfold count1 at hy
   split at hy
   ·injection hy with hy
    subst hy
    refine (call239 _ _ w).mono ?_
    rintro e w' ⟨rfl,rfl⟩
    exact ⟨_,rfl,⟨_,rfl,rfl⟩,(fun h=>by cases h),⟨RowKit.Below.refl _ _⟩⟩
   ·cases hy⟩
noncomputable def Zdh (K:Nat) (x0:T_str.T) (x1:T_str.T):Option T_int_3.T:=(Zew K).g (x0,x1,())
theorem Zdh.eq (K:Nat) (x0:T_str.T) (x1:T_str.T):Zdh K x0 x1 = count1 x0 x1:=rfl
def shf0:Sh:=(.ow (.ow .fz))
def shf1:Sh:=(.pr .fz (.pr (.ow .fz) .fz))
def shf2:Sh:=(.ow shf1)
def shf3:Sh:=(.pr shf0 (.pr shf2 .fz))
def shf4:Sh:=(.pr .fz (.pr .fz (.pr .fz (.pr .fz (.pr (.ow .fz) (.pr (.ow .fz) .fz))))))
def shf5:Sh:=(.ow shf4)
def shf6:Sh:=(.pr .fz (.pr .fz (.pr .fz (.pr (.ow .fz) (.pr .fz (.pr (.ow .fz) (.pr (.ow .fz) .fz)))))))
def shf7:Sh:=(.ow shf6)
def shf8:Sh:=(.pr .fz (.pr shf3 (.pr shf5 (.pr shf7 (.pr shf2 (.pr (.ow .fz) .fz))))))
def shf9:Sh:=(.pr shf8 .fz)
theorem Zm7:fnOk G 107 Tryz.f107:=⟨Tryz.func107,by kernel_rfl⟩
def tl1:Nat→List Nat:=fun _=>[]
noncomputable def Z95 (K:Nat):Ent G.P:=mkEnt G 107 Tryz.f107 Zm7 [Zj,T_int] true T_int true [] K tl1 tl1
noncomputable def Z4b (K:Nat) (x0:Zj.T) (x1:T_int.T):Option T_int.T:=(Z95 K).g (x0,x1,())
theorem Zlc:fnOk G 51 Tryz.f51:=⟨Tryz.func51,by kernel_rfl⟩
def tl2:Nat→List Nat:=fun i=>if i = 5 then [2,3,4,6,7,8,9,10,11,12,13,14,15,16,17,18,19,20,21,22,23,24,25,26] else []
def tl3:Nat→List Nat:=fun i=>if i = 5 then [] else []
noncomputable def Zi5 (K:Nat):Ent G.P:=mkEnt G 51 Tryz.f51 Zlc [Zx,T_int] true T_int true [Z95 K] K tl2 tl3
noncomputable def Zas (K:Nat) (x0:Zx.T) (x1:T_int.T):Option T_int.T:=(Zi5 K).g (x0,x1,())
noncomputable def Z79 (K:Nat) (k:Nat) (x0:Zx.T) (v1:T_int.T) (v5:T_int.T):Option T_int.T:=resume (envOf G [Z95 K] K tl2 tl3) dokB true T_int true Tryz.f51 [1,1,1,0,1,0] k (mkSt 27 [(0,.d Zx false x0),(1,.d T_int true v1),(5,.d T_int true v5)] [])
theorem Zr6:fnOk G 108 Tryz.f108:=⟨Tryz.func108,by kernel_rfl⟩
noncomputable def Zij (K:Nat):Ent G.P:=mkEnt G 108 Tryz.f108 Zr6 [Za,T_int] true T_int true [Z95 K] K tl1 tl1
noncomputable def Zda (K:Nat) (x0:Za.T) (x1:T_int.T):Option T_int.T:=(Zij K).g (x0,x1,())
theorem Zqb:fnOk G 52 Tryz.f52:=⟨Tryz.func52,by kernel_rfl⟩
noncomputable def Zk8 (K:Nat):Ent G.P:=mkEnt G 52 Tryz.f52 Zqb [Z1u,T_int] true T_int true [Zij K] K tl2 tl3
noncomputable def Zbd (K:Nat) (x0:Z1u.T) (x1:T_int.T):Option T_int.T:=(Zk8 K).g (x0,x1,())
noncomputable def Z96 (K:Nat) (k:Nat) (x0:Z1u.T) (v1:T_int.T) (v5:T_int.T):Option T_int.T:=resume (envOf G [Zij K] K tl2 tl3) dokB true T_int true Tryz.f52 [1,1,1,0,1,0] k (mkSt 27 [(0,.d Z1u false x0),(1,.d T_int true v1),(5,.d T_int true v5)] [])
theorem Zo8:fnOk G 14 Tryz.f14:=⟨Tryz.func14,by kernel_rfl⟩
noncomputable def Zjs (K:Nat):Ent G.P:=mkEnt G 14 Tryz.f14 Zo8 [Z28,T_int] true T_int true [Zi5 K,Zk8 K] K tl1 tl1
noncomputable def Zcl (K:Nat) (x0:Z28.T) (x1:T_int.T):Option T_int.T:=(Zjs K).g (x0,x1,())
theorem Zo9:fnOk G 53 Tryz.f53:=⟨Tryz.func53,by kernel_rfl⟩
noncomputable def Zgt (K:Nat):Ent G.P:=mkEnt G 53 Tryz.f53 Zo9 [Z5,T_int] true T_int true [Z95 K] K tl1 tl1
noncomputable def Zab (K:Nat) (x0:Z5.T) (x1:T_int.T):Option T_int.T:=(Zgt K).g (x0,x1,())
theorem Zm8:fnOk G 15 Tryz.f15:=⟨Tryz.func15,by kernel_rfl⟩
noncomputable def Ziw (K:Nat):Ent G.P:=mkEnt G 15 Tryz.f15 Zm8 [Z1k,T_int] true T_int true [Zgt K] K tl2 tl3
noncomputable def Z97 (K:Nat) (x0:Z1k.T) (x1:T_int.T):Option T_int.T:=(Ziw K).g (x0,x1,())
noncomputable def Z7p (K:Nat) (k:Nat) (x0:Z1k.T) (v1:T_int.T) (v5:T_int.T):Option T_int.T:=resume (envOf G [Zgt K] K tl2 tl3) dokB true T_int true Tryz.f15 [1,1,1,0,1,0] k (mkSt 27 [(0,.d Z1k false x0),(1,.d T_int true v1),(5,.d T_int true v5)] [])
theorem Zr7:fnOk G 155 Tryz.f155:=⟨Tryz.func155,by kernel_rfl⟩
noncomputable def Zik (K:Nat):Ent G.P:=mkEnt G 155 Tryz.f155 Zr7 [Zl,T_int] true T_int true [] K tl1 tl1
noncomputable def Zdb (K:Nat) (x0:Zl.T) (x1:T_int.T):Option T_int.T:=(Zik K).g (x0,x1,())
theorem Zqc:fnOk G 109 Tryz.f109:=⟨Tryz.func109,by kernel_rfl⟩
noncomputable def Zk9 (K:Nat):Ent G.P:=mkEnt G 109 Tryz.f109 Zqc [Z1v,T_int] true T_int true [Zik K] K tl2 tl3
noncomputable def Zdm (K:Nat) (x0:Z1v.T) (x1:T_int.T):Option T_int.T:=(Zk9 K).g (x0,x1,())
noncomputable def Z98 (K:Nat) (k:Nat) (x0:Z1v.T) (v1:T_int.T) (v5:T_int.T):Option T_int.T:=resume (envOf G [Zik K] K tl2 tl3) dokB true T_int true Tryz.f109 [1,1,1,0,1,0] k (mkSt 27 [(0,.d Z1v false x0),(1,.d T_int true v1),(5,.d T_int true v5)] [])
theorem Zm9:fnOk G 156 Tryz.f156:=⟨Tryz.func156,by kernel_rfl⟩
noncomputable def Zfi (K:Nat):Ent G.P:=mkEnt G 156 Tryz.f156 Zm9 [Z4,T_int] true T_int true [] K tl1 tl1
noncomputable def Z99 (K:Nat) (x0:Z4.T) (x1:T_int.T):Option T_int.T:=(Zfi K).g (x0,x1,())
theorem Zld:fnOk G 110 Tryz.f110:=⟨Tryz.func110,by kernel_rfl⟩
noncomputable def Zi6 (K:Nat):Ent G.P:=mkEnt G 110 Tryz.f110 Zld [Z1f,T_int] true T_int true [Zfi K] K tl2 tl3
noncomputable def Z8m (K:Nat) (x0:Z1f.T) (x1:T_int.T):Option T_int.T:=(Zi6 K).g (x0,x1,())
noncomputable def Z7a (K:Nat) (k:Nat) (x0:Z1f.T) (v1:T_int.T) (v5:T_int.T):Option T_int.T:=resume (envOf G [Zfi K] K tl2 tl3) dokB true T_int true Tryz.f110 [1,1,1,0,1,0] k (mkSt 27 [(0,.d Z1f false x0),(1,.d T_int true v1),(5,.d T_int true v5)] [])
theorem Zoa:fnOk G 157 Tryz.f157:=⟨Tryz.func157,by kernel_rfl⟩
noncomputable def Zgu (K:Nat):Ent G.P:=mkEnt G 157 Tryz.f157 Zoa [Zb,T_int] true T_int true [] K tl1 tl1
noncomputable def Zac (K:Nat) (x0:Zb.T) (x1:T_int.T):Option T_int.T:=(Zgu K).g (x0,x1,())
theorem Zma:fnOk G 111 Tryz.f111:=⟨Tryz.func111,by kernel_rfl⟩
noncomputable def Zix (K:Nat):Ent G.P:=mkEnt G 111 Tryz.f111 Zma [Z1l,T_int] true T_int true [Zgu K] K tl2 tl3
noncomputable def Z7q (K:Nat) (x0:Z1l.T) (x1:T_int.T):Option T_int.T:=(Zix K).g (x0,x1,())
noncomputable def Z7r (K:Nat) (k:Nat) (x0:Z1l.T) (v1:T_int.T) (v5:T_int.T):Option T_int.T:=resume (envOf G [Zgu K] K tl2 tl3) dokB true T_int true Tryz.f111 [1,1,1,0,1,0] k (mkSt 27 [(0,.d Z1l false x0),(1,.d T_int true v1),(5,.d T_int true v5)] [])
theorem Zmb:fnOk G 54 Tryz.f54:=⟨Tryz.func54,by kernel_rfl⟩
noncomputable def Zfj (K:Nat):Ent G.P:=mkEnt G 54 Tryz.f54 Zmb [Z1i,T_int] true T_int true [Zk9 K,Zi6 K,Zix K] K tl1 tl1
noncomputable def Z9a (K:Nat) (x0:Z1i.T) (x1:T_int.T):Option T_int.T:=(Zfj K).g (x0,x1,())
theorem Zle:fnOk G 16 Tryz.f16:=⟨Tryz.func16,by kernel_rfl⟩
noncomputable def Zi7 (K:Nat):Ent G.P:=mkEnt G 16 Tryz.f16 Zle [Z1d,T_int] true T_int true [Zfj K] K tl2 tl3
noncomputable def Z6o (K:Nat) (x0:Z1d.T) (x1:T_int.T):Option T_int.T:=(Zi7 K).g (x0,x1,())
noncomputable def Z7b (K:Nat) (k:Nat) (x0:Z1d.T) (v1:T_int.T) (v5:T_int.T):Option T_int.T:=resume (envOf G [Zfj K] K tl2 tl3) dokB true T_int true Tryz.f16 [1,1,1,0,1,0] k (mkSt 27 [(0,.d Z1d false x0),(1,.d T_int true v1),(5,.d T_int true v5)] [])
theorem Zob:fnOk G 55 Tryz.f55:=⟨Tryz.func55,by kernel_rfl⟩
noncomputable def Zgv (K:Nat):Ent G.P:=mkEnt G 55 Tryz.f55 Zob [Za,T_int] true T_int true [Z95 K] K tl1 tl1
noncomputable def Zad (K:Nat) (x0:Za.T) (x1:T_int.T):Option T_int.T:=(Zgv K).g (x0,x1,())
theorem Zmc:fnOk G 17 Tryz.f17:=⟨Tryz.func17,by kernel_rfl⟩
noncomputable def Ziy (K:Nat):Ent G.P:=mkEnt G 17 Tryz.f17 Zmc [Z1m,T_int] true T_int true [Zgv K] K tl2 tl3
noncomputable def Z6h (K:Nat) (x0:Z1m.T) (x1:T_int.T):Option T_int.T:=(Ziy K).g (x0,x1,())
noncomputable def Z7s (K:Nat) (k:Nat) (x0:Z1m.T) (v1:T_int.T) (v5:T_int.T):Option T_int.T:=resume (envOf G [Zgv K] K tl2 tl3) dokB true T_int true Tryz.f17 [1,1,1,0,1,0] k (mkSt 27 [(0,.d Z1m false x0),(1,.d T_int true v1),(5,.d T_int true v5)] [])
theorem Zmd:fnOk G 18 Tryz.f18:=⟨Tryz.func18,by kernel_rfl⟩
noncomputable def Ziz (K:Nat):Ent G.P:=mkEnt G 18 Tryz.f18 Zmd [Z1p,T_int] true T_int true [] K tl1 tl1
noncomputable def Z5q (K:Nat) (x0:Z1p.T) (x1:T_int.T):Option T_int.T:=(Ziz K).g (x0,x1,())
theorem Zme:fnOk G 5 Tryz.f5:=⟨Tryz.func5,by kernel_rfl⟩
noncomputable def Z5p (K:Nat):Ent G.P:=mkEnt G 5 Tryz.f5 Zme [Zq,T_int] true T_int true [Zjs K,Ziw K,Zi7 K,Ziy K,Ziz K] K tl1 tl1
noncomputable def Z9b (K:Nat) (x0:Zq.T) (x1:T_int.T):Option T_int.T:=(Z5p K).g (x0,x1,())
theorem Zmf:fnOk G 124 Tryz.f124:=⟨Tryz.func124,by kernel_rfl⟩
def tl4:Nat→List Nat:=fun i=>if i = 3 then [1,2,5,6,7,8,9,10,11,12,13,14,15,16,17,18,19,20,21] else []
def tl5:Nat→List Nat:=fun i=>if i = 3 then [2] else []
noncomputable def Z9c (K:Nat):SEnt G.P:=mkSEnt G 124 Tryz.f124 Zmf [Zj] (.ow .fz) Zj [] [] [] [] [] ⟨[7],[],[]⟩ K tl4 tl5
noncomputable def Z4z (K:Nat) (x0:Zj.T):Option Zj.T:=(Z9c K).g (x0,())
noncomputable def Z7t (K:Nat) (k:Nat) (x0:Zj.T) (v4:T_int.T) (o7:Zj.T):Option Zj.T:=resumeS (envT G [] [] [] [] [] ⟨[7],[],[]⟩ K tl4 tl5) dokB (.ow .fz) Zj Tryz.f124 [1,1,0,1,0] k (mkSt 22 [(0,.d Zj false x0),(3,.vw 7 [] 0 Zj),(4,.d T_int true v4)] [(7,.tr false (.ow .fz) Zj o7)])
theorem Zlf:fnOk G 66 Tryz.f66:=⟨Tryz.func66,by kernel_rfl⟩
def tl6:Nat→List Nat:=fun i=>if i = 3 then [1,2,5,6,7,8,9,10,11,12,13,14,15,16,17,18,19,20,21,22] else []
def tl7:Nat→List Nat:=fun i=>if i = 3 then [2,20] else []
noncomputable def Zi8 (K:Nat):SEnt G.P:=mkSEnt G 66 Tryz.f66 Zlf [Zx] shf0 Zx [] [Z9c K] [] [] [] ⟨[7],[],[]⟩ K tl6 tl7
noncomputable def Zat (K:Nat) (x0:Zx.T):Option Zx.T:=(Zi8 K).g (x0,())
noncomputable def Z7c (K:Nat) (k:Nat) (x0:Zx.T) (v4:T_int.T) (o7:Zx.T):Option Zx.T:=resumeS (envT G [] [Z9c K] [] [] [] ⟨[7],[],[]⟩ K tl6 tl7) dokB shf0 Zx Tryz.f66 [1,1,0,1,0] k (mkSt 23 [(0,.d Zx false x0),(3,.vw 7 [] 0 Zx),(4,.d T_int true v4)] [(7,.tr false shf0 Zx o7)])
theorem Zr8:fnOk G 125 Tryz.f125:=⟨Tryz.func125,by kernel_rfl⟩
noncomputable def Zil (K:Nat):SEnt G.P:=mkSEnt G 125 Tryz.f125 Zr8 [Za] shf1 Za [] [Z9c K] [] [] [] ⟨[2,3],[],[]⟩ K tl1 tl1
noncomputable def Zdc (K:Nat) (x0:Za.T):Option Za.T:=(Zil K).g (x0,())
theorem Zqd:fnOk G 67 Tryz.f67:=⟨Tryz.func67,by kernel_rfl⟩
noncomputable def Zka (K:Nat):SEnt G.P:=mkSEnt G 67 Tryz.f67 Zqd [Z1u] shf2 Zz [] [Zil K] [] [] [] ⟨[7],[],[]⟩ K tl6 tl7
noncomputable def Zdn (K:Nat) (x0:Z1u.T):Option Zz.T:=(Zka K).g (x0,())
noncomputable def Z9d (K:Nat) (k:Nat) (x0:Z1u.T) (v4:T_int.T) (o7:Zz.T):Option Zz.T:=resumeS (envT G [] [Zil K] [] [] [] ⟨[7],[],[]⟩ K tl6 tl7) dokB shf2 Zz Tryz.f67 [1,1,0,1,0] k (mkSt 23 [(0,.d Z1u false x0),(3,.vw 7 [] 0 Zz),(4,.d T_int true v4)] [(7,.tr false shf2 Zz o7)])
theorem Zoc:fnOk G 23 Tryz.f23:=⟨Tryz.func23,by kernel_rfl⟩
noncomputable def Zjt (K:Nat):SEnt G.P:=mkSEnt G 23 Tryz.f23 Zoc [Z28] shf3 Z9 [] [Zi8 K,Zka K] [] [] [] ⟨[2,3],[],[]⟩ K tl1 tl1
noncomputable def Zcm (K:Nat) (x0:Z28.T):Option Z9.T:=(Zjt K).g (x0,())
theorem Zod:fnOk G 68 Tryz.f68:=⟨Tryz.func68,by kernel_rfl⟩
noncomputable def Zgw (K:Nat):SEnt G.P:=mkSEnt G 68 Tryz.f68 Zod [Z5] shf4 Z5 [] [Z9c K] [] [] [] ⟨[2,3],[],[]⟩ K tl1 tl1
noncomputable def Zae (K:Nat) (x0:Z5.T):Option Z5.T:=(Zgw K).g (x0,())
theorem Zmg:fnOk G 24 Tryz.f24:=⟨Tryz.func24,by kernel_rfl⟩
noncomputable def Zj0 (K:Nat):SEnt G.P:=mkSEnt G 24 Tryz.f24 Zmg [Z1k] shf5 Z7 [] [Zgw K] [] [] [] ⟨[7],[],[]⟩ K tl6 tl7
noncomputable def Zbe (K:Nat) (x0:Z1k.T):Option Z7.T:=(Zj0 K).g (x0,())
noncomputable def Z7u (K:Nat) (k:Nat) (x0:Z1k.T) (v4:T_int.T) (o7:Z7.T):Option Z7.T:=resumeS (envT G [] [Zgw K] [] [] [] ⟨[7],[],[]⟩ K tl6 tl7) dokB shf5 Z7 Tryz.f24 [1,1,0,1,0] k (mkSt 23 [(0,.d Z1k false x0),(3,.vw 7 [] 0 Z7),(4,.d T_int true v4)] [(7,.tr false shf5 Z7 o7)])
theorem Zr9:fnOk G 170 Tryz.f170:=⟨Tryz.func170,by kernel_rfl⟩
noncomputable def Zim (K:Nat):Ent G.P:=mkEnt G 170 Tryz.f170 Zr9 [Zl] true Zl true [] K tl1 tl1
noncomputable def Zdd (K:Nat) (x0:Zl.T):Option Zl.T:=(Zim K).g (x0,())
theorem Zqe:fnOk G 126 Tryz.f126:=⟨Tryz.func126,by kernel_rfl⟩
noncomputable def Zkb (K:Nat):SEnt G.P:=mkSEnt G 126 Tryz.f126 Zqe [Z1v] (.ow .fz) Z6 [Zim K] [] [] [] [] ⟨[7],[],[]⟩ K tl6 tl5
noncomputable def Zdo (K:Nat) (x0:Z1v.T):Option Z6.T:=(Zkb K).g (x0,())
noncomputable def Z9e (K:Nat) (k:Nat) (x0:Z1v.T) (v4:T_int.T) (o7:Z6.T):Option Z6.T:=resumeS (envT G [Zim K] [] [] [] [] ⟨[7],[],[]⟩ K tl6 tl5) dokB (.ow .fz) Z6 Tryz.f126 [1,1,0,1,0] k (mkSt 23 [(0,.d Z1v false x0),(3,.vw 7 [] 0 Z6),(4,.d T_int true v4)] [(7,.tr false (.ow .fz) Z6 o7)])
theorem Zmh:fnOk G 171 Tryz.f171:=⟨Tryz.func171,by kernel_rfl⟩
noncomputable def Zfk (K:Nat):Ent G.P:=mkEnt G 171 Tryz.f171 Zmh [Z4] true Z4 true [] K tl1 tl1
noncomputable def Z9f (K:Nat) (x0:Z4.T):Option Z4.T:=(Zfk K).g (x0,())
theorem Zlg:fnOk G 127 Tryz.f127:=⟨Tryz.func127,by kernel_rfl⟩
noncomputable def Zi9 (K:Nat):SEnt G.P:=mkSEnt G 127 Tryz.f127 Zlg [Z1f] (.ow .fz) Zf [Zfk K] [] [] [] [] ⟨[7],[],[]⟩ K tl6 tl5
noncomputable def Zau (K:Nat) (x0:Z1f.T):Option Zf.T:=(Zi9 K).g (x0,())
noncomputable def Z7d (K:Nat) (k:Nat) (x0:Z1f.T) (v4:T_int.T) (o7:Zf.T):Option Zf.T:=resumeS (envT G [Zfk K] [] [] [] [] ⟨[7],[],[]⟩ K tl6 tl5) dokB (.ow .fz) Zf Tryz.f127 [1,1,0,1,0] k (mkSt 23 [(0,.d Z1f false x0),(3,.vw 7 [] 0 Zf),(4,.d T_int true v4)] [(7,.tr false (.ow .fz) Zf o7)])
theorem Zoe:fnOk G 172 Tryz.f172:=⟨Tryz.func172,by kernel_rfl⟩
noncomputable def Zgx (K:Nat):Ent G.P:=mkEnt G 172 Tryz.f172 Zoe [Zb] true Zb true [] K tl1 tl1
noncomputable def Zaf (K:Nat) (x0:Zb.T):Option Zb.T:=(Zgx K).g (x0,())
theorem Zmi:fnOk G 128 Tryz.f128:=⟨Tryz.func128,by kernel_rfl⟩
noncomputable def Zj1 (K:Nat):SEnt G.P:=mkSEnt G 128 Tryz.f128 Zmi [Z1l] (.ow .fz) Zk [Zgx K] [] [] [] [] ⟨[7],[],[]⟩ K tl6 tl5
noncomputable def Zbf (K:Nat) (x0:Z1l.T):Option Zk.T:=(Zj1 K).g (x0,())
noncomputable def Z7v (K:Nat) (k:Nat) (x0:Z1l.T) (v4:T_int.T) (o7:Zk.T):Option Zk.T:=resumeS (envT G [Zgx K] [] [] [] [] ⟨[7],[],[]⟩ K tl6 tl5) dokB (.ow .fz) Zk Tryz.f128 [1,1,0,1,0] k (mkSt 23 [(0,.d Z1l false x0),(3,.vw 7 [] 0 Zk),(4,.d T_int true v4)] [(7,.tr false (.ow .fz) Zk o7)])
theorem Zof:fnOk G 129 Tryz.f129:=⟨Tryz.func129,by kernel_rfl⟩
noncomputable def Zju (K:Nat):Ent G.P:=mkEnt G 129 Tryz.f129 Zof [Zp] true Zp true [] K tl1 tl1
noncomputable def Zcn (K:Nat) (x0:Zp.T):Option Zp.T:=(Zju K).g (x0,())
theorem Zmj:fnOk G 69 Tryz.f69:=⟨Tryz.func69,by kernel_rfl⟩
noncomputable def Zfl (K:Nat):SEnt G.P:=mkSEnt G 69 Tryz.f69 Zmj [Z1i] shf6 Z0 [Zju K] [Zkb K,Zi9 K,Zj1 K] [] [] [] ⟨[2,3],[],[]⟩ K tl1 tl1
noncomputable def Z9g (K:Nat) (x0:Z1i.T):Option Z0.T:=(Zfl K).g (x0,())
theorem Zlh:fnOk G 25 Tryz.f25:=⟨Tryz.func25,by kernel_rfl⟩
noncomputable def Zia (K:Nat):SEnt G.P:=mkSEnt G 25 Tryz.f25 Zlh [Z1d] shf7 Zv [] [Zfl K] [] [] [] ⟨[7],[],[]⟩ K tl6 tl7
noncomputable def Zav (K:Nat) (x0:Z1d.T):Option Zv.T:=(Zia K).g (x0,())
noncomputable def Z7e (K:Nat) (k:Nat) (x0:Z1d.T) (v4:T_int.T) (o7:Zv.T):Option Zv.T:=resumeS (envT G [] [Zfl K] [] [] [] ⟨[7],[],[]⟩ K tl6 tl7) dokB shf7 Zv Tryz.f25 [1,1,0,1,0] k (mkSt 23 [(0,.d Z1d false x0),(3,.vw 7 [] 0 Zv),(4,.d T_int true v4)] [(7,.tr false shf7 Zv o7)])
theorem Zog:fnOk G 70 Tryz.f70:=⟨Tryz.func70,by kernel_rfl⟩
noncomputable def Zgy (K:Nat):SEnt G.P:=mkSEnt G 70 Tryz.f70 Zog [Za] shf1 Za [] [Z9c K] [] [] [] ⟨[2,3],[],[]⟩ K tl1 tl1
noncomputable def Zag (K:Nat) (x0:Za.T):Option Za.T:=(Zgy K).g (x0,())
theorem Zmk:fnOk G 26 Tryz.f26:=⟨Tryz.func26,by kernel_rfl⟩
noncomputable def Zj2 (K:Nat):SEnt G.P:=mkSEnt G 26 Tryz.f26 Zmk [Z1m] shf2 Zg [] [Zgy K] [] [] [] ⟨[7],[],[]⟩ K tl6 tl7
noncomputable def Zbg (K:Nat) (x0:Z1m.T):Option Zg.T:=(Zj2 K).g (x0,())
noncomputable def Z7w (K:Nat) (k:Nat) (x0:Z1m.T) (v4:T_int.T) (o7:Zg.T):Option Zg.T:=resumeS (envT G [] [Zgy K] [] [] [] ⟨[7],[],[]⟩ K tl6 tl7) dokB shf2 Zg Tryz.f26 [1,1,0,1,0] k (mkSt 23 [(0,.d Z1m false x0),(3,.vw 7 [] 0 Zg),(4,.d T_int true v4)] [(7,.tr false shf2 Zg o7)])
theorem Zoh:fnOk G 71 Tryz.f71:=⟨Tryz.func71,by kernel_rfl⟩
noncomputable def Zgz (K:Nat):Ent G.P:=mkEnt G 71 Tryz.f71 Zoh [Zd] true Zd true [] K tl1 tl1
noncomputable def Zah (K:Nat) (x0:Zd.T):Option Zd.T:=(Zgz K).g (x0,())
theorem Zml:fnOk G 27 Tryz.f27:=⟨Tryz.func27,by kernel_rfl⟩
noncomputable def Zj3 (K:Nat):SEnt G.P:=mkSEnt G 27 Tryz.f27 Zml [Z1p] (.ow .fz) Zw [Zgz K] [] [] [] [] ⟨[7],[],[]⟩ K tl6 tl5
noncomputable def Zbh (K:Nat) (x0:Z1p.T):Option Zw.T:=(Zj3 K).g (x0,())
noncomputable def Z7x (K:Nat) (k:Nat) (x0:Z1p.T) (v4:T_int.T) (o7:Zw.T):Option Zw.T:=resumeS (envT G [Zgz K] [] [] [] [] ⟨[7],[],[]⟩ K tl6 tl5) dokB (.ow .fz) Zw Tryz.f27 [1,1,0,1,0] k (mkSt 23 [(0,.d Z1p false x0),(3,.vw 7 [] 0 Zw),(4,.d T_int true v4)] [(7,.tr false (.ow .fz) Zw o7)])
theorem Zib:fnOk G 7 Tryz.f7:=⟨Tryz.func7,by kernel_rfl⟩
noncomputable def Z2j (K:Nat):SEnt G.P:=mkSEnt G 7 Tryz.f7 Zib [Zq] shf8 Z1 [] [Zjt K,Zj0 K,Zia K,Zj2 K,Zj3 K] [] [] [] ⟨[2,3],[],[]⟩ K tl1 tl1
noncomputable def Z3m (K:Nat) (x0:Zq.T):Option Z1.T:=(Z2j K).g (x0,())
theorem Zoi (K:Nat):(Z2j K).sh.whole = true:=by kernel_rfl
noncomputable def Zj4 (K:Nat):Ent G.P:=(Z2j K).data (Zoi K) Zib.ex
theorem ok7 (K:Nat):∀ x,CallOk G.P 7 (toDts [Zq] x) ⟨true,Z1,false,false,(Z2j K).g x⟩:=Eq.mp (by kernel_rfl) (Zj4 K).ok
theorem Zj5:fnOk G 56 Tryz.f56:=⟨Tryz.func56,by kernel_rfl⟩
def tl8:Nat→List Nat:=fun i=>if i = 3 then [0,5,6,7,8,9,10,11,12,13,14,15,16,17,18,19,20,21,22,23,24,25,26,27,28,29,30,31,32,33,34,35,36,37,38,39,40,41,42,43,44,45,46,47,48,49,50,51,52,53,54,55,56,57] else if i = 7 then [0,4,6,7,8,9,10,11,12,13,14,15,16,17,18,19,20,21,22,23,24,25,26,27,28,29,30,31,32,33,34,35,36,37,38,39,40,41,42,43,44,45,46,47,48,49,50,51,52,53,54,55,56,57] else []
def tl9:Nat→List Nat:=fun i=>if i = 3 then [10,20,26,27,28] else if i = 7 then [45,52,53,54,55] else []
noncomputable def Zh0 (K:Nat):SEnt G.P:=mkSEnt G 56 Tryz.f56 Zj5 [Z9] shf3 Z9 [] [] [] [] [] ⟨[2,3,10,20,27,45,53,54],[],[]⟩ K tl8 tl9
noncomputable def Zco (K:Nat) (x0:Z9.T):Option Z9.T:=(Zh0 K).g (x0,())
theorem Zqf (K:Nat):(Zh0 K).sh.whole = true:=by kernel_rfl
noncomputable def Zjv (K:Nat):Ent G.P:=(Zh0 K).data (Zqf K) Zj5.ex
noncomputable def ev1 (K:Nat):Env:=envT G [] [] [] [] [] ⟨[2,3,10,20,27,45,53,54],[],[]⟩ K tl8 tl9
noncomputable def Z6p (K:Nat) (k:Nat) (v4:T_int.T) (o1:Z9.T) (o2:Z9.T) (o3:Z9.T):Option Z9.T:=resumeS (ev1 K) dokB shf3 Z9 Tryz.f56 [1,1,0,1,0] k (mkSt 58 [(1,.ptr 1 0 Z9),(2,.pt 2 [] 0 Z9),(3,.pt 3 [] 0 Z9),(4,.d T_int true v4)] [(1,.box Z9 false o1),(2,.tr true shf3 Z9 o2),(3,.tr true shf3 Z9 o3)])
noncomputable def Z5y (K:Nat) (k:Nat) (v5:T_int.T) (o1:Z9.T) (o2:Z9.T) (o3:Z9.T):Option Z9.T:=resumeS (ev1 K) dokB shf3 Z9 Tryz.f56 [1,1,1,0,1,0] k (mkSt 58 [(1,.ptr 1 0 Z9),(2,.pt 2 [] 0 Z9),(3,.pt 3 [] 0 Z9),(5,.d T_int true v5)] [(1,.box Z9 false o1),(2,.tr true shf3 Z9 o2),(3,.tr true shf3 Z9 o3)])
theorem Zoj:fnOk G 112 Tryz.f112:=⟨Tryz.func112,by kernel_rfl⟩
noncomputable def Zcp (K:Nat):Ent G.P:=mkEnt G 112 Tryz.f112 Zoj [Z5] true Z5 false [] K tl1 tl1
noncomputable def Z7k (K:Nat) (x0:Z5.T):Option Z5.T:=(Zcp K).g (x0,())
theorem Zjw:fnOk G 57 Tryz.f57:=⟨Tryz.func57,by kernel_rfl⟩
def tl10:Nat→List Nat:=fun i=>if i = 3 then [1,2,5,6,7,8,9,10,11,12,13,14,15,16,17,18,19,20] else []
noncomputable def Zhs (K:Nat):SEnt G.P:=mkSEnt G 57 Tryz.f57 Zjw [Z7] (.ow .fz) Z7 [Zcp K] [] [] [] [] ⟨[5,18],[(36,(.ow .fz))],[(17,.mv)]⟩ K tl10 (fun i=>if i = 3 then [2,18,19] else [])
noncomputable def Zdp (K:Nat) (x0:Z7.T):Option Z7.T:=(Zhs K).g (x0,())
theorem Zra (K:Nat):(Zhs K).sh.whole = true:=by kernel_rfl
noncomputable def Zkc (K:Nat):Ent G.P:=(Zhs K).data (Zra K) Zjw.ex
noncomputable def Z9h (K:Nat) (k:Nat) (x0:Z7.T) (v4:T_int.T) (o5:Z7.T):Option Z7.T:=resumeS (envT G [Zcp K] [] [] [] [] ⟨[5,18],[(36,(.ow .fz))],[(17,.mv)]⟩ K tl10 (fun i=>if i = 3 then [2,18,19] else [])) dokB (.ow .fz) Z7 Tryz.f57 [1,1,0,1,0] k (mkSt 21 [(0,.d Z7 false x0),(3,.vw 5 [] 0 Z7),(4,.d T_int true v4)] [(5,.tr false (.ow .fz) Z7 o5)])
theorem Zmm:fnOk G 58 Tryz.f58:=⟨Tryz.func58,by kernel_rfl⟩
noncomputable def Zfm (K:Nat):Ent G.P:=mkEnt G 58 Tryz.f58 Zmm [Z0] true Z0 false [] K tl1 tl1
noncomputable def Z9i (K:Nat) (x0:Z0.T):Option Z0.T:=(Zfm K).g (x0,())
theorem Zic:fnOk G 113 Tryz.f113:=⟨Tryz.func113,by kernel_rfl⟩
noncomputable def Zfn (K:Nat):SEnt G.P:=mkSEnt G 113 Tryz.f113 Zic [Za] shf1 Za [] [] [] [] [] ⟨[2,5,9],[],[]⟩ K tl1 tl1
noncomputable def Zbi (K:Nat) (x0:Za.T):Option Za.T:=(Zfn K).g (x0,())
theorem Zok (K:Nat):(Zfn K).sh.whole = true:=by kernel_rfl
noncomputable def Zj6 (K:Nat):Ent G.P:=(Zfn K).data (Zok K) Zic.ex
theorem Zid:fnOk G 59 Tryz.f59:=⟨Tryz.func59,by kernel_rfl⟩
noncomputable def Zfo (K:Nat):SEnt G.P:=mkSEnt G 59 Tryz.f59 Zid [Zg] (.ow .fz) Zg [Zj6 K] [] [] [] [] ⟨[5,18],[(38,(.ow .fz))],[(17,.mv)]⟩ K tl10 (fun i=>if i = 3 then [2,17,18,19] else [])
noncomputable def Z9j (K:Nat) (x0:Zg.T):Option Zg.T:=(Zfo K).g (x0,())
theorem Zol (K:Nat):(Zfo K).sh.whole = true:=by kernel_rfl
noncomputable def Zj7 (K:Nat):Ent G.P:=(Zfo K).data (Zol K) Zid.ex
noncomputable def Z7y (K:Nat) (k:Nat) (x0:Zg.T) (v4:T_int.T) (o5:Zg.T):Option Zg.T:=resumeS (envT G [Zj6 K] [] [] [] [] ⟨[5,18],[(38,(.ow .fz))],[(17,.mv)]⟩ K tl10 (fun i=>if i = 3 then [2,17,18,19] else [])) dokB (.ow .fz) Zg Tryz.f59 [1,1,0,1,0] k (mkSt 21 [(0,.d Zg false x0),(3,.vw 5 [] 0 Zg),(4,.d T_int true v4)] [(5,.tr false (.ow .fz) Zg o5)])
theorem Zmn:fnOk G 19 Tryz.f19:=⟨Tryz.func19,by kernel_rfl⟩
def tl11:Nat→List Nat:=fun i=>if i = 6 then [0,5,6,7,8,9,10,11,12,13,14,15,16,17,18,19,20,21,22,23,24,25,26,27,28,29,30,31,32,33,34,35,36,37,38,39,40,41,42,43] else []
noncomputable def Z7z (K:Nat):SEnt G.P:=mkSEnt G 19 Tryz.f19 Zmn [Z1] (.pr .fz (.pr .fz shf1)) Z1 [Zjv K,Zkc K,Zfm K,Zj7 K] [] [] [] [] ⟨[2,3,14,31],[(37,(.ow .fz))],[(8,.mv),(12,.mv),(36,.mv)]⟩ K tl11 (fun i=>if i = 6 then [14,31,32] else [])
noncomputable def Z9k (K:Nat) (x0:Z1.T):Option Z1.T:=(Z7z K).g (x0,())
noncomputable def Z80 (K:Nat) (k:Nat) (v4:T_int.T) (o1:Z1.T) (o2:Z1.T) (o3:Z1.T):Option Z1.T:=resumeS (envT G [Zjv K,Zkc K,Zfm K,Zj7 K] [] [] [] [] ⟨[2,3,14,31],[(37,(.ow .fz))],[(8,.mv),(12,.mv),(36,.mv)]⟩ K tl11 (fun i=>if i = 6 then [14,31,32] else [])) dokB (.pr .fz (.pr .fz shf1)) Z1 Tryz.f19 [1,1,1,1,1,0,1,0] k (mkSt 44 [(1,.ptr 1 0 Z1),(2,.pt 2 [] 0 Z1),(3,.pt 3 [] 0 Z1),(4,.d T_int true v4)] [(1,.box Z1 false o1),(2,.tr true shf8 Z1 o2),(3,.tr true (.pr .fz (.pr .fz shf1)) Z1 o3)])
theorem Zrb:fnOk G 21 Tryz.f21:=⟨Tryz.func21,by kernel_rfl⟩
noncomputable def Zo (K:Nat):Ent G.P:=mkEnt G 21 Tryz.f21 Zrb [T_int,T_int,T_int] true T_bool true [] K tl1 tl1
noncomputable def Zh (K:Nat) (x0:T_int.T) (x1:T_int.T) (x2:T_int.T):Option T_bool.T:=(Zo K).g (x0,x1,x2,())
theorem Zom:fnOk G 105 Tryz.f105:=⟨Tryz.func105,by kernel_rfl⟩
def tl12:Nat→List Nat:=fun i=>if i = 2 then [0,2,4,5,6,7,8,9,10,11,12,13,14,15,16,17,18,19,20,21,22,23,24,25,26,27,28,29,30,31,32,33,34,35,36,37,38,39,40,41,42,43,44,45,46,47,48,49,50,51,52,53,54,55,56,57,58,59,60,61,62] else if i = 7 then [0,2,3,5,6,7,8,9,10,11,12,13,14,15,16,17,18,19,20,21,22,23,24,25,26,27,28,29,30,31,32,33,34,35,36,37,38,39,40,41,42,43,44,45,46,47,48,49,50,51,52,53,54,55,56,57,58,59,60,61,62] else []
def tl13:Nat→List Nat:=fun i=>if i = 2 then [] else if i = 7 then [] else []
noncomputable def Zcq (K:Nat):Ent G.P:=mkEnt G 105 Tryz.f105 Zom [Z9] true T_bool true [Zo K] K tl12 tl13
noncomputable def Zai (K:Nat) (x0:Z9.T):Option T_bool.T:=(Zcq K).g (x0,())
noncomputable def Z6q (K:Nat) (k:Nat) (v3:T_int.T) (o1:Z9.T):Option T_bool.T:=resume (envOf G [Zo K] K tl12 tl13) dokB true T_bool true Tryz.f105 [1,0,1,0] k (mkSt 63 [(1,.ptr 1 0 Z9),(3,.d T_int true v3)] [(1,.box Z9 false o1)])
noncomputable def Z6r (K:Nat) (k:Nat) (v4:T_int.T) (o1:Z9.T):Option T_bool.T:=resume (envOf G [Zo K] K tl12 tl13) dokB true T_bool true Tryz.f105 [1,1,0,1,0] k (mkSt 63 [(1,.ptr 1 0 Z9),(4,.d T_int true v4)] [(1,.box Z9 false o1)])
theorem Zmo:fnOk G 115 Tryz.f115:=⟨Tryz.func115,by kernel_rfl⟩
def tl14:Nat→List Nat:=fun i=>if i = 5 then [0,3,4,7,8,9,10,11,12,13,14,15,16,17,18,19,20,21,22,23,24,25,26,27,28,29,30,31,32,33,34,35,36,37,38,39,40,41,42,43,44,45,46,47,48] else []
noncomputable def Zbj (K:Nat):Ent G.P:=mkEntO G 115 Tryz.f115 Zmo [Z9,T_int] 5 T_u8 false [Zcq K,Zo K] K tl14 (fun i=>if i = 5 then [4] else [])
noncomputable def Z9l (K:Nat) (x0:Z9.T) (x1:T_int.T):Option Zj.T:=(Zbj K).g (x0,x1,())
noncomputable def Z5d (K:Nat) (k:Nat) (x1:T_int.T) (v5:Zj.T) (v6:T_int.T) (o2:Z9.T):Option Zj.T:=resumeO (envOf G [Zcq K,Zo K] K tl14 (fun i=>if i = 5 then [4] else [])) dokB 5 T_u8 false Tryz.f115 [1,1,1,0,1,0] k (mkSt 49 [(1,.d T_int true x1),(2,.ptr 2 0 Z9),(5,.d Zj false v5),(6,.d T_int true v6)] [(2,.box Z9 false o2)])
theorem Zmp:fnOk G 158 Tryz.f158:=⟨Tryz.func158,by kernel_rfl⟩
noncomputable def Zfp (K:Nat):Ent G.P:=mkEnt G 158 Tryz.f158 Zmp [Zj,T_int] false (Ty.pair T_int (Ty.pair T_int (Ty.pair T_bool Ty.unit))) true [] K tl1 tl1
noncomputable def Z3n (K:Nat) (x0:Zj.T) (x1:T_int.T):Option (Ty.pair T_int (Ty.pair T_int (Ty.pair T_bool Ty.unit))).T:=(Zfp K).g (x0,x1,())
theorem Zmq:fnOk G 201 Tryz.f201:=⟨Tryz.func201,by kernel_rfl⟩
noncomputable def Zfq (K:Nat):Ent G.P:=mkEntO G 201 Tryz.f201 Zmq [Zj,T_int] 5 T_u8 false [] K tl1 tl1
noncomputable def Z4c (K:Nat) (x0:Zj.T) (x1:T_int.T):Option Zj.T:=(Zfq K).g (x0,x1,())
theorem Zrp:fnOk G 202 Tryz.f202:=⟨Tryz.func202,by kernel_rfl⟩
def tl15:Nat→List Nat:=fun i=>if i = 3 then [1,2,5,6,7,8,9,10,11,12,13,14,15,16,17,18,19,20,21,22,23,24,25,26,27,28,29,30,31] else if i = 7 then [1,2,6,7,8,9,10,11,12,13,14,15,16,17,18,19,20,21,22,23,24,25,26,27,28,29,30,31] else []
def tl16:Nat→List Nat:=fun i=>if i = 3 then [] else if i = 7 then [] else []
noncomputable def Zjp (K:Nat):Ent G.P:=mkEnt G 202 Tryz.f202 Zrp [Zj] true T_int true [] K tl15 tl16
noncomputable def Ze3 (K:Nat) (x0:Zj.T):Option T_int.T:=(Zjp K).g (x0,())
noncomputable def Z4u (K:Nat) (k:Nat) (x0:Zj.T) (v3:T_int.T) (v4:T_int.T):Option T_int.T:=resume (envOf G [] K tl15 tl16) dokB true T_int true Tryz.f202 [1,1,0,1,0] k (mkSt 32 [(0,.d Zj false x0),(3,.d T_int true v3),(4,.d T_int true v4)] [])
noncomputable def Z4d (K:Nat) (k:Nat) (n0:Nat) (x0:Zj.T) (v4:T_int.T) (v3:T_int.T) (v5:T_int.T):Option T_int.T:=resume (envOf G [] K tl15 tl16) dokB true T_int true Tryz.f202 [1,1,0,1,0,n0 + 2,1,0,0,1,1,0] k (mkSt 32 [(0,.d Zj false x0),(3,.d T_int true v3),(4,.d T_int true v4),(5,.d T_int true v5)] [])
theorem Zon:fnOk G 160 Tryz.f160:=⟨Tryz.func160,by kernel_rfl⟩
noncomputable def Zjx (K:Nat):Ent G.P:=mkEntO G 160 Tryz.f160 Zon [T_int,T_int] 5 T_u8 true [Zo K,Zfq K,Zjp K] K tl1 tl1
noncomputable def Zcr (K:Nat) (x0:T_int.T) (x1:T_int.T):Option Zj.T:=(Zjx K).g (x0,x1,())
theorem Zoo:fnOk G 159 Tryz.f159:=⟨Tryz.func159,by kernel_rfl⟩
noncomputable def Zh1 (K:Nat):Ent G.P:=mkEnt G 159 Tryz.f159 Zoo [Zj,Zj] true T_bool true [] K tl1 tl1
noncomputable def Z8p (K:Nat) (x0:Zj.T) (x1:Zj.T):Option T_bool.T:=(Zh1 K).g (x0,x1,())
theorem Zmr:fnOk G 114 Tryz.f114:=⟨Tryz.func114,by kernel_rfl⟩
noncomputable def Zfr (K:Nat):Ent G.P:=mkEnt G 114 Tryz.f114 Zmr [Zj] false (Ty.pair T_int (Ty.pair T_int (Ty.pair T_bool Ty.unit))) true [Zfp K,Zjx K,Zh1 K] K tl1 tl1
noncomputable def Zbk (K:Nat) (x0:Zj.T):Option (Ty.pair T_int (Ty.pair T_int (Ty.pair T_bool Ty.unit))).T:=(Zfr K).g (x0,())
theorem Zrc:fnOk G 162 Tryz.f162:=⟨Tryz.func162,by kernel_rfl⟩
noncomputable def Zin (K:Nat):Ent G.P:=mkEnt G 162 Tryz.f162 Zrc [T_int,T_int] true T_int true [] K tl1 tl1
noncomputable def Zec (K:Nat) (x0:T_int.T) (x1:T_int.T):Option T_int.T:=(Zin K).g (x0,x1,())
theorem Zop:fnOk G 228 Tryz.f228:=⟨Tryz.func228,by kernel_rfl⟩
def tl17:Nat→List Nat:=fun i=>if i = 2 then [1,2,4,5,6,7,8,9,10,11,12,13,14,15,16,17,18,19,20,21,22,23,24,25,26] else []
def tl18:Nat→List Nat:=fun i=>if i = 2 then [] else []
noncomputable def Zeh (K:Nat):Ent G.P:=mkEnt G 228 Tryz.f228 Zop [T_str] true T_bool true [] K tl17 tl18
noncomputable def Z2d (K:Nat) (x0:T_str.T):Option T_bool.T:=(Zeh K).g (x0,())
noncomputable def Z5z (K:Nat) (k:Nat) (x0:T_str.T) (v3:T_int.T):Option T_bool.T:=resume (envOf G [] K tl17 tl18) dokB true T_bool true Tryz.f228 [1,0,1,0] k (mkSt 27 [(0,.d T_str true x0),(3,.d T_int true v3)] [])
theorem Zms:fnOk G 203 Tryz.f203:=⟨Tryz.func203,by kernel_rfl⟩
noncomputable def Zj8 (K:Nat):Ent G.P:=mkEnt G 203 Tryz.f203 Zms [Zj,T_int] false (Ty.pair T_str (Ty.pair T_int (Ty.pair T_bool Ty.unit))) true [Zeh K] K tl1 tl1
noncomputable def Z9m (K:Nat) (x0:Zj.T) (x1:T_int.T):Option (Ty.pair T_str (Ty.pair T_int (Ty.pair T_bool Ty.unit))).T:=(Zj8 K).g (x0,x1,())
theorem Zmt:fnOk G 211 Tryz.f211:=⟨Tryz.func211,by kernel_rfl⟩
def tl19:Nat→List Nat:=fun i=>if i = 4 then [2,3,4,8,9,10,11,12,13,14,15,16,17,18,19,20,21,22,23,24,25,26,27,28,29,30,31,32,33,34,35] else []
noncomputable def Zfs (K:Nat):Ent G.P:=mkEntO G 211 Tryz.f211 Zmt [T_str,T_u8] 9 T_str true [] K tl19 (fun i=>if i = 4 then [4,31] else [])
noncomputable def Z81 (K:Nat) (x0:T_str.T) (x1:T_u8.T):Option Z30.T:=(Zfs K).g (x0,x1,())
noncomputable def Z45 (K:Nat) (k:Nat) (x0:T_str.T) (x1:T_u8.T) (v6:T_int.T) (v7:T_int.T) (o8:Z30.T):Option Z30.T:=resumeO (envOf G [] K tl19 (fun i=>if i = 4 then [4,31] else [])) dokB 9 T_str true Tryz.f211 [1,1,1,0,1,0] k (mkSt 36 [(0,.d T_str true x0),(1,.d T_u8 true x1),(5,.own 8),(6,.d T_int true v6),(7,.d T_int true v7)] [(8,.arr 9 T_str true o8)])
theorem Zli:fnOk G 212 Tryz.f212:=⟨Tryz.func212,by kernel_rfl⟩
def tl20:Nat→List Nat:=fun i=>if i = 5 then [2,3,4,5,8,9,10,11,12,13,14,15,16,17,18,19,20,21,22,23,24,25,26,27,28,29,30,31,32,33,34,35,36,37,38,39,40,41,42,43,44,45,46,47,48,49,50,51,52,53] else []
noncomputable def Zex (K:Nat):Ent G.P:=mkEnt G 212 Tryz.f212 Zli [T_str,T_int] false (Ty.pair T_int (Ty.pair T_bool Ty.unit)) true [Zo K] K tl20 tl3
noncomputable def Zaw (K:Nat) (x0:T_str.T) (x1:T_int.T):Option (Ty.pair T_int (Ty.pair T_bool Ty.unit)).T:=(Zex K).g (x0,x1,())
noncomputable def Z57 (K:Nat) (k:Nat) (x0:T_str.T) (x1:T_int.T) (v6:T_int.T) (v7:T_int.T):Option (Ty.pair T_int (Ty.pair T_bool Ty.unit)).T:=resume (envOf G [Zo K] K tl20 tl3) dokB false (Ty.pair T_int (Ty.pair T_bool Ty.unit)) true Tryz.f212 [1,1,1,0,1,0] k (mkSt 54 [(0,.d T_str true x0),(1,.d T_int true x1),(6,.d T_int true v6),(7,.d T_int true v7)] [])
theorem Zoq:fnOk G 232 Tryz.f232:=⟨Tryz.func232,by kernel_rfl⟩
def tl21:Nat→List Nat:=fun i=>if i = 2 then [1,2,4,5,6,7,8,9,10,11,12,13,14,15,16,17,18,19,20,21,22] else []
noncomputable def Zei (K:Nat):Ent G.P:=mkEnt G 232 Tryz.f232 Zoq [T_str] true T_bool true [Zo K] K tl21 tl18
noncomputable def Z1n (K:Nat) (x0:T_str.T):Option T_bool.T:=(Zei K).g (x0,())
noncomputable def Z6s (K:Nat) (k:Nat) (x0:T_str.T) (v3:T_int.T):Option T_bool.T:=resume (envOf G [Zo K] K tl21 tl18) dokB true T_bool true Tryz.f232 [1,0,1,0] k (mkSt 23 [(0,.d T_str true x0),(3,.d T_int true v3)] [])
theorem Zrd:fnOk G 209 Tryz.f209:=⟨Tryz.func209,by kernel_rfl⟩
noncomputable def Zio (K:Nat):Ent G.P:=mkEnt G 209 Tryz.f209 Zrd [Zl] true T_bool true [Zei K,Zo K] K tl1 tl1
noncomputable def Zed (K:Nat) (x0:Zl.T):Option T_bool.T:=(Zio K).g (x0,())
theorem Zor:fnOk G 167 Tryz.f167:=⟨Tryz.func167,by kernel_rfl⟩
def tl22:Nat→List Nat:=fun i=>if i = 2 then [1,2,4,5,6,7,8,9,10,11,12,13,14,15,16,17,18,19,20,21,22,23,24,25,26,27,28,29,30,31,32,33,34,35] else if i = 7 then [1,2,5,6,7,8,9,10,11,12,13,14,15,16,17,18,19,20,21,22,23,24,25,26,27,28,29,30,31,32,33,34,35] else []
noncomputable def Z16 (K:Nat):Ent G.P:=mkEnt G 167 Tryz.f167 Zor [Z6] true T_bool true [Zio K,Zo K] K tl22 tl13
noncomputable def Z2e (K:Nat) (x0:Z6.T):Option T_bool.T:=(Z16 K).g (x0,())
noncomputable def ev2 (K:Nat):Env:=envOf G [Zio K,Zo K] K tl22 tl13
noncomputable def Z6t (K:Nat) (k:Nat) (x0:Z6.T) (v3:T_int.T):Option T_bool.T:=resume (ev2 K) dokB true T_bool true Tryz.f167 [1,0,1,0] k (mkSt 36 [(0,.d Z6 false x0),(3,.d T_int true v3)] [])
noncomputable def Z6u (K:Nat) (k:Nat) (n0:Nat) (x0:Z6.T) (v3:T_int.T) (v4:T_int.T):Option T_bool.T:=resume (ev2 K) dokB true T_bool true Tryz.f167 [1,0,1,0,n0 + 2,1,0,0,1,1,0] k (mkSt 36 [(0,.d Z6 false x0),(3,.d T_int true v3),(4,.d T_int true v4)] [])
theorem Zko:fnOk G 169 Tryz.f169:=⟨Tryz.func169,by kernel_rfl⟩
def tl23:Nat→List Nat:=fun i=>if i = 6 then [0,1,2,3,7,8,9,10,11,12,13,14,15,16,17,18,19,20,21,22,23,24,25,26,27,28,29,30,31,32,33,34,35,36,37,38,39,40,41,42,43,44,45,46,47,48,49,50,51,52,53,54,55,56,57,58,59,60,61,62,63,64,65,66,67,68,69,70,71,72,73,74,75,76,77,78,79,80,81,82,83,84,85,86] else if i = 16 then [0,1,2,3,11,12,13,14,15,16,17,18,19,20,21,22,23,24,25,26,27,28,29,30,31,32,33,34,35,36,37,38,39,40,41,42,43,44,45,46,47,48,49,50,51,52,53,54,55,56,57,58,59,60,61,62,63,64,65,66,67,68,69,70,71,72,73,74,75,76,77,78,79,80,81,82,83,84,85,86] else []
def tl24:Nat→List Nat:=fun i=>if i = 6 then [2,30,34,38,42,43,58,80] else if i = 16 then [58] else []
noncomputable def Zem (K:Nat):Ent G.P:=mkEnt G 169 Tryz.f169 Zko [T_str] false (Ty.pair Z6 (Ty.pair T_bool Ty.unit)) true [Zfs K,Zex K,Z16 K] K tl23 tl24
noncomputable def Z5e (K:Nat) (x0:T_str.T):Option (Ty.pair Z6 (Ty.pair T_bool Ty.unit)).T:=(Zem K).g (x0,())
noncomputable def ev3 (K:Nat):Env:=envOf G [Zfs K,Zex K,Z16 K] K tl23 tl24
noncomputable def Z5f (K:Nat) (k:Nat) (v6:T_int.T) (o18:Z30.T) (o19:Z6.T):Option (Ty.pair Z6 (Ty.pair T_bool Ty.unit)).T:=resume (ev3 K) dokB false (Ty.pair Z6 (Ty.pair T_bool Ty.unit)) true Tryz.f169 [1,1,1,1,0,1,0] k (mkSt 87 [(4,.own 18),(5,.own 19),(6,.d T_int true v6)] [(18,.arr 9 T_str true o18),(19,.arr 178 Zl true o19)])
noncomputable def Z3c (K:Nat) (k:Nat) (n0:Nat) (v6:T_int.T) (v10:T_int.T) (o18:Z30.T) (o19:Z6.T) (o30:Z30.T) (o38:Z30.T) (o43:Ze1.T):Option (Ty.pair Z6 (Ty.pair T_bool Ty.unit)).T:=resume (ev3 K) dokB false (Ty.pair Z6 (Ty.pair T_bool Ty.unit)) true Tryz.f169 [1,1,1,1,0,1,0,n0 + 2,1,0,0,1,1,1,1,1,0,1,0] k (mkSt 87 [(4,.own 18),(5,.own 19),(6,.d T_int true v6),(7,.own 30),(8,.own 38),(9,.own 43),(10,.d T_int true v10)] [(18,.arr 9 T_str true o18),(19,.arr 178 Zl true o19),(30,.arr 9 T_str true o30),(38,.arr 9 T_str true o38),(43,.arr 3 T_int true o43)])
theorem Zos:fnOk G 229 Tryz.f229:=⟨Tryz.func229,by kernel_rfl⟩
noncomputable def Zh2 (K:Nat):Ent G.P:=mkEnt G 229 Tryz.f229 Zos [T_str] true T_bool true [Zem K] K tl1 tl1
noncomputable def Z26 (K:Nat) (x0:T_str.T):Option T_bool.T:=(Zh2 K).g (x0,())
theorem Zqg:fnOk G 204 Tryz.f204:=⟨Tryz.func204,by kernel_rfl⟩
noncomputable def Zey (K:Nat):Ent G.P:=mkEnt G 204 Tryz.f204 Zqg [Z3t] true T_bool true [Zo K,Zh2 K] K tl1 tl1
noncomputable def Z6v (K:Nat) (x0:Z3t.T):Option T_bool.T:=(Zey K).g (x0,())
theorem Zot:fnOk G 230 Tryz.f230:=⟨Tryz.func230,by kernel_rfl⟩
noncomputable def Zjy (K:Nat):Ent G.P:=mkEnt G 230 Tryz.f230 Zot [T_int] true T_bool true [Zo K] K tl1 tl1
noncomputable def Zaj (K:Nat) (x0:T_int.T):Option T_bool.T:=(Zjy K).g (x0,())
theorem Zmu:fnOk G 231 Tryz.f231:=⟨Tryz.func231,by kernel_rfl⟩
noncomputable def Zj9 (K:Nat):Ent G.P:=mkEntO G 231 Tryz.f231 Zmu [Zj,T_str] 5 T_u8 false [Zeh K] K tl1 tl1
noncomputable def Zbl (K:Nat) (x0:Zj.T) (x1:T_str.T):Option Zj.T:=(Zj9 K).g (x0,x1,())
theorem Zou:fnOk G 205 Tryz.f205:=⟨Tryz.func205,by kernel_rfl⟩
noncomputable def Zjz (K:Nat):Ent G.P:=mkEntO G 205 Tryz.f205 Zou [T_int,T_int,Z3t] 5 T_u8 true [Zey K,Zjy K,Zfq K,Zj9 K,Zjp K] K tl1 tl1
noncomputable def Zak (K:Nat) (x0:T_int.T) (x1:T_int.T) (x2:Z3t.T):Option Zj.T:=(Zjz K).g (x0,x1,x2,())
theorem Zov:fnOk G 161 Tryz.f161:=⟨Tryz.func161,by kernel_rfl⟩
noncomputable def Zh3 (K:Nat):Ent G.P:=mkEnt G 161 Tryz.f161 Zov [Zj] false (Ty.pair T_int (Ty.pair T_int (Ty.pair Z3t (Ty.pair T_bool Ty.unit)))) true [Zfp K,Zj8 K,Zey K,Zjz K,Zh1 K] K tl1 tl1
noncomputable def Zcs (K:Nat) (x0:Zj.T):Option (Ty.pair T_int (Ty.pair T_int (Ty.pair Z3t (Ty.pair T_bool Ty.unit)))).T:=(Zh3 K).g (x0,())
theorem Zmv:fnOk G 206 Tryz.f206:=⟨Tryz.func206,by kernel_rfl⟩
noncomputable def Zja (K:Nat):Ent G.P:=mkEnt G 206 Tryz.f206 Zmv [Zt] true T_bool true [Zo K,Zh2 K] K tl1 tl1
noncomputable def Zbm (K:Nat) (x0:Zt.T):Option T_bool.T:=(Zja K).g (x0,())
theorem Zqh:fnOk G 163 Tryz.f163:=⟨Tryz.func163,by kernel_rfl⟩
noncomputable def Zht (K:Nat):Ent G.P:=mkEnt G 163 Tryz.f163 Zqh [Zt,Z3t] false (Ty.pair Zt (Ty.pair T_bool Ty.unit)) true [Zja K,Zey K] K tl1 tl1
noncomputable def Zdq (K:Nat) (x0:Zt.T) (x1:Z3t.T):Option (Ty.pair Zt (Ty.pair T_bool Ty.unit)).T:=(Zht K).g (x0,x1,())
theorem Zow:fnOk G 116 Tryz.f116:=⟨Tryz.func116,by kernel_rfl⟩
def tl25:Nat→List Nat:=fun i=>if i = 5 then [0,3,5,8,9,10,11,12,13,14,15,16,17,18,19,20,21,22,23,24,25,26,27,28,29,30,31,32,33,34,35,36,37,38,39,40,41,42,43,44,45,46,47,48,49,50,51,52,53,54,55,56,57,58,59] else []
noncomputable def Zh4 (K:Nat):Ent G.P:=mkEnt G 116 Tryz.f116 Zow [Z9,T_int] false (Ty.pair Zt (Ty.pair T_int Ty.unit)) true [Zo K,Zin K,Zbj K,Zh3 K,Zht K] K tl25 (fun i=>if i = 5 then [10,12,28] else [])
noncomputable def Zct (K:Nat) (x0:Z9.T) (x1:T_int.T):Option (Ty.pair Zt (Ty.pair T_int Ty.unit)).T:=(Zh4 K).g (x0,x1,())
noncomputable def Z6w (K:Nat) (k:Nat) (x1:T_int.T) (v7:T_int.T) (o2:Z9.T) (o4:Zt.T) (o6:Zt.T):Option (Ty.pair Zt (Ty.pair T_int Ty.unit)).T:=resume (envOf G [Zo K,Zin K,Zbj K,Zh3 K,Zht K] K tl25 (fun i=>if i = 5 then [10,12,28] else [])) dokB false (Ty.pair Zt (Ty.pair T_int Ty.unit)) true Tryz.f116 [1,1,1,0,1,0] k (mkSt 60 [(1,.d T_int true x1),(2,.ptr 2 0 Z9),(4,.ptr 4 0 Zt),(6,.ptr 6 0 Zt),(7,.d T_int true v7)] [(2,.box Z9 false o2),(4,.box Zt true o4),(6,.box Zt true o6)])
theorem Zlj:fnOk G 60 Tryz.f60:=⟨Tryz.func60,by kernel_rfl⟩
def tl26:Nat→List Nat:=fun i=>if i = 5 then [0,3,6,7,8,9,10,11,12,13,14,15,16,17,18,19,20,21,22,23,24,25,26,27,28,29,30,31,32,33,34,35,36,37,38,39,40,41,42,43,44,45,46,47,48,49,50,51,52,53,54,55,56,57,58,59,60,61,62,63,64] else []
noncomputable def Zez (K:Nat):Ent G.P:=mkEnt G 60 Tryz.f60 Zlj [Z9] false (Ty.pair Z1a (Ty.pair T_bool Ty.unit)) true [Zcq K,Zbj K,Zfr K,Zh4 K] K tl26 (fun i=>if i = 5 then [9,29] else [])
noncomputable def Zax (K:Nat) (x0:Z9.T):Option (Ty.pair Z1a (Ty.pair T_bool Ty.unit)).T:=(Zez K).g (x0,())
noncomputable def Z2w (K:Nat) (k:Nat) (v5:T_int.T) (o1:Z9.T) (o2:Z1a.T) (o4:Z1a.T):Option (Ty.pair Z1a (Ty.pair T_bool Ty.unit)).T:=resume (envOf G [Zcq K,Zbj K,Zfr K,Zh4 K] K tl26 (fun i=>if i = 5 then [9,29] else [])) dokB false (Ty.pair Z1a (Ty.pair T_bool Ty.unit)) true Tryz.f60 [1,1,1,0,1,0] k (mkSt 65 [(1,.ptr 1 0 Z9),(2,.ptr 2 0 Z1a),(4,.ptr 4 0 Z1a),(5,.d T_int true v5)] [(1,.box Z9 false o1),(2,.box Z1a true o2),(4,.box Z1a true o4)])
theorem Zox:fnOk G 117 Tryz.f117:=⟨Tryz.func117,by kernel_rfl⟩
noncomputable def Zh5 (K:Nat):Ent G.P:=mkEnt G 117 Tryz.f117 Zox [Z5] true T_bool true [Zo K] K tl1 tl1
noncomputable def Zcu (K:Nat) (x0:Z5.T):Option T_bool.T:=(Zh5 K).g (x0,())
theorem Zmw:fnOk G 61 Tryz.f61:=⟨Tryz.func61,by kernel_rfl⟩
def tl27:Nat→List Nat:=fun i=>if i = 2 then [1,2,4,5,6,7,8,9,10,11,12,13,14,15,16,17,18,19,20,21,22,23,24,25,26,27,28,29,30,31,32,33,34,35,36] else []
noncomputable def Zft (K:Nat):Ent G.P:=mkEnt G 61 Tryz.f61 Zmw [Z7] true T_bool true [Zh5 K] K tl27 tl18
noncomputable def Zbn (K:Nat) (x0:Z7.T):Option T_bool.T:=(Zft K).g (x0,())
noncomputable def Z36 (K:Nat) (k:Nat) (x0:Z7.T) (v3:T_int.T):Option T_bool.T:=resume (envOf G [Zh5 K] K tl27 tl18) dokB true T_bool true Tryz.f61 [1,0,1,0] k (mkSt 37 [(0,.d Z7 false x0),(3,.d T_int true v3)] [])
theorem Zqi:fnOk G 62 Tryz.f62:=⟨Tryz.func62,by kernel_rfl⟩
def tl28:Nat→List Nat:=fun i=>if i = 2 then [1,2,4,5,6,7,8,9,10,11,12,13,14,15,16,17,18,19,20,21,22,23,24,25,26,27,28] else []
noncomputable def Zhu (K:Nat):Ent G.P:=mkEnt G 62 Tryz.f62 Zqi [Zg] true T_bool true [Zo K] K tl28 tl18
noncomputable def Zdr (K:Nat) (x0:Zg.T):Option T_bool.T:=(Zhu K).g (x0,())
noncomputable def Z50 (K:Nat) (k:Nat) (x0:Zg.T) (v3:T_int.T):Option T_bool.T:=resume (envOf G [Zo K] K tl28 tl18) dokB true T_bool true Tryz.f62 [1,0,1,0] k (mkSt 29 [(0,.d Zg false x0),(3,.d T_int true v3)] [])
theorem Zoy:fnOk G 63 Tryz.f63:=⟨Tryz.func63,by kernel_rfl⟩
noncomputable def Zh6 (K:Nat):Ent G.P:=mkEnt G 63 Tryz.f63 Zoy [Zd] true T_bool true [Zo K] K tl1 tl1
noncomputable def Zcv (K:Nat) (x0:Zd.T):Option T_bool.T:=(Zh6 K).g (x0,())
theorem Zoz:fnOk G 166 Tryz.f166:=⟨Tryz.func166,by kernel_rfl⟩
noncomputable def Z17 (K:Nat):Ent G.P:=mkEnt G 166 Tryz.f166 Zoz [T_int] true T_bool true [Zo K] K tl1 tl1
noncomputable def Z31 (K:Nat) (x0:T_int.T):Option T_bool.T:=(Z17 K).g (x0,())
theorem Zmx:fnOk G 207 Tryz.f207:=⟨Tryz.func207,by kernel_rfl⟩
noncomputable def Zfu (K:Nat):Ent G.P:=mkEnt G 207 Tryz.f207 Zmx [Z4] true T_bool true [Zo K,Zei K,Z17 K,Zeh K] K tl1 tl1
noncomputable def Zbo (K:Nat) (x0:Z4.T):Option T_bool.T:=(Zfu K).g (x0,())
theorem Zp0:fnOk G 123 Tryz.f123:=⟨Tryz.func123,by kernel_rfl⟩
def tl29:Nat→List Nat:=fun i=>if i = 2 then [2,3,4,6,7,8,9,10,11,12,13,14,15,16,17,18,19] else []
noncomputable def Z8q (K:Nat):Ent G.P:=mkEnt G 123 Tryz.f123 Zp0 [Zk,T_int] true T_int true [] K tl29 tl18
noncomputable def Z7l (K:Nat) (x0:Zk.T) (x1:T_int.T):Option T_int.T:=(Z8q K).g (x0,x1,())
noncomputable def Z32 (K:Nat) (k:Nat) (x0:Zk.T) (x1:T_int.T) (v5:T_int.T):Option T_int.T:=resume (envOf G [] K tl29 tl18) dokB true T_int true Tryz.f123 [1,0,1,0] k (mkSt 20 [(0,.d Zk false x0),(1,.d T_int true x1),(5,.d T_int true v5)] [])
theorem Zp1:fnOk G 208 Tryz.f208:=⟨Tryz.func208,by kernel_rfl⟩
noncomputable def Zh7 (K:Nat):Ent G.P:=mkEnt G 208 Tryz.f208 Zp1 [Zb] true T_bool true [Zo K,Zei K,Z17 K] K tl1 tl1
noncomputable def Zcw (K:Nat) (x0:Zb.T):Option T_bool.T:=(Zh7 K).g (x0,())
theorem Zlk:fnOk G 164 Tryz.f164:=⟨Tryz.func164,by kernel_rfl⟩
def tl30:Nat→List Nat:=fun i=>if i = 2 then [0,2,4,5,6,7,8,9,10,11,12,13,14,15,16,17,18,19,20,21,22,23,24,25,26,27,28,29,30,31,32,33,34,35,36,37,38,39,40,41,42,43,44,45,46,47,48,49,50,51,52,53,54,55,56,57,58,59,60,61,62,63,64,65,66,67,68,69,70,71,72,73,74,75,76,77,78,79,80,81,82,83,84,85,86,87,88,89,90,91,92,93,94,95,96,97,98,99,100,101,102,103,104,105,106,107,108,109,110,111,112,113,114,115,116,117,118,119,120,121,122,123,124,125] else if i = 11 then [0,2,6,7,8,9,10,11,12,13,14,15,16,17,18,19,20,21,22,23,24,25,26,27,28,29,30,31,32,33,34,35,36,37,38,39,40,41,42,43,44,45,46,47,48,49,50,51,52,53,54,55,56,57,58,59,60,61,62,63,64,65,66,67,68,69,70,71,72,73,74,75,76,77,78,79,80,81,82,83,84,85,86,87,88,89,90,91,92,93,94,95,96,97,98,99,100,101,102,103,104,105,106,107,108,109,110,111,112,113,114,115,116,117,118,119,120,121,122,123,124,125] else if i = 16 then [0,2,3,4,5,7,8,9,10,11,12,13,14,15,16,17,18,19,20,21,22,23,24,25,26,27,28,29,30,31,32,33,34,35,36,37,38,39,40,41,42,43,44,45,46,47,48,49,50,51,52,53,54,55,56,57,58,59,60,61,62,63,64,65,66,67,68,69,70,71,72,73,74,75,76,77,78,79,80,81,82,83,84,85,86,87,88,89,90,91,92,93,94,95,96,97,98,99,100,101,102,103,104,105,106,107,108,109,110,111,112,113,114,115,116,117,118,119,120,121,122,123,124,125] else []
def tl31:Nat→List Nat:=fun i=>if i = 2 then [4] else if i = 11 then [] else if i = 16 then [] else []
noncomputable def Z10 (K:Nat):Ent G.P:=mkEnt G 164 Tryz.f164 Zlk [Z0] true T_bool true [Zfu K,Z8q K,Zh7 K,Zo K] K tl30 tl31
noncomputable def Z1x (K:Nat) (x0:Z0.T):Option T_bool.T:=(Z10 K).g (x0,())
noncomputable def ev4 (K:Nat):Env:=envOf G [Zfu K,Z8q K,Zh7 K,Zo K] K tl30 tl31
noncomputable def Z2f (K:Nat) (k:Nat) (v3:T_int.T) (o1:Z0.T):Option T_bool.T:=resume (ev4 K) dokB true T_bool true Tryz.f164 [1,0,1,0] k (mkSt 126 [(1,.ptr 1 0 Z0),(3,.d T_int true v3)] [(1,.box Z0 false o1)])
noncomputable def Z27 (K:Nat) (k:Nat) (n0:Nat) (v3:T_int.T) (v5:T_int.T) (o1:Z0.T) (o4:Z4.T):Option T_bool.T:=resume (ev4 K) dokB true T_bool true Tryz.f164 [1,0,1,0,n0 + 2,1,0,0,1,1,1,0,1,1,0] k (mkSt 126 [(1,.ptr 1 0 Z0),(3,.d T_int true v3),(4,.ptr 4 0 Z4),(5,.d T_int true v5)] [(1,.box Z0 false o1),(4,.box Z4 true o4)])
noncomputable def Z1z (K:Nat) (k:Nat) (v6:T_int.T) (o1:Z0.T):Option T_bool.T:=resume (ev4 K) dokB true T_bool true Tryz.f164 [1,1,0,1,0] k (mkSt 126 [(1,.ptr 1 0 Z0),(6,.d T_int true v6)] [(1,.box Z0 false o1)])
theorem Zkp:fnOk G 165 Tryz.f165:=⟨Tryz.func165,by kernel_rfl⟩
noncomputable def Zy (K:Nat):Ent G.P:=mkEnt G 165 Tryz.f165 Zkp [Zp] true T_bool true [] K tl1 tl1
noncomputable def Z2a (K:Nat) (x0:Zp.T):Option T_bool.T:=(Zy K).g (x0,())
theorem Zmy:fnOk G 210 Tryz.f210:=⟨Tryz.func210,by kernel_rfl⟩
noncomputable def Zfv (K:Nat):Ent G.P:=mkEnt G 210 Tryz.f210 Zmy [Z4,Zb] true T_bool true [] K tl1 tl1
noncomputable def Z82 (K:Nat) (x0:Z4.T) (x1:Zb.T):Option T_bool.T:=(Zfv K).g (x0,x1,())
theorem Zmz:fnOk G 122 Tryz.f122:=⟨Tryz.func122,by kernel_rfl⟩
noncomputable def Zbp (K:Nat):Ent G.P:=mkEnt G 122 Tryz.f122 Zmz [Zf,T_int] true T_int true [] K tl29 tl18
noncomputable def Z9n (K:Nat) (x0:Zf.T) (x1:T_int.T):Option T_int.T:=(Zbp K).g (x0,x1,())
noncomputable def Z2s (K:Nat) (k:Nat) (x0:Zf.T) (x1:T_int.T) (v5:T_int.T):Option T_int.T:=resume (envOf G [] K tl29 tl18) dokB true T_int true Tryz.f122 [1,0,1,0] k (mkSt 20 [(0,.d Zf false x0),(1,.d T_int true x1),(5,.d T_int true v5)] [])
theorem Zll:fnOk G 168 Tryz.f168:=⟨Tryz.func168,by kernel_rfl⟩
def tl32:Nat→List Nat:=fun i=>if i = 2 then [0,2,4,5,6,7,8,9,10,11,12,13,14,15,16,17,18,19,20,21,22,23,24,25,26,27,28,29,30,31,32,33,34,35,36,37,38,39,40,41,42,43,44,45,46,47,48,49,50,51,52,53,54,55,56,57,58,59,60,61,62,63,64,65,66,67,68,69,70,71,72,73,74,75,76,77,78,79,80,81,82,83,84] else if i = 9 then [0,2,3,4,6,7,8,9,10,11,12,13,14,15,16,17,18,19,20,21,22,23,24,25,26,27,28,29,30,31,32,33,34,35,36,37,38,39,40,41,42,43,44,45,46,47,48,49,50,51,52,53,54,55,56,57,58,59,60,61,62,63,64,65,66,67,68,69,70,71,72,73,74,75,76,77,78,79,80,81,82,83,84] else []
def tl33:Nat→List Nat:=fun i=>if i = 2 then [] else if i = 9 then [] else []
noncomputable def Z11 (K:Nat):Ent G.P:=mkEnt G 168 Tryz.f168 Zll [Z0] true T_bool true [Z8q K,Zfv K,Zbp K] K tl32 tl33
noncomputable def Z1s (K:Nat) (x0:Z0.T):Option T_bool.T:=(Z11 K).g (x0,())
noncomputable def ev5 (K:Nat):Env:=envOf G [Z8q K,Zfv K,Zbp K] K tl32 tl33
noncomputable def Z4a (K:Nat) (k:Nat) (v3:T_int.T) (o1:Z0.T):Option T_bool.T:=resume (ev5 K) dokB true T_bool true Tryz.f168 [1,0,1,0] k (mkSt 85 [(1,.ptr 1 0 Z0),(3,.d T_int true v3)] [(1,.box Z0 false o1)])
noncomputable def Z58 (K:Nat) (k:Nat) (v5:T_int.T) (o1:Z0.T):Option T_bool.T:=resume (ev5 K) dokB true T_bool true Tryz.f168 [1,1,0,1,0] k (mkSt 85 [(1,.ptr 1 0 Z0),(5,.d T_int true v5)] [(1,.box Z0 false o1)])
theorem Zn0:fnOk G 118 Tryz.f118:=⟨Tryz.func118,by kernel_rfl⟩
noncomputable def Zfw (K:Nat):Ent G.P:=mkEnt G 118 Tryz.f118 Zn0 [Z0] true T_bool true [Z10 K,Zy K,Zo K,Z17 K,Z16 K,Z11 K] K tl1 tl1
noncomputable def Zi (K:Nat) (x0:Z0.T):Option T_bool.T:=(Zfw K).g (x0,())
theorem Zn1:fnOk G 120 Tryz.f120:=⟨Tryz.func120,by kernel_rfl⟩
noncomputable def Zfx (K:Nat):Ent G.P:=mkEnt G 120 Tryz.f120 Zn1 [Zt] true Z6 true [Zem K] K tl1 tl1
noncomputable def Ze4 (K:Nat) (x0:Zt.T):Option Z6.T:=(Zfx K).g (x0,())
theorem Zlm:fnOk G 119 Tryz.f119:=⟨Tryz.func119,by kernel_rfl⟩
def tl34:Nat→List Nat:=fun i=>if i = 4 then [2,3,4,6,7,8,9,10,11,12,13,14,15,16,17,18,19,20,21,22,23,24,25] else []
def tl35:Nat→List Nat:=fun i=>if i = 4 then [] else []
noncomputable def Zf0 (K:Nat):Ent G.P:=mkEnt G 119 Tryz.f119 Zlm [Z6,Z6] true T_bool true [] K tl34 tl35
noncomputable def Z60 (K:Nat) (x0:Z6.T) (x1:Z6.T):Option T_bool.T:=(Zf0 K).g (x0,x1,())
noncomputable def Z24 (K:Nat) (k:Nat) (x0:Z6.T) (x1:Z6.T) (v5:T_int.T):Option T_bool.T:=resume (envOf G [] K tl34 tl35) dokB true T_bool true Tryz.f119 [1,1,0,1,0] k (mkSt 26 [(0,.d Z6 false x0),(1,.d Z6 false x1),(5,.d T_int true v5)] [])
theorem Zp2:fnOk G 121 Tryz.f121:=⟨Tryz.func121,by kernel_rfl⟩
noncomputable def Zh8 (K:Nat):Ent G.P:=mkEnt G 121 Tryz.f121 Zp2 [Z7,T_int] true T_int true [] K tl29 tl18
noncomputable def Zal (K:Nat) (x0:Z7.T) (x1:T_int.T):Option T_int.T:=(Zh8 K).g (x0,x1,())
noncomputable def Z6x (K:Nat) (k:Nat) (x0:Z7.T) (x1:T_int.T) (v5:T_int.T):Option T_int.T:=resume (envOf G [] K tl29 tl18) dokB true T_int true Tryz.f121 [1,0,1,0] k (mkSt 20 [(0,.d Z7 false x0),(1,.d T_int true x1),(5,.d T_int true v5)] [])
theorem Zln:fnOk G 64 Tryz.f64:=⟨Tryz.func64,by kernel_rfl⟩
def tl36:Nat→List Nat:=fun i=>if i = 7 then [0,2,4,5,6,9,10,11,12,13,14,15,16,17,18,19,20,21,22,23,24,25,26,27,28,29,30,31,32,33,34,35,36,37,38,39,40,41,42,43,44,45,46,47,48,49,50,51,52,53,54,55,56,57,58,59,60,61,62,63,64,65,66,67,68,69,70,71,72,73,74,75,76,77,78,79,80,81,82,83,84,85,86,87,88,89,90,91,92,93,94,95,96,97,98,99,100,101,102,103,104,105,106,107,108,109,110,111,112,113,114,115,116,117,118,119,120,121,122,123,124,125,126,127,128,129,130,131,132,133,134,135,136,137,138,139,140,141,142,143,144,145,146,147,148,149,150,151,152,153,154,155,156,157,158,159,160,161,162,163,164,165,166,167,168,169,170,171,172,173,174,175,176,177,178,179,180,181,182,183,184,185,186,187,188,189,190,191,192,193,194,195,196,197,198,199,200,201,202,203,204] else if i = 13 then [0,2,4,5,6,8,9,11,12,13,14,15,16,17,18,19,20,21,22,23,24,25,26,27,28,29,30,31,32,33,34,35,36,37,38,39,40,41,42,43,44,45,46,47,48,49,50,51,52,53,54,55,56,57,58,59,60,61,62,63,64,65,66,67,68,69,70,71,72,73,74,75,76,77,78,79,80,81,82,83,84,85,86,87,88,89,90,91,92,93,94,95,96,97,98,99,100,101,102,103,104,105,106,107,108,109,110,111,112,113,114,115,116,117,118,119,120,121,122,123,124,125,126,127,128,129,130,131,132,133,134,135,136,137,138,139,140,141,142,143,144,145,146,147,148,149,150,151,152,153,154,155,156,157,158,159,160,161,162,163,164,165,166,167,168,169,170,171,172,173,174,175,176,177,178,179,180,181,182,183,184,185,186,187,188,189,190,191,192,193,194,195,196,197,198,199,200,201,202,203,204] else if i = 19 then [0,2,4,5,6,8,9,10,11,13,14,15,16,17,18,19,20,21,22,23,24,25,26,27,28,29,30,31,32,33,34,35,36,37,38,39,40,41,42,43,44,45,46,47,48,49,50,51,52,53,54,55,56,57,58,59,60,61,62,63,64,65,66,67,68,69,70,71,72,73,74,75,76,77,78,79,80,81,82,83,84,85,86,87,88,89,90,91,92,93,94,95,96,97,98,99,100,101,102,103,104,105,106,107,108,109,110,111,112,113,114,115,116,117,118,119,120,121,122,123,124,125,126,127,128,129,130,131,132,133,134,135,136,137,138,139,140,141,142,143,144,145,146,147,148,149,150,151,152,153,154,155,156,157,158,159,160,161,162,163,164,165,166,167,168,169,170,171,172,173,174,175,176,177,178,179,180,181,182,183,184,185,186,187,188,189,190,191,192,193,194,195,196,197,198,199,200,201,202,203,204] else []
def tl37:Nat→List Nat:=fun i=>if i = 7 then [5] else if i = 13 then [] else if i = 19 then [] else []
noncomputable def Zf1 (K:Nat):Ent G.P:=mkEnt G 64 Tryz.f64 Zln [Z1,T_int,Zt] true T_bool true [Zfw K,Zfx K,Zf0 K,Zh8 K,Zbp K,Z8q K] K tl36 tl37
noncomputable def Z4h (K:Nat) (x0:Z1.T) (x1:T_int.T) (x2:Zt.T):Option T_bool.T:=(Zf1 K).g (x0,x1,x2,())
noncomputable def ev6 (K:Nat):Env:=envOf G [Zfw K,Zfx K,Zf0 K,Zh8 K,Zbp K,Z8q K] K tl36 tl37
noncomputable def Z1q (K:Nat) (k:Nat) (x1:T_int.T) (v8:T_int.T) (o3:Z1.T) (o7:Z0.T):Option T_bool.T:=resume (ev6 K) dokB true T_bool true Tryz.f64 [1,1,1,1,0,1,0] k (mkSt 205 [(1,.d T_int true x1),(3,.ptr 3 0 Z1),(7,.ptr 7 0 Z0),(8,.d T_int true v8)] [(3,.box Z1 false o3),(7,.box Z0 false o7)])
noncomputable def Z2i (K:Nat) (k:Nat) (x1:T_int.T) (v10:T_int.T) (o3:Z1.T) (o7:Z0.T):Option T_bool.T:=resume (ev6 K) dokB true T_bool true Tryz.f64 [1,1,1,1,1,0,1,0] k (mkSt 205 [(1,.d T_int true x1),(3,.ptr 3 0 Z1),(7,.ptr 7 0 Z0),(10,.d T_int true v10)] [(3,.box Z1 false o3),(7,.box Z0 false o7)])
noncomputable def Z20 (K:Nat) (k:Nat) (x1:T_int.T) (v12:T_int.T) (o3:Z1.T) (o7:Z0.T):Option T_bool.T:=resume (ev6 K) dokB true T_bool true Tryz.f64 [1,1,1,1,1,1,0,1,0] k (mkSt 205 [(1,.d T_int true x1),(3,.ptr 3 0 Z1),(7,.ptr 7 0 Z0),(12,.d T_int true v12)] [(3,.box Z1 false o3),(7,.box Z0 false o7)])
theorem Zn2:fnOk G 20 Tryz.f20:=⟨Tryz.func20,by kernel_rfl⟩
def tl38:Nat→List Nat:=fun i=>if i = 7 then [0,2,4,6,7,8,9,10,11,12,13,14,15,16,17,18,19,20,21,22,23,24,25,26,27,28,29,30,31,32,33,34,35,36,37,38,39,40,41,42,43,44,45,46,47,48,49,50,51,52,53,54,55,56,57,58,59,60,61,62,63,64,65,66,67,68,69,70,71,72,73,74,75,76,77,78,79,80,81,82,83,84,85,86,87,88,89,90,91,92,93,94,95,96,97,98,99,100,101,102,103,104,105,106,107,108,109,110,111,112,113,114,115,116,117,118,119] else if i = 12 then [0,2,4,5,7,8,9,10,11,12,13,14,15,16,17,18,19,20,21,22,23,24,25,26,27,28,29,30,31,32,33,34,35,36,37,38,39,40,41,42,43,44,45,46,47,48,49,50,51,52,53,54,55,56,57,58,59,60,61,62,63,64,65,66,67,68,69,70,71,72,73,74,75,76,77,78,79,80,81,82,83,84,85,86,87,88,89,90,91,92,93,94,95,96,97,98,99,100,101,102,103,104,105,106,107,108,109,110,111,112,113,114,115,116,117,118,119] else []
def tl39:Nat→List Nat:=fun i=>if i = 7 then [] else if i = 12 then [] else []
noncomputable def Z83 (K:Nat):Ent G.P:=mkEnt G 20 Tryz.f20 Zn2 [Z1] true T_bool true [Zez K,Zo K,Zft K,Zhu K,Zh6 K,Zf1 K] K tl38 tl39
noncomputable def Z84 (K:Nat) (x0:Z1.T):Option T_bool.T:=(Z83 K).g (x0,())
noncomputable def ev7 (K:Nat):Env:=envOf G [Zez K,Zo K,Zft K,Zhu K,Zh6 K,Zf1 K] K tl38 tl39
noncomputable def Z1r (K:Nat) (k:Nat) (v5:T_int.T) (o1:Z1.T) (o3:Z1a.T):Option T_bool.T:=resume (ev7 K) dokB true T_bool true Tryz.f20 [1,1,1,1,0,1,0] k (mkSt 120 [(1,.ptr 1 0 Z1),(3,.ptr 3 0 Z1a),(5,.d T_int true v5)] [(1,.box Z1 false o1),(3,.box Z1a true o3)])
noncomputable def Z2x (K:Nat) (k:Nat) (v6:T_int.T) (o1:Z1.T) (o3:Z1a.T):Option T_bool.T:=resume (ev7 K) dokB true T_bool true Tryz.f20 [1,1,1,1,1,0,1,0] k (mkSt 120 [(1,.ptr 1 0 Z1),(3,.ptr 3 0 Z1a),(6,.d T_int true v6)] [(1,.box Z1 false o1),(3,.box Z1a true o3)])
theorem Zkd:fnOk G 65 Tryz.f65:=⟨Tryz.func65,by kernel_rfl⟩
def tl40:Nat→List Nat:=fun i=>if i = 3 then [3,4,5,6,9,10,11,12,13,14,15,16,17,18,19,20,21,22,23,24,25,26,27,28,29,30,31,32,33,34,35,36,37,38,39,40,41,42] else []
noncomputable def Zip (K:Nat):SEnt G.P:=mkSEnt G 65 Tryz.f65 Zkd [Z7,T_int,T_int] (.ow .fz) Z7 [Zcp K,Zo K] [] [] [] [] ⟨[10,40],[(36,(.ow .fz))],[]⟩ K tl40 (fun i=>if i = 3 then [6,9,40,41] else [])
noncomputable def Z94 (K:Nat) (x0:Z7.T) (x1:T_int.T) (x2:T_int.T):Option Z7.T:=(Zip K).g (x0,x1,x2,())
theorem Zrq (K:Nat):(Zip K).sh.whole = true:=by kernel_rfl
noncomputable def Zlb (K:Nat):Ent G.P:=(Zip K).data (Zrq K) Zkd.ex
noncomputable def Z4v (K:Nat) (k:Nat) (x0:Z7.T) (x1:T_int.T) (x2:T_int.T) (v8:T_int.T) (o10:Z7.T):Option Z7.T:=resumeS (envT G [Zcp K,Zo K] [] [] [] [] ⟨[10,40],[(36,(.ow .fz))],[]⟩ K tl40 (fun i=>if i = 3 then [6,9,40,41] else [])) dokB (.ow .fz) Z7 Tryz.f65 [1,1,0,1,0] k (mkSt 43 [(0,.d Z7 false x0),(1,.d T_int true x1),(2,.d T_int true x2),(7,.vw 10 [] 0 Z7),(8,.d T_int true v8)] [(10,.tr false (.ow .fz) Z7 o10)])
theorem Zkq:fnOk G 22 Tryz.f22:=⟨Tryz.func22,by kernel_rfl⟩
def tl41:Nat→List Nat:=fun i=>if i = 1 then [2,3,5,6,7,8,9,10,11,12,13,14,15,16,17,18,19,20,21,22,23,24,25,26,27,28,29,30,31,32,33,34,35,36,37,38,39,40,41,42,43,44,45,46,47,48,49,50,51,52,53,54,55,56,57,58,59,60,61,62,63,64,65,66,67,68,69,70,71,72,73,74,75,76,77,78,79,80,81,82] else if i = 5 then [2,3,4,6,7,8,9,10,11,12,13,14,15,16,17,18,19,20,21,22,23,24,25,26,27,28,29,30,31,32,33,34,35,36,37,38,39,40,41,42,43,44,45,46,47,48,49,50,51,52,53,54,55,56,57,58,59,60,61,62,63,64,65,66,67,68,69,70,71,72,73,74,75,76,77,78,79,80,81,82] else []
def tl42:Nat→List Nat:=fun i=>if i = 1 then [38] else if i = 5 then [73] else []
noncomputable def Z6b (K:Nat):PEnt G.P:=mkPEnt G 22 Tryz.f22 Zkq [T_int] (.pr .fz (.pr .fz shf1)) (.pr .fz (.pr .fz shf1)) Z1 [Zlb K] [] [] [] [] ⟨[],[],[(38,.mv),(73,.mv)]⟩ K tl41 tl42
noncomputable def Z85 (K:Nat) (x0:Z1.T) (x1:T_int.T):Option Z1.T:=(Z6b K).g x0 (x1,())
noncomputable def ev8 (K:Nat):Env:=envT G [Zlb K] [] [] [] [] ⟨[],[],[(38,.mv),(73,.mv)]⟩ K tl41 tl42
noncomputable def Z5g (K:Nat) (k:Nat) (x1:T_int.T) (v4:T_int.T) (o0:Z1.T):Option Z1.T:=resumeP (ev8 K) dokB (.pr .fz (.pr .fz shf1)) Z1 Tryz.f22 [0,1,0] k (mkSt 83 [(0,.pt 0 [] 0 Z1),(1,.d T_int true x1),(4,.d T_int true v4)] [(0,.tr true (.pr .fz (.pr .fz shf1)) Z1 o0)])
noncomputable def Z4i (K:Nat) (k:Nat) (x1:T_int.T) (v5:T_int.T) (o0:Z1.T):Option Z1.T:=resumeP (ev8 K) dokB (.pr .fz (.pr .fz shf1)) Z1 Tryz.f22 [1,0,1,0] k (mkSt 83 [(0,.pt 0 [] 0 Z1),(1,.d T_int true x1),(5,.d T_int true v5)] [(0,.tr true (.pr .fz (.pr .fz shf1)) Z1 o0)])
theorem Zk0:fnOk G 6 Tryz.f6:=⟨Tryz.func6,by kernel_rfl⟩
noncomputable def Z9z (K:Nat):SEnt G.P:=mkSEnt2 G 6 Tryz.f6 Zk0 [Z1,T_int] (.pr (.pr .fz (.pr .fz shf1)) (.pr .fz .fz)) (Ty.pair Z1 (Ty.pair T_bool Ty.unit)) [Z83 K,Zo K] [Z7z K] [Z6b K] [] [] ⟨[4,6],[],[]⟩ K tl1 tl1
noncomputable def Z4e (K:Nat) (x0:Z1.T) (x1:T_int.T):Option (Ty.pair Z1 (Ty.pair T_bool Ty.unit)).T:=(Z9z K).g (x0,x1,())
theorem Zre (K:Nat):(Z9z K).sh.whole = true:=by kernel_rfl
noncomputable def Zke (K:Nat):Ent G.P:=(Z9z K).data (Zre K) Zk0.ex
theorem ok6 (K:Nat):∀ x,CallOk G.P 6 (toDts [Z1,T_int] x) ⟨false,(Ty.pair Z1 (Ty.pair T_bool Ty.unit)),false,false,(Z9z K).g x⟩:=Eq.mp (by kernel_rfl) (Zke K).ok
theorem Zrf:fnOk G 29 Tryz.f29:=⟨Tryz.func29,by kernel_rfl⟩
noncomputable def Z12 (K:Nat):Ent G.P:=mkEnt G 29 Tryz.f29 Zrf [T_int,T_int,T_int] true T_bool true [] K tl1 tl1
noncomputable def Zr (K:Nat) (x0:T_int.T) (x1:T_int.T) (x2:T_int.T):Option T_bool.T:=(Z12 K).g (x0,x1,x2,())
theorem Zp3:fnOk G 106 Tryz.f106:=⟨Tryz.func106,by kernel_rfl⟩
def tl43:Nat→List Nat:=fun i=>if i = 4 then [0,2,3,4,5,6,7,8,9,10,11,12,13,14,15,16,17,18,19,20,21,22,23,24,28,29,30,31,32,33,34,35,36,37,38,39,40,41,42,43,44,45,46,47,48,49,50,51,52,53,54,55,56] else if i = 10 then [0,2,3,4,5,6,7,8,9,10,11,12,13,14,15,16,17,18,19,20,21,22,23,24,25,26,27,28,29,30,31,32,33,34,35,39,40,41,42,43,44,45,46,47,48,49,50,51,52,53,54,55,56] else []
def tl44:Nat→List Nat:=fun i=>if i = 4 then [] else if i = 10 then [6] else []
noncomputable def Zcx (K:Nat):Ent G.P:=mkEnt G 106 Tryz.f106 Zp3 [Z9] true T_bool true [Z12 K] K tl43 tl44
noncomputable def Z8r (K:Nat) (x0:Z9.T):Option T_bool.T:=(Zcx K).g (x0,())
noncomputable def Z6y (K:Nat) (k:Nat) (x0:Z9.T) (v27:T_int.T) (o1:Z9.T):Option T_bool.T:=resume (envOf G [Z12 K] K tl43 tl44) dokB true T_bool true Tryz.f106 [1,1,0,1,0] k (mkSt 57 [(1,.ptr 1 0 Z9),(25,.d Zx false x0.1),(26,.d T_int true ((List.length x0.1:Nat):Int)),(27,.d T_int true v27)] [(1,.box Z9 false o1)])
noncomputable def Z6c (K:Nat) (k:Nat) (v38:T_int.T) (o1:Z9.T):Option T_bool.T:=resume (envOf G [Z12 K] K tl43 tl44) dokB true T_bool true Tryz.f106 [1,1,1,0,1,0] k (mkSt 57 [(1,.ptr 1 0 Z9),(36,.d Zz false o1.2.1),(37,.d T_int true ((List.length o1.2.1:Nat):Int)),(38,.d T_int true v38)] [(1,.box Z9 false o1)])
theorem Ziq:fnOk G 142 Tryz.f142:=⟨Tryz.func142,by kernel_rfl⟩
noncomputable def Z2k (K:Nat):Ent G.P:=mkEntO G 142 Tryz.f142 Ziq [Zj] 5 T_u8 false [] K tl1 tl1
noncomputable def Z1c (K:Nat) (x0:Zj.T):Option Zj.T:=(Z2k K).g (x0,())
theorem Zn3:fnOk G 131 Tryz.f131:=⟨Tryz.func131,by kernel_rfl⟩
def tl45:Nat→List Nat:=fun i=>if i = 4 then [0,3,4,6,7,8,9,10,11,12,13,14,15,16,17,18,19,20,21,22,23,24,25,26,27,28,29,30,31,32,33,34,35,36,37,38,39,40,41,42,43,44,45,46,47] else []
noncomputable def Zbq (K:Nat):Ent G.P:=mkEntO G 131 Tryz.f131 Zn3 [Z9,T_int] 5 T_u8 false [Zcx K,Z12 K,Z2k K] K tl45 (fun i=>if i = 4 then [4,41] else [])
noncomputable def Z9o (K:Nat) (x0:Z9.T) (x1:T_int.T):Option Zj.T:=(Zbq K).g (x0,x1,())
noncomputable def Z6d (K:Nat) (k:Nat) (x1:T_int.T) (v5:T_int.T) (o2:Z9.T):Option Zj.T:=resumeO (envOf G [Zcx K,Z12 K,Z2k K] K tl45 (fun i=>if i = 4 then [4,41] else [])) dokB 5 T_u8 false Tryz.f131 [1,1,0,1,0] k (mkSt 48 [(1,.d T_int true x1),(2,.ptr 2 0 Z9),(5,.d T_int true v5)] [(2,.box Z9 false o2)])
theorem Zn4:fnOk G 173 Tryz.f173:=⟨Tryz.func173,by kernel_rfl⟩
noncomputable def Zfy (K:Nat):Ent G.P:=mkEnt G 173 Tryz.f173 Zn4 [Zj,T_int] false (Ty.pair T_int (Ty.pair T_int (Ty.pair T_bool Ty.unit))) true [Z12 K] K tl1 tl1
noncomputable def Z3o (K:Nat) (x0:Zj.T) (x1:T_int.T):Option (Ty.pair T_int (Ty.pair T_int (Ty.pair T_bool Ty.unit))).T:=(Zfy K).g (x0,x1,())
theorem Zn5:fnOk G 213 Tryz.f213:=⟨Tryz.func213,by kernel_rfl⟩
noncomputable def Zfz (K:Nat):Ent G.P:=mkEntO G 213 Tryz.f213 Zn5 [Zj,T_int] 5 T_u8 false [Z2k K] K tl1 tl1
noncomputable def Z4f (K:Nat) (x0:Zj.T) (x1:T_int.T):Option Zj.T:=(Zfz K).g (x0,x1,())
theorem Zrr:fnOk G 214 Tryz.f214:=⟨Tryz.func214,by kernel_rfl⟩
def tl46:Nat→List Nat:=fun i=>if i = 3 then [0,1,2,4,5,9,10,11,12,13,14,15,16,17,18,19,20,21,22,23,24,25,26,27,28] else if i = 7 then [0,1,2,4,5,9,10,11,12,13,14,15,16,18,19,20,21,22,23,24,25,26,27,28] else []
noncomputable def Zjq (K:Nat):Ent G.P:=mkEnt G 214 Tryz.f214 Zrr [Zj] true T_int true [] K tl46 tl16
noncomputable def Ze5 (K:Nat) (x0:Zj.T):Option T_int.T:=(Zjq K).g (x0,())
noncomputable def Z6z (K:Nat) (k:Nat) (x0:Zj.T) (v3:T_int.T) (v8:T_int.T):Option T_int.T:=resume (envOf G [] K tl46 tl16) dokB true T_int true Tryz.f214 [1,1,0,1,0] k (mkSt 29 [(3,.d T_int true v3),(6,.d Zj false x0),(7,.d T_int true ((List.length x0:Nat):Int)),(8,.d T_int true v8)] [])
noncomputable def Z64 (K:Nat) (k:Nat) (n0:Nat) (x0:Zj.T) (v8:T_int.T) (v3:T_int.T) (v17:T_int.T):Option T_int.T:=resume (envOf G [] K tl46 tl16) dokB true T_int true Tryz.f214 [1,1,0,1,0,n0 + 2,1,1,0,0,1,1,1,0] k (mkSt 29 [(3,.d T_int true v3),(6,.d Zj false x0),(7,.d T_int true ((List.length x0:Nat):Int)),(8,.d T_int true v8),(17,.d T_int true v17)] [])
theorem Zp4:fnOk G 175 Tryz.f175:=⟨Tryz.func175,by kernel_rfl⟩
noncomputable def Zk1 (K:Nat):Ent G.P:=mkEntO G 175 Tryz.f175 Zp4 [T_int,T_int] 5 T_u8 true [Z12 K,Zfz K,Zjq K] K tl1 tl1
noncomputable def Zcy (K:Nat) (x0:T_int.T) (x1:T_int.T):Option Zj.T:=(Zk1 K).g (x0,x1,())
theorem fn_bytes_Equal:fnOk G 174 Tryz.f174:=⟨Tryz.func174,by kernel_rfl⟩
noncomputable def e_bytes_Equal (K:Nat):Ent G.P:=mkEnt G 174 Tryz.f174 fn_bytes_Equal [Zj,Zj] true T_bool true [] K tl1 tl1
noncomputable def g_bytes_Equal (K:Nat) (x0:Zj.T) (x1:Zj.T):Option T_bool.T:=(e_bytes_Equal K).g (x0,x1,())
theorem Zn6:fnOk G 130 Tryz.f130:=⟨Tryz.func130,by kernel_rfl⟩
noncomputable def Zg0 (K:Nat):Ent G.P:=mkEnt G 130 Tryz.f130 Zn6 [Zj] false (Ty.pair T_int (Ty.pair T_int (Ty.pair T_bool Ty.unit))) true [Zfy K,Zk1 K,e_bytes_Equal K] K tl1 tl1
noncomputable def Zbr (K:Nat) (x0:Zj.T):Option (Ty.pair T_int (Ty.pair T_int (Ty.pair T_bool Ty.unit))).T:=(Zg0 K).g (x0,())
theorem Zlo:fnOk G 177 Tryz.f177:=⟨Tryz.func177,by kernel_rfl⟩
noncomputable def Zf2 (K:Nat):Ent G.P:=mkEnt G 177 Tryz.f177 Zlo [T_int,T_int] true T_int true [] K tl1 tl1
noncomputable def Zay (K:Nat) (x0:T_int.T) (x1:T_int.T):Option T_int.T:=(Zf2 K).g (x0,x1,())
theorem Zp5:fnOk G 220 Tryz.f220:=⟨Tryz.func220,by kernel_rfl⟩
def tl47:Nat→List Nat:=fun i=>if i = 2 then [1,2,3,4,7,8,9,10,11,12,13,14,15,16,17,18,19,20,21,22] else []
noncomputable def Zej (K:Nat):Ent G.P:=mkEnt G 220 Tryz.f220 Zp5 [T_str] true T_bool true [] K tl47 tl18
noncomputable def Z7m (K:Nat) (x0:T_str.T):Option T_bool.T:=(Zej K).g (x0,())
noncomputable def Z70 (K:Nat) (k:Nat) (x0:T_str.T) (v6:T_int.T):Option T_bool.T:=resume (envOf G [] K tl47 tl18) dokB true T_bool true Tryz.f220 [1,0,1,0] k (mkSt 23 [(0,.d T_str true x0),(5,.d T_int true ((ByteArray.size x0:Nat):Int)),(6,.d T_int true v6)] [])
theorem Zn7:fnOk G 215 Tryz.f215:=⟨Tryz.func215,by kernel_rfl⟩
noncomputable def Zjb (K:Nat):Ent G.P:=mkEnt G 215 Tryz.f215 Zn7 [Zj,T_int] false (Ty.pair T_str (Ty.pair T_int (Ty.pair T_bool Ty.unit))) true [Z12 K,Zej K] K tl1 tl1
noncomputable def Z9p (K:Nat) (x0:Zj.T) (x1:T_int.T):Option (Ty.pair T_str (Ty.pair T_int (Ty.pair T_bool Ty.unit))).T:=(Zjb K).g (x0,x1,())
theorem Zfe:fnOk G 241 Tryz.f241:=⟨Tryz.func241,by kernel_rfl⟩
noncomputable def Z86 (K:Nat):Ent G.P:=mkEnt G 241 Tryz.f241 Zfe [T_str,T_str] true T_int true [Z9y K] K tl1 tl1
noncomputable def Z2b (K:Nat) (x0:T_str.T) (x1:T_str.T):Option T_int.T:=(Z86 K).g (x0,x1,())
theorem Zlp:fnOk G 240 Tryz.f240:=⟨Tryz.func240,by kernel_rfl⟩
noncomputable def Zf3 (K:Nat):Ent G.P:=mkEnt G 240 Tryz.f240 Zlp [T_str,T_str] true T_int true [Z86 K] K tl1 tl1
noncomputable def Z8n (K:Nat) (x0:T_str.T) (x1:T_str.T):Option T_int.T:=(Zf3 K).g (x0,x1,())
theorem Zk6:fnOk G 224 Tryz.f224:=⟨Tryz.func224,by kernel_rfl⟩
def tl52:Nat→List Nat:=fun i=>if i = 11 then [4,5,6,7,8,11,12,13,14,15,16,17,18,19,20,21,22,23,24,25,26,27,28,29,30,31,32,33,34,35,36,37,38,39,40,41,42,43,44,45,46,47,48,49,50,51,52,53,54,55,56,57,58,59,60,61,62,63,64,65] else []
noncomputable def Zds (K:Nat):Ent G.P:=mkEnt G 224 Tryz.f224 Zk6 [T_str,T_str,T_int,T_int] true Z30 true [Zew K,Zf3 K] K tl52 (fun i=>if i = 11 then [8] else [])
noncomputable def Z6i (K:Nat) (x0:T_str.T) (x1:T_str.T) (x2:T_int.T) (x3:T_int.T):Option Z30.T:=(Zds K).g (x0,x1,x2,x3,())
noncomputable def Z3j (K:Nat) (k:Nat) (x1:T_str.T) (x2:T_int.T) (v0:T_str.T) (v3:T_int.T) (v10:T_int.T) (o31:Z30.T):Option Z30.T:=resume (envOf G [Zew K,Zf3 K] K tl52 (fun i=>if i = 11 then [8] else [])) dokB true Z30 true Tryz.f224 [1,1,1,1,1,1,1,1,0,0] k (mkSt 66 [(0,.d T_str true v0),(1,.d T_str true x1),(2,.d T_int true x2),(3,.d T_int true v3),(9,.own 31),(10,.d T_int true v10)] [(31,.arr 9 T_str true o31)])
theorem Zlq:fnOk G 188 Tryz.f188:=⟨Tryz.func188,by kernel_rfl⟩
noncomputable def Zf4 (K:Nat):Ent G.P:=mkEnt G 188 Tryz.f188 Zlq [T_str,T_str] true Z30 true [Zds K] K tl1 tl1
noncomputable def Zaz (K:Nat) (x0:T_str.T) (x1:T_str.T):Option Z30.T:=(Zf4 K).g (x0,x1,())
theorem Zgk:fnOk G 225 Tryz.f225:=⟨Tryz.func225,by kernel_rfl⟩
noncomputable def Zcz (K:Nat):Ent G.P:=mkEnt G 225 Tryz.f225 Zgk [T_str,T_str] false (Ty.pair T_str (Ty.pair T_str (Ty.pair T_bool Ty.unit))) true [Z86 K] K tl1 tl1
noncomputable def Z65 (K:Nat) (x0:T_str.T) (x1:T_str.T):Option (Ty.pair T_str (Ty.pair T_str (Ty.pair T_bool Ty.unit))).T:=(Zcz K).g (x0,x1,())
theorem Zp6:fnOk G 189 Tryz.f189:=⟨Tryz.func189,by kernel_rfl⟩
noncomputable def Zh9 (K:Nat):Ent G.P:=mkEnt G 189 Tryz.f189 Zp6 [T_str,T_str] false (Ty.pair T_str (Ty.pair T_str (Ty.pair T_bool Ty.unit))) true [Zcz K] K tl1 tl1
noncomputable def Zd0 (K:Nat) (x0:T_str.T) (x1:T_str.T):Option (Ty.pair T_str (Ty.pair T_str (Ty.pair T_bool Ty.unit))).T:=(Zh9 K).g (x0,x1,())
theorem Zkr:fnOk G 190 Tryz.f190:=⟨Tryz.func190,by kernel_rfl⟩
noncomputable def Zen (K:Nat):Ent G.P:=mkEnt G 190 Tryz.f190 Zkr [T_str,T_str,T_int] true Z30 true [Zds K] K tl1 tl1
noncomputable def Za0 (K:Nat) (x0:T_str.T) (x1:T_str.T) (x2:T_int.T):Option Z30.T:=(Zen K).g (x0,x1,x2,())
theorem Zlr:fnOk G 191 Tryz.f191:=⟨Tryz.func191,by kernel_rfl⟩
def tl53:Nat→List Nat:=fun i=>if i = 5 then [2,3,4,5,7,8,9,10,11,12,13,14,15,16,17,18,19,20,21,22,23,24,25,26,29,30,31,32,33,34,35,36,37,38,39,40,41,42,43,44,45,46,47,48,49,50,51,52,53] else []
noncomputable def Zf5 (K:Nat):Ent G.P:=mkEnt G 191 Tryz.f191 Zlr [T_str,T_int] false (Ty.pair T_int (Ty.pair T_bool Ty.unit)) true [Z12 K] K tl53 tl3
noncomputable def Zb0 (K:Nat) (x0:T_str.T) (x1:T_int.T):Option (Ty.pair T_int (Ty.pair T_bool Ty.unit)).T:=(Zf5 K).g (x0,x1,())
noncomputable def Z59 (K:Nat) (k:Nat) (x0:T_str.T) (x1:T_int.T) (v6:T_int.T) (v28:T_int.T):Option (Ty.pair T_int (Ty.pair T_bool Ty.unit)).T:=resume (envOf G [Z12 K] K tl53 tl3) dokB false (Ty.pair T_int (Ty.pair T_bool Ty.unit)) true Tryz.f191 [1,1,1,0,1,0] k (mkSt 54 [(0,.d T_str true x0),(1,.d T_int true x1),(6,.d T_int true v6),(27,.d T_int true ((ByteArray.size x0:Nat):Int)),(28,.d T_int true v28)] [])
theorem Zp7:fnOk G 219 Tryz.f219:=⟨Tryz.func219,by kernel_rfl⟩
noncomputable def Zd1 (K:Nat):Ent G.P:=mkEnt G 219 Tryz.f219 Zp7 [T_str] true T_bool true [Z12 K] K tl47 tl18
noncomputable def Z7n (K:Nat) (x0:T_str.T):Option T_bool.T:=(Zd1 K).g (x0,())
noncomputable def Z71 (K:Nat) (k:Nat) (x0:T_str.T) (v6:T_int.T):Option T_bool.T:=resume (envOf G [Z12 K] K tl47 tl18) dokB true T_bool true Tryz.f219 [1,0,1,0] k (mkSt 23 [(0,.d T_str true x0),(5,.d T_int true ((ByteArray.size x0:Nat):Int)),(6,.d T_int true v6)] [])
theorem Zks:fnOk G 237 Tryz.f237:=⟨Tryz.func237,by kernel_rfl⟩
noncomputable def Zeo (K:Nat):FEnt G.P:=mkFEnt G 237 Tryz.f237 Zks T_str Zl rfl [] K tl1 tl1
noncomputable def Zch (K:Nat) (x0:Zl.T) (x1:T_str.T):Option Bool:=(Zeo K).g x0 x1
theorem Zff:fnOk G 236 Tryz.f236:=⟨Tryz.func236,by kernel_rfl⟩
def tl54:Nat→List Nat:=fun i=>if i = 2 then [2,3,4,5,6,9,10,11,12,13,14,15,16,17,18] else []
noncomputable def Zbs (K:Nat):HEnt G.P:=mkHEnt G 236 Tryz.f236 Zff 178 Zl 237 T_str [] [Zeo K] K tl54 tl18
noncomputable def Z5r (K:Nat) (x0:Z6.T) (x1:T_str.T):Option Int:=(Zbs K).g x0 x1
noncomputable def Z2l (K:Nat) (k:Nat) (x0:Z6.T) (x1:T_str.T) (v8:T_int.T):Option T_int.T:=resume (envF G [] [Zeo K] [] K tl54 tl18) dokB true T_int true Tryz.f236 [1,0,1,0] k (mkSt 19 [(0,.d Z6 false x0),(1,.fnv 237 T_str x1),(7,.d T_int true ((List.length x0:Nat):Int)),(8,.d T_int true v8)] [])
theorem Zn8:fnOk G 222 Tryz.f222:=⟨Tryz.func222,by kernel_rfl⟩
noncomputable def Zg1 (K:Nat):Ent G.P:=mkEntF G 222 Tryz.f222 Zn8 [Z6,T_str] true T_int true [] [] [Zbs K] K tl1 tl1
noncomputable def Zbt (K:Nat) (x0:Z6.T) (x1:T_str.T):Option T_int.T:=(Zg1 K).g (x0,x1,())
theorem Zp8:fnOk G 186 Tryz.f186:=⟨Tryz.func186,by kernel_rfl⟩
def tl55:Nat→List Nat:=fun i=>if i = 2 then [1,2,3,4,8,9,10,11,12,13,14,15,16,17,18,19,20,21,22,23,24,25,26,27,28,29,30,31,32,33,34,35,36,37,38,39,40,41,42,43,44,45,46,47,48,49,50,51] else []
def tl56:Nat→List Nat:=fun i=>if i = 2 then [4] else []
noncomputable def Zek (K:Nat):Ent G.P:=mkEnt G 186 Tryz.f186 Zp8 [Z6] true T_bool true [Zd1 K,Zg1 K,Z12 K] K tl55 tl56
noncomputable def Z33 (K:Nat) (x0:Z6.T):Option T_bool.T:=(Zek K).g (x0,())
noncomputable def Z72 (K:Nat) (k:Nat) (x0:Z6.T) (v7:T_int.T):Option T_bool.T:=resume (envOf G [Zd1 K,Zg1 K,Z12 K] K tl55 tl56) dokB true T_bool true Tryz.f186 [1,0,1,0] k (mkSt 52 [(0,.d Z6 false x0),(5,.d Z6 false x0),(6,.d T_int true ((List.length x0:Nat):Int)),(7,.d T_int true v7)] [])
theorem Zhp:fnOk G 262 Tryz.f262:=⟨Tryz.func262,by kernel_rfl⟩
noncomputable def Zdt (K:Nat):Ent G.P:=mkEnt G 262 Tryz.f262 Zhp [T_int] true T_str true [] K tl1 tl1
noncomputable def Z5h (K:Nat) (x0:T_int.T):Option T_str.T:=(Zdt K).g (x0,())
theorem Zfg:fnOk G 259 Tryz.f259:=⟨Tryz.func259,by kernel_rfl⟩
noncomputable def Zbu (K:Nat):Ent G.P:=mkEnt G 259 Tryz.f259 Zfg [T_int,T_int] true T_str true [Zdt K] K tl1 tl1
noncomputable def Z5s (K:Nat) (x0:T_int.T) (x1:T_int.T):Option T_str.T:=(Zbu K).g (x0,x1,())
theorem Zhv:fnOk G 253 Tryz.f253:=⟨Tryz.func253,by kernel_rfl⟩
noncomputable def Ze8 (K:Nat):Ent G.P:=mkEnt G 253 Tryz.f253 Zhv [T_int] true T_str true [Zbu K] K tl1 tl1
noncomputable def Z7o (K:Nat) (x0:T_int.T):Option T_str.T:=(Ze8 K).g (x0,())
theorem Zn9:fnOk G 242 Tryz.f242:=⟨Tryz.func242,by kernel_rfl⟩
noncomputable def Zjc (K:Nat):Ent G.P:=mkEnt G 242 Tryz.f242 Zn9 [T_int] true T_str true [Ze8 K] K tl1 tl1
noncomputable def Ze6 (K:Nat) (x0:T_int.T):Option T_str.T:=(Zjc K).g (x0,())
theorem Zna:fnOk G 226 Tryz.f226:=⟨Tryz.func226,by kernel_rfl⟩
noncomputable def Zg2 (K:Nat):Ent G.P:=mkEnt G 226 Tryz.f226 Zna [T_int] true T_str true [Zjc K] K tl1 tl1
noncomputable def Z6j (K:Nat) (x0:T_int.T):Option T_str.T:=(Zg2 K).g (x0,())
theorem Zls:fnOk G 192 Tryz.f192:=⟨Tryz.func192,by kernel_rfl⟩
def tl58:Nat→List Nat:=fun i=>if i = 5 then [0,1,2,4,5,6,7,8,9,13,14,15,16,17,18,19,20,21,22,23,24,25,26,27,28,29,30,31,32,33,34,35,36,37,38,39,40,41,42,43] else []
noncomputable def Zf6 (K:Nat):Ent G.P:=mkEnt G 192 Tryz.f192 Zls [Z6] true T_str true [Zek K,Zg2 K,Zfh K] K tl58 (fun i=>if i = 5 then [5,39] else [])
noncomputable def Z73 (K:Nat) (x0:Z6.T):Option T_str.T:=(Zf6 K).g (x0,())
noncomputable def Z5v (K:Nat) (k:Nat) (x0:Z6.T) (v12:T_int.T) (o9:Z30.T):Option T_str.T:=resume (envOf G [Zek K,Zg2 K,Zfh K] K tl58 (fun i=>if i = 5 then [5,39] else [])) dokB true T_str true Tryz.f192 [1,1,1,0,1,0] k (mkSt 44 [(3,.own 9),(10,.d Z6 false x0),(11,.d T_int true ((List.length x0:Nat):Int)),(12,.d T_int true v12)] [(9,.arr 9 T_str true o9)])
theorem Zkt:fnOk G 138 Tryz.f138:=⟨Tryz.func138,by kernel_rfl⟩
def tl59:Nat→List Nat:=fun i=>if i = 3 then [1,2,3,5,6,7,8,9,10,11,12,13,14,18,19,20,21,22,23,24,25,26,27,28,29,30,31,32,33,34,35,36,37,38,39,40,41,42,43,44,45,46,47,48,49,50,51,52,53,54,55,56,57,58,59,60,61,62,63,64,65,66,67] else if i = 8 then [1,2,3,5,6,8,9,11,12,13,14,18,19,20,21,22,23,24,25,26,27,28,32,33,34,35,36,37,38,39,40,41,42,43,44,45,46,47,48,49,50,51,52,53,54,55,56,57,58,59,60,61,62,63,64,65,66,67] else []
def tl60:Nat→List Nat:=fun i=>if i = 3 then [2,10,55] else if i = 8 then [] else []
noncomputable def Zci (K:Nat):Ent G.P:=mkEnt G 138 Tryz.f138 Zkt [T_str] false (Ty.pair Z6 (Ty.pair T_bool Ty.unit)) true [Zf4 K,Zh9 K,Zen K,Zf5 K,Zf6 K] K tl59 tl60
noncomputable def Z2t (K:Nat) (x0:T_str.T):Option (Ty.pair Z6 (Ty.pair T_bool Ty.unit)).T:=(Zci K).g (x0,())
noncomputable def ev10 (K:Nat):Env:=envOf G [Zf4 K,Zh9 K,Zen K,Zf5 K,Zf6 K] K tl59 tl60
noncomputable def Z4j (K:Nat) (k:Nat) (x0:T_str.T) (y_1:Z30.T) (v17:T_int.T) (o13:Z6.T):Option (Ty.pair Z6 (Ty.pair T_bool Ty.unit)).T:=resume (ev10 K) dokB false (Ty.pair Z6 (Ty.pair T_bool Ty.unit)) true Tryz.f138 [1,1,0,1,0] k (mkSt 68 [(0,.d T_str true x0),(4,.own 13),(15,.d Z30 true y_1),(16,.d T_int true ((List.length y_1:Nat):Int)),(17,.d T_int true v17)] [(13,.arr 178 Zl true o13)])
noncomputable def Z2z (K:Nat) (k:Nat) (n0:Nat) (x0:T_str.T) (y_1:Z30.T) (v17:T_int.T) (y_2:(Ty.pair T_str (Ty.pair T_str (Ty.pair T_bool Ty.unit))).T) (y_3:Z30.T) (v31:T_int.T) (o13:Z6.T) (o10:Zp.T):Option (Ty.pair Z6 (Ty.pair T_bool Ty.unit)).T:=resume (ev10 K) dokB false (Ty.pair Z6 (Ty.pair T_bool Ty.unit)) true Tryz.f138 [1,1,0,1,0,n0 + 2,1,1,0,0,1,1,1,0,1,0] k (mkSt 68 [(0,.d T_str true x0),(4,.own 13),(7,.d T_str true y_2.1),(10,.ptr 10 0 Zp),(15,.d Z30 true y_1),(16,.d T_int true ((List.length y_1:Nat):Int)),(17,.d T_int true v17),(29,.d Z30 true y_3),(30,.d T_int true ((List.length y_3:Nat):Int)),(31,.d T_int true v31)] [(10,.box Zp true o10),(13,.arr 178 Zl true o13)])
theorem Zp9:fnOk G 235 Tryz.f235:=⟨Tryz.func235,by kernel_rfl⟩
noncomputable def Zha (K:Nat):Ent G.P:=mkEnt G 235 Tryz.f235 Zp9 [T_str] true T_bool true [Zci K] K tl1 tl1
noncomputable def Z8s (K:Nat) (x0:T_str.T):Option T_bool.T:=(Zha K).g (x0,())
theorem Zqj:fnOk G 218 Tryz.f218:=⟨Tryz.func218,by kernel_rfl⟩
noncomputable def Zhw (K:Nat):Ent G.P:=mkEnt G 218 Tryz.f218 Zqj [Z3t] true T_bool true [Z12 K,Zha K] K tl1 tl1
noncomputable def Za1 (K:Nat) (x0:Z3t.T):Option T_bool.T:=(Zhw K).g (x0,())
theorem Zpa:fnOk G 180 Tryz.f180:=⟨Tryz.func180,by kernel_rfl⟩
noncomputable def Zd2 (K:Nat):Ent G.P:=mkEnt G 180 Tryz.f180 Zpa [T_int] true T_bool true [Z12 K] K tl1 tl1
noncomputable def Z66 (K:Nat) (x0:T_int.T):Option T_bool.T:=(Zd2 K).g (x0,())
theorem Znb:fnOk G 233 Tryz.f233:=⟨Tryz.func233,by kernel_rfl⟩
noncomputable def Zjd (K:Nat):Ent G.P:=mkEntO G 233 Tryz.f233 Znb [Zj,T_str] 5 T_u8 false [Z2k K,Zej K] K tl1 tl1
noncomputable def Zbv (K:Nat) (x0:Zj.T) (x1:T_str.T):Option Zj.T:=(Zjd K).g (x0,x1,())
theorem Zpb:fnOk G 216 Tryz.f216:=⟨Tryz.func216,by kernel_rfl⟩
noncomputable def Zk2 (K:Nat):Ent G.P:=mkEntO G 216 Tryz.f216 Zpb [T_int,T_int,Z3t] 5 T_u8 true [Zhw K,Zd2 K,Zfz K,Zjd K,Zjq K] K tl1 tl1
noncomputable def Zam (K:Nat) (x0:T_int.T) (x1:T_int.T) (x2:Z3t.T):Option Zj.T:=(Zk2 K).g (x0,x1,x2,())
theorem Zpc:fnOk G 176 Tryz.f176:=⟨Tryz.func176,by kernel_rfl⟩
noncomputable def Zhb (K:Nat):Ent G.P:=mkEnt G 176 Tryz.f176 Zpc [Zj] false (Ty.pair T_int (Ty.pair T_int (Ty.pair Z3t (Ty.pair T_bool Ty.unit)))) true [Zfy K,Zjb K,Zk2 K,e_bytes_Equal K] K tl1 tl1
noncomputable def Zd3 (K:Nat) (x0:Zj.T):Option (Ty.pair T_int (Ty.pair T_int (Ty.pair Z3t (Ty.pair T_bool Ty.unit)))).T:=(Zhb K).g (x0,())
theorem Zqk:fnOk G 234 Tryz.f234:=⟨Tryz.func234,by kernel_rfl⟩
noncomputable def Zkf (K:Nat):Ent G.P:=mkEnt G 234 Tryz.f234 Zqk [T_int,T_str] true T_bool true [Z12 K,Zha K] K tl1 tl1
noncomputable def Zbw (K:Nat) (x0:T_int.T) (x1:T_str.T):Option T_bool.T:=(Zkf K).g (x0,x1,())
theorem Znc:fnOk G 217 Tryz.f217:=⟨Tryz.func217,by kernel_rfl⟩
noncomputable def Zje (K:Nat):Ent G.P:=mkEnt G 217 Tryz.f217 Znc [Zt] true T_bool true [Zkf K,Z12 K] K tl1 tl1
noncomputable def Zbx (K:Nat) (x0:Zt.T):Option T_bool.T:=(Zje K).g (x0,())
theorem Zql:fnOk G 178 Tryz.f178:=⟨Tryz.func178,by kernel_rfl⟩
noncomputable def Zhx (K:Nat):Ent G.P:=mkEnt G 178 Tryz.f178 Zql [Zt,Z3t] false (Ty.pair Zt (Ty.pair T_bool Ty.unit)) true [Zje K,Zhw K] K tl1 tl1
noncomputable def Zdu (K:Nat) (x0:Zt.T) (x1:Z3t.T):Option (Ty.pair Zt (Ty.pair T_bool Ty.unit)).T:=(Zhx K).g (x0,x1,())
theorem Zpd:fnOk G 132 Tryz.f132:=⟨Tryz.func132,by kernel_rfl⟩
def tl61:Nat→List Nat:=fun i=>if i = 5 then [0,3,5,7,8,9,10,11,12,13,14,15,16,17,18,20,21,22,23,24,25,26,27,28,29,30,31,32,33,34,35,36,37,38,39,40,41,42,43,44,45,46,47,48,49,50,51,52,53,54,55,56,57,58,59] else []
noncomputable def Zhc (K:Nat):Ent G.P:=mkEnt G 132 Tryz.f132 Zpd [Z9,T_int] false (Ty.pair Zt (Ty.pair T_int Ty.unit)) true [Z12 K,Zf2 K,Zbq K,Zhb K,Zhx K] K tl61 (fun i=>if i = 5 then [10,12,27] else [])
noncomputable def Zd4 (K:Nat) (x0:Z9.T) (x1:T_int.T):Option (Ty.pair Zt (Ty.pair T_int Ty.unit)).T:=(Zhc K).g (x0,x1,())
noncomputable def Z74 (K:Nat) (k:Nat) (x1:T_int.T) (v19:T_int.T) (o2:Z9.T) (o4:Zt.T) (o6:Zt.T):Option (Ty.pair Zt (Ty.pair T_int Ty.unit)).T:=resume (envOf G [Z12 K,Zf2 K,Zbq K,Zhb K,Zhx K] K tl61 (fun i=>if i = 5 then [10,12,27] else [])) dokB false (Ty.pair Zt (Ty.pair T_int Ty.unit)) true Tryz.f132 [1,1,1,0,1,0] k (mkSt 60 [(1,.d T_int true x1),(2,.ptr 2 0 Z9),(4,.ptr 4 0 Zt),(6,.ptr 6 0 Zt),(19,.d T_int true v19)] [(2,.box Z9 false o2),(4,.box Zt true o4),(6,.box Zt true o6)])
theorem Zlt:fnOk G 72 Tryz.f72:=⟨Tryz.func72,by kernel_rfl⟩
def tl62:Nat→List Nat:=fun i=>if i = 5 then [0,3,6,7,8,9,10,11,12,13,14,15,16,17,18,19,20,21,22,24,25,26,27,28,29,30,31,32,33,34,35,36,37,38,39,40,41,42,43,44,45,46,47,48,49,50,51,52,53,54,55,56,57,58,59,60,61,62,63,64,65,66,67] else []
noncomputable def Zf7 (K:Nat):Ent G.P:=mkEnt G 72 Tryz.f72 Zlt [Z9] false (Ty.pair Z1a (Ty.pair T_bool Ty.unit)) true [Zcx K,Zbq K,Zg0 K,Zhc K] K tl62 (fun i=>if i = 5 then [10,29] else [])
noncomputable def Zb1 (K:Nat) (x0:Z9.T):Option (Ty.pair Z1a (Ty.pair T_bool Ty.unit)).T:=(Zf7 K).g (x0,())
noncomputable def Z2g (K:Nat) (k:Nat) (v5:T_bool.T) (v23:T_int.T) (o1:Z9.T) (o2:Z1a.T) (o4:Z1a.T):Option (Ty.pair Z1a (Ty.pair T_bool Ty.unit)).T:=resume (envOf G [Zcx K,Zbq K,Zg0 K,Zhc K] K tl62 (fun i=>if i = 5 then [10,29] else [])) dokB false (Ty.pair Z1a (Ty.pair T_bool Ty.unit)) true Tryz.f72 [1,1,1,0,1,0] k (mkSt 68 [(1,.ptr 1 0 Z9),(2,.ptr 2 0 Z1a),(4,.ptr 4 0 Z1a),(5,.d T_bool true v5),(23,.d T_int true v23)] [(1,.box Z9 false o1),(2,.box Z1a true o2),(4,.box Z1a true o4)])
theorem Zlu:fnOk G 179 Tryz.f179:=⟨Tryz.func179,by kernel_rfl⟩
noncomputable def Zdi (K:Nat):Ent G.P:=mkEnt G 179 Tryz.f179 Zlu [T_int] true T_bool true [Z12 K] K tl1 tl1
noncomputable def Z3u (K:Nat) (x0:T_int.T):Option T_bool.T:=(Zdi K).g (x0,())
theorem Zpe:fnOk G 133 Tryz.f133:=⟨Tryz.func133,by kernel_rfl⟩
noncomputable def Zhd (K:Nat):Ent G.P:=mkEnt G 133 Tryz.f133 Zpe [Z5] true T_bool true [Zdi K,Z12 K] K tl1 tl1
noncomputable def Zd5 (K:Nat) (x0:Z5.T):Option T_bool.T:=(Zhd K).g (x0,())
theorem Znd:fnOk G 73 Tryz.f73:=⟨Tryz.func73,by kernel_rfl⟩
def tl63:Nat→List Nat:=fun i=>if i = 2 then [1,2,3,4,8,9,10,11,12,13,14,15,16,17,18,19,20,21,22,23,24,25,26,27,28,29,30,31,32,33] else []
noncomputable def Zg3 (K:Nat):Ent G.P:=mkEnt G 73 Tryz.f73 Znd [Z7] true T_bool true [Zhd K] K tl63 tl56
noncomputable def Zby (K:Nat) (x0:Z7.T):Option T_bool.T:=(Zg3 K).g (x0,())
noncomputable def Z37 (K:Nat) (k:Nat) (x0:Z7.T) (v7:T_int.T):Option T_bool.T:=resume (envOf G [Zhd K] K tl63 tl56) dokB true T_bool true Tryz.f73 [1,0,1,0] k (mkSt 34 [(0,.d Z7 false x0),(5,.d Z7 false x0),(6,.d T_int true ((List.length x0:Nat):Int)),(7,.d T_int true v7)] [])
theorem Zqm:fnOk G 74 Tryz.f74:=⟨Tryz.func74,by kernel_rfl⟩
def tl64:Nat→List Nat:=fun i=>if i = 2 then [1,2,3,4,8,9,10,11,12,13,14,15,16,17,18,19,20,21,22,23,24] else []
noncomputable def Zhy (K:Nat):Ent G.P:=mkEnt G 74 Tryz.f74 Zqm [Zg] true T_bool true [Z12 K] K tl64 tl56
noncomputable def Zdv (K:Nat) (x0:Zg.T):Option T_bool.T:=(Zhy K).g (x0,())
noncomputable def Z51 (K:Nat) (k:Nat) (x0:Zg.T) (v7:T_int.T):Option T_bool.T:=resume (envOf G [Z12 K] K tl64 tl56) dokB true T_bool true Tryz.f74 [1,0,1,0] k (mkSt 25 [(0,.d Zg false x0),(5,.d Zg false x0),(6,.d T_int true ((List.length x0:Nat):Int)),(7,.d T_int true v7)] [])
theorem Zpf:fnOk G 75 Tryz.f75:=⟨Tryz.func75,by kernel_rfl⟩
noncomputable def Zhe (K:Nat):Ent G.P:=mkEnt G 75 Tryz.f75 Zpf [Zd] true T_bool true [Z12 K] K tl1 tl1
noncomputable def Z8t (K:Nat) (x0:Zd.T):Option T_bool.T:=(Zhe K).g (x0,())
theorem Zne:fnOk G 137 Tryz.f137:=⟨Tryz.func137,by kernel_rfl⟩
noncomputable def Ze7 (K:Nat):Ent G.P:=mkEnt G 137 Tryz.f137 Zne [T_int] true T_bool true [Z12 K] K tl1 tl1
noncomputable def Z52 (K:Nat) (x0:T_int.T):Option T_bool.T:=(Ze7 K).g (x0,())
theorem Znf:fnOk G 181 Tryz.f181:=⟨Tryz.func181,by kernel_rfl⟩
noncomputable def Zg4 (K:Nat):Ent G.P:=mkEnt G 181 Tryz.f181 Znf [Z4] true T_bool true [Zdi K,Zd1 K,Zd2 K,Ze7 K,Zej K] K tl1 tl1
noncomputable def Zbz (K:Nat) (x0:Z4.T):Option T_bool.T:=(Zg4 K).g (x0,())
theorem Zlv:fnOk G 197 Tryz.f197:=⟨Tryz.func197,by kernel_rfl⟩
noncomputable def Zf8 (K:Nat):FEnt G.P:=mkFEnt G 197 Tryz.f197 Zlv T_int Zb rfl [] K tl1 tl1
noncomputable def Zdj (K:Nat) (x0:Zb.T) (x1:T_int.T):Option Bool:=(Zf8 K).g x0 x1
theorem Zeu:fnOk G 196 Tryz.f196:=⟨Tryz.func196,by kernel_rfl⟩
noncomputable def Zb2 (K:Nat):HEnt G.P:=mkHEnt G 196 Tryz.f196 Zeu 124 Zb 197 T_int [] [Zf8 K] K tl54 tl18
noncomputable def Z5c (K:Nat) (x0:Zk.T) (x1:T_int.T):Option Int:=(Zb2 K).g x0 x1
noncomputable def Z1j (K:Nat) (k:Nat) (x0:Zk.T) (x1:T_int.T) (v8:T_int.T):Option T_int.T:=resume (envF G [] [Zf8 K] [] K tl54 tl18) dokB true T_int true Tryz.f196 [1,0,1,0] k (mkSt 19 [(0,.d Zk false x0),(1,.fnv 197 T_int x1),(7,.d T_int true ((List.length x0:Nat):Int)),(8,.d T_int true v8)] [])
theorem Zpg:fnOk G 141 Tryz.f141:=⟨Tryz.func141,by kernel_rfl⟩
noncomputable def Z8u (K:Nat):Ent G.P:=mkEntF G 141 Tryz.f141 Zpg [Zk,T_int] true T_int true [] [] [Zb2 K] K tl1 tl1
noncomputable def Z5o (K:Nat) (x0:Zk.T) (x1:T_int.T):Option T_int.T:=(Z8u K).g (x0,x1,())
theorem Zjf:fnOk G 221 Tryz.f221:=⟨Tryz.func221,by kernel_rfl⟩
noncomputable def Zf9 (K:Nat):Ent G.P:=mkEnt G 221 Tryz.f221 Zjf [Ze1,T_int] true T_int true [] K tl54 tl18
noncomputable def Z75 (K:Nat) (x0:Ze1.T) (x1:T_int.T):Option T_int.T:=(Zf9 K).g (x0,x1,())
noncomputable def Z46 (K:Nat) (k:Nat) (x0:Ze1.T) (x1:T_int.T) (v8:T_int.T):Option T_int.T:=resume (envOf G [] K tl54 tl18) dokB true T_int true Tryz.f221 [1,0,1,0] k (mkSt 19 [(0,.d Ze1 false x0),(1,.d T_int true x1),(7,.d T_int true ((List.length x0:Nat):Int)),(8,.d T_int true v8)] [])
theorem Zhz:fnOk G 182 Tryz.f182:=⟨Tryz.func182,by kernel_rfl⟩
noncomputable def Zaa (K:Nat):Ent G.P:=mkEnt G 182 Tryz.f182 Zhz [Ze1,T_int] true T_bool true [Zf9 K] K tl1 tl1
noncomputable def Z3l (K:Nat) (x0:Ze1.T) (x1:T_int.T):Option T_bool.T:=(Zaa K).g (x0,x1,())
theorem Zph:fnOk G 183 Tryz.f183:=⟨Tryz.func183,by kernel_rfl⟩
noncomputable def Zhf (K:Nat):Ent G.P:=mkEnt G 183 Tryz.f183 Zph [Zb] true T_bool true [Zdi K,Zd1 K,Z12 K,Ze7 K] K tl1 tl1
noncomputable def Z8v (K:Nat) (x0:Zb.T):Option T_bool.T:=(Zhf K).g (x0,())
theorem Zng:fnOk G 134 Tryz.f134:=⟨Tryz.func134,by kernel_rfl⟩
def tl65:Nat→List Nat:=fun i=>if i = 5 then [0,2,4,5,6,7,8,9,10,11,12,13,14,15,16,17,18,19,20,21,22,23,24,25,29,30,31,32,33,34,35,36,37,38,39,40,41,42,43,44,45,46,47,48,49,50,51,52,53,54,55,56,57,58,59,60,61,62,63,64,65,66,67,68,69,70,71,72,73,74,75,76,77,78,79,80,81,82,83,84,85,86,87,88,89,90,91,92,93,94,95,96,97,98,99,100,101,102,103,104,105,106,107] else if i = 15 then [0,2,3,4,5,6,7,8,9,10,11,12,13,14,15,16,17,18,19,20,21,22,23,24,25,26,27,28,29,30,31,32,33,34,35,36,37,38,39,40,41,42,43,44,45,46,47,48,49,50,51,52,53,54,55,56,57,58,59,60,61,62,63,64,65,66,67,68,69,70,71,72,73,74,75,76,77,78,79,80,84,85,86,87,88,89,90,91,92,93,94,95,96,97,98,99,100,101,102,103,104,105,106,107] else []
def tl66:Nat→List Nat:=fun i=>if i = 5 then [5,77] else if i = 15 then [7,24] else []
noncomputable def Zjg (K:Nat):Ent G.P:=mkEnt G 134 Tryz.f134 Zng [Z0] true T_bool true [Zd2 K,Zg4 K,Z8u K,Zaa K,Zhf K] K tl65 tl66
noncomputable def Z53 (K:Nat) (x0:Z0.T):Option T_bool.T:=(Zjg K).g (x0,())
noncomputable def ev11 (K:Nat):Env:=envOf G [Zd2 K,Zg4 K,Z8u K,Zaa K,Zhf K] K tl65 tl66
noncomputable def Z2u (K:Nat) (k:Nat) (x0:Z0.T) (v28:T_int.T) (o1:Z0.T) (o24:Ze1.T):Option T_bool.T:=resume (ev11 K) dokB true T_bool true Tryz.f134 [1,1,1,0,1,0] k (mkSt 108 [(1,.ptr 1 0 Z0),(3,.own 24),(26,.d Zf false x0.2.2.2.2.2.1),(27,.d T_int true ((List.length x0.2.2.2.2.2.1:Nat):Int)),(28,.d T_int true v28)] [(1,.box Z0 false o1),(24,.arr 3 T_int true o24)])
noncomputable def Z25 (K:Nat) (k:Nat) (v83:T_int.T) (o1:Z0.T):Option T_bool.T:=resume (ev11 K) dokB true T_bool true Tryz.f134 [1,1,1,1,0,1,0] k (mkSt 108 [(1,.ptr 1 0 Z0),(81,.d Zk false o1.2.2.2.2.2.2.1),(82,.d T_int true ((List.length o1.2.2.2.2.2.2.1:Nat):Int)),(83,.d T_int true v83)] [(1,.box Z0 false o1)])
theorem Zhq:fnOk G 193 Tryz.f193:=⟨Tryz.func193,by kernel_rfl⟩
def tl67:Nat→List Nat:=fun i=>if i = 4 then [2,3,4,5,6,7,8,9,10,11,14,15,16,17,18,19,20,21,22,23,24,25] else []
noncomputable def Zdw (K:Nat):Ent G.P:=mkEnt G 193 Tryz.f193 Zhq [Z6,Z6] true T_bool true [] K tl67 tl35
noncomputable def Z5i (K:Nat) (x0:Z6.T) (x1:Z6.T):Option T_bool.T:=(Zdw K).g (x0,x1,())
noncomputable def Z1o (K:Nat) (k:Nat) (x0:Z6.T) (x1:Z6.T) (v13:T_int.T):Option T_bool.T:=resume (envOf G [] K tl67 tl35) dokB true T_bool true Tryz.f193 [1,1,0,1,0] k (mkSt 26 [(0,.d Z6 false x0),(1,.d Z6 false x1),(12,.d T_int true ((List.length x0:Nat):Int)),(13,.d T_int true v13)] [])
theorem Zlw:fnOk G 139 Tryz.f139:=⟨Tryz.func139,by kernel_rfl⟩
noncomputable def Zdk (K:Nat):Ent G.P:=mkEnt G 139 Tryz.f139 Zlw [Z6,Z6] true T_bool true [Zdw K] K tl1 tl1
noncomputable def Z2m (K:Nat) (x0:Z6.T) (x1:Z6.T):Option T_bool.T:=(Zdk K).g (x0,x1,())
theorem Zg5:fnOk G 184 Tryz.f184:=⟨Tryz.func184,by kernel_rfl⟩
noncomputable def Zcf (K:Nat):Ent G.P:=mkEnt G 184 Tryz.f184 Zg5 [Zf,Zf] true T_bool true [] K tl67 tl35
noncomputable def Z4k (K:Nat) (x0:Zf.T) (x1:Zf.T):Option T_bool.T:=(Zcf K).g (x0,x1,())
noncomputable def Z49 (K:Nat) (k:Nat) (x0:Zf.T) (x1:Zf.T) (v13:T_int.T):Option T_bool.T:=resume (envOf G [] K tl67 tl35) dokB true T_bool true Tryz.f184 [1,1,0,1,0] k (mkSt 26 [(0,.d Zf false x0),(1,.d Zf false x1),(12,.d T_int true ((List.length x0:Nat):Int)),(13,.d T_int true v13)] [])
theorem Zgl:fnOk G 185 Tryz.f185:=⟨Tryz.func185,by kernel_rfl⟩
noncomputable def Zd6 (K:Nat):Ent G.P:=mkEnt G 185 Tryz.f185 Zgl [Zk,Zk] true T_bool true [] K tl67 tl35
noncomputable def Z4w (K:Nat) (x0:Zk.T) (x1:Zk.T):Option T_bool.T:=(Zd6 K).g (x0,x1,())
noncomputable def Z4g (K:Nat) (k:Nat) (x0:Zk.T) (x1:Zk.T) (v13:T_int.T):Option T_bool.T:=resume (envOf G [] K tl67 tl35) dokB true T_bool true Tryz.f185 [1,1,0,1,0] k (mkSt 26 [(0,.d Zk false x0),(1,.d Zk false x1),(12,.d T_int true ((List.length x0:Nat):Int)),(13,.d T_int true v13)] [])
theorem Zku:fnOk G 135 Tryz.f135:=⟨Tryz.func135,by kernel_rfl⟩
noncomputable def Zi0 (K:Nat):Ent G.P:=mkEnt G 135 Tryz.f135 Zku [Z0,Z0] true T_bool true [Zdk K,Zcf K,Zd6 K] K tl1 tl1
noncomputable def Z4m (K:Nat) (x0:Z0.T) (x1:Z0.T):Option T_bool.T:=(Zi0 K).g (x0,x1,())
theorem Zpi:fnOk G 223 Tryz.f223:=⟨Tryz.func223,by kernel_rfl⟩
noncomputable def Zhg (K:Nat):Ent G.P:=mkEnt G 223 Tryz.f223 Zpi [Z4,Zb] true T_bool true [] K tl1 tl1
noncomputable def Z67 (K:Nat) (x0:Z4.T) (x1:Zb.T):Option T_bool.T:=(Zhg K).g (x0,x1,())
theorem Zkv:fnOk G 195 Tryz.f195:=⟨Tryz.func195,by kernel_rfl⟩
noncomputable def Zep (K:Nat):FEnt G.P:=mkFEnt G 195 Tryz.f195 Zkv T_int Z4 rfl [] K tl1 tl1
noncomputable def Zcj (K:Nat) (x0:Z4.T) (x1:T_int.T):Option Bool:=(Zep K).g x0 x1
theorem Zeq:fnOk G 194 Tryz.f194:=⟨Tryz.func194,by kernel_rfl⟩
noncomputable def Za9 (K:Nat):HEnt G.P:=mkHEnt G 194 Tryz.f194 Zeq 122 Z4 195 T_int [] [Zep K] K tl54 tl18
noncomputable def Z4y (K:Nat) (x0:Zf.T) (x1:T_int.T):Option Int:=(Za9 K).g x0 x1
noncomputable def Z1g (K:Nat) (k:Nat) (x0:Zf.T) (x1:T_int.T) (v8:T_int.T):Option T_int.T:=resume (envF G [] [Zep K] [] K tl54 tl18) dokB true T_int true Tryz.f194 [1,0,1,0] k (mkSt 19 [(0,.d Zf false x0),(1,.fnv 195 T_int x1),(7,.d T_int true ((List.length x0:Nat):Int)),(8,.d T_int true v8)] [])
theorem Znh:fnOk G 140 Tryz.f140:=⟨Tryz.func140,by kernel_rfl⟩
noncomputable def Zc0 (K:Nat):Ent G.P:=mkEntF G 140 Tryz.f140 Znh [Zf,T_int] true T_int true [] [] [Za9 K] K tl1 tl1
noncomputable def Z9q (K:Nat) (x0:Zf.T) (x1:T_int.T):Option T_int.T:=(Zc0 K).g (x0,x1,())
theorem Zni:fnOk G 187 Tryz.f187:=⟨Tryz.func187,by kernel_rfl⟩
def tl68:Nat→List Nat:=fun i=>if i = 2 then [0,2,3,4,5,6,7,8,9,13,14,15,16,17,18,19,20,21,22,23,24,25,26,27,28,29,30,31,32,33,34,35,36,37,38,39,40,41,42,43,44,45,46,47,48,49,50,51,52,53,54,55,56,57,58,59,60,61,62,63,64,65,66,67,68,69] else if i = 10 then [0,2,3,4,5,6,7,8,9,10,11,12,13,14,15,16,17,18,19,20,21,22,23,24,25,26,27,28,29,30,31,32,33,34,35,36,37,38,39,40,41,42,46,47,48,49,50,51,52,53,54,55,56,57,58,59,60,61,62,63,64,65,66,67,68,69] else []
def tl69:Nat→List Nat:=fun i=>if i = 2 then [4] else if i = 10 then [7] else []
noncomputable def Zjh (K:Nat):Ent G.P:=mkEnt G 187 Tryz.f187 Zni [Z0] true T_bool true [Z8u K,Zhg K,Zc0 K] K tl68 tl69
noncomputable def Z2n (K:Nat) (x0:Z0.T):Option T_bool.T:=(Zjh K).g (x0,())
noncomputable def ev12 (K:Nat):Env:=envOf G [Z8u K,Zhg K,Zc0 K] K tl68 tl69
noncomputable def Z47 (K:Nat) (k:Nat) (x0:Z0.T) (v12:T_int.T) (o1:Z0.T):Option T_bool.T:=resume (ev12 K) dokB true T_bool true Tryz.f187 [1,0,1,0] k (mkSt 70 [(1,.ptr 1 0 Z0),(10,.d Zf false x0.2.2.2.2.2.1),(11,.d T_int true ((List.length x0.2.2.2.2.2.1:Nat):Int)),(12,.d T_int true v12)] [(1,.box Z0 false o1)])
noncomputable def Z5a (K:Nat) (k:Nat) (v45:T_int.T) (o1:Z0.T):Option T_bool.T:=resume (ev12 K) dokB true T_bool true Tryz.f187 [1,1,0,1,0] k (mkSt 70 [(1,.ptr 1 0 Z0),(43,.d Zk false o1.2.2.2.2.2.2.1),(44,.d T_int true ((List.length o1.2.2.2.2.2.2.1:Nat):Int)),(45,.d T_int true v45)] [(1,.box Z0 false o1)])
theorem Zlx:fnOk G 136 Tryz.f136:=⟨Tryz.func136,by kernel_rfl⟩
noncomputable def Zie (K:Nat):Ent G.P:=mkEnt G 136 Tryz.f136 Zlx [Z0] true T_bool true [Z12 K,Zek K,Zjh K] K tl1 tl1
noncomputable def Z61 (K:Nat) (x0:Z0.T):Option T_bool.T:=(Zie K).g (x0,())
theorem Znj:fnOk G 76 Tryz.f76:=⟨Tryz.func76,by kernel_rfl⟩
noncomputable def Zg6 (K:Nat):Ent G.P:=mkEnt G 76 Tryz.f76 Znj [Z0] true T_bool true [Zjg K,Zi0 K,Zie K,Z12 K,Ze7 K] K tl1 tl1
noncomputable def Z21 (K:Nat) (x0:Z0.T):Option T_bool.T:=(Zg6 K).g (x0,())
theorem Znk:fnOk G 77 Tryz.f77:=⟨Tryz.func77,by kernel_rfl⟩
def tl70:Nat→List Nat:=fun i=>if i = 3 then [0,2,4,6,8,9,10,11,12,13,14,15,16,17,18,19,23,24,25,26,27,28,29,30,31,32,33,34,35,36,37,38,39,40,41,42,43,44,45,46,47,48,49,50,51,52,53,54,55,56,57,58,59,60,61,62,63,64,65,66,67,68,69,70,71,72,73,74,75,76,77,78,79,80,81,82,83,84,85] else if i = 9 then [0,2,4,6,8,9,10,11,12,13,14,15,16,17,18,19,20,21,22,23,24,25,26,27,28,29,30,31,32,36,37,38,39,40,41,42,43,44,45,46,47,48,49,50,51,52,53,54,55,56,57,58,59,60,61,62,63,64,65,66,67,68,69,70,71,72,73,74,75,76,77,78,79,80,81,82,83,84,85] else []
def tl71:Nat→List Nat:=fun i=>if i = 3 then [9] else if i = 9 then [11] else []
noncomputable def Zg7 (K:Nat):Ent G.P:=mkEnt G 77 Tryz.f77 Znk [Z1,T_int,Zt] true T_bool true [Zci K,Zdk K] K tl70 tl71
noncomputable def Z9r (K:Nat) (x0:Z1.T) (x1:T_int.T) (x2:Zt.T):Option T_bool.T:=(Zg7 K).g (x0,x1,x2,())
noncomputable def ev13 (K:Nat):Env:=envOf G [Zci K,Zdk K] K tl70 tl71
noncomputable def Z38 (K:Nat) (k:Nat) (x0:Z1.T) (x1:T_int.T) (v22:T_int.T) (o3:Z1.T) (o5:Zt.T) (o7:Z0.T):Option T_bool.T:=resume (ev13 K) dokB true T_bool true Tryz.f77 [1,1,0,1,0] k (mkSt 86 [(1,.d T_int true x1),(3,.ptr 3 0 Z1),(5,.ptr 5 0 Zt),(7,.ptr 7 0 Z0),(20,.d Zf false ((List.getD x0.2.2.2.1 (Int.toNat x1) Z0.zero).2.2.2.2.2.1)),(21,.d T_int true ((List.length ((List.getD x0.2.2.2.1 (Int.toNat x1) Z0.zero).2.2.2.2.2.1):Nat):Int)),(22,.d T_int true v22)] [(3,.box Z1 false o3),(5,.box Zt true o5),(7,.box Z0 false o7)])
noncomputable def Z39 (K:Nat) (k:Nat) (x1:T_int.T) (v35:T_int.T) (o3:Z1.T) (o5:Zt.T) (o7:Z0.T):Option T_bool.T:=resume (ev13 K) dokB true T_bool true Tryz.f77 [1,1,1,0,1,0] k (mkSt 86 [(1,.d T_int true x1),(3,.ptr 3 0 Z1),(5,.ptr 5 0 Zt),(7,.ptr 7 0 Z0),(33,.d Zk false o7.2.2.2.2.2.2.1),(34,.d T_int true ((List.length o7.2.2.2.2.2.2.1:Nat):Int)),(35,.d T_int true v35)] [(3,.box Z1 false o3),(5,.box Zt true o5),(7,.box Z0 false o7)])
theorem Zpj:fnOk G 78 Tryz.f78:=⟨Tryz.func78,by kernel_rfl⟩
def tl72:Nat→List Nat:=fun i=>if i = 3 then [0,3,4,6,7,8,12,13,14,15,16,17,18,19,20,21,22,23,24,25,26,27,28,29,30,31,32,33,34,35,36,37,38,39,40,41,42,43,44,45,46,47,48,49,50,51,52,53,54,55,56,57,58,59,60,61,62,63,64,65,66,67,68,69,70,71,72] else []
noncomputable def Zhh (K:Nat):Ent G.P:=mkEnt G 78 Tryz.f78 Zpj [Z1,T_int] true T_bool true [Zc0 K,Z8u K] K tl72 (fun i=>if i = 3 then [7] else [])
noncomputable def Zan (K:Nat) (x0:Z1.T) (x1:T_int.T):Option T_bool.T:=(Zhh K).g (x0,x1,())
noncomputable def Z34 (K:Nat) (k:Nat) (x0:Z1.T) (x1:T_int.T) (v5:T_int.T) (v11:T_int.T) (o2:Z1.T):Option T_bool.T:=resume (envOf G [Zc0 K,Z8u K] K tl72 (fun i=>if i = 3 then [7] else [])) dokB true T_bool true Tryz.f78 [1,1,0,1,0] k (mkSt 73 [(1,.d T_int true x1),(2,.ptr 2 0 Z1),(5,.d T_int true v5),(9,.d Z7 false x0.2.2.1),(10,.d T_int true ((List.length x0.2.2.1:Nat):Int)),(11,.d T_int true v11)] [(2,.box Z1 false o2)])
theorem Znl:fnOk G 28 Tryz.f28:=⟨Tryz.func28,by kernel_rfl⟩
def tl73:Nat→List Nat:=fun i=>if i = 5 then [0,2,4,5,6,7,8,9,10,11,12,13,14,15,16,17,18,19,20,21,22,23,24,25,26,27,28,29,30,31,32,33,34,35,36,37,38,39,40,41,42,43,44,45,46,47,48,49,50,51,52,53,57,58,59,60,61,62,63,64,65,66,67,68,69,70,71,72,73,74,75,76,77,78,79,80,81,82,83,84,85,86,87,88,89,90,91,92,93,94,95,96,97,98,99,100,101,102,103,104,105,106,107,108,109,110,111,112,113,114,115,116,117,118,119,120,121,122,123,124,125,126,127,128] else if i = 11 then [0,2,4,5,6,7,8,9,10,11,12,13,14,15,16,17,18,19,20,21,22,23,24,25,26,27,28,29,30,31,32,33,34,35,36,37,38,39,40,41,42,43,44,45,46,47,48,49,50,51,52,53,54,55,56,57,58,59,60,61,62,63,64,65,66,70,71,72,73,74,75,76,77,78,79,80,81,82,83,84,85,86,87,88,89,90,91,92,93,94,95,96,97,98,99,100,101,102,103,104,105,106,107,108,109,110,111,112,113,114,115,116,117,118,119,120,121,122,123,124,125,126,127,128] else if i = 17 then [0,2,4,5,6,7,8,9,10,11,12,13,14,15,16,17,18,19,20,21,22,23,24,25,26,27,28,29,30,31,32,33,34,35,36,37,38,39,40,41,42,43,44,45,46,47,48,49,50,51,52,53,54,55,56,57,58,59,60,61,62,63,64,65,66,67,68,69,70,71,72,73,74,75,76,77,81,82,83,84,85,86,87,88,89,90,91,92,93,94,95,96,97,98,99,100,101,102,103,104,105,106,107,108,109,110,111,112,113,114,115,116,117,118,119,120,121,122,123,124,125,126,127,128] else []
def tl74:Nat→List Nat:=fun i=>if i = 5 then [6] else if i = 11 then [8] else if i = 17 then [10] else []
noncomputable def Z87 (K:Nat):Ent G.P:=mkEnt G 28 Tryz.f28 Znl [Z1] true T_bool true [Zf7 K,Z12 K,Zg3 K,Zhy K,Zhe K,Zg6 K,Zg7 K,Zhh K] K tl73 tl74
noncomputable def Z88 (K:Nat) (x0:Z1.T):Option T_bool.T:=(Z87 K).g (x0,())
noncomputable def ev14 (K:Nat):Env:=envOf G [Zf7 K,Z12 K,Zg3 K,Zhy K,Zhe K,Zg6 K,Zg7 K,Zhh K] K tl73 tl74
noncomputable def Z3a (K:Nat) (k:Nat) (x0:Z1.T) (v56:T_int.T) (o1:Z1.T) (o3:Z1a.T):Option T_bool.T:=resume (ev14 K) dokB true T_bool true Tryz.f28 [1,1,1,0,1,0] k (mkSt 129 [(1,.ptr 1 0 Z1),(3,.ptr 3 0 Z1a),(54,.d Z7 false x0.2.2.1),(55,.d T_int true ((List.length x0.2.2.1:Nat):Int)),(56,.d T_int true v56)] [(1,.box Z1 false o1),(3,.box Z1a true o3)])
noncomputable def Z2y (K:Nat) (k:Nat) (v69:T_int.T) (o1:Z1.T) (o3:Z1a.T):Option T_bool.T:=resume (ev14 K) dokB true T_bool true Tryz.f28 [1,1,1,1,0,1,0] k (mkSt 129 [(1,.ptr 1 0 Z1),(3,.ptr 3 0 Z1a),(67,.d Zw false o1.2.2.2.2.2.1),(68,.d T_int true ((List.length o1.2.2.2.2.2.1:Nat):Int)),(69,.d T_int true v69)] [(1,.box Z1 false o1),(3,.box Z1a true o3)])
noncomputable def Z1y (K:Nat) (k:Nat) (v80:T_int.T) (o1:Z1.T) (o3:Z1a.T):Option T_bool.T:=resume (ev14 K) dokB true T_bool true Tryz.f28 [1,1,1,1,1,0,1,0] k (mkSt 129 [(1,.ptr 1 0 Z1),(3,.ptr 3 0 Z1a),(78,.d Zv false o1.2.2.2.1),(79,.d T_int true ((List.length o1.2.2.2.1:Nat):Int)),(80,.d T_int true v80)] [(1,.box Z1 false o1),(3,.box Z1a true o3)])
theorem Zly:fnOk G 79 Tryz.f79:=⟨Tryz.func79,by kernel_rfl⟩
def tl75:Nat→List Nat:=fun i=>if i = 3 then [0,5,6,7,8,9,10,11,15,16,17,18,19,20,21,22,23,24,25,26,27,28,29,30,31,32,33,34,35,36,37,38,39,40,41,42,43,44,45,46,47] else if i = 8 then [0,5,6,7,8,9,10,11,12,13,14,15,16,17,18,19,20,21,22,23,24,28,29,30,31,32,33,34,35,36,37,38,39,40,41,42,43,44,45,46,47] else []
def tl76:Nat→List Nat:=fun i=>if i = 3 then [20,21,22] else if i = 8 then [8,36,37,38,39] else []
noncomputable def Zfa (K:Nat):SEnt G.P:=mkSEnt G 79 Tryz.f79 Zly [Z9] shf3 Z9 [] [(Z2k K).tree rfl rfl ⟨_,_,rfl⟩] [] [] [] ⟨[2,9,10,21,37,38,47],[],[]⟩ K tl75 tl76
noncomputable def Zb3 (K:Nat) (x0:Z9.T):Option Z9.T:=(Zfa K).g (x0,())
noncomputable def ev15 (K:Nat):Env:=envT G [] [(Z2k K).tree rfl rfl ⟨_,_,rfl⟩] [] [] [] ⟨[2,9,10,21,37,38,47],[],[]⟩ K tl75 tl76
noncomputable def Z7f (K:Nat) (k:Nat) (x0:Z9.T) (v14:T_int.T) (o1:Z9.T) (o2:Z9.T) (o9:Zx.T) (o10:Zz.T):Option Z9.T:=resumeS (ev15 K) dokB shf3 Z9 Tryz.f79 [1,1,0,1,0] k (mkSt 48 [(1,.ptr 1 0 Z9),(2,.pt 2 [] 0 Z9),(3,.vw 9 [] 0 Zx),(4,.vw 10 [] 0 Zz),(12,.d Zx false x0.1),(13,.d T_int true ((List.length x0.1:Nat):Int)),(14,.d T_int true v14)] [(1,.box Z9 false o1),(2,.tr true shf3 Z9 o2),(9,.tr false shf0 Zx o9),(10,.tr false shf2 Zz o10)])
noncomputable def Z5w (K:Nat) (k:Nat) (v27:T_int.T) (o1:Z9.T) (o2:Z9.T) (o9:Zx.T) (o10:Zz.T):Option Z9.T:=resumeS (ev15 K) dokB shf3 Z9 Tryz.f79 [1,1,1,0,1,0] k (mkSt 48 [(1,.ptr 1 0 Z9),(2,.pt 2 [] 0 Z9),(3,.vw 9 [] 0 Zx),(4,.vw 10 [] 0 Zz),(25,.d Zz false o1.2.1),(26,.d T_int true ((List.length o1.2.1:Nat):Int)),(27,.d T_int true v27)] [(1,.box Z9 false o1),(2,.tr true shf3 Z9 o2),(9,.tr false shf0 Zx o9),(10,.tr false shf2 Zz o10)])
theorem Zlz:fnOk G 143 Tryz.f143:=⟨Tryz.func143,by kernel_rfl⟩
noncomputable def Zfb (K:Nat):SEnt G.P:=mkSEnt G 143 Tryz.f143 Zlz [Z5] shf4 Z5 [] [(Z2k K).tree rfl rfl ⟨_,_,rfl⟩] [] [] [] ⟨[1,2],[],[]⟩ K tl1 tl1
noncomputable def Zb4 (K:Nat) (x0:Z5.T):Option Z5.T:=(Zfb K).g (x0,())
theorem Zkw:fnOk G 80 Tryz.f80:=⟨Tryz.func80,by kernel_rfl⟩
def tl77:Nat→List Nat:=fun i=>if i = 3 then [0,1,2,4,5,6,10,11,12,13,14,15,16,17,18,19] else []
def tl78:Nat→List Nat:=fun i=>if i = 3 then [2,5,15,16,17] else []
noncomputable def Za2 (K:Nat):SEnt G.P:=mkSEnt G 80 Tryz.f80 Zkw [Z7] shf5 Z7 [] [Zfb K] [] [] [] ⟨[6,16],[],[]⟩ K tl77 tl78
noncomputable def Z89 (K:Nat) (x0:Z7.T):Option Z7.T:=(Za2 K).g (x0,())
noncomputable def Z6k (K:Nat) (k:Nat) (x0:Z7.T) (v9:T_int.T) (o6:Z7.T):Option Z7.T:=resumeS (envT G [] [Zfb K] [] [] [] ⟨[6,16],[],[]⟩ K tl77 tl78) dokB shf5 Z7 Tryz.f80 [1,1,0,1,0] k (mkSt 20 [(3,.vw 6 [] 0 Z7),(7,.d Z7 false x0),(8,.d T_int true ((List.length x0:Nat):Int)),(9,.d T_int true v9)] [(6,.tr false shf5 Z7 o6)])
theorem Zm0:fnOk G 144 Tryz.f144:=⟨Tryz.func144,by kernel_rfl⟩
noncomputable def Zfc (K:Nat):SEnt G.P:=mkSEnt G 144 Tryz.f144 Zm0 [Za] shf1 Za [] [(Z2k K).tree rfl rfl ⟨_,_,rfl⟩] [] [] [] ⟨[2,8],[],[]⟩ K tl1 tl1
noncomputable def Zb5 (K:Nat) (x0:Za.T):Option Za.T:=(Zfc K).g (x0,())
theorem Znm:fnOk G 81 Tryz.f81:=⟨Tryz.func81,by kernel_rfl⟩
noncomputable def Zg8 (K:Nat):SEnt G.P:=mkSEnt G 81 Tryz.f81 Znm [Zg] shf2 Zg [] [Zfc K] [] [] [] ⟨[6,16],[],[]⟩ K tl77 tl78
noncomputable def Zc1 (K:Nat) (x0:Zg.T):Option Zg.T:=(Zg8 K).g (x0,())
noncomputable def Z8a (K:Nat) (k:Nat) (x0:Zg.T) (v9:T_int.T) (o6:Zg.T):Option Zg.T:=resumeS (envT G [] [Zfc K] [] [] [] ⟨[6,16],[],[]⟩ K tl77 tl78) dokB shf2 Zg Tryz.f81 [1,1,0,1,0] k (mkSt 20 [(3,.vw 6 [] 0 Zg),(7,.d Zg false x0),(8,.d T_int true ((List.length x0:Nat):Int)),(9,.d T_int true v9)] [(6,.tr false shf2 Zg o6)])
theorem Zgm:fnOk G 82 Tryz.f82:=⟨Tryz.func82,by kernel_rfl⟩
noncomputable def Z8w (K:Nat):Ent G.P:=mkEntO G 82 Tryz.f82 Zgm [Zw] 118 Zd false [] K tl1 tl1
noncomputable def Z68 (K:Nat) (x0:Zw.T):Option Zw.T:=(Z8w K).g (x0,())
theorem Zhr:fnOk G 145 Tryz.f145:=⟨Tryz.func145,by kernel_rfl⟩
noncomputable def Zdx (K:Nat):Ent G.P:=mkEntO G 145 Tryz.f145 Zhr [Z6] 178 Zl false [] K tl1 tl1
noncomputable def Z76 (K:Nat) (x0:Z6.T):Option Z6.T:=(Zdx K).g (x0,())
theorem Zg9:fnOk G 146 Tryz.f146:=⟨Tryz.func146,by kernel_rfl⟩
noncomputable def Zcg (K:Nat):Ent G.P:=mkEntO G 146 Tryz.f146 Zg9 [Zf] 122 Z4 false [] K tl1 tl1
noncomputable def Z62 (K:Nat) (x0:Zf.T):Option Zf.T:=(Zcg K).g (x0,())
theorem Zgn:fnOk G 147 Tryz.f147:=⟨Tryz.func147,by kernel_rfl⟩
noncomputable def Zd7 (K:Nat):Ent G.P:=mkEntO G 147 Tryz.f147 Zgn [Zk] 124 Zb false [] K tl1 tl1
noncomputable def Z69 (K:Nat) (x0:Zk.T):Option Zk.T:=(Zd7 K).g (x0,())
theorem Zkx:fnOk G 83 Tryz.f83:=⟨Tryz.func83,by kernel_rfl⟩
noncomputable def Zer (K:Nat):SEnt G.P:=mkSEnt G 83 Tryz.f83 Zkx [Z0] shf6 Z0 [] [(Zdx K).tree rfl rfl ⟨_,_,rfl⟩,(Zcg K).tree rfl rfl ⟨_,_,rfl⟩,(Zd7 K).tree rfl rfl ⟨_,_,rfl⟩] [] [] [] ⟨[1,2],[],[]⟩ K tl1 tl1
noncomputable def Z8b (K:Nat) (x0:Z0.T):Option Z0.T:=(Zer K).g (x0,())
theorem Zky:fnOk G 30 Tryz.f30:=⟨Tryz.func30,by kernel_rfl⟩
def tl79:Nat→List Nat:=fun i=>if i = 5 then [0,1,4,5,6,7,8,9,10,11,12,13,14,15,16,17,18,19,20,21,22,23,24,28,29,30,31,32,33,34,35,36,37,38,39] else []
noncomputable def Z48 (K:Nat):SEnt G.P:=mkSEnt G 30 Tryz.f30 Zky [Z1] shf8 Z1 [] [Zfa K,Za2 K,Zg8 K,(Z8w K).tree rfl rfl ⟨_,_,rfl⟩,Zer K] [] [] [] ⟨[2,3,35],[],[]⟩ K tl79 (fun i=>if i = 5 then [1,5,9,12,15,18,34,35,36] else [])
noncomputable def Z2v (K:Nat) (x0:Z1.T):Option Z1.T:=(Z48 K).g (x0,())
noncomputable def Z6l (K:Nat) (k:Nat) (x0:Z1.T) (v27:T_int.T) (o2:Z1.T) (o3:Z1.T):Option Z1.T:=resumeS (envT G [] [Zfa K,Za2 K,Zg8 K,(Z8w K).tree rfl rfl ⟨_,_,rfl⟩,Zer K] [] [] [] ⟨[2,3,35],[],[]⟩ K tl79 (fun i=>if i = 5 then [1,5,9,12,15,18,34,35,36] else [])) dokB shf8 Z1 Tryz.f30 [1,1,1,1,0,1,0] k (mkSt 40 [(2,.pt 2 [] 0 Z1),(3,.pt 3 [] 0 Z1),(25,.d Zv false x0.2.2.2.1),(26,.d T_int true ((List.length x0.2.2.2.1:Nat):Int)),(27,.d T_int true v27)] [(2,.tr true shf8 Z1 o2),(3,.tr true shf8 Z1 o3)])
theorem Zgo:fnOk G 84 Tryz.f84:=⟨Tryz.func84,by kernel_rfl⟩
noncomputable def Z8x (K:Nat):Ent G.P:=mkEntO G 84 Tryz.f84 Zgo [Z7] 115 Z5 false [] K tl1 tl1
noncomputable def Z6a (K:Nat) (x0:Z7.T):Option Z7.T:=(Z8x K).g (x0,())
theorem Zrg:fnOk G 85 Tryz.f85:=⟨Tryz.func85,by kernel_rfl⟩
def tl80:Nat→List Nat:=fun i=>if i = 3 then [0,3,4,5,6,8,9,10,11,15,16,17,18,19,20,21,22,23,24,25,26,27,28,29,30,31,32,33,34,35,36,37,38,39] else []
noncomputable def Zir (K:Nat):SEnt G.P:=mkSEnt G 85 Tryz.f85 Zrg [Z7,T_int,T_int] shf5 Z7 [Z12 K] [Za2 K] [] [] [] ⟨[9,10,36],[],[(12,(.ct shf4 0)),(35,(.pr .mv .mv))]⟩ K tl80 (fun i=>if i = 3 then [6,9,17,35,36,37] else [])
noncomputable def Zde (K:Nat) (x0:Z7.T) (x1:T_int.T) (x2:T_int.T):Option Z7.T:=(Zir K).g (x0,x1,x2,())
noncomputable def Z4x (K:Nat) (k:Nat) (x1:T_int.T) (x2:T_int.T) (y_1:Z7.T) (v14:T_int.T) (o10:Z7.T) (o12:Z7.T) (m12:T_int.T):Option Z7.T:=resumeS (envT G [Z12 K] [Za2 K] [] [] [] ⟨[9,10,36],[],[(12,(.ct shf4 0)),(35,(.pr .mv .mv))]⟩ K tl80 (fun i=>if i = 3 then [6,9,17,35,36,37] else [])) dokB shf5 Z7 Tryz.f85 [1,1,0,1,0] k (mkSt 40 [(1,.d T_int true x1),(2,.d T_int true x2),(7,.vw 10 [] 0 Z7),(12,.vw 12 [] 0 Z7),(13,.d T_int true ((List.length y_1:Nat):Int)),(14,.d T_int true v14)] [(10,.tr false shf5 Z7 o10),(12,.tr false (.ct shf4 m12) Z7 o12)])
theorem Zk7:fnOk G 86 Tryz.f86:=⟨Tryz.func86,by kernel_rfl⟩
def pth86 (x0:Z29.T) (_:(chain []).T):List Stp × Nat × Ty:=([⟨6,63,Z0,x0.2.1⟩],0,Z0)
noncomputable def r86 (K:Nat) (x0:Z29.T):Option Z29.T:=br (decide (0≤x0.2.1) && decide (x0.2.1 < (List.length x0.1.2.2.2.1:Int))) (some x0) none
theorem rq86 (K:Nat) (x0:Z29.T):runQ (envT G [] [] [] [] [] ⟨[],[],[]⟩ K tl1 tl1) dokB shf9 Z29 Tryz.f86 x0 (toDts [] ()) = br (decide (0≤x0.2.1) && decide (x0.2.1 < (List.length x0.1.2.2.2.1:Int))) (some (x0,pth86 x0 ())) none:=by kernel_rfl
noncomputable def Zgp (K:Nat):QEnt G.P:=mkQEnt G 86 Tryz.f86 Zk7 [] shf9 Z29 [] [] [] [] [] ⟨[],[],[]⟩ K tl1 tl1 pth86 (fun x _=>r86 K x) (fun x a x1 h=>(rq86 K x).trans (brQ h))
theorem Zji:fnOk G 31 Tryz.f31:=⟨Tryz.func31,by kernel_rfl⟩
def tl81:Nat→List Nat:=fun i=>if i = 1 then [2,3,4,5,6,7,8,9,10,14,15,16,17,18,19,20,21,22,23,24,25,26,27,28,29,30,31,32,33,34,35,36,37,38,39,40,41,42,43,44,45,46,47,48] else []
noncomputable def Z4n (K:Nat):PEnt G.P:=mkPEnt G 31 Tryz.f31 Zji [T_int] shf9 shf9 Z29 [] [(Z8x K).tree rfl rfl ⟨_,_,rfl⟩,Zir K] [] [] [Zgp K] ⟨[5,47],[],[(11,(.ow .mv))]⟩ K tl81 (fun i=>if i = 1 then [5,39] else [])
noncomputable def Z5t (K:Nat) (x0:Z29.T) (x1:T_int.T):Option Z29.T:=(Z4n K).g x0 (x1,())
noncomputable def Z2h (K:Nat) (k:Nat) (x1:T_int.T) (y_1:Z7.T) (v13:T_int.T) (o0:Z29.T) (o11:Z7.T):Option Z29.T:=resumeP (envT G [] [(Z8x K).tree rfl rfl ⟨_,_,rfl⟩,Zir K] [] [] [Zgp K] ⟨[5,47],[],[(11,(.ow .mv))]⟩ K tl81 (fun i=>if i = 1 then [5,39] else [])) dokB shf9 Z29 Tryz.f31 [0,1,0] k (mkSt 49 [(0,.pt 0 [] 0 Z29),(1,.d T_int true x1),(11,.vw 11 [] 0 Z7),(12,.d T_int true ((List.length y_1:Nat):Int)),(13,.d T_int true v13)] [(0,.tr true shf9 Z29 o0),(11,.tr false (.ow (.pr .fz (.pr .fz (.pr .fz (.pr .fz (.pr .mv (.pr .mv .fz))))))) Z7 o11)])
theorem Zqn:fnOk G 8 Tryz.f8:=⟨Tryz.func8,by kernel_rfl⟩
noncomputable def Z8l (K:Nat):SEnt G.P:=mkSEnt2 G 8 Tryz.f8 Zqn [Z1,T_int] (.pr shf8 (.pr .fz .fz)) (Ty.pair Z1 (Ty.pair T_bool Ty.unit)) [Z87 K,Z12 K] [Z48 K] [Z4n K] [] [] ⟨[4,29,30],[],[]⟩ K tl1 tl1
noncomputable def Z3b (K:Nat) (x0:Z1.T) (x1:T_int.T):Option (Ty.pair Z1 (Ty.pair T_bool Ty.unit)).T:=(Z8l K).g (x0,x1,())
theorem Znn:fnOk G 148 Tryz.f148:=⟨Tryz.func148,by kernel_rfl⟩
noncomputable def Z9s (K:Nat):Ent G.P:=mkEnt G 148 Tryz.f148 Znn [Zj,Zj] true T_bool true [] K tl34 tl35
noncomputable def Z54 (K:Nat) (x0:Zj.T) (x1:Zj.T):Option T_bool.T:=(Z9s K).g (x0,x1,())
noncomputable def Z8c (K:Nat) (k:Nat) (x0:Zj.T) (x1:Zj.T) (v5:T_int.T):Option T_bool.T:=resume (envOf G [] K tl34 tl35) dokB true T_bool true Tryz.f148 [1,1,0,1,0] k (mkSt 26 [(0,.d Zj false x0),(1,.d Zj false x1),(5,.d T_int true v5)] [])
theorem Zm1:fnOk G 87 Tryz.f87:=⟨Tryz.func87,by kernel_rfl⟩
def tl82:Nat→List Nat:=fun i=>if i = 4 then [2,3,4,6,7,8,9,10,11,12,13,14,15,16,17,18,19,20,21,22,23,24,25,26] else []
noncomputable def Zif (K:Nat):Ent G.P:=mkEnt G 87 Tryz.f87 Zm1 [Zx,Zx] true T_bool true [Z9s K] K tl82 tl35
noncomputable def Zb6 (K:Nat) (x0:Zx.T) (x1:Zx.T):Option T_bool.T:=(Zif K).g (x0,x1,())
noncomputable def Z7g (K:Nat) (k:Nat) (x0:Zx.T) (x1:Zx.T) (v5:T_int.T):Option T_bool.T:=resume (envOf G [Z9s K] K tl82 tl35) dokB true T_bool true Tryz.f87 [1,1,0,1,0] k (mkSt 27 [(0,.d Zx false x0),(1,.d Zx false x1),(5,.d T_int true v5)] [])
theorem Zrh:fnOk G 149 Tryz.f149:=⟨Tryz.func149,by kernel_rfl⟩
noncomputable def Zis (K:Nat):Ent G.P:=mkEnt G 149 Tryz.f149 Zrh [Za,Za] true T_bool true [Z9s K] K tl1 tl1
noncomputable def Zdf (K:Nat) (x0:Za.T) (x1:Za.T):Option T_bool.T:=(Zis K).g (x0,x1,())
theorem Zqo:fnOk G 88 Tryz.f88:=⟨Tryz.func88,by kernel_rfl⟩
noncomputable def Zkg (K:Nat):Ent G.P:=mkEnt G 88 Tryz.f88 Zqo [Zz,Zz] true T_bool true [Zis K] K tl82 tl35
noncomputable def Zdy (K:Nat) (x0:Zz.T) (x1:Zz.T):Option T_bool.T:=(Zkg K).g (x0,x1,())
noncomputable def Z9t (K:Nat) (k:Nat) (x0:Zz.T) (x1:Zz.T) (v5:T_int.T):Option T_bool.T:=resume (envOf G [Zis K] K tl82 tl35) dokB true T_bool true Tryz.f88 [1,1,0,1,0] k (mkSt 27 [(0,.d Zz false x0),(1,.d Zz false x1),(5,.d T_int true v5)] [])
theorem Zpk:fnOk G 32 Tryz.f32:=⟨Tryz.func32,by kernel_rfl⟩
noncomputable def Zk3 (K:Nat):Ent G.P:=mkEnt G 32 Tryz.f32 Zpk [Z9,Z9] true T_bool true [Zif K,Zkg K] K tl1 tl1
noncomputable def Zd8 (K:Nat) (x0:Z9.T) (x1:Z9.T):Option T_bool.T:=(Zk3 K).g (x0,x1,())
theorem Zpl:fnOk G 89 Tryz.f89:=⟨Tryz.func89,by kernel_rfl⟩
noncomputable def Zhi (K:Nat):Ent G.P:=mkEnt G 89 Tryz.f89 Zpl [Z5,Z5] true T_bool true [Z9s K] K tl1 tl1
noncomputable def Zao (K:Nat) (x0:Z5.T) (x1:Z5.T):Option T_bool.T:=(Zhi K).g (x0,x1,())
theorem Zno:fnOk G 33 Tryz.f33:=⟨Tryz.func33,by kernel_rfl⟩
noncomputable def Zjj (K:Nat):Ent G.P:=mkEnt G 33 Tryz.f33 Zno [Z7,Z7] true T_bool true [Zhi K] K tl82 tl35
noncomputable def Zc2 (K:Nat) (x0:Z7.T) (x1:Z7.T):Option T_bool.T:=(Zjj K).g (x0,x1,())
noncomputable def Z8d (K:Nat) (k:Nat) (x0:Z7.T) (x1:Z7.T) (v5:T_int.T):Option T_bool.T:=resume (envOf G [Zhi K] K tl82 tl35) dokB true T_bool true Tryz.f33 [1,1,0,1,0] k (mkSt 27 [(0,.d Z7 false x0),(1,.d Z7 false x1),(5,.d T_int true v5)] [])
theorem Zri:fnOk G 198 Tryz.f198:=⟨Tryz.func198,by kernel_rfl⟩
noncomputable def Zit (K:Nat):Ent G.P:=mkEnt G 198 Tryz.f198 Zri [Zl,Zl] true T_bool true [] K tl1 tl1
noncomputable def Zdg (K:Nat) (x0:Zl.T) (x1:Zl.T):Option T_bool.T:=(Zit K).g (x0,x1,())
theorem Zqp:fnOk G 150 Tryz.f150:=⟨Tryz.func150,by kernel_rfl⟩
noncomputable def Zkh (K:Nat):Ent G.P:=mkEnt G 150 Tryz.f150 Zqp [Z6,Z6] true T_bool true [Zit K] K tl82 tl35
noncomputable def Zdz (K:Nat) (x0:Z6.T) (x1:Z6.T):Option T_bool.T:=(Zkh K).g (x0,x1,())
noncomputable def Z9u (K:Nat) (k:Nat) (x0:Z6.T) (x1:Z6.T) (v5:T_int.T):Option T_bool.T:=resume (envOf G [Zit K] K tl82 tl35) dokB true T_bool true Tryz.f150 [1,1,0,1,0] k (mkSt 27 [(0,.d Z6 false x0),(1,.d Z6 false x1),(5,.d T_int true v5)] [])
theorem Znp:fnOk G 199 Tryz.f199:=⟨Tryz.func199,by kernel_rfl⟩
noncomputable def Zga (K:Nat):Ent G.P:=mkEnt G 199 Tryz.f199 Znp [Z4,Z4] true T_bool true [] K tl1 tl1
noncomputable def Z9v (K:Nat) (x0:Z4.T) (x1:Z4.T):Option T_bool.T:=(Zga K).g (x0,x1,())
theorem Zm2:fnOk G 151 Tryz.f151:=⟨Tryz.func151,by kernel_rfl⟩
noncomputable def Zig (K:Nat):Ent G.P:=mkEnt G 151 Tryz.f151 Zm2 [Zf,Zf] true T_bool true [Zga K] K tl82 tl35
noncomputable def Zb7 (K:Nat) (x0:Zf.T) (x1:Zf.T):Option T_bool.T:=(Zig K).g (x0,x1,())
noncomputable def Z7h (K:Nat) (k:Nat) (x0:Zf.T) (x1:Zf.T) (v5:T_int.T):Option T_bool.T:=resume (envOf G [Zga K] K tl82 tl35) dokB true T_bool true Tryz.f151 [1,1,0,1,0] k (mkSt 27 [(0,.d Zf false x0),(1,.d Zf false x1),(5,.d T_int true v5)] [])
theorem Zpm:fnOk G 200 Tryz.f200:=⟨Tryz.func200,by kernel_rfl⟩
noncomputable def Zhj (K:Nat):Ent G.P:=mkEnt G 200 Tryz.f200 Zpm [Zb,Zb] true T_bool true [] K tl1 tl1
noncomputable def Zap (K:Nat) (x0:Zb.T) (x1:Zb.T):Option T_bool.T:=(Zhj K).g (x0,x1,())
theorem Znq:fnOk G 152 Tryz.f152:=⟨Tryz.func152,by kernel_rfl⟩
noncomputable def Zjk (K:Nat):Ent G.P:=mkEnt G 152 Tryz.f152 Znq [Zk,Zk] true T_bool true [Zhj K] K tl82 tl35
noncomputable def Zc3 (K:Nat) (x0:Zk.T) (x1:Zk.T):Option T_bool.T:=(Zjk K).g (x0,x1,())
noncomputable def Z8e (K:Nat) (k:Nat) (x0:Zk.T) (x1:Zk.T) (v5:T_int.T):Option T_bool.T:=resume (envOf G [Zhj K] K tl82 tl35) dokB true T_bool true Tryz.f152 [1,1,0,1,0] k (mkSt 27 [(0,.d Zk false x0),(1,.d Zk false x1),(5,.d T_int true v5)] [])
theorem Zpn:fnOk G 153 Tryz.f153:=⟨Tryz.func153,by kernel_rfl⟩
noncomputable def Zk4 (K:Nat):Ent G.P:=mkEnt G 153 Tryz.f153 Zpn [Zp,Zp] true T_bool true [] K tl1 tl1
noncomputable def Zd9 (K:Nat) (x0:Zp.T) (x1:Zp.T):Option T_bool.T:=(Zk4 K).g (x0,x1,())
theorem Znr:fnOk G 90 Tryz.f90:=⟨Tryz.func90,by kernel_rfl⟩
noncomputable def Zgb (K:Nat):Ent G.P:=mkEnt G 90 Tryz.f90 Znr [Z0,Z0] true T_bool true [Zkh K,Zig K,Zjk K,Zk4 K] K tl1 tl1
noncomputable def Z9w (K:Nat) (x0:Z0.T) (x1:Z0.T):Option T_bool.T:=(Zgb K).g (x0,x1,())
theorem Zm3:fnOk G 34 Tryz.f34:=⟨Tryz.func34,by kernel_rfl⟩
noncomputable def Zih (K:Nat):Ent G.P:=mkEnt G 34 Tryz.f34 Zm3 [Zv,Zv] true T_bool true [Zgb K] K tl82 tl35
noncomputable def Zb8 (K:Nat) (x0:Zv.T) (x1:Zv.T):Option T_bool.T:=(Zih K).g (x0,x1,())
noncomputable def Z7i (K:Nat) (k:Nat) (x0:Zv.T) (x1:Zv.T) (v5:T_int.T):Option T_bool.T:=resume (envOf G [Zgb K] K tl82 tl35) dokB true T_bool true Tryz.f34 [1,1,0,1,0] k (mkSt 27 [(0,.d Zv false x0),(1,.d Zv false x1),(5,.d T_int true v5)] [])
theorem Zpo:fnOk G 91 Tryz.f91:=⟨Tryz.func91,by kernel_rfl⟩
noncomputable def Zhk (K:Nat):Ent G.P:=mkEnt G 91 Tryz.f91 Zpo [Za,Za] true T_bool true [Z9s K] K tl1 tl1
noncomputable def Zaq (K:Nat) (x0:Za.T) (x1:Za.T):Option T_bool.T:=(Zhk K).g (x0,x1,())
theorem Zns:fnOk G 35 Tryz.f35:=⟨Tryz.func35,by kernel_rfl⟩
noncomputable def Zjl (K:Nat):Ent G.P:=mkEnt G 35 Tryz.f35 Zns [Zg,Zg] true T_bool true [Zhk K] K tl82 tl35
noncomputable def Zc4 (K:Nat) (x0:Zg.T) (x1:Zg.T):Option T_bool.T:=(Zjl K).g (x0,x1,())
noncomputable def Z8f (K:Nat) (k:Nat) (x0:Zg.T) (x1:Zg.T) (v5:T_int.T):Option T_bool.T:=resume (envOf G [Zhk K] K tl82 tl35) dokB true T_bool true Tryz.f35 [1,1,0,1,0] k (mkSt 27 [(0,.d Zg false x0),(1,.d Zg false x1),(5,.d T_int true v5)] [])
theorem Zpp:fnOk G 92 Tryz.f92:=⟨Tryz.func92,by kernel_rfl⟩
noncomputable def Zhl (K:Nat):Ent G.P:=mkEnt G 92 Tryz.f92 Zpp [Zd,Zd] true T_bool true [] K tl1 tl1
noncomputable def Zar (K:Nat) (x0:Zd.T) (x1:Zd.T):Option T_bool.T:=(Zhl K).g (x0,x1,())
theorem Znt:fnOk G 36 Tryz.f36:=⟨Tryz.func36,by kernel_rfl⟩
noncomputable def Zjm (K:Nat):Ent G.P:=mkEnt G 36 Tryz.f36 Znt [Zw,Zw] true T_bool true [Zhl K] K tl82 tl35
noncomputable def Zc5 (K:Nat) (x0:Zw.T) (x1:Zw.T):Option T_bool.T:=(Zjm K).g (x0,x1,())
noncomputable def Z8g (K:Nat) (k:Nat) (x0:Zw.T) (x1:Zw.T) (v5:T_int.T):Option T_bool.T:=resume (envOf G [Zhl K] K tl82 tl35) dokB true T_bool true Tryz.f36 [1,1,0,1,0] k (mkSt 27 [(0,.d Zw false x0),(1,.d Zw false x1),(5,.d T_int true v5)] [])
theorem Znu:fnOk G 9 Tryz.f9:=⟨Tryz.func9,by kernel_rfl⟩
noncomputable def Z55 (K:Nat):Ent G.P:=mkEnt G 9 Tryz.f9 Znu [Z1,Z1] true T_bool true [Zk3 K,Zjj K,Zih K,Zjl K,Zjm K] K tl1 tl1
noncomputable def Z3p (K:Nat) (x0:Z1.T) (x1:Z1.T):Option T_bool.T:=(Z55 K).g (x0,x1,())
theorem Zkz:fnOk G 95 Tryz.f95:=⟨Tryz.func95,by kernel_rfl⟩
noncomputable def Z5j (K:Nat):TEnt G.P:=mkTEnt G 95 Tryz.f95 Zkz (.ow .fz) Zj [] [] [] [] [] ⟨[],[],[]⟩ K tl29 tl18
noncomputable def Z4o (K:Nat) (x0:Zj.T) (x1:T_int.T):Option (Int × Zj.T):=(Z5j K).g x0 x1
noncomputable def Z3v (K:Nat) (k:Nat) (v1:T_int.T) (v5:T_int.T) (o0:Zj.T):Option (Int × Zj.T):=resumeT (envT G [] [] [] [] [] ⟨[],[],[]⟩ K tl29 tl18) dokB (.ow .fz) Zj Tryz.f95 [1,0,1,0] k (mkSt 20 [(0,.pv Zj),(1,.d T_int true v1),(5,.d T_int true v5)] [(0,.tr false (.ow .fz) Zj o0)])
theorem Zki:fnOk G 93 Tryz.f93:=⟨Tryz.func93,by kernel_rfl⟩
def tl83:Nat→List Nat:=fun i=>if i = 2 then [2,3,4,6,7,8,9,10,11,12,13,14,15,16,17,18] else []
noncomputable def Zhm (K:Nat):TEnt G.P:=mkTEnt G 93 Tryz.f93 Zki shf0 Zx [] [] [] [Z5j K] [] ⟨[],[],[]⟩ K tl83 tl18
noncomputable def Z8y (K:Nat) (x0:Zx.T) (x1:T_int.T):Option (Int × Zx.T):=(Zhm K).g x0 x1
noncomputable def Z3d (K:Nat) (k:Nat) (v1:T_int.T) (v5:T_int.T) (o0:Zx.T):Option (Int × Zx.T):=resumeT (envT G [] [] [] [Z5j K] [] ⟨[],[],[]⟩ K tl83 tl18) dokB shf0 Zx Tryz.f93 [1,0,1,0] k (mkSt 19 [(0,.pv Zx),(1,.d T_int true v1),(5,.d T_int true v5)] [(0,.tr false shf0 Zx o0)])
theorem Znv:fnOk G 94 Tryz.f94:=⟨Tryz.func94,by kernel_rfl⟩
def tl84:Nat→List Nat:=fun i=>if i = 2 then [2,3,4,6,7,8,9,10,11,12,13,14,15,16,17,18,19,20,21,22,23,24,25,26] else []
noncomputable def Zjn (K:Nat):TEnt G.P:=mkTEnt G 94 Tryz.f94 Znv shf2 Zz [] [] [] [Z5j K] [] ⟨[],[],[]⟩ K tl84 tl18
noncomputable def Zc6 (K:Nat) (x0:Zz.T) (x1:T_int.T):Option (Int × Zz.T):=(Zjn K).g x0 x1
noncomputable def ev16 (K:Nat):Env:=envT G [] [] [] [Z5j K] [] ⟨[],[],[]⟩ K tl84 tl18
noncomputable def Z4p (K:Nat) (k:Nat) (v1:T_int.T) (v5:T_int.T) (o0:Zz.T):Option (Int × Zz.T):=resumeT (ev16 K) dokB shf2 Zz Tryz.f94 [1,0,1,0] k (mkSt 27 [(0,.pv Zz),(1,.d T_int true v1),(5,.d T_int true v5)] [(0,.tr false shf2 Zz o0)])
theorem Zm4:fnOk G 37 Tryz.f37:=⟨Tryz.func37,by kernel_rfl⟩
noncomputable def Z77 (K:Nat):TEnt G.P:=mkTEnt G 37 Tryz.f37 Zm4 shf3 Z9 [] [] [] [Zhm K,Zjn K] [] ⟨[],[],[]⟩ K tl1 tl1
noncomputable def Z8o (K:Nat) (x0:Z9.T) (x1:T_int.T):Option (Int × Z9.T):=(Z77 K).g x0 x1
theorem Zl0:fnOk G 38 Tryz.f38:=⟨Tryz.func38,by kernel_rfl⟩
def tl85:Nat→List Nat:=fun i=>if i = 2 then [2,3,4,6,7,8,9,10,11,12,13,14,15,16,17,18,19,20,21,22,23,24,25,26,27,28,29,30,31,32,33,34,35,36,37,38,39,40,41,42,43,44,45,46,47,48,49,50,51,52,53,54,55,56,57,58,59,60,61,62,63,64,65,66,67,68,69,70] else []
noncomputable def Z6e (K:Nat):TEnt G.P:=mkTEnt G 38 Tryz.f38 Zl0 shf5 Z7 [] [] [] [Z5j K] [] ⟨[],[],[]⟩ K tl85 tl18
noncomputable def Z8h (K:Nat) (x0:Z7.T) (x1:T_int.T):Option (Int × Z7.T):=(Z6e K).g x0 x1
noncomputable def Z3w (K:Nat) (k:Nat) (v1:T_int.T) (v5:T_int.T) (o0:Z7.T):Option (Int × Z7.T):=resumeT (envT G [] [] [] [Z5j K] [] ⟨[],[],[]⟩ K tl85 tl18) dokB shf5 Z7 Tryz.f38 [1,0,1,0] k (mkSt 71 [(0,.pv Z7),(1,.d T_int true v1),(5,.d T_int true v5)] [(0,.tr false shf5 Z7 o0)])
theorem Zm5:fnOk G 154 Tryz.f154:=⟨Tryz.func154,by kernel_rfl⟩
def tl86:Nat→List Nat:=fun i=>if i = 4 then [1,2,4,5,6,7,8,9,10,11,12,13,14,15,16,17,18,19] else []
noncomputable def Z2o (K:Nat):Ent G.P:=mkEnt G 154 Tryz.f154 Zm5 [T_int] true T_str true [] K tl86 (fun i=>if i = 4 then [12] else [])
noncomputable def Z35 (K:Nat) (x0:T_int.T):Option T_str.T:=(Z2o K).g (x0,())
noncomputable def Z5b (K:Nat) (k:Nat) (v0:T_int.T) (v3:T_str.T):Option T_str.T:=resume (envOf G [] K tl86 (fun i=>if i = 4 then [12] else [])) dokB true T_str true Tryz.f154 [1,1,1,0,0] k (mkSt 20 [(0,.d T_int true v0),(3,.d T_str true v3)] [])
theorem Znw:fnOk G 96 Tryz.f96:=⟨Tryz.func96,by kernel_rfl⟩
def tl87:Nat→List Nat:=fun i=>if i = 2 then [2,3,4,6,7,8,9,10,11,12,13,14,15,16,17,18,19,20,21,22,23,24,25,26,27,28,29,30,31,32,33,34,35,36,37,38,39,40,41,42,43,44,45,46,47,48] else []
noncomputable def Zgc (K:Nat):TEnt G.P:=mkTEnt G 96 Tryz.f96 Znw (.ow .fz) Z6 [Z2o K] [] [] [] [] ⟨[],[],[]⟩ K tl87 tl18
noncomputable def Zc7 (K:Nat) (x0:Z6.T) (x1:T_int.T):Option (Int × Z6.T):=(Zgc K).g x0 x1
noncomputable def Z4q (K:Nat) (k:Nat) (v1:T_int.T) (v5:T_int.T) (o0:Z6.T):Option (Int × Z6.T):=resumeT (envT G [Z2o K] [] [] [] [] ⟨[],[],[]⟩ K tl87 tl18) dokB (.ow .fz) Z6 Tryz.f96 [1,0,1,0] k (mkSt 49 [(0,.pv Z6),(1,.d T_int true v1),(5,.d T_int true v5)] [(0,.tr false (.ow .fz) Z6 o0)])
theorem Zkj:fnOk G 97 Tryz.f97:=⟨Tryz.func97,by kernel_rfl⟩
noncomputable def Ze9 (K:Nat):TEnt G.P:=mkTEnt G 97 Tryz.f97 Zkj (.ow .fz) Zf [Z2o K] [] [] [] [] ⟨[],[],[]⟩ K tl85 tl18
noncomputable def Z8z (K:Nat) (x0:Zf.T) (x1:T_int.T):Option (Int × Zf.T):=(Ze9 K).g x0 x1
noncomputable def Z3e (K:Nat) (k:Nat) (v1:T_int.T) (v5:T_int.T) (o0:Zf.T):Option (Int × Zf.T):=resumeT (envT G [Z2o K] [] [] [] [] ⟨[],[],[]⟩ K tl85 tl18) dokB (.ow .fz) Zf Tryz.f97 [1,0,1,0] k (mkSt 71 [(0,.pv Zf),(1,.d T_int true v1),(5,.d T_int true v5)] [(0,.tr false (.ow .fz) Zf o0)])
theorem Zl1:fnOk G 98 Tryz.f98:=⟨Tryz.func98,by kernel_rfl⟩
def tl88:Nat→List Nat:=fun i=>if i = 2 then [2,3,4,6,7,8,9,10,11,12,13,14,15,16,17,18,19,20,21,22,23,24,25,26,27,28,29,30,31,32,33,34,35,36,37,38,39,40,41,42,43,44,45,46,47,48,49,50,51,52,53,54,55,56,57,58,59,60,61,62] else []
noncomputable def Zes (K:Nat):TEnt G.P:=mkTEnt G 98 Tryz.f98 Zl1 (.ow .fz) Zk [Z2o K] [] [] [] [] ⟨[],[],[]⟩ K tl88 tl18
noncomputable def Za3 (K:Nat) (x0:Zk.T) (x1:T_int.T):Option (Int × Zk.T):=(Zes K).g x0 x1
noncomputable def Z3x (K:Nat) (k:Nat) (v1:T_int.T) (v5:T_int.T) (o0:Zk.T):Option (Int × Zk.T):=resumeT (envT G [Z2o K] [] [] [] [] ⟨[],[],[]⟩ K tl88 tl18) dokB (.ow .fz) Zk Tryz.f98 [1,0,1,0] k (mkSt 63 [(0,.pv Zk),(1,.d T_int true v1),(5,.d T_int true v5)] [(0,.tr false (.ow .fz) Zk o0)])
theorem Zkk:fnOk G 39 Tryz.f39:=⟨Tryz.func39,by kernel_rfl⟩
def tl89:Nat→List Nat:=fun i=>if i = 2 then [2,3,4,6,7,8,9,10,11,12,13,14,15,16,17,18,19,20,21,22,23,24,25,26,27,28,29,30,31,32,33,34,35,36,37,38,39,40,41,42,43,44,45,46,47,48,49,50,51,52,53,54,55,56,57,58,59,60,61,62,63,64,65,66,67,68,69,70,71,72,73,74,75,76,77,78,79,80,81,82,83,84,85,86,87,88,89,90,91,92,93,94,95,96,97,98,99,100,101,102] else []
noncomputable def Z5x (K:Nat):TEnt G.P:=mkTEnt G 39 Tryz.f39 Zkk shf7 Zv [] [] [] [Zgc K,Ze9 K,Zes K] [] ⟨[],[],[]⟩ K tl89 tl18
noncomputable def Z7j (K:Nat) (x0:Zv.T) (x1:T_int.T):Option (Int × Zv.T):=(Z5x K).g x0 x1
noncomputable def Z3f (K:Nat) (k:Nat) (v1:T_int.T) (v5:T_int.T) (o0:Zv.T):Option (Int × Zv.T):=resumeT (envT G [] [] [] [Zgc K,Ze9 K,Zes K] [] ⟨[],[],[]⟩ K tl89 tl18) dokB shf7 Zv Tryz.f39 [1,0,1,0] k (mkSt 103 [(0,.pv Zv),(1,.d T_int true v1),(5,.d T_int true v5)] [(0,.tr false shf7 Zv o0)])
theorem Zl2:fnOk G 40 Tryz.f40:=⟨Tryz.func40,by kernel_rfl⟩
noncomputable def Z6f (K:Nat):TEnt G.P:=mkTEnt G 40 Tryz.f40 Zl2 shf2 Zg [] [] [] [Z5j K] [] ⟨[],[],[]⟩ K tl84 tl18
noncomputable def Z8i (K:Nat) (x0:Zg.T) (x1:T_int.T):Option (Int × Zg.T):=(Z6f K).g x0 x1
noncomputable def Z3y (K:Nat) (k:Nat) (v1:T_int.T) (v5:T_int.T) (o0:Zg.T):Option (Int × Zg.T):=resumeT (ev16 K) dokB shf2 Zg Tryz.f40 [1,0,1,0] k (mkSt 27 [(0,.pv Zg),(1,.d T_int true v1),(5,.d T_int true v5)] [(0,.tr false shf2 Zg o0)])
theorem Zl3:fnOk G 41 Tryz.f41:=⟨Tryz.func41,by kernel_rfl⟩
def tl90:Nat→List Nat:=fun i=>if i = 2 then [2,3,4,6,7,8,9,10,11,12,13,14,15,16,17,18,19,20,21,22,23,24,25,26,27,28,29,30,31,32,33,34,35,36,37,38,39,40,41,42,43,44,45,46,47,48,49,50,51,52,53,54,55,56,57,58,59,60,61,62,63,64,65,66,67,68,69,70,71,72,73,74,75] else []
noncomputable def Z6g (K:Nat):TEnt G.P:=mkTEnt G 41 Tryz.f41 Zl3 (.ow .fz) Zw [] [] [] [] [] ⟨[],[],[]⟩ K tl90 tl18
noncomputable def Z8j (K:Nat) (x0:Zw.T) (x1:T_int.T):Option (Int × Zw.T):=(Z6g K).g x0 x1
noncomputable def Z3z (K:Nat) (k:Nat) (v1:T_int.T) (v5:T_int.T) (o0:Zw.T):Option (Int × Zw.T):=resumeT (envT G [] [] [] [] [] ⟨[],[],[]⟩ K tl90 tl18) dokB (.ow .fz) Zw Tryz.f41 [1,0,1,0] k (mkSt 76 [(0,.pv Zw),(1,.d T_int true v1),(5,.d T_int true v5)] [(0,.tr false (.ow .fz) Zw o0)])
theorem Zl4:fnOk G 10 Tryz.f10:=⟨Tryz.func10,by kernel_rfl⟩
noncomputable def Z5k (K:Nat):TEnt G.P:=mkTEnt G 10 Tryz.f10 Zl4 shf8 Z1 [] [] [] [Z77 K,Z6e K,Z5x K,Z6f K,Z6g K] [] ⟨[],[],[]⟩ K tl1 tl1
noncomputable def Z1w (K:Nat) (x0:Z1.T) (x1:T_int.T):Option (Int × Z1.T):=(Z5k K).g x0 x1
theorem Zl5:fnOk G 101 Tryz.f101:=⟨Tryz.func101,by kernel_rfl⟩
def tl91:Nat→List Nat:=fun i=>if i = 2 then [2,3,4,6,7,8,9,10,11,12,13,14,15,16,17,18,19,20,21] else []
noncomputable def Z5l (K:Nat):Ent G.P:=mkEnt G 101 Tryz.f101 Zl5 [Zj,T_int] true T_int true [] K tl91 tl18
noncomputable def Z4r (K:Nat) (x0:Zj.T) (x1:T_int.T):Option T_int.T:=(Z5l K).g (x0,x1,())
noncomputable def Z40 (K:Nat) (k:Nat) (x0:Zj.T) (v1:T_int.T) (v5:T_int.T):Option T_int.T:=resume (envOf G [] K tl91 tl18) dokB true T_int true Tryz.f101 [1,0,1,0] k (mkSt 22 [(0,.d Zj false x0),(1,.d T_int true v1),(5,.d T_int true v5)] [])
theorem Zkl:fnOk G 99 Tryz.f99:=⟨Tryz.func99,by kernel_rfl⟩
def tl92:Nat→List Nat:=fun i=>if i = 2 then [2,3,4,6,7,8,9,10,11,12,13,14,15,16,17,18,19,20] else []
noncomputable def Zhn (K:Nat):Ent G.P:=mkEnt G 99 Tryz.f99 Zkl [Zx,T_int] true T_int true [Z5l K] K tl92 tl18
noncomputable def Z90 (K:Nat) (x0:Zx.T) (x1:T_int.T):Option T_int.T:=(Zhn K).g (x0,x1,())
noncomputable def Z3g (K:Nat) (k:Nat) (x0:Zx.T) (v1:T_int.T) (v5:T_int.T):Option T_int.T:=resume (envOf G [Z5l K] K tl92 tl18) dokB true T_int true Tryz.f99 [1,0,1,0] k (mkSt 21 [(0,.d Zx false x0),(1,.d T_int true v1),(5,.d T_int true v5)] [])
theorem Znx:fnOk G 100 Tryz.f100:=⟨Tryz.func100,by kernel_rfl⟩
def tl93:Nat→List Nat:=fun i=>if i = 2 then [2,3,4,6,7,8,9,10,11,12,13,14,15,16,17,18,19,20,21,22,23,24,25,26,27,28,29,30] else []
noncomputable def Zjo (K:Nat):Ent G.P:=mkEnt G 100 Tryz.f100 Znx [Zz,T_int] true T_int true [Z5l K] K tl93 tl18
noncomputable def Zc8 (K:Nat) (x0:Zz.T) (x1:T_int.T):Option T_int.T:=(Zjo K).g (x0,x1,())
noncomputable def ev17 (K:Nat):Env:=envOf G [Z5l K] K tl93 tl18
noncomputable def Z4s (K:Nat) (k:Nat) (x0:Zz.T) (v1:T_int.T) (v5:T_int.T):Option T_int.T:=resume (ev17 K) dokB true T_int true Tryz.f100 [1,0,1,0] k (mkSt 31 [(0,.d Zz false x0),(1,.d T_int true v1),(5,.d T_int true v5)] [])
theorem Zm6:fnOk G 42 Tryz.f42:=⟨Tryz.func42,by kernel_rfl⟩
noncomputable def Zii (K:Nat):Ent G.P:=mkEnt G 42 Tryz.f42 Zm6 [Z9,T_int] true T_int true [Zhn K,Zjo K] K tl1 tl1
noncomputable def Zb9 (K:Nat) (x0:Z9.T) (x1:T_int.T):Option T_int.T:=(Zii K).g (x0,x1,())
theorem Zl6:fnOk G 43 Tryz.f43:=⟨Tryz.func43,by kernel_rfl⟩
def tl94:Nat→List Nat:=fun i=>if i = 2 then [2,3,4,6,7,8,9,10,11,12,13,14,15,16,17,18,19,20,21,22,23,24,25,26,27,28,29,30,31,32,33,34,35,36,37,38,39,40,41,42,43,44,45,46,47,48,49,50,51,52,53,54,55,56,57,58,59,60,61,62,63,64,65,66,67,68,69,70,71,72,73,74,75,76,77,78,79,80,81,82,83,84,85,86] else []
noncomputable def Zi1 (K:Nat):Ent G.P:=mkEnt G 43 Tryz.f43 Zl6 [Z7,T_int] true T_int true [Z5l K] K tl94 tl18
noncomputable def Za4 (K:Nat) (x0:Z7.T) (x1:T_int.T):Option T_int.T:=(Zi1 K).g (x0,x1,())
noncomputable def Z41 (K:Nat) (k:Nat) (x0:Z7.T) (v1:T_int.T) (v5:T_int.T):Option T_int.T:=resume (envOf G [Z5l K] K tl94 tl18) dokB true T_int true Tryz.f43 [1,0,1,0] k (mkSt 87 [(0,.d Z7 false x0),(1,.d T_int true v1),(5,.d T_int true v5)] [])
theorem Zny:fnOk G 102 Tryz.f102:=⟨Tryz.func102,by kernel_rfl⟩
def tl95:Nat→List Nat:=fun i=>if i = 2 then [2,3,4,6,7,8,9,10,11,12,13,14,15,16,17,18,19,20,21,22,23,24,25,26,27,28,29,30,31,32,33,34,35,36,37,38,39,40,41,42,43,44,45,46,47,48,49,50,51,52,53,54,55,56,57,58] else []
noncomputable def Zgd (K:Nat):Ent G.P:=mkEnt G 102 Tryz.f102 Zny [Z6,T_int] true T_int true [Z2o K] K tl95 tl18
noncomputable def Zc9 (K:Nat) (x0:Z6.T) (x1:T_int.T):Option T_int.T:=(Zgd K).g (x0,x1,())
noncomputable def Z4t (K:Nat) (k:Nat) (x0:Z6.T) (v1:T_int.T) (v5:T_int.T):Option T_int.T:=resume (envOf G [Z2o K] K tl95 tl18) dokB true T_int true Tryz.f102 [1,0,1,0] k (mkSt 59 [(0,.d Z6 false x0),(1,.d T_int true v1),(5,.d T_int true v5)] [])
theorem Zkm:fnOk G 103 Tryz.f103:=⟨Tryz.func103,by kernel_rfl⟩
noncomputable def Zea (K:Nat):Ent G.P:=mkEnt G 103 Tryz.f103 Zkm [Zf,T_int] true T_int true [Z2o K] K tl94 tl18
noncomputable def Z91 (K:Nat) (x0:Zf.T) (x1:T_int.T):Option T_int.T:=(Zea K).g (x0,x1,())
noncomputable def Z3h (K:Nat) (k:Nat) (x0:Zf.T) (v1:T_int.T) (v5:T_int.T):Option T_int.T:=resume (envOf G [Z2o K] K tl94 tl18) dokB true T_int true Tryz.f103 [1,0,1,0] k (mkSt 87 [(0,.d Zf false x0),(1,.d T_int true v1),(5,.d T_int true v5)] [])
theorem Zl7:fnOk G 104 Tryz.f104:=⟨Tryz.func104,by kernel_rfl⟩
def tl96:Nat→List Nat:=fun i=>if i = 2 then [2,3,4,6,7,8,9,10,11,12,13,14,15,16,17,18,19,20,21,22,23,24,25,26,27,28,29,30,31,32,33,34,35,36,37,38,39,40,41,42,43,44,45,46,47,48,49,50,51,52,53,54,55,56,57,58,59,60,61,62,63,64,65,66,67,68,69,70,71,72,73,74,75,76] else []
noncomputable def Zet (K:Nat):Ent G.P:=mkEnt G 104 Tryz.f104 Zl7 [Zk,T_int] true T_int true [Z2o K] K tl96 tl18
noncomputable def Za5 (K:Nat) (x0:Zk.T) (x1:T_int.T):Option T_int.T:=(Zet K).g (x0,x1,())
noncomputable def Z42 (K:Nat) (k:Nat) (x0:Zk.T) (v1:T_int.T) (v5:T_int.T):Option T_int.T:=resume (envOf G [Z2o K] K tl96 tl18) dokB true T_int true Tryz.f104 [1,0,1,0] k (mkSt 77 [(0,.d Zk false x0),(1,.d T_int true v1),(5,.d T_int true v5)] [])
theorem Zkn:fnOk G 44 Tryz.f44:=⟨Tryz.func44,by kernel_rfl⟩
def tl97:Nat→List Nat:=fun i=>if i = 2 then [2,3,4,6,7,8,9,10,11,12,13,14,15,16,17,18,19,20,21,22,23,24,25,26,27,28,29,30,31,32,33,34,35,36,37,38,39,40,41,42,43,44,45,46,47,48,49,50,51,52,53,54,55,56,57,58,59,60,61,62,63,64,65,66,67,68,69,70,71,72,73,74,75,76,77,78,79,80,81,82,83,84,85,86,87,88,89,90,91,92,93,94,95,96,97,98,99,100,101,102,103,104,105,106,107,108,109,110,111,112,113,114,115,116,117,118,119,120,121,122,123,124,125,126] else []
noncomputable def Zho (K:Nat):Ent G.P:=mkEnt G 44 Tryz.f44 Zkn [Zv,T_int] true T_int true [Zgd K,Zea K,Zet K] K tl97 tl18
noncomputable def Z92 (K:Nat) (x0:Zv.T) (x1:T_int.T):Option T_int.T:=(Zho K).g (x0,x1,())
noncomputable def Z3i (K:Nat) (k:Nat) (x0:Zv.T) (v1:T_int.T) (v5:T_int.T):Option T_int.T:=resume (envOf G [Zgd K,Zea K,Zet K] K tl97 tl18) dokB true T_int true Tryz.f44 [1,0,1,0] k (mkSt 127 [(0,.d Zv false x0),(1,.d T_int true v1),(5,.d T_int true v5)] [])
theorem Zl8:fnOk G 45 Tryz.f45:=⟨Tryz.func45,by kernel_rfl⟩
noncomputable def Zi2 (K:Nat):Ent G.P:=mkEnt G 45 Tryz.f45 Zl8 [Zg,T_int] true T_int true [Z5l K] K tl93 tl18
noncomputable def Za6 (K:Nat) (x0:Zg.T) (x1:T_int.T):Option T_int.T:=(Zi2 K).g (x0,x1,())
noncomputable def Z43 (K:Nat) (k:Nat) (x0:Zg.T) (v1:T_int.T) (v5:T_int.T):Option T_int.T:=resume (ev17 K) dokB true T_int true Tryz.f45 [1,0,1,0] k (mkSt 31 [(0,.d Zg false x0),(1,.d T_int true v1),(5,.d T_int true v5)] [])
theorem Zl9:fnOk G 46 Tryz.f46:=⟨Tryz.func46,by kernel_rfl⟩
def tl98:Nat→List Nat:=fun i=>if i = 2 then [2,3,4,6,7,8,9,10,11,12,13,14,15,16,17,18,19,20,21,22,23,24,25,26,27,28,29,30,31,32,33,34,35,36,37,38,39,40,41,42,43,44,45,46,47,48,49,50,51,52,53,54,55,56,57,58,59,60,61,62,63,64,65,66,67,68,69,70,71,72,73,74,75,76,77,78,79,80,81,82,83,84,85,86,87,88,89,90,91,92,93] else []
noncomputable def Zi3 (K:Nat):Ent G.P:=mkEnt G 46 Tryz.f46 Zl9 [Zw,T_int] true T_int true [] K tl98 tl18
noncomputable def Za7 (K:Nat) (x0:Zw.T) (x1:T_int.T):Option T_int.T:=(Zi3 K).g (x0,x1,())
noncomputable def Z44 (K:Nat) (k:Nat) (x0:Zw.T) (v1:T_int.T) (v5:T_int.T):Option T_int.T:=resume (envOf G [] K tl98 tl18) dokB true T_int true Tryz.f46 [1,0,1,0] k (mkSt 94 [(0,.d Zw false x0),(1,.d T_int true v1),(5,.d T_int true v5)] [])
theorem Zla:fnOk G 11 Tryz.f11:=⟨Tryz.func11,by kernel_rfl⟩
noncomputable def Z5m (K:Nat):Ent G.P:=mkEnt G 11 Tryz.f11 Zla [Z1,T_int] true T_int true [Zii K,Zi1 K,Zho K,Zi2 K,Zi3 K] K tl1 tl1
noncomputable def Z5n (K:Nat) (x0:Z1.T) (x1:T_int.T):Option T_int.T:=(Z5m K).g (x0,x1,())
theorem Zjr:fnOk G 3 Tryz.f3:=⟨Tryz.func3,by kernel_rfl⟩
noncomputable def Z2r (K:Nat):Ent G.P:=mkEntT G 3 Tryz.f3 Zjr [Zq,T_int] true T_bool true [Z5p K,Zj4 K,Zke K,Z55 K,Z5m K] [Z2j K,Z8l K] [] [Z5k K] [] ⟨[8,9,14],[],[(23,.mv),(25,.mv)]⟩ K tl1 tl1
noncomputable def Z1t (K:Nat) (x0:Zq.T) (x1:T_int.T):Option T_bool.T:=(Z2r K).g (x0,x1,())
end F5
