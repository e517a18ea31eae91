/- Pur5. -/
import Derived.Test.YtofllafpneanoaaGreatDoorFilP
import Derived.Test.YtofllafpneanoaaGreatDoorFunN1
import Derived.Test.YtofllafpneanoaaGreatDoorFunN2
import Derived.Test.YtofllafpneanoaaGreatDoorFunN3
import Derived.Test.YtofllafpneanoaaGreatDoorFunN4
namespace F5
open Go Go.Fil Go.Proofs
set_option maxRecDepth 100000
set_option linter.unusedVariables false
set_option linter.unusedSimpArgs false
def by_ (e:Nat):Nat:=((tabOf tab e).map (·.bytes)).getD 1
theorem by5:by_ 5 = 1:=by kernel_rfl
theorem by90:by_ 90 = 24:=by kernel_rfl
theorem by92:by_ 92 = 96:=by kernel_rfl
theorem by99:by_ 99 = 144:=by kernel_rfl
theorem by102:by_ 102 = 32:=by kernel_rfl
theorem by132:by_ 132 = 72:=by kernel_rfl
theorem by153:by_ 153 = 32:=by kernel_rfl
theorem by188:by_ 188 = 48:=by kernel_rfl
theorem by190:by_ 190 = 80:=by kernel_rfl
theorem by192:by_ 192 = 64:=by kernel_rfl
theorem s_laws_szByteS {K:Nat} (hK:maxLen + 2≤K) (x0:T_S_u8.T) (h:Bd by_ T_S_u8 x0) (l:Int) (h_main_main:0≤l) (h_gosem_cut:l≤1048576):SzOk (wt T_S_u8 x0) l (g_laws_szByteS K x0 l):=by
 have h:_∧_∧_:=h
 rw [g_laws_szByteS.eq]
 exact (sz_sub2 (F:=fun y=>some y) h_main_main h_gosem_cut (le_by h.1 (by rw [by5]; decide)) (fun m h_gosem_cut_init h_laws_FnExactCrash=>sz_done h_gosem_cut_init)).mono (Nat.le_of_eq (congrArg (List.length x0 + ·) (sum_zero (f:=fun x=>wt T_u8 x) (fun _=>rfl))))
theorem s_laws_szByteSS {K:Nat} (hK:maxLen + 2≤K) (x0:T_S_S_u8.T) (h:Bd by_ T_S_S_u8 x0) (l:Int) (h_main_main:0≤l) (h_gosem_cut:l≤1048576):SzOk (wt T_S_S_u8 x0) l (g_laws_szByteSS K x0 l):=by
 have h:_∧_∧_:=h
 rw [g_laws_szByteSS.eq]
 exact sz_fn (L:=fun k l v=>L_laws_szByteSS_5 K k x0 l v) (G:=fun y l=>g_laws_szByteS K y l) (z:=([])) hK (fun k l v=>L_laws_szByteSS_5.step K k x0 l v) (le_by h.1 (by rw [by90]; decide)) h.2.1 (fun y hy l=>s_laws_szByteS hK y (h.2.2 y hy) l) h_main_main h_gosem_cut
theorem s_laws_szWr {K:Nat} (hK:maxLen + 2≤K) (x0:T_impl_Pack.T) (h:Bd by_ T_impl_Pack x0) (l:Int) (h_main_main:0≤l) (h_gosem_cut:l≤1048576):SzOk (wt T_impl_Pack x0) l (g_laws_szWr K x0 l):=by
 rw [g_laws_szWr.eq]
 exact (sz_bind (F:=fun y=>some y) h_gosem_cut (s_laws_szByteS hK x0.2.1 h.2.1 l h_main_main h_gosem_cut) (fun m h_gosem_cut_init h_laws_FnExactCrash=>sz_done h_gosem_cut_init)).mono (by simp only [wt]; omega)
theorem s_laws_szWrS {K:Nat} (hK:maxLen + 2≤K) (x0:T_S_laws_Wr.T) (h:Bd by_ T_S_laws_Wr x0) (l:Int) (h_main_main:0≤l) (h_gosem_cut:l≤1048576):SzOk (wt T_S_laws_Wr x0) l (g_laws_szWrS K x0 l):=by
 have h:_∧_∧_:=h
 rw [g_laws_szWrS.eq]
 exact sz_fn (L:=fun k l v=>L_laws_szWrS_5 K k x0 l v) (G:=fun y l=>g_laws_szWr K y l) (z:=T_impl_Pack.zero) hK (fun k l v=>L_laws_szWrS_5.step K k x0 l v) (le_by h.1 (by rw [by153]; decide)) h.2.1 (fun y hy l=>s_laws_szWr hK y (h.2.2 y hy) l) h_main_main h_gosem_cut
theorem s_laws_szDisk {K:Nat} (hK:maxLen + 2≤K) (x0:T_laws_Disk.T) (h:Bd by_ T_laws_Disk x0) (l:Int) (h_main_main:0≤l) (h_gosem_cut:l≤1048576):SzOk (wt T_laws_Disk x0) l (g_laws_szDisk K x0 l):=by
 rw [g_laws_szDisk.eq]
 exact (sz_bind (F:=fun y=>(g_laws_szWrS K x0.2.1 y).bind fun z=>br (decide (z < 0)) (some (-1)) ((fun y=>some y) z)) h_gosem_cut (s_laws_szByteSS hK x0.1 h.1 l h_main_main h_gosem_cut) (fun m h_gosem_cut_init h_laws_FnExactCrash=>sz_bind (F:=fun y=>some y) (by omega) (s_laws_szWrS hK x0.2.1 h.2.1 m h_gosem_cut_init (by omega)) (fun m h_gosem_cut_init h_laws_FnExactCrash=>sz_done h_gosem_cut_init))).mono (by simp only [wt]; omega)
theorem s_laws_szSock {K:Nat} (hK:maxLen + 2≤K) (x0:T_impl_Sock.T) (h:Bd by_ T_impl_Sock x0) (l:Int) (h_main_main:0≤l) (h_gosem_cut:l≤1048576):SzOk (wt T_impl_Sock x0) l (g_laws_szSock K x0 l):=by
 rw [g_laws_szSock.eq]
 exact (sz_bind (F:=fun y=>(g_laws_szByteS K x0.2.2.2.2.2.1 y).bind fun z=>br (decide (z < 0)) (some (-1)) ((fun y=>some y) z)) h_gosem_cut (s_laws_szByteS hK x0.2.2.2.2.1 h.2.2.2.2.1 l h_main_main h_gosem_cut) (fun m h_gosem_cut_init h_laws_FnExactCrash=>sz_bind (F:=fun y=>some y) (by omega) (s_laws_szByteS hK x0.2.2.2.2.2.1 h.2.2.2.2.2.1 m h_gosem_cut_init (by omega)) (fun m h_gosem_cut_init h_laws_FnExactCrash=>sz_done h_gosem_cut_init))).mono (by simp only [wt]; omega)
theorem s_laws_szSockS {K:Nat} (hK:maxLen + 2≤K) (x0:T_S_laws_Sock.T) (h:Bd by_ T_S_laws_Sock x0) (l:Int) (h_main_main:0≤l) (h_gosem_cut:l≤1048576):SzOk (wt T_S_laws_Sock x0) l (g_laws_szSockS K x0 l):=by
 have h:_∧_∧_:=h
 rw [g_laws_szSockS.eq]
 exact sz_fn (L:=fun k l v=>L_laws_szSockS_5 K k x0 l v) (G:=fun y l=>g_laws_szSock K y l) (z:=T_impl_Sock.zero) hK (fun k l v=>L_laws_szSockS_5.step K k x0 l v) (le_by h.1 (by rw [by92]; decide)) h.2.1 (fun y hy l=>s_laws_szSock hK y (h.2.2 y hy) l) h_main_main h_gosem_cut
theorem s_laws_szDb {K:Nat} (hK:maxLen + 2≤K) (x0:T_impl_Db.T) (h:Bd by_ T_impl_Db x0) (l:Int) (h_main_main:0≤l) (h_gosem_cut:l≤1048576):SzOk (wt T_impl_Db x0) l (g_laws_szDb K x0 l):=by
 rw [g_laws_szDb.eq]
 exact (sz_sub2 (F:=fun y=>some y) h_main_main h_gosem_cut ((show x0.1.size≤_ from h.1)) (fun m h_gosem_cut_init h_laws_FnExactCrash=>sz_done h_gosem_cut_init)).mono (by simp only [wt]; omega)
theorem s_laws_szDbS {K:Nat} (hK:maxLen + 2≤K) (x0:T_S_laws_Db.T) (h:Bd by_ T_S_laws_Db x0) (l:Int) (h_main_main:0≤l) (h_gosem_cut:l≤1048576):SzOk (wt T_S_laws_Db x0) l (g_laws_szDbS K x0 l):=by
 have h:_∧_∧_:=h
 rw [g_laws_szDbS.eq]
 exact sz_fn (L:=fun k l v=>L_laws_szDbS_5 K k x0 l v) (G:=fun y l=>g_laws_szDb K y l) (z:=T_impl_Db.zero) hK (fun k l v=>L_laws_szDbS_5.step K k x0 l v) (le_by h.1 (by rw [by188]; decide)) h.2.1 (fun y hy l=>s_laws_szDb hK y (h.2.2 y hy) l) h_main_main h_gosem_cut
theorem s_laws_szAsker {K:Nat} (hK:maxLen + 2≤K) (x0:T_impl_Asker.T) (h:Bd by_ T_impl_Asker x0) (l:Int) (h_main_main:0≤l) (h_gosem_cut:l≤1048576):SzOk (wt T_impl_Asker x0) l (g_laws_szAsker K x0 l):=by
 rw [g_laws_szAsker.eq]
 exact (sz_sub2 (F:=fun y=>br (decide (IntKind.wrap .i64 (y - ((ByteArray.size x0.2.2.2.2.2.1:Nat):Int)) < 0)) (some (-1)) (some (IntKind.wrap .i64 (y - ((ByteArray.size x0.2.2.2.2.2.1:Nat):Int))))) h_main_main h_gosem_cut ((show x0.2.1.size≤_ from h.2.1)) (fun m h_gosem_cut_init h_laws_FnExactCrash=>sz_sub2 (F:=fun y=>some y) h_gosem_cut_init (by omega) ((show x0.2.2.2.2.2.1.size≤_ from h.2.2.2.2.2.1)) (fun m h_gosem_cut_init h_laws_FnExactCrash=>sz_done h_gosem_cut_init))).mono (by simp only [wt]; omega)
theorem s_laws_szAskerS {K:Nat} (hK:maxLen + 2≤K) (x0:T_S_laws_Asker.T) (h:Bd by_ T_S_laws_Asker x0) (l:Int) (h_main_main:0≤l) (h_gosem_cut:l≤1048576):SzOk (wt T_S_laws_Asker x0) l (g_laws_szAskerS K x0 l):=by
 have h:_∧_∧_:=h
 rw [g_laws_szAskerS.eq]
 exact sz_fn (L:=fun k l v=>L_laws_szAskerS_5 K k x0 l v) (G:=fun y l=>g_laws_szAsker K y l) (z:=T_impl_Asker.zero) hK (fun k l v=>L_laws_szAskerS_5.step K k x0 l v) (le_by h.1 (by rw [by190]; decide)) h.2.1 (fun y hy l=>s_laws_szAsker hK y (h.2.2 y hy) l) h_main_main h_gosem_cut
theorem s_laws_szLine {K:Nat} (hK:maxLen + 2≤K) (x0:T_impl_Line.T) (h:Bd by_ T_impl_Line x0) (l:Int) (h_main_main:0≤l) (h_gosem_cut:l≤1048576):SzOk (wt T_impl_Line x0) l (g_laws_szLine K x0 l):=by
 rw [g_laws_szLine.eq]
 exact (sz_sub2 (F:=fun y=>some y) h_main_main h_gosem_cut ((show x0.2.1.size≤_ from h.2.1)) (fun m h_gosem_cut_init h_laws_FnExactCrash=>sz_done h_gosem_cut_init)).mono (by simp only [wt]; omega)
theorem s_laws_szLineS {K:Nat} (hK:maxLen + 2≤K) (x0:T_S_laws_Line.T) (h:Bd by_ T_S_laws_Line x0) (l:Int) (h_main_main:0≤l) (h_gosem_cut:l≤1048576):SzOk (wt T_S_laws_Line x0) l (g_laws_szLineS K x0 l):=by
 have h:_∧_∧_:=h
 rw [g_laws_szLineS.eq]
 exact sz_fn (L:=fun k l v=>L_laws_szLineS_5 K k x0 l v) (G:=fun y l=>g_laws_szLine K y l) (z:=T_impl_Line.zero) hK (fun k l v=>L_laws_szLineS_5.step K k x0 l v) (le_by h.1 (by rw [by192]; decide)) h.2.1 (fun y hy l=>s_laws_szLine hK y (h.2.2 y hy) l) h_main_main h_gosem_cut
theorem s_laws_szHouse {K:Nat} (hK:maxLen + 2≤K) (x0:T_laws_House.T) (h:Bd by_ T_laws_House x0) (l:Int) (h_main_main:0≤l) (h_gosem_cut:l≤1048576):SzOk (wt T_laws_House x0) l (g_laws_szHouse K x0 l):=by
 rw [g_laws_szHouse.eq]
 exact (sz_bind (F:=fun y=>(g_laws_szAskerS K x0.2.2.2.2.2.1 y).bind fun z=>br (decide (z < 0)) (some (-1)) ((fun y=>(g_laws_szLineS K x0.2.2.2.2.2.2.1 y).bind fun z=>br (decide (z < 0)) (some (-1)) ((fun y=>some y) z)) z)) h_gosem_cut (s_laws_szDbS hK x0.2.2.2.1 h.2.2.2.1 l h_main_main h_gosem_cut) (fun m h_gosem_cut_init h_laws_FnExactCrash=>sz_bind (F:=fun y=>(g_laws_szLineS K x0.2.2.2.2.2.2.1 y).bind fun z=>br (decide (z < 0)) (some (-1)) ((fun y=>some y) z)) (by omega) (s_laws_szAskerS hK x0.2.2.2.2.2.1 h.2.2.2.2.2.1 m h_gosem_cut_init (by omega)) (fun m h_gosem_cut_init h_laws_FnExactCrash=>sz_bind (F:=fun y=>some y) (by omega) (s_laws_szLineS hK x0.2.2.2.2.2.2.1 h.2.2.2.2.2.2.1 m h_gosem_cut_init (by omega)) (fun m h_gosem_cut_init h_laws_FnExactCrash=>sz_done h_gosem_cut_init)))).mono (by simp only [wt]; omega)
theorem s_laws_szHouseS {K:Nat} (hK:maxLen + 2≤K) (x0:T_S_laws_House.T) (h:Bd by_ T_S_laws_House x0) (l:Int) (h_main_main:0≤l) (h_gosem_cut:l≤1048576):SzOk (wt T_S_laws_House x0) l (g_laws_szHouseS K x0 l):=by
 have h:_∧_∧_:=h
 rw [g_laws_szHouseS.eq]
 exact sz_fn (L:=fun k l v=>L_laws_szHouseS_5 K k x0 l v) (G:=fun y l=>g_laws_szHouse K y l) (z:=T_laws_House.zero) hK (fun k l v=>L_laws_szHouseS_5.step K k x0 l v) (le_by h.1 (by rw [by99]; decide)) h.2.1 (fun y hy l=>s_laws_szHouse hK y (h.2.2 y hy) l) h_main_main h_gosem_cut
theorem s_laws_szPack {K:Nat} (hK:maxLen + 2≤K) (x0:T_impl_Pack.T) (h:Bd by_ T_impl_Pack x0) (l:Int) (h_main_main:0≤l) (h_gosem_cut:l≤1048576):SzOk (wt T_impl_Pack x0) l (g_laws_szPack K x0 l):=by
 rw [g_laws_szPack.eq]
 exact (sz_bind (F:=fun y=>some y) h_gosem_cut (s_laws_szByteS hK x0.2.1 h.2.1 l h_main_main h_gosem_cut) (fun m h_gosem_cut_init h_laws_FnExactCrash=>sz_done h_gosem_cut_init)).mono (by simp only [wt]; omega)
theorem s_laws_szPackS {K:Nat} (hK:maxLen + 2≤K) (x0:T_S_laws_Pack.T) (h:Bd by_ T_S_laws_Pack x0) (l:Int) (h_main_main:0≤l) (h_gosem_cut:l≤1048576):SzOk (wt T_S_laws_Pack x0) l (g_laws_szPackS K x0 l):=by
 have h:_∧_∧_:=h
 rw [g_laws_szPackS.eq]
 exact sz_fn (L:=fun k l v=>L_laws_szPackS_5 K k x0 l v) (G:=fun y l=>g_laws_szPack K y l) (z:=T_impl_Pack.zero) hK (fun k l v=>L_laws_szPackS_5.step K k x0 l v) (le_by h.1 (by rw [by102]; decide)) h.2.1 (fun y hy l=>s_laws_szPack hK y (h.2.2 y hy) l) h_main_main h_gosem_cut
theorem s_laws_szNoteS {K:Nat} (hK:maxLen + 2≤K) (x0:T_S_laws_Note.T) (h:Bd by_ T_S_laws_Note x0) (l:Int) (h_main_main:0≤l) (h_gosem_cut:l≤1048576):SzOk (wt T_S_laws_Note x0) l (g_laws_szNoteS K x0 l):=by
 have h:_∧_∧_:=h
 rw [g_laws_szNoteS.eq]
 exact (sz_sub2 (F:=fun y=>some y) h_main_main h_gosem_cut (le_by h.1 (by rw [by132]; decide)) (fun m h_gosem_cut_init h_laws_FnExactCrash=>sz_done h_gosem_cut_init)).mono (Nat.le_of_eq (congrArg (List.length x0 + ·) (sum_zero (f:=fun x=>wt T_laws_Note x) (fun _=>rfl))))
theorem s_laws_szWorld {K:Nat} (hK:maxLen + 2≤K) (x0:T_laws_World.T) (h:Bd by_ T_laws_World x0) (l:Int) (h_main_main:0≤l) (h_gosem_cut:l≤1048576):SzOk (wt T_laws_World x0) l (g_laws_szWorld K x0 l):=by
 rw [g_laws_szWorld.eq]
 exact (sz_bind (F:=fun y=>(g_laws_szSockS K x0.2.2.1 y).bind fun z=>br (decide (z < 0)) (some (-1)) ((fun y=>(g_laws_szHouseS K x0.2.2.2.1 y).bind fun z=>br (decide (z < 0)) (some (-1)) ((fun y=>(g_laws_szPackS K x0.2.2.2.2.1 y).bind fun z=>br (decide (z < 0)) (some (-1)) ((fun y=>(g_laws_szNoteS K x0.2.2.2.2.2.1 y).bind fun z=>br (decide (z < 0)) (some (-1)) ((fun y=>some y) z)) z)) z)) z)) h_gosem_cut (s_laws_szDisk hK x0.2.1 h.2.1 l h_main_main h_gosem_cut) (fun m h_gosem_cut_init h_laws_FnExactCrash=>sz_bind (F:=fun y=>(g_laws_szHouseS K x0.2.2.2.1 y).bind fun z=>br (decide (z < 0)) (some (-1)) ((fun y=>(g_laws_szPackS K x0.2.2.2.2.1 y).bind fun z=>br (decide (z < 0)) (some (-1)) ((fun y=>(g_laws_szNoteS K x0.2.2.2.2.2.1 y).bind fun z=>br (decide (z < 0)) (some (-1)) ((fun y=>some y) z)) z)) z)) (by omega) (s_laws_szSockS hK x0.2.2.1 h.2.2.1 m h_gosem_cut_init (by omega)) (fun m h_gosem_cut_init h_laws_FnExactCrash=>sz_bind (F:=fun y=>(g_laws_szPackS K x0.2.2.2.2.1 y).bind fun z=>br (decide (z < 0)) (some (-1)) ((fun y=>(g_laws_szNoteS K x0.2.2.2.2.2.1 y).bind fun z=>br (decide (z < 0)) (some (-1)) ((fun y=>some y) z)) z)) (by omega) (s_laws_szHouseS hK x0.2.2.2.1 h.2.2.2.1 m h_gosem_cut_init (by omega)) (fun m h_gosem_cut_init h_laws_FnExactCrash=>sz_bind (F:=fun y=>(g_laws_szNoteS K x0.2.2.2.2.2.1 y).bind fun z=>br (decide (z < 0)) (some (-1)) ((fun y=>some y) z)) (by omega) (s_laws_szPackS hK x0.2.2.2.2.1 h.2.2.2.2.1 m h_gosem_cut_init (by omega)) (fun m h_gosem_cut_init h_laws_FnExactCrash=>sz_bind (F:=fun y=>some y) (by omega) (s_laws_szNoteS hK x0.2.2.2.2.2.1 h.2.2.2.2.2.1 m h_gosem_cut_init (by omega)) (fun m h_gosem_cut_init h_laws_FnExactCrash=>sz_done h_gosem_cut_init)))))).mono (by simp only [wt]; omega)
theorem t_laws_toByteS {K:Nat} (hK:maxLen + 2≤K) (x0:T_S_u8.T) (h:Bd by_ T_S_u8 x0):g_laws_toByteS K x0 = some x0:=by
 have h:_∧_∧_:=h
 rw [g_laws_toByteS.eq]
 exact to_fn (L:=fun k v o=>L_laws_toByteS_3 K k x0 v o) (G:=fun y=>some y) (z:=0) hK (fun k v o=>L_laws_toByteS_3.step K k x0 v o) (by have:=h.1; rw [by5] at this; exact this) h.2.1 (fun _ _=>rfl)
theorem t_laws_toByteSS {K:Nat} (hK:maxLen + 2≤K) (x0:T_S_S_u8.T) (h:Bd by_ T_S_S_u8 x0):g_laws_toByteSS K x0 = some x0:=by
 have h:_∧_∧_:=h
 rw [g_laws_toByteSS.eq]
 exact to_fn (L:=fun k v o=>L_laws_toByteSS_3 K k x0 v o) (G:=fun y=>g_laws_toByteS K y) (z:=([])) hK (fun k v o=>L_laws_toByteSS_3.step K k x0 v o) (by have:=h.1; rw [by90] at this; exact this) h.2.1 (fun y hy=>t_laws_toByteS hK y (h.2.2 y hy))
theorem t_laws_toWr {K:Nat} (hK:maxLen + 2≤K) (x0:T_impl_Pack.T) (h:Bd by_ T_impl_Pack x0):g_laws_toWr K x0 = some x0:=by
 simp only [g_laws_toWr.eq,t_laws_toByteS hK _ h.2.1,Option.bind_some]
theorem t_laws_toWrS {K:Nat} (hK:maxLen + 2≤K) (x0:T_S_laws_Wr.T) (h:Bd by_ T_S_laws_Wr x0):g_laws_toWrS K x0 = some x0:=by
 have h:_∧_∧_:=h
 rw [g_laws_toWrS.eq]
 exact to_fn (L:=fun k v o=>L_laws_toWrS_3 K k x0 v o) (G:=fun y=>g_laws_toWr K y) (z:=T_impl_Pack.zero) hK (fun k v o=>L_laws_toWrS_3.step K k x0 v o) (by have:=h.1; rw [by153] at this; exact this) h.2.1 (fun y hy=>t_laws_toWr hK y (h.2.2 y hy))
theorem t_laws_toDisk {K:Nat} (hK:maxLen + 2≤K) (x0:T_laws_Disk.T) (h:Bd by_ T_laws_Disk x0):g_laws_toDisk K x0 = some x0:=by
 simp only [g_laws_toDisk.eq,t_laws_toByteSS hK _ h.1,t_laws_toWrS hK _ h.2.1,Option.bind_some]
theorem t_laws_toSock {K:Nat} (hK:maxLen + 2≤K) (x0:T_impl_Sock.T) (h:Bd by_ T_impl_Sock x0):g_laws_toSock K x0 = some x0:=by
 simp only [g_laws_toSock.eq,t_laws_toByteS hK _ h.2.2.2.2.1,t_laws_toByteS hK _ h.2.2.2.2.2.1,Option.bind_some]
theorem t_laws_toSockS {K:Nat} (hK:maxLen + 2≤K) (x0:T_S_laws_Sock.T) (h:Bd by_ T_S_laws_Sock x0):g_laws_toSockS K x0 = some x0:=by
 have h:_∧_∧_:=h
 rw [g_laws_toSockS.eq]
 exact to_fn (L:=fun k v o=>L_laws_toSockS_3 K k x0 v o) (G:=fun y=>g_laws_toSock K y) (z:=T_impl_Sock.zero) hK (fun k v o=>L_laws_toSockS_3.step K k x0 v o) (by have:=h.1; rw [by92] at this; exact this) h.2.1 (fun y hy=>t_laws_toSock hK y (h.2.2 y hy))
theorem t_laws_toDb {K:Nat} (hK:maxLen + 2≤K) (x0:T_impl_Db.T) (h:Bd by_ T_impl_Db x0):g_laws_toDb K x0 = some x0:=by
 exact g_laws_toDb.eq K x0
theorem t_laws_toDbS {K:Nat} (hK:maxLen + 2≤K) (x0:T_S_laws_Db.T) (h:Bd by_ T_S_laws_Db x0):g_laws_toDbS K x0 = some x0:=by
 have h:_∧_∧_:=h
 rw [g_laws_toDbS.eq]
 exact to_fn (L:=fun k v o=>L_laws_toDbS_3 K k x0 v o) (G:=fun y=>g_laws_toDb K y) (z:=T_impl_Db.zero) hK (fun k v o=>L_laws_toDbS_3.step K k x0 v o) (by have:=h.1; rw [by188] at this; exact this) h.2.1 (fun y hy=>t_laws_toDb hK y (h.2.2 y hy))
theorem t_laws_toAsker {K:Nat} (hK:maxLen + 2≤K) (x0:T_impl_Asker.T) (h:Bd by_ T_impl_Asker x0):g_laws_toAsker K x0 = some x0:=by
 exact g_laws_toAsker.eq K x0
theorem t_laws_toAskerS {K:Nat} (hK:maxLen + 2≤K) (x0:T_S_laws_Asker.T) (h:Bd by_ T_S_laws_Asker x0):g_laws_toAskerS K x0 = some x0:=by
 have h:_∧_∧_:=h
 rw [g_laws_toAskerS.eq]
 exact to_fn (L:=fun k v o=>L_laws_toAskerS_3 K k x0 v o) (G:=fun y=>g_laws_toAsker K y) (z:=T_impl_Asker.zero) hK (fun k v o=>L_laws_toAskerS_3.step K k x0 v o) (by have:=h.1; rw [by190] at this; exact this) h.2.1 (fun y hy=>t_laws_toAsker hK y (h.2.2 y hy))
theorem t_laws_toLine {K:Nat} (hK:maxLen + 2≤K) (x0:T_impl_Line.T) (h:Bd by_ T_impl_Line x0):g_laws_toLine K x0 = some x0:=by
 exact g_laws_toLine.eq K x0
theorem t_laws_toLineS {K:Nat} (hK:maxLen + 2≤K) (x0:T_S_laws_Line.T) (h:Bd by_ T_S_laws_Line x0):g_laws_toLineS K x0 = some x0:=by
 have h:_∧_∧_:=h
 rw [g_laws_toLineS.eq]
 exact to_fn (L:=fun k v o=>L_laws_toLineS_3 K k x0 v o) (G:=fun y=>g_laws_toLine K y) (z:=T_impl_Line.zero) hK (fun k v o=>L_laws_toLineS_3.step K k x0 v o) (by have:=h.1; rw [by192] at this; exact this) h.2.1 (fun y hy=>t_laws_toLine hK y (h.2.2 y hy))
theorem t_laws_toHand {K:Nat} (hK:maxLen + 2≤K) (x0:T_impl_Hand.T) (h:Bd by_ T_impl_Hand x0):g_laws_toHand K x0 = some x0:=by
 exact g_laws_toHand.eq K x0
theorem t_laws_toHouse {K:Nat} (hK:maxLen + 2≤K) (x0:T_laws_House.T) (h:Bd by_ T_laws_House x0):g_laws_toHouse K x0 = some x0:=by
 simp only [g_laws_toHouse.eq,t_laws_toDbS hK _ h.2.2.2.1,t_laws_toAskerS hK _ h.2.2.2.2.2.1,t_laws_toLineS hK _ h.2.2.2.2.2.2.1,t_laws_toHand hK _ h.2.2.2.2.2.2.2.2.1,Option.bind_some]
theorem t_laws_toHouseS {K:Nat} (hK:maxLen + 2≤K) (x0:T_S_laws_House.T) (h:Bd by_ T_S_laws_House x0):g_laws_toHouseS K x0 = some x0:=by
 have h:_∧_∧_:=h
 rw [g_laws_toHouseS.eq]
 exact to_fn (L:=fun k v o=>L_laws_toHouseS_3 K k x0 v o) (G:=fun y=>g_laws_toHouse K y) (z:=T_laws_House.zero) hK (fun k v o=>L_laws_toHouseS_3.step K k x0 v o) (by have:=h.1; rw [by99] at this; exact this) h.2.1 (fun y hy=>t_laws_toHouse hK y (h.2.2 y hy))
theorem t_laws_toPack {K:Nat} (hK:maxLen + 2≤K) (x0:T_impl_Pack.T) (h:Bd by_ T_impl_Pack x0):g_laws_toPack K x0 = some x0:=by
 simp only [g_laws_toPack.eq,t_laws_toByteS hK _ h.2.1,Option.bind_some]
theorem t_laws_toPackS {K:Nat} (hK:maxLen + 2≤K) (x0:T_S_laws_Pack.T) (h:Bd by_ T_S_laws_Pack x0):g_laws_toPackS K x0 = some x0:=by
 have h:_∧_∧_:=h
 rw [g_laws_toPackS.eq]
 exact to_fn (L:=fun k v o=>L_laws_toPackS_3 K k x0 v o) (G:=fun y=>g_laws_toPack K y) (z:=T_impl_Pack.zero) hK (fun k v o=>L_laws_toPackS_3.step K k x0 v o) (by have:=h.1; rw [by102] at this; exact this) h.2.1 (fun y hy=>t_laws_toPack hK y (h.2.2 y hy))
theorem t_laws_toNote {K:Nat} (hK:maxLen + 2≤K) (x0:T_impl_Note.T) (h:Bd by_ T_impl_Note x0):g_laws_toNote K x0 = some x0:=by
 exact g_laws_toNote.eq K x0
theorem t_laws_toNoteS {K:Nat} (hK:maxLen + 2≤K) (x0:T_S_laws_Note.T) (h:Bd by_ T_S_laws_Note x0):g_laws_toNoteS K x0 = some x0:=by
 have h:_∧_∧_:=h
 rw [g_laws_toNoteS.eq]
 exact to_fn (L:=fun k v o=>L_laws_toNoteS_3 K k x0 v o) (G:=fun y=>g_laws_toNote K y) (z:=T_impl_Note.zero) hK (fun k v o=>L_laws_toNoteS_3.step K k x0 v o) (by have:=h.1; rw [by132] at this; exact this) h.2.1 (fun y hy=>t_laws_toNote hK y (h.2.2 y hy))
theorem t_laws_toWorld {K:Nat} (hK:maxLen + 2≤K) (x0:T_laws_World.T) (h:Bd by_ T_laws_World x0):g_laws_toWorld K x0 = some x0:=by
 simp only [g_laws_toWorld.eq,t_laws_toDisk hK _ h.2.1,t_laws_toSockS hK _ h.2.2.1,t_laws_toHouseS hK _ h.2.2.2.1,t_laws_toPackS hK _ h.2.2.2.2.1,t_laws_toNoteS hK _ h.2.2.2.2.2.1,Option.bind_some]
theorem q_laws_eqByteS {K:Nat} (hK:maxLen + 2≤K) (x0:T_S_u8.T) (h:Bd by_ T_S_u8 x0):g_laws_eqByteS K x0 x0 = some true:=by
 have h:_∧_∧_:=h
 rw [g_laws_eqByteS.eq]
 exact eq_fn (L:=fun k v=>L_laws_eqByteS_4 K k x0 x0 v) (G:=fun a b=>some (a == b)) (z:=0) hK (fun k v=>L_laws_eqByteS_4.step K k x0 x0 v) h.2.1 (fun y _=>by simp)
theorem q_laws_eqByteSS {K:Nat} (hK:maxLen + 2≤K) (x0:T_S_S_u8.T) (h:Bd by_ T_S_S_u8 x0):g_laws_eqByteSS K x0 x0 = some true:=by
 have h:_∧_∧_:=h
 rw [g_laws_eqByteSS.eq]
 exact eq_fn (L:=fun k v=>L_laws_eqByteSS_4 K k x0 x0 v) (G:=fun a b=>g_laws_eqByteS K a b) (z:=([])) hK (fun k v=>L_laws_eqByteSS_4.step K k x0 x0 v) h.2.1 (fun y hy=>q_laws_eqByteS hK y (h.2.2 y hy))
theorem q_laws_eqWr {K:Nat} (hK:maxLen + 2≤K) (x0:T_impl_Pack.T) (h:Bd by_ T_impl_Pack x0):g_laws_eqWr K x0 x0 = some true:=by
 simp only [g_laws_eqWr.eq,q_laws_eqByteS hK _ h.2.1,Option.bind_some,ne_self,strEq_self,bne_self_bool,Bool.not_true,br_t,br_f]
theorem q_laws_eqWrS {K:Nat} (hK:maxLen + 2≤K) (x0:T_S_impl_Wr.T) (h:Bd by_ T_S_impl_Wr x0):g_laws_eqWrS K x0 x0 = some true:=by
 have h:_∧_∧_:=h
 rw [g_laws_eqWrS.eq]
 exact eq_fn (L:=fun k v=>L_laws_eqWrS_4 K k x0 x0 v) (G:=fun a b=>g_laws_eqWr K a b) (z:=T_impl_Pack.zero) hK (fun k v=>L_laws_eqWrS_4.step K k x0 x0 v) h.2.1 (fun y hy=>q_laws_eqWr hK y (h.2.2 y hy))
theorem q_laws_eqDisk {K:Nat} (hK:maxLen + 2≤K) (x0:T_impl_Disk.T) (h:Bd by_ T_impl_Disk x0):g_laws_eqDisk K x0 x0 = some true:=by
 simp only [g_laws_eqDisk.eq,q_laws_eqByteSS hK _ h.1,q_laws_eqWrS hK _ h.2.1,Option.bind_some,ne_self,strEq_self,bne_self_bool,Bool.not_true,br_t,br_f]
theorem q_laws_eqSock {K:Nat} (hK:maxLen + 2≤K) (x0:T_impl_Sock.T) (h:Bd by_ T_impl_Sock x0):g_laws_eqSock K x0 x0 = some true:=by
 simp only [g_laws_eqSock.eq,q_laws_eqByteS hK _ h.2.2.2.2.1,q_laws_eqByteS hK _ h.2.2.2.2.2.1,Option.bind_some,ne_self,strEq_self,bne_self_bool,Bool.not_true,br_t,br_f]
theorem q_laws_eqSockS {K:Nat} (hK:maxLen + 2≤K) (x0:T_S_impl_Sock.T) (h:Bd by_ T_S_impl_Sock x0):g_laws_eqSockS K x0 x0 = some true:=by
 have h:_∧_∧_:=h
 rw [g_laws_eqSockS.eq]
 exact eq_fn (L:=fun k v=>L_laws_eqSockS_4 K k x0 x0 v) (G:=fun a b=>g_laws_eqSock K a b) (z:=T_impl_Sock.zero) hK (fun k v=>L_laws_eqSockS_4.step K k x0 x0 v) h.2.1 (fun y hy=>q_laws_eqSock hK y (h.2.2 y hy))
theorem q_laws_eqDb {K:Nat} (hK:maxLen + 2≤K) (x0:T_impl_Db.T) (h:Bd by_ T_impl_Db x0):g_laws_eqDb K x0 x0 = some true:=by
 simp only [g_laws_eqDb.eq,Option.bind_some,ne_self,strEq_self,bne_self_bool,Bool.not_true,br_t,br_f]
theorem q_laws_eqDbS {K:Nat} (hK:maxLen + 2≤K) (x0:T_S_impl_Db.T) (h:Bd by_ T_S_impl_Db x0):g_laws_eqDbS K x0 x0 = some true:=by
 have h:_∧_∧_:=h
 rw [g_laws_eqDbS.eq]
 exact eq_fn (L:=fun k v=>L_laws_eqDbS_4 K k x0 x0 v) (G:=fun a b=>g_laws_eqDb K a b) (z:=T_impl_Db.zero) hK (fun k v=>L_laws_eqDbS_4.step K k x0 x0 v) h.2.1 (fun y hy=>q_laws_eqDb hK y (h.2.2 y hy))
theorem q_laws_eqAsker {K:Nat} (hK:maxLen + 2≤K) (x0:T_impl_Asker.T) (h:Bd by_ T_impl_Asker x0):g_laws_eqAsker K x0 x0 = some true:=by
 simp only [g_laws_eqAsker.eq,Option.bind_some,ne_self,strEq_self,bne_self_bool,Bool.not_true,br_t,br_f]
theorem q_laws_eqAskerS {K:Nat} (hK:maxLen + 2≤K) (x0:T_S_impl_Asker.T) (h:Bd by_ T_S_impl_Asker x0):g_laws_eqAskerS K x0 x0 = some true:=by
 have h:_∧_∧_:=h
 rw [g_laws_eqAskerS.eq]
 exact eq_fn (L:=fun k v=>L_laws_eqAskerS_4 K k x0 x0 v) (G:=fun a b=>g_laws_eqAsker K a b) (z:=T_impl_Asker.zero) hK (fun k v=>L_laws_eqAskerS_4.step K k x0 x0 v) h.2.1 (fun y hy=>q_laws_eqAsker hK y (h.2.2 y hy))
theorem q_laws_eqLine {K:Nat} (hK:maxLen + 2≤K) (x0:T_impl_Line.T) (h:Bd by_ T_impl_Line x0):g_laws_eqLine K x0 x0 = some true:=by
 simp only [g_laws_eqLine.eq,Option.bind_some,ne_self,strEq_self,bne_self_bool,Bool.not_true,br_t,br_f]
theorem q_laws_eqLineS {K:Nat} (hK:maxLen + 2≤K) (x0:T_S_impl_Line.T) (h:Bd by_ T_S_impl_Line x0):g_laws_eqLineS K x0 x0 = some true:=by
 have h:_∧_∧_:=h
 rw [g_laws_eqLineS.eq]
 exact eq_fn (L:=fun k v=>L_laws_eqLineS_4 K k x0 x0 v) (G:=fun a b=>g_laws_eqLine K a b) (z:=T_impl_Line.zero) hK (fun k v=>L_laws_eqLineS_4.step K k x0 x0 v) h.2.1 (fun y hy=>q_laws_eqLine hK y (h.2.2 y hy))
theorem q_laws_eqHand {K:Nat} (hK:maxLen + 2≤K) (x0:T_impl_Hand.T) (h:Bd by_ T_impl_Hand x0):g_laws_eqHand K x0 x0 = some true:=by
 simp only [g_laws_eqHand.eq,Option.bind_some,ne_self,strEq_self,bne_self_bool,Bool.not_true,br_t,br_f]
theorem q_laws_eqHouse {K:Nat} (hK:maxLen + 2≤K) (x0:T_impl_House.T) (h:Bd by_ T_impl_House x0):g_laws_eqHouse K x0 x0 = some true:=by
 simp only [g_laws_eqHouse.eq,q_laws_eqDbS hK _ h.2.2.2.1,q_laws_eqAskerS hK _ h.2.2.2.2.2.1,q_laws_eqLineS hK _ h.2.2.2.2.2.2.1,q_laws_eqHand hK _ h.2.2.2.2.2.2.2.2.1,Option.bind_some,ne_self,strEq_self,bne_self_bool,Bool.not_true,br_t,br_f]
theorem q_laws_eqHouseS {K:Nat} (hK:maxLen + 2≤K) (x0:T_S_impl_House.T) (h:Bd by_ T_S_impl_House x0):g_laws_eqHouseS K x0 x0 = some true:=by
 have h:_∧_∧_:=h
 rw [g_laws_eqHouseS.eq]
 exact eq_fn (L:=fun k v=>L_laws_eqHouseS_4 K k x0 x0 v) (G:=fun a b=>g_laws_eqHouse K a b) (z:=T_impl_House.zero) hK (fun k v=>L_laws_eqHouseS_4.step K k x0 x0 v) h.2.1 (fun y hy=>q_laws_eqHouse hK y (h.2.2 y hy))
theorem q_laws_eqPack {K:Nat} (hK:maxLen + 2≤K) (x0:T_impl_Pack.T) (h:Bd by_ T_impl_Pack x0):g_laws_eqPack K x0 x0 = some true:=by
 simp only [g_laws_eqPack.eq,q_laws_eqByteS hK _ h.2.1,Option.bind_some,ne_self,strEq_self,bne_self_bool,Bool.not_true,br_t,br_f]
theorem q_laws_eqPackS {K:Nat} (hK:maxLen + 2≤K) (x0:T_S_impl_Pack.T) (h:Bd by_ T_S_impl_Pack x0):g_laws_eqPackS K x0 x0 = some true:=by
 have h:_∧_∧_:=h
 rw [g_laws_eqPackS.eq]
 exact eq_fn (L:=fun k v=>L_laws_eqPackS_4 K k x0 x0 v) (G:=fun a b=>g_laws_eqPack K a b) (z:=T_impl_Pack.zero) hK (fun k v=>L_laws_eqPackS_4.step K k x0 x0 v) h.2.1 (fun y hy=>q_laws_eqPack hK y (h.2.2 y hy))
theorem q_laws_eqNote {K:Nat} (hK:maxLen + 2≤K) (x0:T_impl_Note.T) (h:Bd by_ T_impl_Note x0):g_laws_eqNote K x0 x0 = some true:=by
 simp only [g_laws_eqNote.eq,Option.bind_some,ne_self,strEq_self,bne_self_bool,Bool.not_true,br_t,br_f]
theorem q_laws_eqNoteS {K:Nat} (hK:maxLen + 2≤K) (x0:T_S_impl_Note.T) (h:Bd by_ T_S_impl_Note x0):g_laws_eqNoteS K x0 x0 = some true:=by
 have h:_∧_∧_:=h
 rw [g_laws_eqNoteS.eq]
 exact eq_fn (L:=fun k v=>L_laws_eqNoteS_4 K k x0 x0 v) (G:=fun a b=>g_laws_eqNote K a b) (z:=T_impl_Note.zero) hK (fun k v=>L_laws_eqNoteS_4.step K k x0 x0 v) h.2.1 (fun y hy=>q_laws_eqNote hK y (h.2.2 y hy))
theorem q_laws_eqWorld {K:Nat} (hK:maxLen + 2≤K) (x0:T_impl_World.T) (h:Bd by_ T_impl_World x0):g_laws_eqWorld K x0 x0 = some true:=by
 simp only [g_laws_eqWorld.eq,q_laws_eqDisk hK _ h.2.1,q_laws_eqSockS hK _ h.2.2.1,q_laws_eqHouseS hK _ h.2.2.2.1,q_laws_eqPackS hK _ h.2.2.2.2.1,q_laws_eqNoteS hK _ h.2.2.2.2.2.1,Option.bind_some,ne_self,strEq_self,bne_self_bool,Bool.not_true,br_t,br_f]
end F5
