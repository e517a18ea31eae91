/- Power: both programs alike, on every world; what comes out is marked and held. -/
import Derived.Test.YtofllafpneanoaaGreatDoorPlQ
import Derived.Test.YtofllafpneanoaaGreatDoorHouseAll
namespace F5
open Go Go.Fil Go.Proofs Go.Fil.Cf
set_option maxRecDepth 100000
set_option linter.unusedVariables false
set_option linter.unusedSimpArgs false
theorem byte_wf {n:Int} (h:(Lit.int .u8 n).wf = true):0≤n∧n≤255:=by
 simp [Lit.wf,IntKind.min,IntKind.max,IntKind.signed,IntKind.bits] at h
 omega
theorem len_wt {e:Nat} {t:Ty} (xs:List t.T):xs.length≤wt (.slice e t) xs:=by
 show xs.length≤xs.length + _
 omega
theorem disk_db (d:T_laws_Disk.T) (hB:Bd by_ T_laws_Disk d) (hw:wt T_laws_Disk d≤1048576):DB d:=by
 have hw':wt T_S_S_u8 d.1 + (wt T_S_laws_Wr d.2.1 + wt (.pair T_int_3 (.pair T_bool .unit)) d.2.2)≤1048576:=hw
 have l1:List.length d.1≤wt T_S_S_u8 d.1:=len_wt (t:=T_S_u8) d.1
 have l2:List.length d.2.1≤wt T_S_laws_Wr d.2.1:=len_wt (t:=T_laws_Wr) d.2.1
 exact ⟨by show List.length d.1≤1048576; omega,by show List.length d.2.1≤1048576; omega,fun s hs b hb=>byte_wf ((hB.1.2.2 s hs).2.2 b hb),fun e he b hb=>byte_wf ((hB.2.1.2.2 e he).2.1.2.2 b hb)⟩
theorem bdW (x:T_laws_World.T) (h:Bd by_ T_laws_World x):Bd by_ T_impl_World x:=(by kernel_rfl:Bd by_ T_laws_World x = Bd by_ T_impl_World x) ▸ h
theorem sum_mem {α:Type} (f:α→Nat):∀ (l:List α) (a:α),a∈l→f a≤(l.map f).sum
 | b :: l,a,h=>by
  rw [List.map_cons,List.sum_cons]
  rcases List.mem_cons.1 h with rfl | h
  ·omega
  ·have:=sum_mem f l a h
   omega
theorem wt_mem {e:Nat} {t:Ty} {xs:List t.T} {a:t.T} (h:a∈xs):wt t a≤wt (.slice e t) xs:=by
 have:=sum_mem (fun x=>wt t x) xs a h
 show wt t a≤xs.length + (xs.map fun x=>wt t x).sum
 omega
theorem house_hs (h:T_laws_House.T) (hw:wt T_laws_House h≤1048576):HS h:=by
 have e:wt T_laws_House h = wt T_int_3 h.1 + (wt T_int_3 h.2.1 + (wt T_int_3 h.2.2.1 + (wt T_S_laws_Db h.2.2.2.1 + (wt T_bool h.2.2.2.2.1 + (wt T_S_laws_Asker h.2.2.2.2.2.1 + (wt T_S_laws_Line h.2.2.2.2.2.2.1 + wt (.pair T_int_3 (.pair T_laws_Hand .unit)) h.2.2.2.2.2.2.2)))))):=rfl
 have lc:List.length h.2.2.2.1≤wt T_S_laws_Db h.2.2.2.1:=len_wt (t:=T_laws_Db) h.2.2.2.1
 have la:List.length h.2.2.2.2.2.1≤wt T_S_laws_Asker h.2.2.2.2.2.1:=len_wt (t:=T_laws_Asker) h.2.2.2.2.2.1
 have ll:List.length h.2.2.2.2.2.2.1≤wt T_S_laws_Line h.2.2.2.2.2.2.1:=len_wt (t:=T_laws_Line) h.2.2.2.2.2.2.1
 have ma:∀ a∈(h.2.2.2.2.2.1:List T_laws_Asker.T),wt T_laws_Asker a≤wt T_S_laws_Asker h.2.2.2.2.2.1:=fun a ha=>wt_mem (t:=T_laws_Asker) ha
 have ml:∀ a∈(h.2.2.2.2.2.2.1:List T_laws_Line.T),wt T_laws_Line a≤wt T_S_laws_Line h.2.2.2.2.2.2.1:=fun a ha=>wt_mem (t:=T_laws_Line) ha
 have mc:∀ a∈(h.2.2.2.1:List T_laws_Db.T),wt T_laws_Db a≤wt T_S_laws_Db h.2.2.2.1:=fun a ha=>wt_mem (t:=T_laws_Db) ha
 refine ⟨by show List.length h.2.2.2.2.2.1≤1048576; omega,by show List.length h.2.2.2.2.2.2.1≤1048576; omega,by show List.length h.2.2.2.1≤1048576; omega,fun a ha=>?_,fun a ha=>?_,fun a ha=>?_,fun a ha=>?_⟩
 ·have h1:=ma a ha
  have h2:wt T_laws_Asker a = wt T_int_3 a.1 + (ByteArray.size a.2.1 + wt (.pair T_int_3 (.pair T_int_3 (.pair T_int_3 (.pair T_str (.pair T_int_3 (.pair T_int_3 .unit)))))) a.2.2):=rfl
  show ByteArray.size a.2.1≤1048576
  omega
 ·have h1:=ma a ha
  have h2:wt T_laws_Asker a = wt T_int_3 a.1 + (wt T_str a.2.1 + (wt T_int_3 a.2.2.1 + (wt T_int_3 a.2.2.2.1 + (wt T_int_3 a.2.2.2.2.1 + (ByteArray.size a.2.2.2.2.2.1 + wt (.pair T_int_3 (.pair T_int_3 .unit)) a.2.2.2.2.2.2))))):=rfl
  show ByteArray.size a.2.2.2.2.2.1≤1048576
  omega
 ·have h1:=ml a ha
  have h2:wt T_laws_Line a = wt T_int_3 a.1 + (ByteArray.size a.2.1 + wt (.pair T_int_3 (.pair T_int_3 (.pair T_int_3 (.pair T_int_3 (.pair T_int_3 .unit))))) a.2.2):=rfl
  show ByteArray.size a.2.1≤1048576
  omega
 ·have h1:=mc a ha
  have h2:wt T_laws_Db a = ByteArray.size a.1 + wt (.pair T_int_3 (.pair T_int_3 (.pair T_int_3 (.pair T_int_3 .unit)))) a.2:=rfl
  show ByteArray.size a.1≤1048576
  omega
theorem world_ws (x:T_laws_World.T) (hB:Bd by_ T_laws_World x) (hw:wt T_laws_World x≤1048576):WS x:=by
 have e:wt T_laws_World x = wt T_int_3 x.1 + (wt T_laws_Disk x.2.1 + (wt T_S_laws_Sock x.2.2.1 + (wt T_S_laws_House x.2.2.2.1 + (wt T_S_laws_Pack x.2.2.2.2.1 + (wt T_S_laws_Note x.2.2.2.2.2.1 + wt (.pair T_int_3 (.pair T_int_3 .unit)) x.2.2.2.2.2.2))))):=rfl
 have l1:List.length x.2.2.1≤wt T_S_laws_Sock x.2.2.1:=len_wt (t:=T_laws_Sock) x.2.2.1
 have l2:List.length x.2.2.2.1≤wt T_S_laws_House x.2.2.2.1:=len_wt (t:=T_laws_House) x.2.2.2.1
 have l3:List.length x.2.2.2.2.1≤wt T_S_laws_Pack x.2.2.2.2.1:=len_wt (t:=T_laws_Pack) x.2.2.2.2.1
 have l4:List.length x.2.2.2.2.2.1≤wt T_S_laws_Note x.2.2.2.2.2.1:=len_wt (t:=T_laws_Note) x.2.2.2.2.2.1
 have mh:∀ a∈(x.2.2.2.1:List T_laws_House.T),wt T_laws_House a≤wt T_S_laws_House x.2.2.2.1:=fun a ha=>wt_mem (t:=T_laws_House) ha
 exact ⟨by show List.length x.2.2.1≤1048576; omega,by show List.length x.2.2.2.1≤1048576; omega,by show List.length x.2.2.2.2.1≤1048576; omega,by show List.length x.2.2.2.2.2.1≤1048576; omega,fun h hh=>house_hs h (by have:=mh h hh; omega),disk_db x.2.1 hB.2.1 (by omega)⟩
theorem world_ms (x:T_laws_World.T) (hw:wt T_laws_World x≤1048576):MS x:=by
 have e:wt T_laws_World x = wt T_int_3 x.1 + (wt T_laws_Disk x.2.1 + (wt T_S_laws_Sock x.2.2.1 + (wt T_S_laws_House x.2.2.2.1 + (wt T_S_laws_Pack x.2.2.2.2.1 + (wt T_S_laws_Note x.2.2.2.2.2.1 + wt (.pair T_int_3 (.pair T_int_3 .unit)) x.2.2.2.2.2.2))))):=rfl
 have ed:wt T_laws_Disk x.2.1 = wt T_S_S_u8 x.2.1.1 + (wt T_S_laws_Wr x.2.1.2.1 + wt (.pair T_int_3 (.pair T_bool .unit)) x.2.1.2.2):=rfl
 have l1:List.length x.2.2.1≤wt T_S_laws_Sock x.2.2.1:=len_wt (t:=T_laws_Sock) x.2.2.1
 have l2:List.length x.2.2.2.1≤wt T_S_laws_House x.2.2.2.1:=len_wt (t:=T_laws_House) x.2.2.2.1
 have l3:List.length x.2.2.2.2.1≤wt T_S_laws_Pack x.2.2.2.2.1:=len_wt (t:=T_laws_Pack) x.2.2.2.2.1
 have l4:List.length x.2.2.2.2.2.1≤wt T_S_laws_Note x.2.2.2.2.2.1:=len_wt (t:=T_laws_Note) x.2.2.2.2.2.1
 have l5:List.length x.2.1.1≤wt T_S_S_u8 x.2.1.1:=len_wt (t:=T_S_u8) x.2.1.1
 have l6:List.length x.2.1.2.1≤wt T_S_laws_Wr x.2.1.2.1:=len_wt (t:=T_laws_Wr) x.2.1.2.1
 refine ⟨⟨by show List.length x.2.1.1≤1048576; omega,fun s hs=>?_,by show List.length x.2.1.2.1≤1048576; omega,fun s hs=>?_⟩,by show List.length x.2.2.1≤1048576; omega,fun s hs=>?_,by show List.length x.2.2.2.1≤1048576; omega,fun h hh=>?_,by show List.length x.2.2.2.2.1≤1048576; omega,fun s hs=>?_,by show List.length x.2.2.2.2.2.1≤1048576; omega⟩
 ·have m:wt T_S_u8 s≤wt T_S_S_u8 x.2.1.1:=wt_mem (t:=T_S_u8) hs
  have n:List.length s≤wt T_S_u8 s:=len_wt (t:=T_u8) s
  show List.length s≤1048576
  omega
 ·have m:wt T_laws_Wr s≤wt T_S_laws_Wr x.2.1.2.1:=wt_mem (t:=T_laws_Wr) hs
  have e2:wt T_laws_Wr s = wt T_int_3 s.1 + (wt T_S_u8 s.2.1 + wt .unit s.2.2):=rfl
  have n:List.length s.2.1≤wt T_S_u8 s.2.1:=len_wt (t:=T_u8) s.2.1
  show List.length s.2.1≤1048576
  omega
 ·have m:wt T_laws_Sock s≤wt T_S_laws_Sock x.2.2.1:=wt_mem (t:=T_laws_Sock) hs
  have e2:wt T_laws_Sock s = wt T_int_3 s.1 + (wt T_int_3 s.2.1 + (wt T_int_3 s.2.2.1 + (wt T_bool s.2.2.2.1 + (wt T_S_u8 s.2.2.2.2.1 + (wt T_S_u8 s.2.2.2.2.2.1 + wt (.pair T_int_3 (.pair T_int_3 .unit)) s.2.2.2.2.2.2))))):=rfl
  have n:List.length s.2.2.2.2.1≤wt T_S_u8 s.2.2.2.2.1:=len_wt (t:=T_u8) s.2.2.2.2.1
  have n2:List.length s.2.2.2.2.2.1≤wt T_S_u8 s.2.2.2.2.2.1:=len_wt (t:=T_u8) s.2.2.2.2.2.1
  exact ⟨by show List.length s.2.2.2.2.1≤1048576; omega,by show List.length s.2.2.2.2.2.1≤1048576; omega⟩
 ·have m:wt T_laws_House h≤wt T_S_laws_House x.2.2.2.1:=wt_mem (t:=T_laws_House) hh
  have e2:wt T_laws_House h = wt T_int_3 h.1 + (wt T_int_3 h.2.1 + (wt T_int_3 h.2.2.1 + (wt T_S_laws_Db h.2.2.2.1 + (wt T_bool h.2.2.2.2.1 + (wt T_S_laws_Asker h.2.2.2.2.2.1 + (wt T_S_laws_Line h.2.2.2.2.2.2.1 + wt (.pair T_int_3 (.pair T_laws_Hand .unit)) h.2.2.2.2.2.2.2)))))):=rfl
  have lc:List.length h.2.2.2.1≤wt T_S_laws_Db h.2.2.2.1:=len_wt (t:=T_laws_Db) h.2.2.2.1
  have la:List.length h.2.2.2.2.2.1≤wt T_S_laws_Asker h.2.2.2.2.2.1:=len_wt (t:=T_laws_Asker) h.2.2.2.2.2.1
  have ll:List.length h.2.2.2.2.2.2.1≤wt T_S_laws_Line h.2.2.2.2.2.2.1:=len_wt (t:=T_laws_Line) h.2.2.2.2.2.2.1
  exact ⟨by show List.length h.2.2.2.1≤1048576; omega,by show List.length h.2.2.2.2.2.1≤1048576; omega,by show List.length h.2.2.2.2.2.2.1≤1048576; omega⟩
 ·have m:wt T_laws_Pack s≤wt T_S_laws_Pack x.2.2.2.2.1:=wt_mem (t:=T_laws_Pack) hs
  have e2:wt T_laws_Pack s = wt T_int_3 s.1 + (wt T_S_u8 s.2.1 + wt .unit s.2.2):=rfl
  have n:List.length s.2.1≤wt T_S_u8 s.2.1:=len_wt (t:=T_u8) s.2.1
  show List.length s.2.1≤1048576
  omega
theorem bd_zero:∀ t:Ty,Bd by_ t t.zero
 | .int k=>by cases k <;> (show (Lit.int _ 0).wf = true; rfl)
 | .bool=>trivial
 | .str=>Nat.zero_le _
 | .slice _ _=>⟨by simp [Ty.zero],by simp [Ty.zero],fun x hx=>by simp [Ty.zero] at hx⟩
 | .unit=>trivial
 | .pair a b=>⟨bd_zero a,bd_zero b⟩
/-- What a world that says it is right, says of its disk. -/
theorem world_disk {K:Nat} (hK:maxLen + 2≤K) (x:S_impl_World) (hd:DB x.2.1) (h:g_spec_WorldOk K x = some true):g_spec_DiskOk K x.2.1 = some true∧g_impl_DiskOk K x.2.1 = some true∧WrOk x.2.1 0:=by
 obtain ⟨b,b1,b2,b3⟩:=diskOk hK x.2.1 hd.l1 hd.l2
 cases b
 ·rw [g_spec_WorldOk.eq,g_spec_OpenJour.eq,b1,Option.bind_some,show (!false) = true from rfl,br_t',Option.bind_some] at h
  cases h
 ·exact ⟨b1,b2,(b3.1 rfl).2.1⟩
/-- The writes that reach the disk. -/
theorem fall_loop {K:Nat} {Q:List Int→Prop} (n:Int) (cache:List S_impl_Wr) (N:Nat) (hcl:cache.length≤1048576) (hW:∀ j,j < cache.length→0≤(List.getD cache j T_impl_Pack.zero).1∧(List.getD cache j T_impl_Pack.zero).1 < N) (hQ:∀ w∈cache,Q w.2.1) (s0:List (List Int)) (t0 t:Int × (Bool × Unit)) (o4 o4':S_impl_Disk) :
  ∀ (q i k:Nat) (secs:List (List Int)),i + q = cache.length→q < k→secs.length = N→(∀ s∈secs,Q s)→∃ secs':List (List Int),secs'.length = N∧(∀ s∈secs',Q s)∧L_spec_FallDisk_8 K k n (i:Int) o4 (secs,(cache,t)) = some (secs',([],((-1),(false,t.2.2))))∧L_impl_FallDisk_7 K k (s0,(cache,t0)) n (i:Int) o4' (secs,(cache,t)) = (g_impl_diskCopy K (secs',([],((-1),(false,t.2.2))))).bind fun y=>some y
 | 0,i,k + 1,secs,h1,_,hN,hs=>by
  refine ⟨secs,hN,hs,?_,?_⟩
  ·rw [L_spec_FallDisk_8.step,br_false (by simp; omega)]
  ·rw [L_impl_FallDisk_7.step,br_false (by simp; omega)]
 | q + 1,i,k + 1,secs,h1,h2,hN,hs=>by
  have hi:i < cache.length:=by omega
  have hget:List.getD cache i T_impl_Pack.zero = cache[i]:=by
   rw [List.getD_eq_getElem?_getD,List.getElem?_eq_getElem hi]; rfl
  obtain ⟨w1,w2⟩:=hW i hi
  have hsec:∀ s∈secs.set (Int.toNat (List.getD cache i T_impl_Pack.zero).1) (List.getD cache i T_impl_Pack.zero).2.1,Q s:=fun s hs'=>by
   rcases List.mem_or_eq_of_mem_set hs' with h | h
   ·exact hs s h
   ·rw [h,hget]; exact hQ _ (List.getElem_mem hi)
  obtain ⟨sa,a1,a2,a3,a4⟩:=fall_loop n cache N hcl hW hQ s0 t0 t o4 o4' q (i + 1) k (secs.set (Int.toNat (List.getD cache i T_impl_Pack.zero).1) (List.getD cache i T_impl_Pack.zero).2.1) (by omega) (by omega) (by simpa using hN) hsec
  obtain ⟨sb,b1,b2,b3,b4⟩:=fall_loop n cache N hcl hW hQ s0 t0 t o4 o4' q (i + 1) k secs (by omega) (by omega) hN hs
  have hin:(decide (0≤(List.getD cache i T_impl_Pack.zero).1) && decide ((List.getD cache i T_impl_Pack.zero).1 < (secs.length:Int))) = true:=in_true w1 (by rw [hN]; exact w2)
  have hci:(decide (0≤(i:Int)) && decide ((i:Int) < (cache.length:Int))) = true:=in_true (by omega) (by omega)
  have hlt:decide ((i:Int) < ((cache.length:Nat):Int)) = true:=by simp; omega
  have hneg:decide ((i:Int) < 0) = false:=decide_eq_false (by omega)
  have e8:=L_spec_FallDisk_8.step K k n (i:Int) o4 (secs,(cache,t))
  have e7:=L_impl_FallDisk_7.step K k (s0,(cache,t0)) n (i:Int) o4' (secs,(cache,t))
  simp only [Int.toNat_natCast,hlt,hneg,hci,hin,br_t',br_f'] at e8 e7
  rw [wrap_id (by omega) (by omega)] at e8 e7
  cases hb:((Fil.bits .and .i64 (Int.fdiv n (2 ^ (min i (IntKind.bits .i64)))) 1:Int) == 1)
  ·rw [hb,br_f'] at e8 e7
   exact ⟨sb,b1,b2,e8.trans b3,e7.trans b4⟩
  ·rw [hb,br_t'] at e8 e7
   exact ⟨sa,a1,a2,e8.trans a3,e7.trans a4⟩
 | _,_,0,_,_,h,_,_=>absurd h (Nat.not_lt_zero _)
theorem fall {K:Nat} (hK:maxLen + 2≤K) {Q:List Int→Prop} (hQl:∀ s,Q s→s.length≤1048576) (d:S_impl_Disk) (n:Int) (hd:DS d) (h1:g_spec_DiskOk K d = some true) (h2:g_impl_DiskOk K d = some true) (h3:WrOk d 0) (hs:∀ s∈d.1,Q s) (hw:∀ w∈d.2.1,Q w.2.1) :
  ∃ secs:List (List Int),secs.length = d.1.length∧(∀ s∈secs,Q s)∧g_spec_FallDisk K d n = some (secs,([],((-1),(false,()))))∧g_impl_FallDisk K d n = some (secs,([],((-1),(false,())))):=by
 have hm:maxLen = 2 ^ 63 - 1:=rfl
 have hc1:=hd.c1
 have hd1:=hd.d1
 have hW:∀ j,j < d.2.1.length→0≤(List.getD d.2.1 j T_impl_Pack.zero).1∧(List.getD d.2.1 j T_impl_Pack.zero).1 < ((d.1.length:Nat):Int):=fun j hj=>by
  have h4:=(h3 j (Nat.zero_le _) hj).1
  unfold wrAt at h4
  exact ⟨h4.1,by have:=h4.2; omega⟩
 have main:∀ m:Int,∃ secs:List (List Int),secs.length = d.1.length∧(∀ s∈secs,Q s)∧L_spec_FallDisk_8 K K m 0 ([],([],(0,(false,())))) d = some (secs,([],((-1),(false,()))))∧L_impl_FallDisk_7 K K d m 0 ([],([],(0,(false,())))) d = some (secs,([],((-1),(false,())))):=fun m=>by
  obtain ⟨secs,a1,a2,a3,a4⟩:=fall_loop (K:=K) m d.2.1 d.1.length hd.c1 hW hw d.1 d.2.2 d.2.2 ([],([],(0,(false,())))) ([],([],(0,(false,())))) d.2.1.length 0 K d.1 (by omega) (by omega) rfl hs
  refine ⟨secs,a1,a2,a3,a4.trans ?_⟩
  rw [cp_diskI hK _ ⟨by show secs.length≤1048576; omega,fun s h=>hQl s (a2 s h),by show ([]:List S_impl_Wr).length≤1048576; simp,fun w h=>by simp at h⟩]
  rfl
 rw [g_spec_FallDisk.eq,g_impl_FallDisk.eq,cp_diskS hK d hd,Option.bind_some,h1,Option.bind_some,cp_diskI hK d hd,Option.bind_some,h2,Option.bind_some,l1In_eq,Option.bind_some,isIn_eq,Option.bind_some]
 rw [show (!true) = false from rfl,br_f',br_f']
 cases (decide (0≤n) && decide (n≤1073741823))
 ·obtain ⟨secs,a1,a2,a3,a4⟩:=main 0
  exact ⟨secs,a1,a2,a3,a4⟩
 ·obtain ⟨secs,a1,a2,a3,a4⟩:=main n
  exact ⟨secs,a1,a2,a3,a4⟩
theorem power {K:Nat} (hK:maxLen + 2≤K) (x:T_laws_World.T) (n:Int) (hB:Bd by_ T_laws_World x) (hw:wt T_laws_World x≤1048576):∃ y:S_impl_World,g_spec_Power K x n = some y∧g_impl_Power K x n = some y∧MS y∧Bd by_ T_impl_World y:=by
 have hx:=world_ws x hB hw
 have hx2:=world_ms x hw
 have hB2:=bdW x hB
 obtain ⟨b,b1,b2,b3⟩:=worldOk hK x hx
 rw [g_spec_Power.eq,g_impl_Power.eq,cp_worldS hK x hx2,Option.bind_some,b1,Option.bind_some,b2,Option.bind_some]
 cases b
 ·rw [show (!false) = true from rfl,br_t',br_t',cp_worldI hK x hx2]
  exact ⟨x,rfl,rfl,hx2,hB2⟩
 ·obtain ⟨d1,d2,d3⟩:=world_disk hK x hx.db b1
  have hl:=b3 rfl
  obtain ⟨secs,a1,a2,a3,a4⟩:=fall hK (Q:=fun s=>s.length≤1048576∧Bd by_ T_S_u8 s) (fun s h=>h.1) x.2.1 n hx2.d d1 d2 d3 (fun s h=>⟨hx2.d.d2 s h,hB2.2.1.1.2.2 s h⟩) (fun w h=>⟨hx2.d.c2 w h,(hB2.2.1.2.1.2.2 w h).2.1⟩)
  have hdark:g_impl_Dark K x = some (x.1,(x.2.1,([],([T_impl_House.zero,T_impl_House.zero],([],x.2.2.2.2.2))))):=by
   rw [g_impl_Dark.eq,cp_worldI hK x hx2,Option.bind_some,br_false (by rw [hl]; rfl),br_true (by decide)]
   rfl
  rw [show (!true) = false from rfl,br_f',br_f',q_spec_l14Dark.eq,Option.bind_some,hdark,Option.bind_some,a4,Option.bind_some]
  refine ⟨(x.1,((secs,([],((-1),(false,())))),([],([T_impl_House.zero,T_impl_House.zero],([],x.2.2.2.2.2))))),?_,rfl,?_,?_⟩
  ·show (g_spec_FallDisk K x.2.1 n).bind _ = _
   rw [a3,Option.bind_some]
   rfl
  ·have hd1:=hx2.d.d1
   refine ⟨⟨by show secs.length≤1048576; omega,fun s h=>(a2 s h).1,by show ([]:List S_impl_Wr).length≤1048576; simp,fun w h=>by simp at h⟩,by show ([]:List S_impl_Sock).length≤1048576; simp,fun s h=>by simp at h,by show 2≤1048576; omega,fun h hh=>?_,by show ([]:List S_impl_Pack).length≤1048576; simp,fun p h=>by simp at h,hx2.n1⟩
   have e:h = T_impl_House.zero:=by
    rcases List.mem_cons.1 hh with e | hh
    ·exact e
    ·rcases List.mem_cons.1 hh with e | hh
     ·exact e
     ·simp at hh
   rw [e]
   exact ⟨Nat.zero_le _,Nat.zero_le _,Nat.zero_le _⟩
  ·have hnil:∀ (e:Nat) (t:Ty),Bd by_ (.slice e t) ([]:List t.T):=fun e t=>bd_zero (.slice e t)
   have hs:=hB2.2.1.1
   refine ⟨hB2.1,⟨⟨by rw [a1]; exact hs.1,by rw [a1]; exact hs.2.1,fun s h=>(a2 s h).2⟩,hnil _ _,rfl,trivial,trivial⟩,hnil _ _,⟨by show 2 * by_ 63≤140737488351232; rw [show by_ 63 = 144 from by kernel_rfl]; omega,by show 2≤maxLen; unfold maxLen; omega,fun h hh=>?_⟩,hnil _ _,hB2.2.2.2.2.2⟩
   have e:h = T_impl_House.zero:=by
    rcases List.mem_cons.1 hh with e | hh
    ·exact e
    ·rcases List.mem_cons.1 hh with e | hh
     ·exact e
     ·simp at hh
   rw [e]
   exact bd_zero _
/-- The law of Power says true. -/
theorem lawPower {K:Nat} (hK:maxLen + 2≤K) (x:T_laws_World.T) (n:Int) (hB:Bd by_ T_laws_World x):g_laws_FnExactPower K x n = some true:=by
 rw [g_laws_FnExactPower.eq]
 rcases s_laws_szWorld hK x hB 1048576 (by omega) (by omega) with hneg | ⟨l,hsz,hl0,hwt⟩
 ·rw [hneg,Option.bind_some,br_true (by decide)]
 ·obtain ⟨y,y1,y2,y3,y4⟩:=power hK x n hB (by omega)
  obtain ⟨k1,x1,m1,m2,m3,m4⟩:=mh_World hK x 1 (world_ms x (by omega)) (by omega) (by omega)
  obtain ⟨k2,z1,n1,n2,n3,n4⟩:=mh_World hK y 1 y3 (by omega) (by omega)
  rw [hsz,Option.bind_some,br_false (decide_eq_false (by omega)),t_laws_toWorld hK x hB,Option.bind_some,y1,Option.bind_some,Option.bind_some,y2,Option.bind_some,q_laws_eqWorld hK y y4,Option.bind_some,br_false (c:=!true) rfl,Option.bind_some,q_laws_eqWorld hK x (bdW x hB),Option.bind_some,br_false (c:=!true) rfl,m1,Option.bind_some]
  simp only [lt]
  rw [br_false (decide_eq_false (by omega)),Option.bind_some,br_false (c:=!true) rfl,n1,Option.bind_some]
  simp only
  rw [n2,Option.bind_some,br_false (decide_eq_false (by omega)),br_false (by simp),Option.bind_some,y2,Option.bind_some,q_laws_eqWorld hK y y4,Option.bind_some,br_false (c:=!true) rfl,Option.bind_some,br_false (decide_eq_false (by omega)),br_false (by simp)]
end F5
