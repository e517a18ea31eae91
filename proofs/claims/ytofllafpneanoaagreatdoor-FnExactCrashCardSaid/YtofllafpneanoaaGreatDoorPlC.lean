/- Crash: both programs alike, on every world; what comes out is marked and held. -/
import Derived.Test.YtofllafpneanoaaGreatDoorPlG
import Derived.Test.YtofllafpneanoaaGreatDoorHouseAll
namespace F5
open Go Go.Fil Go.Proofs Go.Fil.Cf
set_option maxRecDepth 100000
set_option linter.unusedVariables false
set_option linter.unusedSimpArgs false
theorem byte_wf {n:Int} (h:(Lit.int .u8 n).wf = true):0≤n∧n≤255:=by
 simp [Lit.wf,IntKind.min,IntKind.max,IntKind.signed,IntKind.bits] at h
 omega
theorem len_wt {e:Nat} {t:Ty} (xs:List t.T):xs.length≤wt (.slice e t) xs:=by
 show xs.length≤xs.length + _
 omega
theorem disk_db (d:Z28.T) (hB:Bd by_ Z28 d) (hw:wt Z28 d≤1048576):DB d:=by
 have hw':wt Zx d.1 + (wt Z1u d.2.1 + wt (.pair T_int_3 (.pair T_bool .unit)) d.2.2)≤1048576:=hw
 have l1:List.length d.1≤wt Zx d.1:=len_wt (t:=Zj) d.1
 have l2:List.length d.2.1≤wt Z1u d.2.1:=len_wt (t:=Zdl) d.2.1
 exact ⟨by show List.length d.1≤1048576; omega,by show List.length d.2.1≤1048576; omega,fun s hs b hb=>byte_wf ((hB.1.2.2 s hs).2.2 b hb),fun e he b hb=>byte_wf ((hB.2.1.2.2 e he).2.1.2.2 b hb)⟩
theorem bdW (x:Zq.T) (h:Bd by_ Zq x):Bd by_ Z1 x:=(by kernel_rfl:Bd by_ Zq x = Bd by_ Z1 x) ▸ h
theorem sum_mem {α:Type} (f:α→Nat):∀ (l:List α) (a:α),a∈l→f a≤(l.map f).sum
 | b :: l,a,h=>by
  rw [List.map_cons,List.sum_cons]
  rcases List.mem_cons.1 h with rfl | h
  ·omega
  ·have:=sum_mem f l a h
   omega
theorem wt_mem {e:Nat} {t:Ty} {xs:List t.T} {a:t.T} (h:a∈xs):wt t a≤wt (.slice e t) xs:=by
 have:=sum_mem (fun x=>wt t x) xs a h
 show wt t a≤xs.length + (xs.map fun x=>wt t x).sum
 omega
theorem house_hs (h:Z1i.T) (hw:wt Z1i h≤1048576):HS h:=by
 have e:wt Z1i h = wt T_int_3 h.1 + (wt T_int_3 h.2.1 + (wt T_int_3 h.2.2.1 + (wt Z1v h.2.2.2.1 + (wt T_bool h.2.2.2.2.1 + (wt Z1f h.2.2.2.2.2.1 + (wt Z1l h.2.2.2.2.2.2.1 + wt (.pair T_int_3 (.pair Zbb .unit)) h.2.2.2.2.2.2.2)))))):=rfl
 have lc:List.length h.2.2.2.1≤wt Z1v h.2.2.2.1:=len_wt (t:=Zce) h.2.2.2.1
 have la:List.length h.2.2.2.2.2.1≤wt Z1f h.2.2.2.2.2.1:=len_wt (t:=Z6n) h.2.2.2.2.2.1
 have ll:List.length h.2.2.2.2.2.2.1≤wt Z1l h.2.2.2.2.2.2.1:=len_wt (t:=Z93) h.2.2.2.2.2.2.1
 have ma:∀ a∈(h.2.2.2.2.2.1:List Z6n.T),wt Z6n a≤wt Z1f h.2.2.2.2.2.1:=fun a ha=>wt_mem (t:=Z6n) ha
 have ml:∀ a∈(h.2.2.2.2.2.2.1:List Z93.T),wt Z93 a≤wt Z1l h.2.2.2.2.2.2.1:=fun a ha=>wt_mem (t:=Z93) ha
 have mc:∀ a∈(h.2.2.2.1:List Zce.T),wt Zce a≤wt Z1v h.2.2.2.1:=fun a ha=>wt_mem (t:=Zce) ha
 refine ⟨by show List.length h.2.2.2.2.2.1≤1048576; omega,by show List.length h.2.2.2.2.2.2.1≤1048576; omega,by show List.length h.2.2.2.1≤1048576; omega,fun a ha=>?_,fun a ha=>?_,fun a ha=>?_,fun a ha=>?_⟩
 ·have h1:=ma a ha
  have h2:wt Z6n a = wt T_int_3 a.1 + (ByteArray.size a.2.1 + wt (.pair T_int_3 (.pair T_int_3 (.pair T_int_3 (.pair T_str (.pair T_int_3 (.pair T_int_3 .unit)))))) a.2.2):=rfl
  show ByteArray.size a.2.1≤1048576
  omega
 ·have h1:=ma a ha
  have h2:wt Z6n a = wt T_int_3 a.1 + (wt T_str a.2.1 + (wt T_int_3 a.2.2.1 + (wt T_int_3 a.2.2.2.1 + (wt T_int_3 a.2.2.2.2.1 + (ByteArray.size a.2.2.2.2.2.1 + wt (.pair T_int_3 (.pair T_int_3 .unit)) a.2.2.2.2.2.2))))):=rfl
  show ByteArray.size a.2.2.2.2.2.1≤1048576
  omega
 ·have h1:=ml a ha
  have h2:wt Z93 a = wt T_int_3 a.1 + (ByteArray.size a.2.1 + wt (.pair T_int_3 (.pair T_int_3 (.pair T_int_3 (.pair T_int_3 (.pair T_int_3 .unit))))) a.2.2):=rfl
  show ByteArray.size a.2.1≤1048576
  omega
 ·have h1:=mc a ha
  have h2:wt Zce a = ByteArray.size a.1 + wt (.pair T_int_3 (.pair T_int_3 (.pair T_int_3 (.pair T_int_3 .unit)))) a.2:=rfl
  show ByteArray.size a.1≤1048576
  omega
theorem world_ws (x:Zq.T) (hB:Bd by_ Zq x) (hw:wt Zq x≤1048576):WS x:=by
 have e:wt Zq x = wt T_int_3 x.1 + (wt Z28 x.2.1 + (wt Z1k x.2.2.1 + (wt Z1d x.2.2.2.1 + (wt Z1m x.2.2.2.2.1 + (wt Z1p x.2.2.2.2.2.1 + wt (.pair T_int_3 (.pair T_int_3 .unit)) x.2.2.2.2.2.2))))):=rfl
 have l1:List.length x.2.2.1≤wt Z1k x.2.2.1:=len_wt (t:=Zba) x.2.2.1
 have l2:List.length x.2.2.2.1≤wt Z1d x.2.2.2.1:=len_wt (t:=Z1i) x.2.2.2.1
 have l3:List.length x.2.2.2.2.1≤wt Z1m x.2.2.2.2.1:=len_wt (t:=Zbc) x.2.2.2.2.1
 have l4:List.length x.2.2.2.2.2.1≤wt Z1p x.2.2.2.2.2.1:=len_wt (t:=Zeb) x.2.2.2.2.2.1
 have mh:∀ a∈(x.2.2.2.1:List Z1i.T),wt Z1i a≤wt Z1d x.2.2.2.1:=fun a ha=>wt_mem (t:=Z1i) ha
 exact ⟨by show List.length x.2.2.1≤1048576; omega,by show List.length x.2.2.2.1≤1048576; omega,by show List.length x.2.2.2.2.1≤1048576; omega,by show List.length x.2.2.2.2.2.1≤1048576; omega,fun h hh=>house_hs h (by have:=mh h hh; omega),disk_db x.2.1 hB.2.1 (by omega)⟩
theorem world_ms (x:Zq.T) (hw:wt Zq x≤1048576):MS x:=by
 have e:wt Zq x = wt T_int_3 x.1 + (wt Z28 x.2.1 + (wt Z1k x.2.2.1 + (wt Z1d x.2.2.2.1 + (wt Z1m x.2.2.2.2.1 + (wt Z1p x.2.2.2.2.2.1 + wt (.pair T_int_3 (.pair T_int_3 .unit)) x.2.2.2.2.2.2))))):=rfl
 have ed:wt Z28 x.2.1 = wt Zx x.2.1.1 + (wt Z1u x.2.1.2.1 + wt (.pair T_int_3 (.pair T_bool .unit)) x.2.1.2.2):=rfl
 have l1:List.length x.2.2.1≤wt Z1k x.2.2.1:=len_wt (t:=Zba) x.2.2.1
 have l2:List.length x.2.2.2.1≤wt Z1d x.2.2.2.1:=len_wt (t:=Z1i) x.2.2.2.1
 have l3:List.length x.2.2.2.2.1≤wt Z1m x.2.2.2.2.1:=len_wt (t:=Zbc) x.2.2.2.2.1
 have l4:List.length x.2.2.2.2.2.1≤wt Z1p x.2.2.2.2.2.1:=len_wt (t:=Zeb) x.2.2.2.2.2.1
 have l5:List.length x.2.1.1≤wt Zx x.2.1.1:=len_wt (t:=Zj) x.2.1.1
 have l6:List.length x.2.1.2.1≤wt Z1u x.2.1.2.1:=len_wt (t:=Zdl) x.2.1.2.1
 refine ⟨⟨by show List.length x.2.1.1≤1048576; omega,fun s hs=>?_,by show List.length x.2.1.2.1≤1048576; omega,fun s hs=>?_⟩,by show List.length x.2.2.1≤1048576; omega,fun s hs=>?_,by show List.length x.2.2.2.1≤1048576; omega,fun h hh=>?_,by show List.length x.2.2.2.2.1≤1048576; omega,fun s hs=>?_,by show List.length x.2.2.2.2.2.1≤1048576; omega⟩
 ·have m:wt Zj s≤wt Zx x.2.1.1:=wt_mem (t:=Zj) hs
  have n:List.length s≤wt Zj s:=len_wt (t:=T_u8) s
  show List.length s≤1048576
  omega
 ·have m:wt Zdl s≤wt Z1u x.2.1.2.1:=wt_mem (t:=Zdl) hs
  have e2:wt Zdl s = wt T_int_3 s.1 + (wt Zj s.2.1 + wt .unit s.2.2):=rfl
  have n:List.length s.2.1≤wt Zj s.2.1:=len_wt (t:=T_u8) s.2.1
  show List.length s.2.1≤1048576
  omega
 ·have m:wt Zba s≤wt Z1k x.2.2.1:=wt_mem (t:=Zba) hs
  have e2:wt Zba s = wt T_int_3 s.1 + (wt T_int_3 s.2.1 + (wt T_int_3 s.2.2.1 + (wt T_bool s.2.2.2.1 + (wt Zj s.2.2.2.2.1 + (wt Zj s.2.2.2.2.2.1 + wt (.pair T_int_3 (.pair T_int_3 .unit)) s.2.2.2.2.2.2))))):=rfl
  have n:List.length s.2.2.2.2.1≤wt Zj s.2.2.2.2.1:=len_wt (t:=T_u8) s.2.2.2.2.1
  have n2:List.length s.2.2.2.2.2.1≤wt Zj s.2.2.2.2.2.1:=len_wt (t:=T_u8) s.2.2.2.2.2.1
  exact ⟨by show List.length s.2.2.2.2.1≤1048576; omega,by show List.length s.2.2.2.2.2.1≤1048576; omega⟩
 ·have m:wt Z1i h≤wt Z1d x.2.2.2.1:=wt_mem (t:=Z1i) hh
  have e2:wt Z1i h = wt T_int_3 h.1 + (wt T_int_3 h.2.1 + (wt T_int_3 h.2.2.1 + (wt Z1v h.2.2.2.1 + (wt T_bool h.2.2.2.2.1 + (wt Z1f h.2.2.2.2.2.1 + (wt Z1l h.2.2.2.2.2.2.1 + wt (.pair T_int_3 (.pair Zbb .unit)) h.2.2.2.2.2.2.2)))))):=rfl
  have lc:List.length h.2.2.2.1≤wt Z1v h.2.2.2.1:=len_wt (t:=Zce) h.2.2.2.1
  have la:List.length h.2.2.2.2.2.1≤wt Z1f h.2.2.2.2.2.1:=len_wt (t:=Z6n) h.2.2.2.2.2.1
  have ll:List.length h.2.2.2.2.2.2.1≤wt Z1l h.2.2.2.2.2.2.1:=len_wt (t:=Z93) h.2.2.2.2.2.2.1
  exact ⟨by show List.length h.2.2.2.1≤1048576; omega,by show List.length h.2.2.2.2.2.1≤1048576; omega,by show List.length h.2.2.2.2.2.2.1≤1048576; omega⟩
 ·have m:wt Zbc s≤wt Z1m x.2.2.2.2.1:=wt_mem (t:=Zbc) hs
  have e2:wt Zbc s = wt T_int_3 s.1 + (wt Zj s.2.1 + wt .unit s.2.2):=rfl
  have n:List.length s.2.1≤wt Zj s.2.1:=len_wt (t:=T_u8) s.2.1
  show List.length s.2.1≤1048576
  omega
theorem bd_zero:∀ t:Ty,Bd by_ t t.zero
 | .int k=>by cases k <;> (show (Lit.int _ 0).wf = true; rfl)
 | .bool=>trivial
 | .str=>Nat.zero_le _
 | .slice _ _=>⟨by simp [Ty.zero],by simp [Ty.zero],fun x hx=>by simp [Ty.zero] at hx⟩
 | .unit=>trivial
 | .pair a b=>⟨bd_zero a,bd_zero b⟩
theorem worldOk2 {K:Nat} (hK:maxLen + 2≤K) (x:Z2) (hx:WS x):∃ b,Z84 K x = some b∧Z88 K x = some b∧(b = true→SocksP x.2.2.1∧x.2.2.2.1.length = 2∧∃ kn b0 b1,HouP K x kn 0 b0∧HouP K x kn 1 b1):=by
 obtain ⟨r,r1,r2,r3⟩:=openJour hK x.2.1 hx.db
 obtain ⟨pr,q1,q2,_⟩:=parseConf hK r.1.1.2.1 r3.1
 have hH:∀ i:Nat,∃ b,Z60 K (houseAt x (i:Int)).2.2.2.1 pr.1 = some b∧Z2m K (houseAt x (i:Int)).2.2.2.1 pr.1 = some b:=fun i=>sameConf hK _ pr.1 (conf_len hx _)
 have hb:∀ i:Nat,Z2m K (houseAt x (i:Int)).2.2.2.1 pr.1 = some (Classical.choose (hH i)):=fun i=>(Classical.choose_spec (hH i)).2
 have hb':∀ i:Nat,Z60 K (houseAt x (i:Int)).2.2.2.1 pr.1 = some (Classical.choose (hH i)):=fun i=>(Classical.choose_spec (hH i)).1
 let bs:Nat→Bool:=fun i=>Classical.choose (hH i)
 have hmem:∀ n:Int,(n = 0∨n = 1)→x.2.2.2.1.length = 2→HS (houseAt x n):=fun n hn hl=>by
  refine hx.hs _ ?_
  rw [houseAt,List.getD_eq_getElem?_getD,List.getElem?_eq_getElem (by omega)]
  exact List.getElem_mem _
 have hl7:SocksP x.2.2.1→x.2.2.2.1.length = 2→Says (Z1r K K 0 x r.1) (IdsP x∧NotesP K x∧HouP K x r.1.1 0 (bs 0)∧HouP K x r.1.1 1 (bs 1)):=fun hp hl =>
  spec7 hK x hx r.1 (house_s hK x hx hp 0 (.inl rfl) hl (hmem 0 (.inl rfl) hl) r.1.1 pr q1 (bs 0) (hb' 0)) (house_s hK x hx hp 1 (.inr rfl) hl (hmem 1 (.inr rfl) hl) r.1.1 pr q1 (bs 1) (hb' 1))
 have hls:=hx.ls
 have hlw:=hx.lw
 have hlh:=hx.lh
 have hopen:(!r.2.1) = true↔r.2.1 = false:=by cases r.2.1 <;> simp
 have spec:Says (Z84 K x) (¬ r.2.1 = false∧(0≤x.1∧x.1≤100000)∧SocksP x.2.2.1∧¬ (x.2.2.2.1.length≠2)∧WayP x.2.2.2.2.1∧¬ (x.2.2.2.2.2.2.1 < 1)∧¬ (x.2.2.2.2.2.2.2.1 < 1)∧Down x∧(IdsP x∧NotesP K x∧HouP K x r.1.1 0 (bs 0)∧HouP K x r.1.1 1 (bs 1))):=by
  rw [Z84.eq,r1,Option.bind_some]
  refine Says.guard hopen (fun _=>Says.gate (says_in K _ _ _) (fun _=>Says.gate (socksOk_s hK _ hx.ls) (fun hp=>Says.guard (by rw [bne_iff_ne]; omega) (fun hl=>Says.gate (wayOk_s hK _ hx.lw) (fun _=>Says.guard decide_eq_true_iff (fun _=>Says.guard decide_eq_true_iff (fun _=>?_)))))))
  have hl:x.2.2.2.1.length = 2:=by omega
  have h7:=hl7 hp hl
  unfold Down
  cases hdn:x.2.1.2.2.2.1
  ·rw [br_f]
   exact h7.imp ⟨fun g=>⟨fun h=>(by cases h),g⟩,fun g=>g.2⟩
  ·rw [br_t,br_true (by simp [hl])]
   have e1:Says (br (decide (((x.2.2.2.2.1.length:Nat):Int) > 0)) (some false) (Z1r K K 0 x r.1)) _:=Says.guard decide_eq_true_iff (fun _=>h7)
   have e2:Says (br (decide (((x.2.2.1.length:Nat):Int) > 0)) (some false) (br (decide (((x.2.2.2.2.1.length:Nat):Int) > 0)) (some false) (Z1r K K 0 x r.1))) _:=Says.guard decide_eq_true_iff (fun _=>e1)
   have e3:Says (br (((houseAt x 1).1:Int) != 0) (some false) (br (decide (((x.2.2.1.length:Nat):Int) > 0)) (some false) (br (decide (((x.2.2.2.2.1.length:Nat):Int) > 0)) (some false) (Z1r K K 0 x r.1)))) _:=Says.guard bne_iff_ne (fun _=>e2)
   refine (Says.guard (p:=(houseAt x 0).1≠0) (Q:=¬ ((houseAt x 1).1≠0)∧¬ (((x.2.2.1.length:Nat):Int) > 0)∧¬ (((x.2.2.2.2.1.length:Nat):Int) > 0)∧(IdsP x∧NotesP K x∧HouP K x r.1.1 0 (bs 0)∧HouP K x r.1.1 1 (bs 1))) bne_iff_ne (fun _=>?_)).imp ?_
   ·rw [br_true (by simp [hl])]
    exact e3
   constructor
   ·rintro ⟨a,b,c,d,e⟩
    exact ⟨fun _=>⟨by omega,by omega,by omega,by omega⟩,e⟩
   ·rintro ⟨a,e⟩
    obtain ⟨a1,a2,a3,a4⟩:=a rfl
    exact ⟨by omega,by omega,by omega,by omega,e⟩
 have impl:Says (Z88 K x) (¬ r.2.1 = false∧(0≤x.1∧x.1≤100000)∧¬ (x.2.2.2.2.2.2.1 < 1)∧¬ (x.2.2.2.2.2.2.2.1 < 1)∧¬ (x.2.2.2.1.length≠2)∧SocksP x.2.2.1∧WayP x.2.2.2.2.1∧(IdsP x∧NotesP K x∧(∀ i,i < 2→HouQ K x r.1.1 bs i)∧(x.2.1.2.2.2.1 = true→x.2.2.1.length = 0∧x.2.2.2.2.1.length = 0))):=by
  rw [Z88.eq,r2,Option.bind_some]
  refine Says.guard hopen (fun _=>Says.gate (says_isIn K _ _ _) (fun _=>Says.guard decide_eq_true_iff (fun _=>Says.guard decide_eq_true_iff (fun _=>Says.guard (by rw [bne_iff_ne]; omega) (fun hl=>Says.gate (socksOk_i hK _ hx.ls) (fun hp=>Says.gate (wayOk_i hK _ hx.lw) (fun _=>?_)))))))
  exact impl5 hK x hx r.1 (impl17 hK x hx hp (by omega) r.1 pr q2 bs hb)
 obtain ⟨b,b1,b2⟩:=spec
 obtain ⟨c,c1,c2⟩:=impl
 have e:b = c:=by
  refine Bool.eq_iff_iff.2 (b2.trans (Iff.trans ?_ c2.symm))
  constructor
  ·rintro ⟨g1,g2,g3,g4,g5,g6,g7,g8,g9,g10,g11,g12⟩
   refine ⟨g1,g2,g6,g7,g4,g3,g5,g9,g10,fun i hi=>?_,fun h=>⟨(g8 h).2.2.1,(g8 h).2.2.2⟩⟩
   have hi':i = 0∨i = 1:=by omega
   rcases hi' with rfl | rfl
   ·exact ⟨g11.1,fun h=>(g8 h).1,g11.2.1,g11.2.2⟩
   ·exact ⟨g12.1,fun h=>(g8 h).2.1,g12.2.1,g12.2.2⟩
  ·rintro ⟨g1,g2,g6,g7,g4,g3,g5,g9,g10,g11,g12⟩
   have a0:=g11 0 (by omega)
   have a1:=g11 1 (by omega)
   exact ⟨g1,g2,g3,g4,g5,g6,g7,fun h=>⟨a0.2.1 h,a1.2.1 h,g12 h⟩,g9,g10,⟨a0.1,a0.2.2.1,a0.2.2.2⟩,⟨a1.1,a1.2.2.1,a1.2.2.2⟩⟩
 subst e
 exact ⟨b,b1,c1,fun h=>by
  obtain ⟨g1,g2,g3,g4,g5,g6,g7,g8,g9,g10,g11,g12⟩:=b2.1 h
  exact ⟨g3,by omega,r.1.1,bs 0,bs 1,g11,g12⟩⟩
/-- Of a sound world each house's lists are sound, and each line's and asker's socket is there. -/
theorem world_house {K:Nat} (hK:maxLen + 2≤K) (x:Z2) (hx:WS x) (hp:SocksP x.2.2.1) (hl:x.2.2.2.1.length = 2) {n:Int} (hn:n = 0∨n = 1) {kn:Z18} {b:Bool} (h:HouP K x kn n b):ListsP K (houseAt x n)∧InP x n (houseAt x n):=by
 have hm:HS (houseAt x n):=by
  refine hx.hs _ ?_
  rw [houseAt,List.getD_eq_getElem?_getD,List.getElem?_eq_getElem (by omega)]
  exact List.getElem_mem _
 obtain ⟨c,c1,c2,c3⟩:=house hK (houseAt x n) hm
 have e:c = true:=by
  have:=h.1
  rw [c1] at this
  exact Option.some.inj this
 have hL:=c3 e
 have g:=(same_held (K:=K) x hp n hn (houseAt x n) hL).2 h.2.2
 exact ⟨hL,fun j hj=>⟨g.1 j hj,h.2.1.1.1 j hj⟩,fun j hj=>⟨g.2.1 j hj,h.2.1.1.2 j hj⟩,g.2.2,trivial⟩
/-- Crash: both programs alike. -/
theorem crash {K:Nat} (hK:maxLen + 2≤K) (x:Zq.T) (n:Int) (hB:Bd by_ Zq x) (hw:wt Zq x≤1048576):∃ (y:Z2) (b:Bool),Z4e K x n = some (y,(b,()))∧Z3b K x n = some (y,(b,()))∧MS y∧Bd by_ Z1 y:=by
 have hx:=world_ws x hB hw
 have hx2:=world_ms x hw
 have hB2:=bdW x hB
 have same:∃ (y:Z2) (b:Bool),some ((x:Z2),(false,())) = some (y,(b,()))∧some ((x:Z2),(false,())) = some (y,(b,()))∧MS y∧Bd by_ Z1 y:=⟨x,false,rfl,rfl,hx2,hB2⟩
 obtain ⟨b,b1,b2,b3⟩:=worldOk2 hK x hx
 rw [Z4e.eq,Z3b.eq,cp_worldS hK x hx2,Option.bind_some,b1,Option.bind_some,b2,Option.bind_some,cp_worldI hK x hx2]
 simp only [Option.bind_some]
 cases b
 ·rw [show (!false) = true from rfl,br_t',br_t']
  exact same
 obtain ⟨hp,hl2,kn,c0,c1,hh0,hh1⟩:=b3 rfl
 rw [show (!true) = false from rfl,br_f',br_f',l1In_eq,Option.bind_some,isIn_eq,Option.bind_some]
 by_cases hn:n = 0∨n = 1
 case neg =>
  have e:(!(decide ((0:Int)≤n) && decide (n≤1))) = true:=by
   simp only [Bool.not_eq_true',Bool.and_eq_false_iff,decide_eq_false_iff_not]
   omega
  rw [e,br_t',br_t']
  exact same
 have e:(!(decide ((0:Int)≤n) && decide (n≤1))) = false:=by
  simp only [Bool.not_eq_false',Bool.and_eq_true,decide_eq_true_eq]
  omega
 have hin:(decide (0≤n) && decide (n < ((x.2.2.2.1.length:Nat):Int))) = true:=in_true (by omega) (by omega)
 rw [e,br_f',br_f',hin,br_t',br_t']
 by_cases hoff:(houseAt x n).1 = 0
 ·rw [br_true (beq_true hoff),br_true (beq_true hoff)]
  exact same
 rw [br_false (beq_false hoff),br_false (beq_false hoff)]
 have hou:∃ b,HouP K x kn n b:=by
  rcases hn with rfl | rfl
  ·exact ⟨c0,hh0⟩
  ·exact ⟨c1,hh1⟩
 obtain ⟨bb,hou⟩:=hou
 obtain ⟨_,hI⟩:=world_house hK x hx hp hl2 hn hou
 have hSL:∀ s∈x.2.2.1,SL s:=hx2.s2
 have h13:∀ s∈x.2.2.1,H13 s:=fun s hs=>by
  obtain ⟨i,hi,e2⟩:=List.getElem_of_mem hs
  have hat:sockAt x.2.2.1 i = s:=by
   rw [sockAt,List.getD_eq_getElem?_getD,List.getElem?_eq_getElem hi]; exact e2
  have:=(hp.1 i hi).1.2.2.1
  rw [hat] at this
  exact this
 have hm:houseAt x n∈x.2.2.2.1:=by
  rw [houseAt,List.getD_eq_getElem?_getD,List.getElem?_eq_getElem (by omega)]
  exact List.getElem_mem _
 have hmh:=hx2.h2 _ hm
 rw [forget hK x n hn hl2 hx2.s1 hSL h13 hmh.2.1 hmh.2.2,Option.bind_some,release hK x n hn hl2 hx2.s1 hSL h13,Option.bind_some,gone_same hn h13 hI.2.2.1]
 have hin2:(decide (0≤n) && decide (n < (((wH x (x.2.2.1.filterMap (frI ((x.2.2.1.filter (fun s=>bitv s.2.2.1 n == 1)).map (·.1)) (hb n))) n.toNat hIdle).2.2.2.1.length:Nat):Int))) = true:=in_true (by omega) (by show n < (((x.2.2.2.1.set n.toNat hIdle).length:Nat):Int); rw [List.length_set]; omega)
 rw [br_true hin2]
 refine ⟨wH x (x.2.2.1.filterMap (frI ((x.2.2.1.filter (fun s=>bitv s.2.2.1 n == 1)).map (·.1)) (hb n))) n.toNat hOff,true,?_,rfl,?_,?_⟩
 ·have e3:(x.2.2.2.1.set n.toNat hIdle).set n.toNat hOff = x.2.2.2.1.set n.toNat hOff:=set_setM _ _ _ _
  show some ((x.1,(x.2.1,(_,((x.2.2.2.1.set n.toNat hIdle).set n.toNat hOff,x.2.2.2.2)))),(true,())) = _
  rw [e3]
  rfl
 ·refine ⟨hx2.d,fr_len hx2.s1,fr_SL hSL,by show (x.2.2.2.1.set n.toNat hOff).length≤1048576; rw [List.length_set]; exact hx2.h1,fun h hh=>?_,hx2.p1,hx2.p2,hx2.n1⟩
  rcases List.mem_or_eq_of_mem_set hh with hh | rfl
  ·exact hx2.h2 h hh
  ·exact ⟨Nat.zero_le _,Nat.zero_le _,Nat.zero_le _⟩
 ·have hbs:=hB2.2.2.1
  have hbh:=hB2.2.2.2.1
  have hle:=List.length_filterMap_le (frI ((x.2.2.1.filter (fun s=>bitv s.2.2.1 n == 1)).map (·.1)) (hb n)) x.2.2.1
  refine ⟨hB2.1,hB2.2.1,⟨Nat.le_trans (Nat.mul_le_mul_right _ hle) hbs.1,Nat.le_trans hle hbs.2.1,fun t ht=>?_⟩,⟨by show (x.2.2.2.1.set n.toNat hOff).length * _≤_; rw [List.length_set]; exact hbh.1,by show (x.2.2.2.1.set n.toNat hOff).length≤_; rw [List.length_set]; exact hbh.2.1,fun h hh=>?_⟩,hB2.2.2.2.2⟩
  ·obtain ⟨s,hs,e4⟩:=List.mem_filterMap.1 ht
   have hbd:=hbs.2.2 s hs
   rcases frI_some e4 with rfl | rfl
   ·exact hbd
   ·exact ⟨hbd.1,hbd.2.1,andN_wf (h13 s hs) (hb_12 hn),hbd.2.2.2⟩
  ·rcases List.mem_or_eq_of_mem_set hh with hh | rfl
   ·exact hbh.2.2 h hh
   ·exact bd_zero Z0
/-- The law of Crash says true. -/
theorem lawCrash {K:Nat} (hK:maxLen + 2≤K) (x:Zq.T) (n:Int) (hB:Bd by_ Zq x):Z1t K x n = some true:=by
 rw [Z1t.eq]
 rcases Zpw hK x hB 1048576 (by omega) (by omega) with hneg | ⟨l,hsz,hl0,hwt⟩
 ·rw [hneg,Option.bind_some,br_true (by decide)]
 ·obtain ⟨y,b,y1,y2,y3,y4⟩:=crash hK x n hB (by omega)
  obtain ⟨k1,x1,m1,m2,m3,m4⟩:=mh_World hK x 1 (world_ms x (by omega)) (by omega) (by omega)
  obtain ⟨k2,z1,n1,n2,n3,n4⟩:=mh_World hK y 1 y3 (by omega) (by omega)
  have hbb:(!(b == b)) = false:=by simp
  rw [hsz,Option.bind_some,br_false (decide_eq_false (by omega)),Zq3 hK x hB,Option.bind_some,y1,Option.bind_some,Option.bind_some,y2,Option.bind_some,Zgi hK y y4,Option.bind_some,br_false (c:=!true) rfl,br_false hbb,Option.bind_some,Zgi hK x (bdW x hB),Option.bind_some,br_false (c:=!true) rfl,m1,Option.bind_some]
  simp only [lt]
  rw [br_false (decide_eq_false (by omega)),Option.bind_some,br_false (c:=!true) rfl,br_false hbb,n1,Option.bind_some]
  simp only
  rw [n2,Option.bind_some,br_false (decide_eq_false (by omega)),br_false (by simp),Option.bind_some,y2,Option.bind_some,Zgi hK y y4,Option.bind_some,br_false (c:=!true) rfl,br_false hbb,Option.bind_some,br_false (decide_eq_false (by omega)),br_false (by simp)]
end F5
