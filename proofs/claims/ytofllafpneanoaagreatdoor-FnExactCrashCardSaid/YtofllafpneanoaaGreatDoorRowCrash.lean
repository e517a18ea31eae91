/-  The row of FnExactCrash: for every World that a caller may hand in the law returns true, and changes nothing that came in. -/
import Derived.Test.YtofllafpneanoaaGreatDoorRows
import Derived.Test.YtofllafpneanoaaGreatDoorPlC
import Derived.Test.YtofllafpneanoaaGreatDoorRowCrashc
import Derived.Test.YtofllafpneanoaaGreatDoorFilO
import Derived.WalkKit
import Derived.ProofKit
import Derived.OpenShut
import Derived.ShutString
import Derived.LaidMore
import Derived.Lay
import Derived.SevenTiedAt
import Derived.Stop.Joined
import Derived.ChangeOld
import Derived.Below
import Derived.SizedLaws
import Derived.KernelRfl
set_option linter.unusedSimpArgs false
namespace F5
open Go Go.Fil Go.Proofs Go.RowKit
set_option maxRecDepth 100000
theorem ok3 (K:Nat) (x:Zq.T) (n:T_int.T):CallOk Tryz.prog 3 (toDts [Zq,T_int] (x,(n,()))) ⟨true,T_bool,true,false,Z1t K x n⟩:=by
 have h:=(Z2r K).ok (x,(n,()))
 exact (by kernel_rfl:(CallOk G.P (Z2r K).f (toDts (Z2r K).args (x,(n,()))) ⟨(Z2r K).one,(Z2r K).t,(Z2r K).fr,(Z2r K).ow,(Z2r K).g (x,(n,()))⟩) = (CallOk Tryz.prog 3 (toDts [Zq,T_int] (x,(n,()))) ⟨true,T_bool,true,false,Z1t K x n⟩)) ▸ h
theorem law_true {P:Program} {f:FuncId} {t u:Ty} {x:t.T} {y:u.T} (h:CallOk P f [⟨t,false,x⟩,⟨u,false,y⟩] ⟨true,.bool,true,false,some true⟩) (w:World) (v v':Value) (ok:Nat→Prop) (hok:∀ k,ok k→k < w.heap.size) (hv:V w ok t x v) (hv':V w ok u y v') :
  Calls P f #[v,v'] w fun e w'=>e = .returned (.bool true)∧RowKit.Below w.heap.size w w':=by
 refine (h.goes true rfl w ok [v,v'] hok ⟨hv,hv',trivial⟩).mono ?_
 rintro e w' ⟨u,rfl,hr,_,hg⟩
 obtain ⟨cs,h6,h7⟩:V w' _ .bool true u:=hr
 have h8:cs = [.bool true]:=h6
 rw [h7,h8]
 exact ⟨rfl,hg.below⟩
theorem lawc3 (x:Zq.T) (n:Int) (hB:Bd by_ Zq x) (w:World) (v:Value) (ok:Nat→Prop) (hok:∀ k,ok k→k < w.heap.size) (hv:V w ok Zq x v) :
  Calls Tryz.prog 3 #[v,.int .i64 n] w fun e w'=>e = .returned (.bool true)∧RowKit.Below w.heap.size w w':=by
 obtain ⟨K,hK⟩:∃ K,maxLen + 2≤K:=⟨_,Nat.le_refl _⟩
 have h:=ok3 K x n
 rw [lawCrash hK x n hB] at h
 exact law_true h w v (.int .i64 n) ok hok hv ⟨[.int .i64 n],rfl,rfl⟩
end F5
namespace Go.Proofs.YtofllafpneanoaaGreatDoor.fnExactCrash
open Go.ChangeShapes Go.WideShapes Go.ChangeAt Go.RowKit Go.Fil F5
set_option linter.unusedVariables false
theorem own:ownKnob Tryz.prog.godebug = none:=by kernel_rfl
theorem laidOut:laidOutB Tryz.prog = true:=by kernel_rfl
theorem opensW:OpensF Tryz.prog by_ 31 Zq:=(opX_ok Zq).1 31 (by kernel_rfl)
set_option maxRecDepth 100000 in
theorem lifted (os:Os) (started:os.Started) (H:Type) (enc:TypeId × Value→H) :
  ReturnsInHanded {} Tryz.checked os 3 .any (fun w args=>(Rows.fnExactCrashSpec.pre enc Tryz.prog Tryz.f3 Rows.fnExactCrashRow.domain false w args∧laidMetH Tryz.prog Rows.fnExactCrashRow.laid w)∧sizedMet enc Tryz.prog Tryz.f3 (OpenSpec.ofChange Rows.fnExactCrashSpec) false w args)
   (Rows.fnExactCrashSpec.post enc Tryz.prog Tryz.f3 false true false false):=by
 refine returnsInHanded_of_change_and (C:=Tryz.checked) (X:=fun w _=>laidMetH Tryz.prog Rows.fnExactCrashRow.laid w) (fun _ _ _ hh h=>h.of_heap hh) own started (by kernel_rfl) Tryz.func3
  (ChangeSpec.witness_shaped (enc:=enc) (C:=Tryz.checked) (os:=os) (X:=fun w _=>laidMetH Tryz.prog Rows.fnExactCrashRow.laid w) false (World.laidAll Tryz.prog os Rows.fnExactCrashRow.laid) #[.agg #[.int .i64 0,.slice none 0 0,.slice none 0 0,.int .i64 0,.bool false,.slice none 0 0,.slice none 0 0,.slice none 0 0,.slice none 0 0,.int .i64 0,.int .i64 0],.int .i64 0] 8 (World.laidAll_os _ _ _)
   (World.shaped_of_ZipB (by kernel_rfl) (by kernel_rfl)) (by kernel_rfl) (by kernel_rfl) (by kernel_rfl)
   (by rw [MakeChecks.laidMetH_plain _ _ _ (by kernel_rfl)]; exact laidMet_laidAll _ (by kernel_rfl) (by kernel_rfl))) ?_
 intro W base args ds gs before hval0 hW hcnd hsz0 hL _
 have hsz:(DataW.weightsEach Tryz.prog (Tryz.f3.params.toList ++ Rows.fnExactCrashSpec.plain.varTypes Tryz.prog) (ds ++ gs)).all (·≤reachBytes) = true:=hsz0
 have hval:∀ (j:Nat) t v,Tryz.f3.params[j]? = some t→args[j]? = some v→Value.okWide Tryz.prog W .any base t v:=hval0
 have hW':=hW
 obtain ⟨p,q,hA0,hV,rfl,hfz,hnd⟩:=hW
 have hA:DataW.TrodAll enc Tryz.prog W 0 (fun _=>true) true Tryz.f3.params.toList args.toList ds p:=hA0
 rw [Tryz.params3] at hA hval hsz
 obtain ⟨v0,vs0,d0,ds0,p0,q0,hargs,rfl,rfl,h0,r0⟩:=trodAll_cons hA
 obtain ⟨v1,vs1,d1,ds1,p1,q1,rfl,rfl,rfl,h1,r1⟩:=trodAll_cons r0
 obtain ⟨rfl,rfl,rfl⟩:=trodAll_nil r1
 obtain rfl:args = #[v0,v1]:=by cases args; simp_all
 obtain ⟨rfl,rfl⟩:=trodVars_none hV
 have k0:=h0
 have lt0:∀ x∈p0,x.block < W.heap.size:=by obtain ⟨m,hm⟩:=k0; exact DataW.trod_lt m _ _ _ hm
 obtain ⟨x0,K0,B0⟩:∃ a:Zq.T,K W (fun k=>k < W.heap.size) Zq a v0.cells.toList∧Bd by_ Zq a:=by
  obtain ⟨fuel,hf⟩:=h0
  exact opensW.2 H enc W _ _ _ fuel _ _ hf (fun m hm=>by have:=List.all_eq_true.1 hsz _ (DataW.weights_mem_each (j:=0) (t:=31) rfl rfl m hm); simpa using this)
 obtain ⟨⟨cs0⟩,rfl,_⟩:=okWide_struct Tryz.underlying31 (hval 0 31 v0 rfl rfl)
 have hv:V W (fun k=>k < W.heap.size) Zq x0 (.agg ⟨cs0⟩):=⟨cs0,K0,rfl⟩
 have k1:=h1
 have lt1:∀ x∈p1,x.block < W.heap.size:=by obtain ⟨m,hm⟩:=k1; exact DataW.trod_lt m _ _ _ hm
 obtain ⟨n1,rfl⟩:=okWide_int Tryz.underlying3 (hval 1 3 v1 rfl rfl)
 clear hA0 hval0 hsz0 hsz
 refine (lawc3 x0 n1 B0 W _ _ (fun k hk=>hk) hv).mono ?_
 rintro e W' ⟨rfl,bel⟩
 exact ⟨_,rfl,_,_,_,[],_,[],hW',trodAll_mk1 (shut_bool Tryz.underlying4 _),(trodAll_cons_mk (Below.trod laidOut (by kernel_rfl) (of_decide_eq_true (by kernel_rfl)) k0 bel lt0) (trodAll_cons_mk (Below.trod laidOut (by kernel_rfl) (of_decide_eq_true (by kernel_rfl)) k1 bel lt1) trodAll_mk0)),rfl,bel.frame _,fun h=>by cases h⟩
theorem over:Rows.fnExactCrashRow.holds Tryz.pinned (OpenSpec.ofChange Rows.fnExactCrashSpec) :=
 OpenClaim.holds_of_wide 3 Tryz.f3 rfl rfl rfl rfl rfl rfl rfl ⟨rfl,rfl,rfl,rfl,rfl⟩ rfl rfl rfl rfl rfl (by kernel_rfl) Tryz.func3 closed
  (of_decide_eq_true (by kernel_rfl)) (by unfold Func.isWrapper; first | (rw [if_pos (by decide +kernel)]; kernel_rfl) | (rw [if_neg (by decide +kernel)]; exact ⟨rfl,rfl⟩))
  (fun os started H enc _=>lifted os started H enc)
theorem proved:Rows.FnExactCrashSaid:=over
#print axioms proved
end Go.Proofs.YtofllafpneanoaaGreatDoor.fnExactCrash
