/- Whole functions: what the evaluator gives is what the call returns. -/
import Derived.Test.YtofllafpneanoaaGreatDoorFil10
set_option linter.unusedSectionVars false
namespace Go.Fil
open Go.RowKit
set_option linter.unusedVariables false
set_option linter.unusedSimpArgs false
theorem exists_least (p:Nat→Prop):∀ n,p n→∃ m,p m∧∀ k,p k→m≤k:=by
 intro n
 induction n using Nat.strongRecOn with
 | _ n ih =>
  intro hn
  by_cases h:∃ k,k < n∧p k
  ·obtain ⟨k,h1,h2⟩:=h
   exact ih k h1 h2
  ·exact ⟨n,hn,fun k hk=>Nat.le_of_not_lt (fun hlt=>h ⟨k,hlt,hk⟩)⟩
open Classical in
noncomputable def least (p:Nat→Prop):Nat:=if h:∃ n,p n then Classical.choose (exists_least p h.choose h.choose_spec) else 0
theorem least_le {p:Nat→Prop} {n:Nat} (h:p n):least p≤n:=by
 unfold least
 rw [dif_pos ⟨n,h⟩]
 exact (Classical.choose_spec (exists_least p (⟨n,h⟩:∃ n,p n).choose (⟨n,h⟩:∃ n,p n).choose_spec)).2 n h
theorem least_spec {p:Nat→Prop} {n:Nat} (h:p n):p (least p):=by
 unfold least
 rw [dif_pos ⟨n,h⟩]
 exact (Classical.choose_spec (exists_least p (⟨n,h⟩:∃ n,p n).choose (⟨n,h⟩:∃ n,p n).choose_spec)).1
def Ex.out:Ex→Exit
 | .normal=>.normal
 | .exit id=>.exit id
 | .ret=>.ret
section
variable [Lin] {P:Program} {E:Env} {a:Act} {w:World} {B:Nat} {okA:Nat→Prop} {w0:World} {β:Nat→Value} {st:St} {ρ:Type} {r:ρ}
theorem loop_sound {body:St→(Ex→St→Option ρ)→Option ρ} {clr:St→St} {c:Code} {K:Ex→St→Option ρ} {Q:Exit→Act→World→Prop}
  (hclr:∀ β st a w,Sim B okA w0 β st a w→Sim B okA w0 β (clr st) a w)
  (hbody:∀ (β:Nat→Value) (st:St) (a:Act) (w:World) (K':Ex→St→Option ρ) (Q':Exit→Act→World→Prop),Sim B okA w0 β st a w→body st K' = some r→(∀ ex β' st' a' w',Sim B okA w0 β' st' a' w'→K' ex st' = some r→Q' ex.out a' w')→c.wp P Q' a w)
  (n:Nat) (hs:Sim B okA w0 β st a w) (h:loopK body clr n st K = some r) (hq:∀ ex β' st' a' w',ex≠.normal→Sim B okA w0 β' st' a' w'→K ex st' = some r→Q ex.out a' w'):(Code.loop c).wp P Q a w:=by
 refine wp_loop (fun a w=>∃ n β st,Sim B okA w0 β st a w∧loopK body clr n st K = some r) (fun a w=>least fun n=>∃ β st,Sim B okA w0 β st a w∧loopK body clr n st K = some r) ⟨n,β,st,hs,h⟩ ?_
 rintro a w ⟨n,β,st,hs,h⟩
 obtain ⟨β1,st1,hs1,h1⟩:=least_spec (p:=fun n=>∃ β st,Sim B okA w0 β st a w∧loopK body clr n st K = some r) ⟨β,st,hs,h⟩
 generalize hm:(least fun n=>∃ β st,Sim B okA w0 β st a w∧loopK body clr n st K = some r) = m at h1
 cases m with
 | zero=>simp [loopK] at h1
 | succ m =>
  simp only [loopK] at h1
  refine hbody β1 st1 a w _ _ hs1 h1 ?_
  intro ex β' st' a' w' hs' h'
  cases ex with
  | normal =>
   simp only at h'
   refine ⟨⟨m,β',clr st',hclr _ _ _ _ hs',h'⟩,?_⟩
   have:=least_le (p:=fun n=>∃ β st,Sim B okA w0 β st a' w'∧loopK body clr n st K = some r) ⟨β',clr st',hclr _ _ _ _ hs',h'⟩
   omega
  | exit id=>exact hq _ _ _ _ _ (by simp) hs' h'
  | ret=>exact hq _ _ _ _ _ (by simp) hs' h'
theorem code_sound (he:EnvOk P E) (hm:P.follows .mixedOrders = true):∀ (c:Code) {β:Nat→Value} {st:St} {a:Act} {w:World} {K:Ex→St→Option ρ} {Q:Exit→Act→World→Prop},Sim B okA w0 β st a w→codeK E dokB c st K = some r →
  (∀ ex β' st' a' w',Sim B okA w0 β' st' a' w'→K ex st' = some r→Q ex.out a' w')→c.wp P Q a w:=by
 intro c
 induction c with
 | skip=>intro β st a w K Q hs h hq; exact wp_skip (hq .normal _ _ _ _ hs h)
 | label l=>intro β st a w K Q hs h hq; exact wp_label (hq .normal _ _ _ _ hs h)
 | region id ops dr =>
  intro β st a w K Q hs h hq
  simp only [codeK] at h
  cases dr with
  | false =>
   simp only [Bool.false_eq_true,if_false] at h
   refine wp_region (ops_sound he ops.toList (List.range ops.size) ?_ hs h (fun β' st' a' w' hs' h'=>hq .normal _ _ _ _ hs' h'))
   apply List.ext_getElem?
   intro j
   by_cases hj:j < ops.size
   ·simp [hj]
   ·simp [hj]
  | true =>
   simp only [if_true] at h
   split at h
   ·rename_i hd
    exact region_draw_sound he hm hd hs h (fun β' st' a' w' hs' h'=>hq .normal _ _ _ _ hs' h')
   ·cases h
 | seq x y ihx ihy =>
  intro β st a w K Q hs h hq
  simp only [codeK] at h
  refine wp_seq (ihx hs h ?_)
  intro ex β' st' a' w' hs' h'
  cases ex with
  | normal=>exact ihy hs' h' hq
  | exit id=>exact hq (.exit id) _ _ _ _ hs' h'
  | ret=>exact hq .ret _ _ _ _ hs' h'
 | cond c x y ihx ihy =>
  intro β st a w K Q hs h hq
  simp only [codeK] at h
  split at h
  ·rename_i fr b hA
   have hv:=hs.val c
   rw [hA] at hv
   have hb:=bool_of_V hv
   rcases br_some h with ⟨hb',h⟩ | ⟨hb',h⟩
   ·subst hb'; exact wp_cond_true hb (ihx hs h hq)
   ·subst hb'; exact wp_cond_false hb (ihy hs h hq)
  ·cases h
 | block id x ih =>
  intro β st a w K Q hs h hq
  simp only [codeK] at h
  refine wp_block (ih hs h ?_)
  intro ex β' st' a' w' hs' h'
  cases ex with
  | normal=>exact hq .normal _ _ _ _ hs' h'
  | exit id' =>
   show if id' = id then Q .normal a' w' else Q (.exit id') a' w'
   simp only at h'
   split at h'
   ·rename_i e; rw [if_pos e]; exact hq .normal _ _ _ _ hs' h'
   ·rename_i e; rw [if_neg e]; exact hq (.exit id') _ _ _ _ hs' h'
  | ret=>exact hq .ret _ _ _ _ hs' h'
 | loop x ih =>
  intro β st a w K Q hs h hq
  simp only [codeK] at h
  exact loop_sound (fun β st a w hs=>hs.clear _ _) (fun β st a w K' Q' hs' h' hq'=>ih hs' h' hq') E.fuel (hs.clear _ _) h (fun ex β' st' a' w' _ hs' h'=>hq ex _ _ _ _ hs' h')
 | exit id=>intro β st a w K Q hs h hq; exact wp_exit (hq (.exit id) _ _ _ _ hs h)
 | ret=>intro β st a w K Q hs h hq; exact wp_ret (hq .ret _ _ _ _ hs h)
 | _=>intro β st a w K Q hs h hq; simp [codeK] at h
def okR (w:World) (B:Nat) (okA:Nat→Prop) (fr:Bool) (k:Nat):Prop:=(okA k∨B≤k)∧(fr = true→B≤k∧Plain w k)
theorem okD_R {ob:List (Option Ob)} {fr:Bool} {k:Nat} (h:okD w B okA β ob fr k):okR w B okA fr k:=⟨h.1,h.2.2⟩
def resOne (tmps:Array Value):ResultVar→Sem Value
 | .tmp t=>pure (tmps.getD t undef)
 | .cell x t=>do loadVar t (← asAddr (tmps.getD x undef))
theorem results_sound (he:EnvOk P E) {fr:Bool}:∀ (rs:List ResultVar) (tys:List Nat) {st:St} (t:Ty) {y:t.T},Sim B okA w0 β st a w→results E fr rs tys st t = some y →
  ∃ vs:List Value,(rs.mapM (resOne a.tmps)).run P w = .ok vs w∧All2 (fun d u=>V w (okR w B okA fr) d.t d.x u) (split fr t y) vs∧vs.length = rs.length
 | [],[],st,t,y,hs,h=>by
  cases t with
  | unit=>exact ⟨[],by simp,trivial,rfl⟩
  | _=>simp [results] at h
 | .tmp x :: rs,ty :: tys,st,t,y,hs,h=>by
  cases t with
  | pair t u =>
   simp only [results] at h
   have hs':=hs.freezeAll [.tmp x]
   split at h
   ·rename_i d hd
    split at h
    ·cases h
    ·rename_i hfr
     split at h
     ·rename_i z hz
      obtain ⟨y',hy,rfl⟩:=Option.map_eq_some_iff.1 h
      obtain ⟨dt,dfr,dx⟩:=d
      obtain ⟨e,hz⟩:=cast?_some hz
      simp only at e
      subst e
      simp only at hz
      subst hz
      obtain ⟨hV,_⟩:=dtOf_V hd (hs'.val (.tmp x))
      obtain ⟨vs,h1,h2,h3⟩:=results_sound he rs tys u hs' hy
      refine ⟨a.tmps.getD x undef :: vs,?_,⟨?_,h2⟩,by simp [h3]⟩
      ·rw [List.mapM_cons]
       simp [resOne,h1]
      ·have hfr':fr = true→dfr = true:=by
        intro hf; subst hf
        cases dfr
        ·simp at hfr
        ·rfl
       exact V_step (fun k hk hlt=>⟨okD_R (okD_weak hfr' hk),hlt,rfl⟩) hV
     ·cases h
   ·cases h
  | _=>simp [results] at h
 | .cell x ty' :: rs,ty :: tys,st,t,y,hs,h=>by
  cases t with
  | pair t u =>
   simp only [results] at h
   split at h
   ·rename_i i s off t' hT hA
    split at h
    ·rename_i t0 fr0 v hob
     split at h
     ·cases h
     ·rename_i hcond
      split at h
      ·rename_i z hz
       obtain ⟨y',hy,rfl⟩:=Option.map_eq_some_iff.1 h
       have hc:(fr = true→(fr0 || t.flat) = true)∧i.ty = t:=by
        simp only [Bool.or_eq_true,not_or,Bool.and_eq_true,Bool.not_eq_true',decide_eq_false_iff_not,Classical.not_not] at hcond
        refine ⟨fun hf=>?_,hcond.2⟩
        have:=hcond.1
        simp only [hf,true_and] at this
        cases hq:(fr0 || t.flat)
        ·exact absurd hq this
        ·rfl
       obtain ⟨hc1,rfl⟩:=hc
       have hv:=hs.val (.tmp x)
       rw [hA] at hv
       obtain ⟨g,hb,hpv,_⟩:=hv
       obtain ⟨g',cs,e,h2,h3,h4,h5⟩:=hs.ob _ _ hob
       rw [hb] at h2
       obtain rfl:g = g':=by injection h2 with h2; injection h2 with h2; injection h2
       have h6:=sub_K hz h5
       have ht:=he.T _ _ hT
       obtain ⟨vs,k1,k2,k3⟩:=results_sound he rs tys u hs hy
       have hev:a.tmps.getD x undef = .pointer (some ⟨g,off,none⟩):=hpv
       refine ⟨i.ty.val ((cs.toList.drop off).take i.ty.sz) :: vs,?_,⟨?_,k2⟩,by simp [k3]⟩
       ·rw [List.mapM_cons]
        have hl:=run_loadVar (w:=w) ht (K_len h6) ((at_row h4 off).take _)
        simp [resOne,hev,asAddr,hl,k1]
       ·have:=V_fr (V_of h6)
        exact V_step (fun k hk hlt=>⟨okD_R (okD_weak hc1 hk),hlt,rfl⟩) this
      ·cases h
    ·cases h
   ·cases h
  | _=>simp [results] at h
 | [],_ :: _,st,t,y,hs,h=>by cases t <;> simp [results] at h
 | .tmp _ :: _,[],st,t,y,hs,h=>by cases t <;> simp [results] at h
 | .cell _ _ :: _,[],st,t,y,hs,h=>by cases t <;> simp [results] at h
theorem results_run {fn:Func} {vs:List Value} (h:(fn.results.toList.mapM (resOne a.tmps)).run P w = .ok vs w) :
  (Go.results fn a.tmps).run P w = .ok (if h:vs.toArray.size = 1 then vs.toArray[0] else .tuple vs.toArray) w:=by
 have hdef:Go.results fn a.tmps = (do let vs ← fn.results.mapM (resOne a.tmps); pure (if h:vs.size = 1 then vs[0] else .tuple vs)):=by
  unfold Go.results
  congr 1
 rw [hdef]
 have h1:∀ (f:ResultVar→Sem Value) (l:Array ResultVar),(l.toList.mapM f).run P w = .ok vs w→(l.mapM f).run P w = .ok vs.toArray w:=by
  intro f l hl
  obtain ⟨l⟩:=l
  rw [List.mapM_toArray]
  have h2:List.toArray <$> l.mapM f = (do let x ← l.mapM f; pure x.toArray):=rfl
  rw [h2,Sem.run_bind]
  simp only at hl
  rw [hl]
  simp
 rw [Sem.run_bind,h1 _ _ h]
 simp
omit [Lin] in
/-- A function's contract, of its code. -/
theorem run_ok (he:EnvOk P E) (hm:P.follows .mixedOrders = true) {f:FuncId} {fn:Func} (hf:P.funcs[f]? = some fn) (hb:fn.body≠none) (hn:fn.name≠"runtime.NumGoroutine") (one:Bool) (t:Ty) (fr:Bool) (ds:List Dt) :
  CallOk P f ds ⟨one,t,fr,false,run E dokB one t fr fn ds⟩ where
 fn:=⟨fn,hf,hb,hn⟩
 goes:=by
  intro y hy w okA vs hokA hargs
  letI:Lin:=⟨w,fun _=>False,fun _=>False,undef,fun _ _=>False,fun _=>False⟩
  simp only at y hy
  unfold run at hy
  split at hy
  ·rename_i c hc
   split at hy
   ·rename_i hlen
    refine calls_of_wp hf hc ?_
    have hvl:=hargs.length
    have hsim:Sim w.heap.size okA w (fun _=>undef) (start fn.ntmps ds) { tmps:=vs.toArray ++ Array.replicate (fn.ntmps - vs.toArray.size) undef,defers:=[] } w:=by
     have hobn:∀ s o,St.obj (start fn.ntmps ds).ob s≠some o:=by
      intro s o h
      simp only [start,St.obj,List.getElem?_replicate] at h
      split at h <;> simp at h
     refine { len:=by simp [start,hvl],tm:=?_,ob:=fun s o h=>absurd h (hobn s o),apart:=fun s s' o o' k h=>absurd h (hobn s o),below:=BelowM.refl _ _ _,mrk:=fun k hk=>hk.elim,lt:=fun k hk=>hk.elim,one:=fun s e t xs h=>absurd h (hobn s _),ltN:=fun k hk=>hk.elim,ltT:=fun k hk=>hk.elim,size:=Nat.le_refl _,arg:=hokA,pin:=fun h=>absurd rfl h,defers:=rfl }
     intro i A hA
     simp only [start] at hA
     rw [List.getElem?_append] at hA
     split at hA
     ·rename_i hi
      simp only [List.length_map] at hi
      simp only [List.getElem?_map,Option.map_eq_some_iff] at hA
      obtain ⟨d,hd,rfl⟩:=hA
      have hiv:i < vs.length:=by omega
      have hv:=hargs.get hd (List.getElem?_eq_getElem hiv)
      have heq:(vs.toArray ++ Array.replicate (fn.ntmps - vs.toArray.size) undef).getD i undef = vs[i]:=by
       rw [Array.getD_eq_getD_getElem?,Array.getElem?_append_left (by simpa using hiv)]
       simp [hiv]
      show RepA w _ _ _ _ ((vs.toArray ++ Array.replicate (fn.ntmps - vs.toArray.size) undef).getD i undef)
      rw [heq]
      have h0:V w (okD w w.heap.size okA (fun _=>undef) (start fn.ntmps ds).ob false) d.t d.x vs[i] :=
       V_step (fun k hk hlt=>⟨⟨.inl hk,fun ⟨s,o,h1,_⟩=>hobn s o h1,fun h=>by cases h⟩,hlt,rfl⟩) hv
      have h1:=V_fr h0
      simp only [Bool.false_or] at h1
      exact h1
     ·rw [List.getElem?_replicate] at hA
      split at hA
      ·injection hA with hA; subst hA; trivial
      ·cases hA
    refine code_sound he hm c hsim hy ?_
    intro ex β' st' a' w' hs' h'
    have hg:Grow w w':=⟨hs'.below.below (fun k hk=>hk.elim id (fun h=>h.elim id id))⟩
    have fin:∀ v,(Go.results fn a'.tmps).run P w' = .ok v w'→RetV w' (fun k=>(okA k∨w.heap.size≤k)∧(fr = true→w.heap.size≤k∧Plain w' k)) ⟨one,t,fr,false,run E dokB one t fr fn ds⟩ y v→bodyPost P fn (fun e w'=>∃ v,e = .returned v∧RetV w' (fun k=>(okA k∨w.heap.size≤k)∧(fr = true→w.heap.size≤k∧Plain w' k)) ⟨one,t,fr,false,run E dokB one t fr fn ds⟩ y v∧(false = true→RowV w' w.heap.size (fun k=>(okA k∨w.heap.size≤k)∧(fr = true→w.heap.size≤k∧Plain w' k)) v t y)∧Grow w w') .normal a' w' :=
     fun v h1 h2=>⟨hs'.defers,v,h1,v,rfl,h2,(fun h=>by cases h),hg⟩
    have key:(if one then (match results E fr fn.results.toList fn.resultTypes.toList st' (.pair t .unit) with | some x=>some x.1 | none=>none) else if fn.results.size = 1 then none else results E fr fn.results.toList fn.resultTypes.toList st' t) = some y →
      bodyPost P fn (fun e w'=>∃ v,e = .returned v∧RetV w' (fun k=>(okA k∨w.heap.size≤k)∧(fr = true→w.heap.size≤k∧Plain w' k)) ⟨one,t,fr,false,run E dokB one t fr fn ds⟩ y v∧(false = true→RowV w' w.heap.size (fun k=>(okA k∨w.heap.size≤k)∧(fr = true→w.heap.size≤k∧Plain w' k)) v t y)∧Grow w w') .normal a' w':=by
     intro hk
     cases one with
     | true =>
      simp only [if_true] at hk
      split at hk
      ·rename_i x hx
       injection hk with hk
       subst hk
       obtain ⟨us,h1,h2,h3⟩:=results_sound he _ _ _ hs' hx
       cases us with
       | nil=>exact h2.elim
       | cons u us =>
        cases us with
        | cons _ _=>exact h2.2.elim
        | nil =>
         refine fin u (results_run h1) ?_
         unfold RetV
         exact h2.1
      ·cases hk
     | false =>
      simp only [Bool.false_eq_true,if_false] at hk
      split at hk
      ·cases hk
      ·rename_i h1ne
       obtain ⟨us,h1,h2,h3⟩:=results_sound he _ _ _ hs' hk
       have hus:¬ us.toArray.size = 1:=by simp [h3]; simpa using h1ne
       have hr:=results_run h1
       rw [dif_neg hus] at hr
       refine fin _ hr ?_
       unfold RetV
       exact ⟨us,rfl,h2⟩
    cases ex with
    | normal=>exact key h'
    | ret=>exact key h'
    | exit id=>simp [endK] at h'
   ·cases hy
  ·cases hy
theorem resTree_sound (he:EnvOk P E) (hs:Sim B okA w0 β st a w) {sh:Sh} {t:Ty} {rs:List ResultVar} {y:t.T} (h:resTree E sh t rs st = some y) :
  ∃ cs L,(rs.mapM (resOne a.tmps)).run P w = .ok [t.val cs] w∧KS w (okD w B okA β st.ob false) sh t y cs L∧L.Nodup∧(∀ k∈L,B≤k∨Lin.T k)∧∀ k∈L,Ow β st.ob k:=by
 unfold resTree at h
 split at h
 ·rename_i x ty
  split at h
  case h_2=>cases h
  rename_i _ _ i s off t' hT hA
  split at h
  case h_2=>cases h
  rename_i sh' t0 x0 hob
  split at h
  case isFalse=>cases h
  rename_i hc
  obtain ⟨rfl,rfl,hit⟩:=hc
  obtain ⟨rfl,rfl⟩:=cast?_some h
  have ht:=he.T _ _ hT
  have hv:=hs.val (.tmp x)
  rw [hA] at hv
  obtain ⟨u,L,bx',sh2,t1,x1,hb,hob',hv⟩:=hv
  obtain ⟨rc,Lr,hr⟩:=hs.root hob hb
  obtain ⟨g,c,e,rfl,hg,rfl,rfl⟩:=hr.box rfl
  have hev:a.tmps.getD x undef = .pointer (some ⟨g,0,none⟩):=by
   rcases hv with ⟨_,_,g',h1,h2⟩ | ⟨_,g',q,h1,_⟩
   ·injection h1 with h1; injection h1 with h1; injection h1 with h1
    subst h1
    exact h2
   ·exact h1.elim
  have hlc:=KS_len hr.ks
  have hl:=run_loadVar (w:=w) ht (ad:=⟨g,0,none⟩) (cs:=c.toList) (by rw [hit]; exact hlc) (by simpa using at_row hg 0)
  refine ⟨c.toList,Lr,?_,hr.ks,hr.ndr,fun k hk=>((hs.ob s _ hob).lt (by rw [hb]; exact owns_tup.2 (by simp [hk]))).1,fun k hk=>⟨s,_,hob,by rw [hb]; exact owns_tup.2 (by simp [hk])⟩⟩
  rw [hit] at hl
  simp [resOne,hev,asAddr,hl]
 ·rename_i x
  split at h
  case h_2=>cases h
  rename_i s off t' hA
  split at h
  case h_2=>cases h
  rename_i sh' t0 x0 hob
  split at h
  case isFalse=>cases h
  rename_i hc
  obtain ⟨rfl,rfl,rfl⟩:=hc
  obtain ⟨rfl,rfl⟩:=cast?_some h
  have hv:=hs.val (.tmp x)
  rw [hA] at hv
  obtain ⟨u,L,bx',sh2,t1,x1,cs,hb,hob',hin,hpc,hev⟩:=hv
  rw [hob] at hob'
  obtain ⟨rfl,_⟩:=tr_inj hob'
  obtain ⟨rc,Lr,hr⟩:=hs.root hob hb
  obtain ⟨hu,rfl⟩:=hr.val rfl
  have hcs:cs = rc:=by
   rcases hpc with ⟨_,h1⟩ | ⟨g,q,cur,e,fz,h1,_⟩
   ·rw [h1,hr.root,List.drop_zero,← KS_len hr.ks,List.take_length]
   ·exact h1.elim
  subst hcs
  have hev:a.tmps.getD x undef = t'.val cs:=hev
  refine ⟨cs,L,?_,hr.ks,hr.nd,fun k hk=>((hs.ob s _ hob).lt (by rw [hb]; exact owns_tup.2 hk)).1,fun k hk=>⟨s,_,hob,by rw [hb]; exact owns_tup.2 hk⟩⟩
  simp [resOne,hev]
 ·cases h
omit [Lin] in
/-- A function that gives a tree. -/
theorem runS_ok (he:EnvOk P E) (hm:P.follows .mixedOrders = true) {f:FuncId} {fn:Func} (hf:P.funcs[f]? = some fn) (hb:fn.body≠none) (hn:fn.name≠"runtime.NumGoroutine") (sh:Sh) (t:Ty) (ds:List Dt) (y:t.T) (hy:runS E dokB sh t fn ds = some y) :
  SOk P f ds false sh t y where
 fn:=⟨fn,hf,hb,hn⟩
 goes:=by
  intro w okA vs hokA hargs
  letI:Lin:=⟨w,fun _=>False,fun _=>False,undef,fun _ _=>False,fun _=>False⟩
  unfold runS at hy
  split at hy
  ·rename_i c hc
   split at hy
   ·rename_i hlen
    refine calls_of_wp hf hc ?_
    have hvl:=hargs.length
    have hsim:Sim w.heap.size okA w (fun _=>undef) (start fn.ntmps ds) { tmps:=vs.toArray ++ Array.replicate (fn.ntmps - vs.toArray.size) undef,defers:=[] } w:=by
     have hobn:∀ s o,St.obj (start fn.ntmps ds).ob s≠some o:=by
      intro s o h
      simp only [start,St.obj,List.getElem?_replicate] at h
      split at h <;> simp at h
     refine { len:=by simp [start,hvl],tm:=?_,ob:=fun s o h=>absurd h (hobn s o),apart:=fun s s' o o' k h=>absurd h (hobn s o),below:=BelowM.refl _ _ _,mrk:=fun k hk=>hk.elim,lt:=fun k hk=>hk.elim,one:=fun s e t xs h=>absurd h (hobn s _),ltN:=fun k hk=>hk.elim,ltT:=fun k hk=>hk.elim,size:=Nat.le_refl _,arg:=hokA,pin:=fun h=>absurd rfl h,defers:=rfl }
     intro i A hA
     simp only [start] at hA
     rw [List.getElem?_append] at hA
     split at hA
     ·rename_i hi
      simp only [List.length_map] at hi
      simp only [List.getElem?_map,Option.map_eq_some_iff] at hA
      obtain ⟨d,hd,rfl⟩:=hA
      have hiv:i < vs.length:=by omega
      have hv:=hargs.get hd (List.getElem?_eq_getElem hiv)
      have heq:(vs.toArray ++ Array.replicate (fn.ntmps - vs.toArray.size) undef).getD i undef = vs[i]:=by
       rw [Array.getD_eq_getD_getElem?,Array.getElem?_append_left (by simpa using hiv)]
       simp [hiv]
      show RepA w _ _ _ _ ((vs.toArray ++ Array.replicate (fn.ntmps - vs.toArray.size) undef).getD i undef)
      rw [heq]
      have h0:V w (okD w w.heap.size okA (fun _=>undef) (start fn.ntmps ds).ob false) d.t d.x vs[i] :=
       V_step (fun k hk hlt=>⟨⟨.inl hk,fun ⟨s,o,h1,_⟩=>hobn s o h1,fun h=>by cases h⟩,hlt,rfl⟩) hv
      have h1:=V_fr h0
      simp only [Bool.false_or] at h1
      exact h1
     ·rw [List.getElem?_replicate] at hA
      split at hA
      ·injection hA with hA; subst hA; trivial
      ·cases hA
    refine code_sound he hm c hsim hy ?_
    intro ex β' st' a' w' hs' h'
    have hg:Grow w w':=⟨hs'.below.below (fun k hk=>hk.elim id (fun h=>h.elim id id))⟩
    have key:resTree E sh t fn.results.toList st' = some y→bodyPost P fn (fun e w'=>∃ cs L,e = .returned (t.val cs)∧KS w' (fun k=>(okA k∨w.heap.size≤k)∧k∉L) sh t y cs L∧L.Nodup∧(∀ k∈L,w.heap.size≤k)∧Grow w w') .normal a' w':=by
     intro hk
     obtain ⟨cs,L,h1,h2,h3,h4,h5⟩:=resTree_sound he hs' hk
     exact ⟨hs'.defers,_,results_run h1,cs,L,rfl,KS_step (fun k hk hlt=>⟨⟨hk.1,fun h=>hk.2.1 (h5 k h)⟩,hlt,rfl⟩) (fun _ _=>rfl) h2,h3,fun k hk=>(h4 k hk).resolve_right (fun h=>h),hg⟩
    cases ex with
    | normal=>exact key h'
    | ret=>exact key h'
    | exit id=>simp [endS] at h'
   ·cases hy
  ·cases hy
theorem mapM_one {f:ResultVar→Sem Value} {r:ResultVar} {v:Value} {w w':World} (h:([r].mapM f).run P w = .ok [v] w'):(f r).run P w = .ok v w':=by
 rw [List.mapM_cons,List.mapM_nil] at h
 rw [Sem.run_bind] at h
 cases h1:(f r).run P w with
 | ok y w1 =>
  rw [h1] at h
  simp at h
  rw [h.1,h.2]
 | _=>rw [h1] at h; simp [Result.andThen] at h
theorem resTree2_sound (he:EnvOk P E) (hs:Sim B okA w0 β st a w) {sh:Sh} {t:Ty} {rs:List ResultVar} {y:t.T} (h:resTree2 E sh t rs st = some y) :
  ∃ cs L,(rs.mapM (resOne a.tmps)).run P w = .ok (tvals t cs) w∧KS w (okD w B okA β st.ob false) sh t y cs L∧L.Nodup∧(∀ k∈L,B≤k∨Lin.T k)∧(∀ k∈L,Ow β st.ob k)∧(tvals t cs).length = 2:=by
 unfold resTree2 at h
 split at h
 case h_2=>cases h
 rename_i sh1 t1 t2 x ty b
 split at h
 case h_2=>cases h
 rename_i _ _ y1 t2' fr z hy1 hA
 split at h
 case isFalse=>cases h
 rename_i hsc
 split at h
 case h_2=>cases h
 rename_i y2 hz
 injection h with h
 subst h
 obtain ⟨rfl,rfl⟩:=cast?_some hz
 obtain ⟨c1,L,k1,k2,k3,k4,k5⟩:=resTree_sound he hs hy1
 have hv:=hs.val (.tmp b)
 rw [hA] at hv
 obtain ⟨c2,k6,k7⟩:=hv
 have hfl:t2'.flat = true:=by cases t2' <;> simp_all [Ty.scal,Ty.flat]
 have l1:=KS_len k2
 have l2:=K_len k6
 have hev:a.tmps.getD b undef = t2'.val c2:=k7
 have htv:tvals (.pair t1 (.pair t2' .unit)) (c1 ++ (c2 ++ [])) = [t1.val c1,t2'.val c2]:=by
  have e1:(c1 ++ c2).take t1.sz = c1:=by rw [← l1,List.take_left' rfl]
  have e2:(c1 ++ c2).drop t1.sz = c2:=by rw [← l1,List.drop_left' rfl]
  have e3:c2.take t2'.sz = c2:=by rw [← l2,List.take_length]
  simp [tvals,e1,e2,e3]
 refine ⟨c1 ++ (c2 ++ []),L ++ ([] ++ []),?_,⟨c1,c2 ++ [],L,[] ++ [],rfl,rfl,k2,c2,[],[],[],rfl,rfl,⟨rfl,K_flat hfl k6⟩,⟨rfl,rfl⟩⟩,by simpa using k3,fun k hk=>k4 k (by simpa using hk),fun k hk=>k5 k (by simpa using hk),by rw [htv]; rfl⟩
 have:=mapM_one k1
 rw [htv,List.mapM_cons,List.mapM_cons,List.mapM_nil,Sem.run_bind,this]
 simp [resOne,hev]
omit [Lin] in
/-- A function that gives a tree and a scalar. -/
theorem runS2_ok (he:EnvOk P E) (hm:P.follows .mixedOrders = true) {f:FuncId} {fn:Func} (hf:P.funcs[f]? = some fn) (hb:fn.body≠none) (hn:fn.name≠"runtime.NumGoroutine") (sh:Sh) (t:Ty) (ds:List Dt) (y:t.T) (hy:runS2 E dokB sh t fn ds = some y) :
  SOk P f ds true sh t y where
 fn:=⟨fn,hf,hb,hn⟩
 goes:=by
  intro w okA vs hokA hargs
  letI:Lin:=⟨w,fun _=>False,fun _=>False,undef,fun _ _=>False,fun _=>False⟩
  unfold runS2 at hy
  split at hy
  ·rename_i c hc
   split at hy
   ·rename_i hlen
    refine calls_of_wp hf hc ?_
    have hvl:=hargs.length
    have hsim:Sim w.heap.size okA w (fun _=>undef) (start fn.ntmps ds) { tmps:=vs.toArray ++ Array.replicate (fn.ntmps - vs.toArray.size) undef,defers:=[] } w:=by
     have hobn:∀ s o,St.obj (start fn.ntmps ds).ob s≠some o:=by
      intro s o h
      simp only [start,St.obj,List.getElem?_replicate] at h
      split at h <;> simp at h
     refine { len:=by simp [start,hvl],tm:=?_,ob:=fun s o h=>absurd h (hobn s o),apart:=fun s s' o o' k h=>absurd h (hobn s o),below:=BelowM.refl _ _ _,mrk:=fun k hk=>hk.elim,lt:=fun k hk=>hk.elim,one:=fun s e t xs h=>absurd h (hobn s _),ltN:=fun k hk=>hk.elim,ltT:=fun k hk=>hk.elim,size:=Nat.le_refl _,arg:=hokA,pin:=fun h=>absurd rfl h,defers:=rfl }
     intro i A hA
     simp only [start] at hA
     rw [List.getElem?_append] at hA
     split at hA
     ·rename_i hi
      simp only [List.length_map] at hi
      simp only [List.getElem?_map,Option.map_eq_some_iff] at hA
      obtain ⟨d,hd,rfl⟩:=hA
      have hiv:i < vs.length:=by omega
      have hv:=hargs.get hd (List.getElem?_eq_getElem hiv)
      have heq:(vs.toArray ++ Array.replicate (fn.ntmps - vs.toArray.size) undef).getD i undef = vs[i]:=by
       rw [Array.getD_eq_getD_getElem?,Array.getElem?_append_left (by simpa using hiv)]
       simp [hiv]
      show RepA w _ _ _ _ ((vs.toArray ++ Array.replicate (fn.ntmps - vs.toArray.size) undef).getD i undef)
      rw [heq]
      have h0:V w (okD w w.heap.size okA (fun _=>undef) (start fn.ntmps ds).ob false) d.t d.x vs[i] :=
       V_step (fun k hk hlt=>⟨⟨.inl hk,fun ⟨s,o,h1,_⟩=>hobn s o h1,fun h=>by cases h⟩,hlt,rfl⟩) hv
      have h1:=V_fr h0
      simp only [Bool.false_or] at h1
      exact h1
     ·rw [List.getElem?_replicate] at hA
      split at hA
      ·injection hA with hA; subst hA; trivial
      ·cases hA
    refine code_sound he hm c hsim hy ?_
    intro ex β' st' a' w' hs' h'
    have hg:Grow w w':=⟨hs'.below.below (fun k hk=>hk.elim id (fun h=>h.elim id id))⟩
    have key:resTree2 E sh t fn.results.toList st' = some y→bodyPost P fn (fun e w'=>∃ cs L,e = .returned (tupOf t cs)∧KS w' (fun k=>(okA k∨w.heap.size≤k)∧k∉L) sh t y cs L∧L.Nodup∧(∀ k∈L,w.heap.size≤k)∧Grow w w') .normal a' w':=by
     intro hk
     obtain ⟨cs,L,h1,h2,h3,h4,h5,h0⟩:=resTree2_sound he hs' hk
     exact ⟨hs'.defers,_,results_run h1,cs,L,(by rw [dif_neg (by simp [h0])]; rfl),KS_step (fun k hk hlt=>⟨⟨hk.1,fun h=>hk.2.1 (h5 k h)⟩,hlt,rfl⟩) (fun _ _=>rfl) h2,h3,fun k hk=>(h4 k hk).resolve_right (fun h=>h),hg⟩
    cases ex with
    | normal=>exact key h'
    | ret=>exact key h'
    | exit id=>simp [endS2] at h'
   ·cases hy
  ·cases hy
omit [Lin] in
/-- The same, of a function that gives a row of its own. -/
theorem runO_ok (he:EnvOk P E) (hm:P.follows .mixedOrders = true) {f:FuncId} {fn:Func} (hf:P.funcs[f]? = some fn) (hb:fn.body≠none) (hn:fn.name≠"runtime.NumGoroutine") (e:Nat) (te:Ty) (fr:Bool) (ds:List Dt) :
  CallOk P f ds ⟨true,.slice e te,fr,true,runO E dokB e te fr fn ds⟩ where
 fn:=⟨fn,hf,hb,hn⟩
 goes:=by
  intro y hy w okA vs hokA hargs
  letI:Lin:=⟨w,fun _=>False,fun _=>False,undef,fun _ _=>False,fun _=>False⟩
  simp only at y hy
  unfold runO at hy
  split at hy
  ·rename_i c hc
   split at hy
   ·rename_i hlen
    refine calls_of_wp hf hc ?_
    have hvl:=hargs.length
    have hsim:Sim w.heap.size okA w (fun _=>undef) (start fn.ntmps ds) { tmps:=vs.toArray ++ Array.replicate (fn.ntmps - vs.toArray.size) undef,defers:=[] } w:=by
     have hobn:∀ s o,St.obj (start fn.ntmps ds).ob s≠some o:=by
      intro s o h
      simp only [start,St.obj,List.getElem?_replicate] at h
      split at h <;> simp at h
     refine { len:=by simp [start,hvl],tm:=?_,ob:=fun s o h=>absurd h (hobn s o),apart:=fun s s' o o' k h=>absurd h (hobn s o),below:=BelowM.refl _ _ _,mrk:=fun k hk=>hk.elim,lt:=fun k hk=>hk.elim,one:=fun s e t xs h=>absurd h (hobn s _),ltN:=fun k hk=>hk.elim,ltT:=fun k hk=>hk.elim,size:=Nat.le_refl _,arg:=hokA,pin:=fun h=>absurd rfl h,defers:=rfl }
     intro i A hA
     simp only [start] at hA
     rw [List.getElem?_append] at hA
     split at hA
     ·rename_i hi
      simp only [List.length_map] at hi
      simp only [List.getElem?_map,Option.map_eq_some_iff] at hA
      obtain ⟨d,hd,rfl⟩:=hA
      have hiv:i < vs.length:=by omega
      have hv:=hargs.get hd (List.getElem?_eq_getElem hiv)
      have heq:(vs.toArray ++ Array.replicate (fn.ntmps - vs.toArray.size) undef).getD i undef = vs[i]:=by
       rw [Array.getD_eq_getD_getElem?,Array.getElem?_append_left (by simpa using hiv)]
       simp [hiv]
      show RepA w _ _ _ _ ((vs.toArray ++ Array.replicate (fn.ntmps - vs.toArray.size) undef).getD i undef)
      rw [heq]
      have h0:V w (okD w w.heap.size okA (fun _=>undef) (start fn.ntmps ds).ob false) d.t d.x vs[i] :=
       V_step (fun k hk hlt=>⟨⟨.inl hk,fun ⟨s,o,h1,_⟩=>hobn s o h1,fun h=>by cases h⟩,hlt,rfl⟩) hv
      have h1:=V_fr h0
      simp only [Bool.false_or] at h1
      exact h1
     ·rw [List.getElem?_replicate] at hA
      split at hA
      ·injection hA with hA; subst hA; trivial
      ·cases hA
    refine code_sound he hm c hsim hy ?_
    intro ex β' st' a' w' hs' h'
    have hg:Grow w w':=⟨hs'.below.below (fun k hk=>hk.elim id (fun h=>h.elim id id))⟩
    have key:resOwn e te fr fn.results.toList st' = some y →
      bodyPost P fn (fun e' w'=>∃ v,e' = .returned v∧RetV w' (fun k=>(okA k∨w.heap.size≤k)∧(fr = true→w.heap.size≤k∧Plain w' k)) ⟨true,.slice e te,fr,true,runO E dokB e te fr fn ds⟩ y v∧(true = true→RowV w' w.heap.size (fun k=>(okA k∨w.heap.size≤k)∧(fr = true→w.heap.size≤k∧Plain w' k)) v (.slice e te) y)∧Grow w w') .normal a' w':=by
     intro hk
     unfold resOwn at hk
     split at hk
     ·rename_i x hrs
      have hv:=hs'.val (.tmp x)
      have hres:(fn.results.toList.mapM (resOne a'.tmps)).run P w' = .ok [a'.tmps.getD x undef] w':=by
       rw [hrs]; simp [resOne]
      have hrun:=results_run hres
      split at hk
      ·rename_i s hA
       rw [hA] at hv
       split at hk
       ·rename_i e' te' fr' xs hob
        split at hk
        ·cases hk
        ·rename_i hfr
         obtain ⟨q1,q2⟩:=cast?_some hk
         injection q1 with q3 q4
         subst q3; subst q4
         have q2:y = xs:=q2
         subst q2
         obtain ⟨css,k1,k2⟩:=hs'.ob _ _ hob
         have hev:a'.tmps.getD x undef = β' s:=hv.1
         have hK:All2 (fun x cl=>K w' (fun k=>((okA k∨w.heap.size≤k)∧(fr = true→w.heap.size≤k∧Plain w' k))∧blk (β' s)≠some k) te' x cl) y css:=by
          refine k2.imp (fun x cl hx=>?_)
          have hne:∀ fr0 k,okD w' w.heap.size okA β' st'.ob fr0 k→blk (β' s)≠some k:=fun fr0 k hk hb=>hk.2.1 ⟨s,_,hob,.inl hb⟩
          cases hff:te'.flat
          ·have hfr':fr = true→fr' = true:=by
            intro hf; subst hf
            cases fr'
            ·simp [hff] at hfr
            ·rfl
           exact K_step (fun k hk hlt=>⟨⟨okD_R (okD_weak hfr' hk),hne _ k hk⟩,hlt,rfl⟩) hx
          ·exact K_flat hff hx
         have hblk:∀ k,blk (β' s) = some k→(okA k∨w.heap.size≤k)∧(fr = true→w.heap.size≤k∧Plain w' k):=by
          intro k hk
          have h5:=(own_lt' k1 hk).1
          refine ⟨.inr h5,fun _=>⟨h5,?_⟩⟩
          rcases k1.2 with ⟨h6,_⟩ | ⟨g,cap,cur,h6,_,h7,_⟩
          ·rw [h6] at hk; simp [blk] at hk
          ·rw [h6] at hk
           have:g = k:=by simpa [blk] using hk
           subst this
           exact ⟨cur,_,h7⟩
         refine ⟨hs'.defers,_,hrun,_,rfl,?_,fun _=>?_,hg⟩
         ·show V w' _ (.slice e' te') y (a'.tmps.getD x undef)
          rw [hev]
          exact own_V k1 (hK.imp (fun x cl hx=>K_step (fun k hk hlt=>⟨hk.1,hlt,rfl⟩) hx)) hblk
         ·show RowV w' _ _ (a'.tmps.getD x undef) (.slice e' te') y
          rw [hev]
          exact ⟨css,k1,hK⟩
       ·cases hk
      ·rename_i hA
       rw [hA] at hv
       injection hk with hk
       subst hk
       have hev:a'.tmps.getD x undef = .slice none 0 0:=hv
       refine ⟨hs'.defers,_,hrun,_,rfl,?_,fun _=>?_,hg⟩
       ·show V w' _ (.slice e te) [] (a'.tmps.getD x undef)
        rw [hev]
        exact ⟨[.slice none 0 0],⟨none,0,[],rfl,Nat.le_refl _,Nat.zero_le _,trivial,fun h=>by simp at h⟩,rfl⟩
       ·show RowV w' _ _ (a'.tmps.getD x undef) (.slice e te) []
        rw [hev]
        exact ⟨[],World.ownsRow_nil w' w.heap.size e te.sz,trivial⟩
      ·cases hk
     ·cases hk
    cases ex with
    | normal=>exact key h'
    | ret=>exact key h'
    | exit id=>simp [endO] at h'
   ·cases hy
  ·cases hy
omit [Lin] in
theorem endK_one {t:Ty} {fr:Bool} {fn:Func} {ex:Ex} {y:t.T} (h:endK E true t fr fn ex st = some y):∃ x,results E fr fn.results.toList fn.resultTypes.toList st (.pair t .unit) = some x∧x.1 = y:=by
 cases ex <;> simp only [endK,if_true] at h
 ·split at h
  ·rename_i x hx; exact ⟨x,hx,Option.some.inj h⟩
  ·cases h
 ·cases h
 ·split at h
  ·rename_i x hx; exact ⟨x,hx,Option.some.inj h⟩
  ·cases h
theorem KS_ne {w:World} {ok:Nat→Prop} {s:Sh} {t:Ty} {x:t.T} {cs:List Value} {L:List Nat} (h:KS w ok s t x cs L):t.val cs≠undef:=by
 unfold Ty.val
 cases ha:t.agg
 ·obtain ⟨u,rfl⟩:=headD_of (KS_len h) ha
  have:=KS_one h u (by simp)
  intro e
  have e:u = undef:=e
  rw [e] at this
  exact absurd this (by simp [undef,Value.oneCell'])
 ·intro e
  exact absurd e (by simp [undef])
omit [Lin] in
/-- A function that writes the rows of the value that came in. -/
theorem runT_ok (he:EnvOk P E) (hm:P.follows .mixedOrders = true) {f:FuncId} {fn:Func} (hf:P.funcs[f]? = some fn) (hb:fn.body≠none) (hn:fn.name≠"runtime.NumGoroutine") (sh:Sh) (t:Ty) (x:t.T) (k k':Int) (x':t.T) (h:runT E dokB sh t fn x k = some (k',x')) :
  TOk P f sh t x k k' x' where
 fn:=⟨fn,hf,hb,hn⟩
 goes:=by
  intro w okA cs L hokA hK hnd
  letI:Lin:=⟨w,fun _=>False,fun _=>False,t.val cs,fun _ _=>False,fun q=>q∈L⟩
  unfold runT at h
  split at h
  ·rename_i c hc
   split at h
   ·rename_i hlen
    refine calls_of_wp hf hc ?_
    have hob0:∀ s o,St.obj (startT fn.ntmps sh t x k).ob s = some o→s = 0∧o = .tr false sh t x:=by
     intro s o h
     cases s with
     | zero=>simp [startT,St.obj] at h; exact ⟨rfl,h.symm⟩
     | succ s =>
      simp only [startT,St.obj,List.getElem?_cons_succ,List.getElem?_replicate] at h
      split at h <;> simp at h
    have hlt:=KS_lt hK
    have hsim:Sim w.heap.size okA w (fun _=>tupV (t.val cs) L) (startT fn.ntmps sh t x k) { tmps:=#[t.val cs,.int .i64 k] ++ Array.replicate (fn.ntmps - #[t.val cs,Value.int .i64 k].size) undef,defers:=[] } w:=by
     refine { len:=by simp [startT]; omega,tm:=?_,ob:=?_,apart:=?_,below:=BelowM.refl _ _ _,mrk:=fun k hk=>hk.elim,lt:=fun k hk=>hk.elim,one:=fun s e' t' xs' h=>(hob0 _ _ h).1,ltN:=fun k hk=>hk.elim,ltT:=fun q hq=>⟨(hlt q hq).1,fun h=>(hokA q h).2 hq,fun h=>h,fun h=>h⟩,size:=Nat.le_refl _,arg:=fun q hq=>(hokA q hq).1,pin:=fun _ _ _ _ _ _=>⟨L,rfl⟩,defers:=rfl }
     ·intro i A' hA
      simp only [startT] at hA
      match i,hA with
      | 0,hA =>
       simp at hA
       subst hA
       refine ⟨?_,KS_ne hK⟩
       rw [Array.getD_eq_getD_getElem?,Array.getElem?_append_left (by simp)]
       rfl
      | 1,hA =>
       simp at hA
       subst hA
       have:V w (okD w w.heap.size okA (fun _=>tupV (t.val cs) L) (startT fn.ntmps sh t x k).ob true) (.int .i64) k (.int .i64 k):=V_int _ _
       show V w _ (.int .i64) k _
       rw [Array.getD_eq_getD_getElem?,Array.getElem?_append_left (by simp)]
       exact this
      | i + 2,hA =>
       simp only [List.cons_append,List.nil_append,List.getElem?_cons_succ,List.getElem?_replicate] at hA
       split at hA
       ·injection hA with hA; subst hA; trivial
       ·cases hA
     ·intro s o ho
      obtain ⟨rfl,rfl⟩:=hob0 _ _ ho
      refine RepO_tr ?_ hnd (fun q hq=>.inr hq)
      unfold TrIs
      rw [if_neg (by simp)]
      refine ⟨cs,rfl,KS_step (fun q hq hql=>⟨⟨.inl hq,?_,fun h=>by cases h⟩,hql,rfl⟩) (fun _ _=>rfl) hK⟩
      rintro ⟨s',o',h6,h7⟩
      exact (hokA q hq).2 (owns_tup.1 h7)
     ·intro s s' o o' q h1 h2 h3 h4
      rw [(hob0 _ _ h1).1,(hob0 _ _ h2).1]
    refine code_sound he hm c hsim h ?_
    intro ex β' st' a' w' hs' h'
    have key:∀ ex:Ex,(∀ id,ex≠.exit id)→endT E sh t fn ex st' = some (k',x') →
      bodyPost P fn (fun e' w'=>e' = .returned (.int .i64 k')∧(∃ L',KS w' (fun q=>(okA q∨w.heap.size≤q)∧q∉L') sh t x' cs L'∧L'.Nodup∧∀ q∈L',q∈L∨w.heap.size≤q)∧BelowM (fun q=>q∈L) w.heap.size w w') .normal a' w':=by
     intro ex hex hk
     unfold endT at hk
     split at hk
     case h_2=>cases hk
     rename_i y0 hy0
     split at hk
     case h_2=>cases hk
     rename_i sh' t' x2 hob
     split at hk
     case isFalse=>cases hk
     rename_i hsh
     subst hsh
     split at hk
     case h_2=>cases hk
     rename_i z hz
     injection hk with hk
     injection hk with hk1 hk2
     subst hk1; subst hk2
     obtain ⟨qe,hz⟩:=cast?_some hz
     subst qe
     have hz:z = x2:=hz
     subst hz
     obtain ⟨y,hy,rfl⟩:=endK_one hy0
     obtain ⟨us,h1,h2,h3⟩:=results_sound he _ _ _ hs' hy
     cases us with
     | nil=>exact h2.elim
     | cons u us =>
      cases us with
      | cons _ _=>exact h2.2.elim
      | nil =>
       have hu:=int_of_V h2.1
       obtain ⟨L2,hb2⟩:=hs'.pin (KS_ne hK) _ _ _ _ hob
       obtain ⟨rc,Lr,hr⟩:=hs'.root hob hb2
       obtain ⟨hv,rfl⟩:=hr.val rfl
       have hv:t'.val cs = t'.val rc:=hv
       have hcs:cs = rc:=by
        have e1:=val_cells (KS_len hK) (KS_one hK)
        have e2:=val_cells (KS_len hr.ks) (KS_one hr.ks)
        rw [← e1,hv,e2]
       subst hcs
       refine ⟨hs'.defers,u,results_run h1,by rw [hu],⟨L2,KS_step (fun q hq hql=>⟨⟨hq.1,fun h=>hq.2.1 ⟨0,_,hob,by rw [hb2]; exact owns_tup.2 h⟩⟩,hql,rfl⟩) (fun _ _=>rfl) hr.ks,hr.nd,fun q hq=>?_⟩,hs'.below.block' (fun k h=>h.elim (fun h=>h.elim) (fun h=>h.elim (fun h=>h.elim) id))⟩
       exact (((hs'.ob 0 _ hob).lt (by rw [hb2]; exact owns_tup.2 hq)).1).symm
    cases ex with
    | normal=>exact key _ (by simp) h'
    | ret=>exact key _ (by simp) h'
    | exit id=>simp [endT,endK] at h'
   ·cases h
  ·cases h
omit [Lin] in
/-- A function that writes through the pointer that came in. -/
theorem runP_ok (he:EnvOk P E) (hm:P.follows .mixedOrders = true) {f:FuncId} {fn:Func} (hf:P.funcs[f]? = some fn) (hb:fn.body≠none) (hn:fn.name≠"runtime.NumGoroutine") (sh sh':Sh) (t:Ty) (x:t.T) (ds:List Dt) (x':t.T) (h:runP E dokB sh sh' t fn x ds = some x') :
  POk P f sh t x ds sh' x' where
 fn:=⟨fn,hf,hb,hn⟩
 goes:=by
  intro w okA g cs e0 L vs hokA hg hK hnd hargs
  letI:Lin:=⟨w,fun _=>False,fun _=>False,.pointer (some ⟨g,0,none⟩),fun _ _=>False,fun q=>q∈g :: L⟩
  unfold runP at h
  split at h
  ·rename_i c hc
   split at h
   ·rename_i hlen
    refine calls_of_wp hf hc ?_
    have hvl:=hargs.length
    have hob0:∀ s o,St.obj (startP fn.ntmps sh t x ds).ob s = some o→s = 0∧o = .tr true sh t x:=by
     intro s o h
     cases s with
     | zero=>simp [startP,St.obj] at h; exact ⟨rfl,h.symm⟩
     | succ s =>
      simp only [startP,St.obj,List.getElem?_cons_succ,List.getElem?_replicate] at h
      split at h <;> simp at h
    have hlt:∀ q∈g :: L,q < w.heap.size∧Plain w q:=by
     intro q hq
     rcases List.mem_cons.1 hq with rfl | hq
     ·exact ⟨(Array.getElem?_eq_some_iff.1 hg).1,cs,e0,hg⟩
     ·exact KS_lt hK q hq
    have hobl:St.obj (startP fn.ntmps sh t x ds).ob 0 = some (.tr true sh t x):=by simp [startP,St.obj]
    have hokd:∀ q,okA q→okD w w.heap.size okA (fun _=>tupV (.pointer (some ⟨g,0,none⟩)) (g :: L)) (startP fn.ntmps sh t x ds).ob false q:=fun q hq=>⟨.inl hq,fun ⟨s',o',h6,h7⟩=>(hokA q hq).2 (owns_tup.1 h7),fun h=>by cases h⟩
    have hsim:Sim w.heap.size okA w (fun _=>tupV (.pointer (some ⟨g,0,none⟩)) (g :: L)) (startP fn.ntmps sh t x ds) { tmps:=(Value.pointer (some ⟨g,0,none⟩) :: vs).toArray ++ Array.replicate (fn.ntmps - (Value.pointer (some ⟨g,0,none⟩) :: vs).toArray.size) undef,defers:=[] } w:=by
     refine { len:=by simp [startP,hvl]; omega,tm:=?_,ob:=?_,apart:=?_,below:=BelowM.refl _ _ _,mrk:=fun k hk=>hk.elim,lt:=fun k hk=>hk.elim,one:=fun s e' t' xs' h=>(hob0 _ _ h).1,ltN:=fun k hk=>hk.elim,ltT:=fun q hq=>⟨(hlt q hq).1,fun h=>(hokA q h).2 hq,fun h=>h,fun h=>h⟩,size:=Nat.le_refl _,arg:=fun q hq=>(hokA q hq).1,pin:=fun _ _ _ _ _ _=>⟨g :: L,rfl⟩,defers:=rfl }
     ·intro i A' hA
      simp only [startP] at hA
      rw [List.getElem?_append] at hA
      split at hA
      ·rename_i hi
       simp only [List.length_cons,List.length_map] at hi
       have heq:∀ v,(Value.pointer (some ⟨g,0,none⟩) :: vs)[i]? = some v→((Value.pointer (some ⟨g,0,none⟩) :: vs).toArray ++ Array.replicate (fn.ntmps - (Value.pointer (some ⟨g,0,none⟩) :: vs).toArray.size) undef).getD i undef = v:=by
        intro v hv
        rw [Array.getD_eq_getD_getElem?,Array.getElem?_append_left (by simp; omega)]
        simp only [List.getElem?_toArray]
        rw [hv]; rfl
       cases i with
       | zero =>
        simp only [List.getElem?_cons_zero,Option.some.injEq] at hA
        subst hA
        show RepA w _ _ _ _ (((Value.pointer (some ⟨g,0,none⟩) :: vs).toArray ++ Array.replicate (fn.ntmps - (Value.pointer (some ⟨g,0,none⟩) :: vs).toArray.size) undef).getD 0 undef)
        rw [heq _ rfl]
        exact ⟨_,g :: L,true,sh,t,x,rfl,hobl,.inl ⟨rfl,rfl,g,rfl,rfl⟩⟩
       | succ i =>
        simp only [List.getElem?_cons_succ,List.getElem?_map,Option.map_eq_some_iff] at hA
        obtain ⟨d,hd,rfl⟩:=hA
        have hiv:i < vs.length:=by omega
        have hv:=hargs.get hd (List.getElem?_eq_getElem hiv)
        show RepA w _ _ _ _ (((Value.pointer (some ⟨g,0,none⟩) :: vs).toArray ++ Array.replicate (fn.ntmps - (Value.pointer (some ⟨g,0,none⟩) :: vs).toArray.size) undef).getD (i + 1) undef)
        rw [heq vs[i] (by simp [hiv])]
        have h0:V w (okD w w.heap.size okA (fun _=>tupV (.pointer (some ⟨g,0,none⟩)) (g :: L)) (startP fn.ntmps sh t x ds).ob false) d.t d.x vs[i] :=
         V_step (fun k hk hlt=>⟨hokd k hk,hlt,rfl⟩) hv
        have h1:=V_fr h0
        simp only [Bool.false_or] at h1
        exact h1
      ·rw [List.getElem?_replicate] at hA
       split at hA
       ·injection hA with hA; subst hA; trivial
       ·cases hA
     ·intro s o ho
      obtain ⟨rfl,rfl⟩:=hob0 _ _ ho
      refine RepO_tr ?_ hnd (fun q hq=>.inr hq)
      unfold TrIs
      rw [if_pos rfl]
      exact ⟨g,cs,e0,L,rfl,rfl,hg,KS_step (fun q hq hql=>⟨hokd q hq,hql,rfl⟩) (fun _ _=>rfl) hK⟩
     ·intro s s' o o' q h1 h2 h3 h4
      rw [(hob0 _ _ h1).1,(hob0 _ _ h2).1]
    refine code_sound he hm c hsim h ?_
    intro ex β' st' a' w' hs' h'
    have key:fn.results.size = 0→(match St.obj st'.ob 0 with
      | some (.tr true sh2 t' x)=>if sh2 = sh' then Ty.cast? t' t x else none
      | _=>none) = some x'→bodyPost P fn (fun e1 w'=>∃ v,e1 = .returned v∧(∃ cs' e' L',w'.heap[g]? = some (.cells cs' e' (0,0))∧KS w' (fun k=>(okA k∨w.heap.size≤k)∧k∉g :: L') sh' t x' cs'.toList L'∧(g :: L').Nodup∧∀ k∈L',k∈L∨w.heap.size≤k)∧BelowM (fun k=>k∈g :: L) w.heap.size w w') .normal a' w':=by
     intro h0 hk
     split at hk
     case h_2=>cases hk
     rename_i sh2 t' x2 hob
     split at hk
     case isFalse=>cases hk
     rename_i hsh
     subst hsh
     obtain ⟨qe,hz⟩:=cast?_some hk
     subst qe
     have hz:x' = x2:=hz
     subst hz
     have hrl:fn.results.toList = []:=by
      have:fn.results.toList.length = 0:=by simpa using h0
      exact List.length_eq_zero_iff.1 this
     have hres:(fn.results.toList.mapM (resOne a'.tmps)).run P w' = .ok [] w':=by rw [hrl]; simp
     obtain ⟨L2,hb2⟩:=hs'.pin (by simp [undef,Lin.rv]) _ _ _ _ hob
     obtain ⟨rc,Lr,hr⟩:=hs'.root hob hb2
     obtain ⟨g2,cs2,e2,hu,hg2,rfl,rfl⟩:=hr.box rfl
     obtain rfl:g = g2:=by
      have:Value.pointer (some ⟨g,0,none⟩) = .pointer (some ⟨g2,0,none⟩):=hu
      injection this with this; injection this with this; injection this
     refine ⟨hs'.defers,_,results_run hres,_,rfl,⟨cs2,e2,Lr,hg2,KS_step (fun q hq hql=>⟨⟨hq.1,fun h=>hq.2.1 ⟨0,_,hob,by rw [hb2]; exact owns_tup.2 h⟩⟩,hql,rfl⟩) (fun _ _=>rfl) hr.ks,hr.nd,fun q hq=>?_⟩,hs'.below.block' (fun k h=>h.elim (fun h=>h.elim) (fun h=>h.elim (fun h=>h.elim) id))⟩
     rcases ((hs'.ob 0 _ hob).lt (by rw [hb2]; exact owns_tup.2 (List.mem_cons_of_mem _ hq))).1 with h5 | h5
     ·exact .inr h5
     ·rcases List.mem_cons.1 h5 with rfl | h5
      ·exact absurd hq (List.nodup_cons.1 hr.nd).1
      ·exact .inl h5
    cases ex with
    | normal=>simp only [endP] at h'; split at h' <;> first | exact key (by assumption) h' | cases h'
    | ret=>simp only [endP] at h'; split at h' <;> first | exact key (by assumption) h' | cases h'
    | exit id=>simp [endP] at h'
   ·cases h
  ·cases h
omit [Lin] in
/-- A function that gives a pointer below the one that came in. -/
theorem runQ_ok (he:EnvOk P E) (hm:P.follows .mixedOrders = true) {f:FuncId} {fn:Func} (hf:P.funcs[f]? = some fn) (hb:fn.body≠none) (hn:fn.name≠"runtime.NumGoroutine") (sh:Sh) (t:Ty) (x:t.T) (ds:List Dt) (x':t.T × List Stp × Nat × Ty) (h:runQ E dokB sh t fn x ds = some x') :
  QOk P f sh t x ds x' where
 fn:=⟨fn,hf,hb,hn⟩
 goes:=by
  intro w okA g cs e0 L vs hokA hg hK hnd hargs
  letI:Lin:=⟨w,fun _=>False,fun _=>False,.pointer (some ⟨g,0,none⟩),fun _ _=>False,fun q=>q∈g :: L⟩
  unfold runQ at h
  split at h
  ·rename_i c hc
   split at h
   ·rename_i hlen
    refine calls_of_wp hf hc ?_
    have hvl:=hargs.length
    have hob0:∀ s o,St.obj (startP fn.ntmps sh t x ds).ob s = some o→s = 0∧o = .tr true sh t x:=by
     intro s o h
     cases s with
     | zero=>simp [startP,St.obj] at h; exact ⟨rfl,h.symm⟩
     | succ s =>
      simp only [startP,St.obj,List.getElem?_cons_succ,List.getElem?_replicate] at h
      split at h <;> simp at h
    have hlt:∀ q∈g :: L,q < w.heap.size∧Plain w q:=by
     intro q hq
     rcases List.mem_cons.1 hq with rfl | hq
     ·exact ⟨(Array.getElem?_eq_some_iff.1 hg).1,cs,e0,hg⟩
     ·exact KS_lt hK q hq
    have hobl:St.obj (startP fn.ntmps sh t x ds).ob 0 = some (.tr true sh t x):=by simp [startP,St.obj]
    have hokd:∀ q,okA q→okD w w.heap.size okA (fun _=>tupV (.pointer (some ⟨g,0,none⟩)) (g :: L)) (startP fn.ntmps sh t x ds).ob false q:=fun q hq=>⟨.inl hq,fun ⟨s',o',h6,h7⟩=>(hokA q hq).2 (owns_tup.1 h7),fun h=>by cases h⟩
    have hsim:Sim w.heap.size okA w (fun _=>tupV (.pointer (some ⟨g,0,none⟩)) (g :: L)) (startP fn.ntmps sh t x ds) { tmps:=(Value.pointer (some ⟨g,0,none⟩) :: vs).toArray ++ Array.replicate (fn.ntmps - (Value.pointer (some ⟨g,0,none⟩) :: vs).toArray.size) undef,defers:=[] } w:=by
     refine { len:=by simp [startP,hvl]; omega,tm:=?_,ob:=?_,apart:=?_,below:=BelowM.refl _ _ _,mrk:=fun k hk=>hk.elim,lt:=fun k hk=>hk.elim,one:=fun s e' t' xs' h=>(hob0 _ _ h).1,ltN:=fun k hk=>hk.elim,ltT:=fun q hq=>⟨(hlt q hq).1,fun h=>(hokA q h).2 hq,fun h=>h,fun h=>h⟩,size:=Nat.le_refl _,arg:=fun q hq=>(hokA q hq).1,pin:=fun _ _ _ _ _ _=>⟨g :: L,rfl⟩,defers:=rfl }
     ·intro i A' hA
      simp only [startP] at hA
      rw [List.getElem?_append] at hA
      split at hA
      ·rename_i hi
       simp only [List.length_cons,List.length_map] at hi
       have heq:∀ v,(Value.pointer (some ⟨g,0,none⟩) :: vs)[i]? = some v→((Value.pointer (some ⟨g,0,none⟩) :: vs).toArray ++ Array.replicate (fn.ntmps - (Value.pointer (some ⟨g,0,none⟩) :: vs).toArray.size) undef).getD i undef = v:=by
        intro v hv
        rw [Array.getD_eq_getD_getElem?,Array.getElem?_append_left (by simp; omega)]
        simp only [List.getElem?_toArray]
        rw [hv]; rfl
       cases i with
       | zero =>
        simp only [List.getElem?_cons_zero,Option.some.injEq] at hA
        subst hA
        show RepA w _ _ _ _ (((Value.pointer (some ⟨g,0,none⟩) :: vs).toArray ++ Array.replicate (fn.ntmps - (Value.pointer (some ⟨g,0,none⟩) :: vs).toArray.size) undef).getD 0 undef)
        rw [heq _ rfl]
        exact ⟨_,g :: L,true,sh,t,x,rfl,hobl,.inl ⟨rfl,rfl,g,rfl,rfl⟩⟩
       | succ i =>
        simp only [List.getElem?_cons_succ,List.getElem?_map,Option.map_eq_some_iff] at hA
        obtain ⟨d,hd,rfl⟩:=hA
        have hiv:i < vs.length:=by omega
        have hv:=hargs.get hd (List.getElem?_eq_getElem hiv)
        show RepA w _ _ _ _ (((Value.pointer (some ⟨g,0,none⟩) :: vs).toArray ++ Array.replicate (fn.ntmps - (Value.pointer (some ⟨g,0,none⟩) :: vs).toArray.size) undef).getD (i + 1) undef)
        rw [heq vs[i] (by simp [hiv])]
        have h0:V w (okD w w.heap.size okA (fun _=>tupV (.pointer (some ⟨g,0,none⟩)) (g :: L)) (startP fn.ntmps sh t x ds).ob false) d.t d.x vs[i] :=
         V_step (fun k hk hlt=>⟨hokd k hk,hlt,rfl⟩) hv
        have h1:=V_fr h0
        simp only [Bool.false_or] at h1
        exact h1
      ·rw [List.getElem?_replicate] at hA
       split at hA
       ·injection hA with hA; subst hA; trivial
       ·cases hA
     ·intro s o ho
      obtain ⟨rfl,rfl⟩:=hob0 _ _ ho
      refine RepO_tr ?_ hnd (fun q hq=>.inr hq)
      unfold TrIs
      rw [if_pos rfl]
      exact ⟨g,cs,e0,L,rfl,rfl,hg,KS_step (fun q hq hql=>⟨hokd q hq,hql,rfl⟩) (fun _ _=>rfl) hK⟩
     ·intro s s' o o' q h1 h2 h3 h4
      rw [(hob0 _ _ h1).1,(hob0 _ _ h2).1]
    refine code_sound he hm c hsim h ?_
    intro ex β' st' a' w' hs' h'
    have key:(match fn.results.toList with
      | [.tmp a]=>match st'.val (.tmp a),St.obj st'.ob 0 with
       | .pt 0 (q :: p) off t2,some (.tr true sh2 t' x)=>if sh2 = sh then (match Ty.cast? t' t x with | some z=>some (z,q :: p,off,t2) | none=>none) else none
       | _,_=>none
      | _=>none) = some x'→bodyPost P fn (fun e1 w'=>∃ v,e1 = .returned v∧(∃ cs' e' L',w'.heap[g]? = some (.cells cs' e' (0,0))∧KS w' (fun k=>(okA k∨w.heap.size≤k)∧k∉g :: L') sh t x'.1 cs'.toList L'∧(g :: L').Nodup∧(∀ k∈L',k∈L∨w.heap.size≤k)∧∃ g2 q,PlAt w' (g :: L') cs'.toList x'.2.1 x'.2.2.1 g2 q∧v = .pointer (some ⟨g2,q,none⟩))∧BelowM (fun k=>k∈g :: L) w.heap.size w w') .normal a' w':=by
     intro hk
     split at hk
     case h_2=>cases hk
     rename_i ra hrl
     split at hk
     case h_2=>cases hk
     rename_i _ _ q p off t2 sh2 t' x2 hA hob
     split at hk
     case isFalse=>cases hk
     rename_i hsh
     subst hsh
     split at hk
     case h_2=>cases hk
     rename_i z hz
     injection hk with hk
     subst hk
     obtain ⟨qe,hz⟩:=cast?_some hz
     subst qe
     have hz:z = x2:=hz
     subst hz
     have hres:(fn.results.toList.mapM (resOne a'.tmps)).run P w' = .ok [a'.tmps.getD ra undef] w':=by rw [hrl]; simp [resOne]
     have hva:=hs'.val (.tmp ra)
     rw [hA] at hva
     obtain ⟨L2,hb2⟩:=hs'.pin (by simp [undef,Lin.rv]) _ _ _ _ hob
     obtain ⟨rc,Lr,hr⟩:=hs'.root hob hb2
     obtain ⟨g2,cs2,e2,hu,hg2,rfl,rfl⟩:=hr.box rfl
     obtain rfl:g = g2:=by
      have:Value.pointer (some ⟨g,0,none⟩) = .pointer (some ⟨g2,0,none⟩):=hu
      injection this with this; injection this with this; injection this
     obtain ⟨u,L3,bx,sh3,t3,x3,hb3,hob3,hpt⟩:=hva
     rw [hb2] at hb3
     obtain ⟨rfl,rfl⟩:=tup_inj hb3
     rw [hob] at hob3
     obtain ⟨rfl,rfl,rfl,_⟩:=tr_inj hob3
     obtain ⟨g4,q4,hpl,hvv⟩:∃ g4 q4,PlAt w' (g :: Lr) (rootC w' true Lin.rv) (q :: p) off g4 q4∧a'.eval (.tmp ra) = .pointer (some ⟨g4,q4,none⟩):=by
      rcases hpt with ⟨hnil,_⟩ | ⟨_,g4,q4,h5,h6⟩
      ·cases hnil
      ·exact ⟨g4,q4,h5,h6⟩
     have hrc:rootC w' true Lin.rv = cs2.toList:=by
      show rootC w' true (.pointer (some ⟨g,0,none⟩)) = _
      simp [rootC,hg2]
     rw [hrc] at hpl
     refine ⟨hs'.defers,_,results_run hres,_,rfl,⟨cs2,e2,Lr,hg2,KS_step (fun q hq hql=>⟨⟨hq.1,fun h=>hq.2.1 ⟨0,_,hob,by rw [hb2]; exact owns_tup.2 h⟩⟩,hql,rfl⟩) (fun _ _=>rfl) hr.ks,hr.nd,fun q hq=>?_,g4,q4,hpl,?_⟩,hs'.below.block' (fun k h=>h.elim (fun h=>h.elim) (fun h=>h.elim (fun h=>h.elim) id))⟩
     ·rcases ((hs'.ob 0 _ hob).lt (by rw [hb2]; exact owns_tup.2 (List.mem_cons_of_mem _ hq))).1 with h5 | h5
      ·exact .inr h5
      ·rcases List.mem_cons.1 h5 with rfl | h5
       ·exact absurd hq (List.nodup_cons.1 hr.nd).1
       ·exact .inl h5
     ·rw [dif_pos (by simp)]; exact hvv
    cases ex with
    | normal=>exact key h'
    | ret=>exact key h'
    | exit id=>simp [endQ] at h'
   ·cases h
  ·cases h
omit [Lin] in
/-- A body run from any arguments, to one result. -/
theorem runA_ok (he:EnvOk P E) (hm:P.follows .mixedOrders = true) {f:FuncId} {fn:Func} (hf:P.funcs[f]? = some fn) (t:Ty) (as_:List A) (y:t.T) (h:runA E dokB t fn as_ = some y) (w:World) (okA:Nat→Prop) (vs:List Value) (hok:∀ k,okA k→k < w.heap.size)
  (hargs:All2 (fun A v=>∀ L:Lin,RepA w (okD w w.heap.size okA (fun _=>undef) (List.replicate fn.ntmps none)) (fun _=>undef) (List.replicate fn.ntmps none) A v) as_ vs) :
  Calls P f vs.toArray w fun e w'=>∃ v,e = .returned v∧V w' (fun _=>True) t y v∧Grow w w':=by
 letI:Lin:=⟨w,fun _=>False,fun _=>False,undef,fun _ _=>False,fun _=>False⟩
 unfold runA at h
 split at h
 ·rename_i c hc
  split at h
  ·rename_i hlen
   refine calls_of_wp hf hc ?_
   have hvl:=hargs.length
   have hobn:∀ s o,St.obj (startA fn.ntmps as_).ob s≠some o:=by
    intro s o h
    simp only [startA,St.obj,List.getElem?_replicate] at h
    split at h <;> simp at h
   have hsim:Sim w.heap.size okA w (fun _=>undef) (startA fn.ntmps as_) { tmps:=vs.toArray ++ Array.replicate (fn.ntmps - vs.toArray.size) undef,defers:=[] } w:=by
    refine { len:=by simp [startA,hvl],tm:=?_,ob:=fun s o h=>absurd h (hobn s o),apart:=fun s s' o o' k h=>absurd h (hobn s o),below:=BelowM.refl _ _ _,mrk:=fun k hk=>hk.elim,lt:=fun k hk=>hk.elim,one:=fun s e t xs h=>absurd h (hobn s _),ltN:=fun k hk=>hk.elim,ltT:=fun k hk=>hk.elim,size:=Nat.le_refl _,arg:=hok,pin:=fun h=>absurd rfl h,defers:=rfl }
    intro i A' hA
    simp only [startA] at hA
    rw [List.getElem?_append] at hA
    split at hA
    ·rename_i hi
     have hiv:i < vs.length:=by omega
     have hv:=hargs.get hA (List.getElem?_eq_getElem hiv)
     have heq:(vs.toArray ++ Array.replicate (fn.ntmps - vs.toArray.size) undef).getD i undef = vs[i]:=by
      rw [Array.getD_eq_getD_getElem?,Array.getElem?_append_left (by simpa using hiv)]
      simp [hiv]
     show RepA w _ _ _ A' ((vs.toArray ++ Array.replicate (fn.ntmps - vs.toArray.size) undef).getD i undef)
     rw [heq]
     exact hv _
    ·rw [List.getElem?_replicate] at hA
     split at hA
     ·injection hA with hA; subst hA; trivial
     ·cases hA
   refine code_sound he hm c hsim h ?_
   intro ex β' st' a' w' hs' h'
   have hg:Grow w w':=⟨hs'.below.below (fun k hk=>hk.elim id (fun h=>h.elim id id))⟩
   have key:∀ ex:Ex,(∀ id,ex≠.exit id)→endK E true t true fn ex st' = some y→bodyPost P fn (fun e w'=>∃ v,e = .returned v∧V w' (fun _=>True) t y v∧Grow w w') .normal a' w':=by
    intro ex hex hk
    obtain ⟨z,hz,rfl⟩:=endK_one hk
    obtain ⟨us,h1,h2,h3⟩:=results_sound he _ _ _ hs' hz
    cases us with
    | nil=>exact h2.elim
    | cons u us =>
     cases us with
     | cons _ _=>exact h2.2.elim
     | nil=>exact ⟨hs'.defers,u,results_run h1,u,rfl,V_step (fun k hk hlt=>⟨trivial,hlt,rfl⟩) h2.1,hg⟩
   cases ex with
   | normal=>exact key _ (by simp) h'
   | ret=>exact key _ (by simp) h'
   | exit id=>simp [endK] at h'
  ·cases h
 ·cases h
end
end Go.Fil
