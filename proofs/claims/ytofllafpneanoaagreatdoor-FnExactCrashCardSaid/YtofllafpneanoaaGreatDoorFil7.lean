/- Operations that make or change the call's own blocks. -/
import Derived.Test.YtofllafpneanoaaGreatDoorFil6
import Derived.Laws.CopyOwn
set_option linter.unusedSectionVars false
namespace Go.Fil
open Go.RowKit
set_option linter.unusedVariables false
set_option linter.unusedSimpArgs false
theorem obj_set {ob:List (Option Ob)} {s:Nat} {o:Option Ob} (s':Nat):St.obj (ob.set s o) s' = if s = s'∧s < ob.length then o else St.obj ob s':=by
 unfold St.obj
 rw [List.getElem?_set]
 by_cases h:s = s'
 ·subst h
  by_cases h2:s < ob.length
  ·simp [h2]
  ·simp [h2]
 ·simp [h]
theorem obj_none {ob:List (Option Ob)} {s:Nat} (h:ob[s]? = some none):St.obj ob s = none:=by simp [St.obj,h]
theorem lt_of_obj {ob:List (Option Ob)} {s:Nat} {o:Ob} (h:St.obj ob s = some o):s < ob.length:=by
 unfold St.obj at h
 cases h2:ob[s]? with
 | none=>simp [h2] at h
 | some x=>exact (List.getElem?_eq_some_iff.1 h2).1
section
variable [Lin] {P:Program} {E:Env} {o:Oper} {a:Act} {w:World} {next:Act→World→Prop} {Q:Exit→Act→World→Prop} {B:Nat} {okA:Nat→Prop} {w0:World} {β:Nat→Value} {st:St} {ρ:Type} {r:ρ}
/-- A row of one's own, read as data. -/
theorem own_V {e:Nat} {t:Ty} {v:Value} {xs:List t.T} {css:List (List Value)} {ok:Nat→Prop} (h:w.ownsRow B e t.sz v xs.length css.flatten) (hk:All2 (fun x c=>K w ok t x c) xs css) (hb:∀ k,blk v = some k→ok k):V w ok (.slice e t) xs v:=by
 rcases h.2 with ⟨rfl,h0⟩ | ⟨g,cap,cur,rfl,h1,h2,h3,h4,h5,h6⟩
 ·have:xs = []:=List.eq_nil_of_length_eq_zero h0
  subst this
  exact ⟨[.slice none 0 0],⟨none,0,[],rfl,Nat.le_refl _,Nat.zero_le _,trivial,fun h=>by simp at h⟩,rfl⟩
 ·refine ⟨[.slice (some ⟨g,0,none⟩) xs.length cap],⟨_,_,css,rfl,h3,by omega,hk,fun hp=>⟨_,rfl,hb g rfl,(h.lt g rfl).2,h.cells rfl⟩⟩,rfl⟩
theorem Sim.freeze (hs:Sim B okA w0 β st a w) (s:Nat):Sim B okA w0 β (st.freeze1 s) a w:=by
 unfold St.freeze1
 cases hob:St.obj st.ob s with
 | none=>exact hs
 | some o =>
  cases o with
  | box t fr x=>exact hs
  | row e t xs=>exact hs
  | tr bx sh t x=>exact hs
  | arr e t fr xs =>
   show Sim B okA w0 β ⟨st.tm.map (A.freeze s e t fr xs),st.ob.set s none⟩ a w
   have hlt:=lt_of_obj hob
   have hO:∀ s',St.obj (st.ob.set s none) s' = if s = s' then none else St.obj st.ob s':=by
    intro s'; rw [obj_set]; simp [hlt]
   have how:∀ k,Ow β (st.ob.set s none) k→Ow β st.ob k:=by
    rintro k ⟨s',o',h1,h2⟩
    rw [hO] at h1
    split at h1
    ·cases h1
    ·exact ⟨s',o',h1,h2⟩
   have hmv:Mv w w (okD w B okA β st.ob) (okD w B okA β (st.ob.set s none)):=okD_mv (fun _ _ _=>rfl) (Nat.le_refl _) (fun k _ h=>how k h)
   have hone:∀ s' e' t' xs',St.obj (st.ob.set s none) s' = some (.row e' t' xs')→s' = 0:=by
    intro s' e' t' xs' h
    rw [hO] at h
    split at h
    ·cases h
    ·exact hs.one _ _ _ _ h
   obtain ⟨css,h1,h2⟩:=hs.ob _ _ hob
   have hV:V w (okD w B okA β (st.ob.set s none) fr) (.slice e t) xs (β s):=by
    refine own_V h1 (h2.imp (fun x c hx=>K_step (hmv fr) hx)) (fun k hk=>⟨.inr (own_lt' h1 hk).1,?_,fun _=>⟨(own_lt' h1 hk).1,?_⟩⟩)
    ·rintro ⟨s',o',h3,h4⟩
     rw [hO] at h3
     split at h3
     ·cases h3
     ·rename_i hne
      exact hne (hs.apart s s' _ _ k hob h3 (.inl hk) h4)
    ·rcases h1.2 with ⟨h5,_⟩ | ⟨g,cap,cur,h5,_,h6,_⟩
     ·rw [h5] at hk; simp [blk] at hk
     ·rw [h5] at hk
      have:g = k:=by simpa [blk] using hk
      subst this
      exact ⟨cur,e,h6⟩
   have hpin:Lin.rv≠undef→∀ bx sh t x,St.obj (st.ob.set s none) 0 = some (.tr bx sh t x)→∃ L,β 0 = tupV Lin.rv L:=by
    intro h0 bx1 sh1 t1 x1 h1
    rw [hO] at h1
    split at h1
    ·cases h1
    ·exact hs.pin h0 _ _ _ _ h1
   refine { len:=by simpa using hs.len,tm:=?_,ob:=?_,apart:=?_,below:=hs.below,mrk:=hs.mrk,lt:=hs.lt,one:=hone,ltN:=hs.ltN,ltT:=hs.ltT,size:=hs.size,arg:=hs.arg,pin:=hpin,defers:=hs.defers }
   ·intro i A hA
    simp only [List.getElem?_map,Option.map_eq_some_iff] at hA
    obtain ⟨A0,hA0,rfl⟩:=hA
    have hr:=hs.tm i A0 hA0
    cases A0 with
    | own s' =>
     simp only [A.freeze]
     split
     ·rename_i e1; subst e1
      rw [hr.1]; exact hV
     ·rename_i hne
      exact hr.step hmv (fun s1 h1=>⟨rfl,by simp [A.site] at h1; subst h1; exact ⟨Same.of_eq (by rw [hO,if_neg (fun h=>hne h.symm)]),fun _ _ _ _ _ _ _=>rfl⟩⟩)
    | ep s' i' o' t' =>
     simp only [A.freeze]
     split
     ·trivial
     ·rename_i hne
      exact hr.step hmv (fun s1 h1=>⟨rfl,by simp [A.site] at h1; subst h1; exact ⟨Same.of_eq (by rw [hO,if_neg (fun h=>hne h.symm)]),fun _ _ _ _ _ _ _=>rfl⟩⟩)
    | ptr s' o' t' =>
     show RepA w (okD w B okA β (st.ob.set s none)) β (st.ob.set s none) (.ptr s' o' t') _
     refine hr.step hmv (fun s1 h1=>⟨rfl,by
      simp [A.site] at h1; subst h1
      refine ⟨Same.of_eq ?_,fun _ _ _ _ _ _ _=>rfl⟩
      rw [hO,if_neg]
      rintro rfl
      obtain ⟨g,_,_,t0,fr0,x0,h3⟩:=hr
      rw [hob] at h3; cases h3⟩)
    | und=>trivial
    | nil=>exact hr
    | d t0 f0 x0=>exact RepA.step (A:=.d t0 f0 x0) hmv (fun s1 h1=>by cases h1) hr
    | tup l0=>exact RepA.step (A:=.tup l0) hmv (fun s1 h1=>by cases h1) hr
    | rp t0 f0 x0=>exact RepA.step (A:=.rp t0 f0 x0) hmv (fun s1 h1=>by cases h1) hr
    | no=>exact hr
    | fnv f0 c0 y0=>exact RepA.step (A:=.fnv f0 c0 y0) hmv (fun s1 h1=>by cases h1) hr
    | od c0 t0 x0=>exact RepA.step (A:=.od c0 t0 x0) hmv (fun s1 h1=>by cases h1) hr
    | orp c0 t0 x0=>exact RepA.step (A:=.orp c0 t0 x0) hmv (fun s1 h1=>by cases h1) hr
    | xr=>exact RepA.step (A:=.xr) hmv (fun s1 h1=>⟨rfl,by
      simp [A.site] at h1; subst h1
      refine ⟨Same.of_eq ?_,fun _ _ _ _ _ _ _=>rfl⟩
      rw [hO,if_neg]
      rintro rfl
      obtain ⟨_,e0,te0,xs0,h3⟩:=hr
      rw [hob] at h3; cases h3⟩) hr
    | xp i0 o0 t0=>exact RepA.step (A:=.xp i0 o0 t0) hmv (fun s1 h1=>⟨rfl,by
      simp [A.site] at h1; subst h1
      refine ⟨Same.of_eq ?_,fun _ _ _ _ _ _ _=>rfl⟩
      rw [hO,if_neg]
      rintro rfl
      obtain ⟨ad,n,c,_,e0,te0,xs0,h3,_⟩:=hr
      rw [hob] at h3; cases h3⟩) hr
    | z t0 x0=>exact hr
    | pt s0 p0 o0 t0=>exact RepA.step (A:=.pt s0 p0 o0 t0) hmv (fun s1 h1=>⟨rfl,by
      simp [A.site] at h1; subst h1
      refine ⟨Same.of_eq ?_,fun _ _ _ _ _ _ _=>rfl⟩
      rw [hO,if_neg]
      rintro rfl
      obtain ⟨u,L,bx,sh,t1,x1,_,h3,_⟩:=hr
      rw [hob] at h3; cases h3⟩) hr
    | vw s0 p0 o0 t0=>exact RepA.step (A:=.vw s0 p0 o0 t0) hmv (fun s1 h1=>⟨rfl,by
      simp [A.site] at h1; subst h1
      refine ⟨Same.of_eq ?_,fun _ _ _ _ _ _ _=>rfl⟩
      rw [hO,if_neg]
      rintro rfl
      obtain ⟨u,L,bx,sh,t1,x1,cs,_,h3,_⟩:=hr
      rw [hob] at h3; cases h3⟩) hr
    | tp s0 t0=>exact RepA.step (A:=.tp s0 t0) hmv (fun s1 h1=>⟨rfl,by
      simp [A.site] at h1; subst h1
      refine ⟨Same.of_eq ?_,fun _ _ _ _ _ _ _=>rfl⟩
      rw [hO,if_neg]
      rintro rfl
      obtain ⟨u,L,bx,sh,t1,x1,_,h3,_⟩:=hr
      rw [hob] at h3; cases h3⟩) hr
    | pb s0 o0 t0=>exact RepA.step (A:=.pb s0 o0 t0) hmv (fun s1 h1=>by cases h1) hr
    | pv t0=>exact hr
    | lin t0 x0=>exact hr
    | lp t0 x0=>exact hr
    | lb t0 x0=>exact RepA.step (A:=.lb t0 x0) hmv (fun s1 h1=>by cases h1) hr
   ·intro s' o' ho'
    simp only [hO] at ho'
    split at ho'
    ·cases ho'
    ·exact (hs.ob s' o' ho').step (fun _ _=>rfl) hmv (fun _ _=>rfl)
   ·intro s1 s2 o1 o2 k h1 h2 h3 h4
    simp only [hO] at h1 h2
    split at h1
    ·cases h1
    split at h2
    ·cases h2
    exact hs.apart s1 s2 o1 o2 k h1 h2 h3 h4
theorem Sim.freezeAll:∀ (xs:List Operand) {st:St},Sim B okA w0 β st a w→Sim B okA w0 β (st.freezeAll xs) a w
 | [],_,hs=>hs
 | x :: xs,st,hs=>by
  unfold St.freezeAll
  split
  ·exact Sim.freezeAll xs (hs.freeze _)
  ·exact Sim.freezeAll xs hs
def upd (β:Nat→Value) (s:Nat) (v:Value):Nat→Value:=fun s'=>if s' = s then v else β s'
/-- A new object at a free site. -/
theorem Sim.new (hs:Sim B okA w0 β st a w) {s:Nat} (hfree:st.ob[s]? = some none) {w1:World} (hg:Grow w w1) {v tv:Value} {ob':Ob} {A:A}
  (hv:∀ k,owns v k→w.heap.size≤k)
  (hO:RepO w1 B (okD w1 B okA (upd β s v) (st.ob.set s (some ob'))) v ob')
  (hA:RepA w1 (okD w1 B okA (upd β s v) (st.ob.set s (some ob'))) (upd β s v) (st.ob.set s (some ob')) A tv) (hr:∀ e t xs,ob'≠.row e t xs:=by intros; simp) (hp:∀ bx sh t x,ob' = .tr bx sh t x→s≠0:=by intros; simp_all) :
  Sim B okA w0 (upd β s v) ⟨st.tm.set s A,st.ob.set s (some ob')⟩ (a.put (some s) tv) w1:=by
 have hlt:s < st.ob.length:=(List.getElem?_eq_some_iff.1 hfree).1
 have hob:∀ s',St.obj (st.ob.set s (some ob')) s' = if s = s' then some ob' else St.obj st.ob s':=by
  intro s'; rw [obj_set]; simp [hlt]
 have hn:=obj_none hfree
 have how:∀ k,k < w.heap.size→Ow (upd β s v) (st.ob.set s (some ob')) k→Ow β st.ob k:=by
  rintro k hk ⟨s',o',h1,h2⟩
  rw [hob] at h1
  by_cases e:s = s'
  ·subst e
   simp only [upd,if_true] at h2
   have:=hv k h2
   omega
  ·rw [if_neg e] at h1
   exact ⟨s',o',h1,by simpa [upd,Ne.symm e] using h2⟩
 have hone:∀ s' e' t' xs',St.obj (st.ob.set s (some ob')) s' = some (.row e' t' xs')→s' = 0:=by
  intro s' e' t' xs' h
  rw [hob] at h
  split at h
  ·injection h with h; exact absurd h (hr _ _ _)
  ·exact hs.one _ _ _ _ h
 have hmv:Mv w w1 (okD w B okA β st.ob) (okD w1 B okA (upd β s v) (st.ob.set s (some ob'))):=okD_mv (fun k _ hk=>hg.below.block k hk) hg.below.size how
 have hpin:Lin.rv≠undef→∀ bx sh t x,St.obj (st.ob.set s (some ob')) 0 = some (.tr bx sh t x)→∃ L,upd β s v 0 = tupV Lin.rv L:=by
  intro h0 bx1 sh1 t1 x1 h1
  rw [hob] at h1
  split at h1
  ·rename_i e
   injection h1 with h1
   exact absurd e (hp _ _ _ _ h1)
  ·rename_i e
   obtain ⟨L,hL⟩:=hs.pin h0 _ _ _ _ h1
   exact ⟨L,by simpa [upd,Ne.symm e] using hL⟩
 refine { len:=by simp [Act.put,hs.len],tm:=?_,ob:=?_,apart:=?_,below:=hs.below.trans (hg.below.mono hs.size),mrk:=hs.mrk.keep (fun k hk=>hg.below.block k (hs.mlt hk)),lt:=hs.lt,one:=hone,ltN:=hs.ltN,ltT:=hs.ltT,size:=Nat.le_trans hs.size hg.below.size,arg:=hs.arg,pin:=hpin,defers:=by simpa [Act.put] using hs.defers }
 ·intro i A' hA'
  simp only [Act.put] at hA' ⊢
  rw [getD_set]
  rw [List.getElem?_set] at hA'
  by_cases e:s = i
  ·subst e
   by_cases hd:s < st.tm.length
   ·simp [hd] at hA'
    subst hA'
    simp [hs.len,hd]
    exact hA
   ·simp [hd] at hA'
  ·simp [e] at hA'
   simp only [e,false_and,if_false]
   have hr:=hs.tm i A' hA'
   refine hr.step hmv (fun s1 h1=>?_)
   have hne:s≠s1:=by
    rintro rfl
    cases A' with
    | ptr s2 o2 t2=>simp [Go.Fil.A.site] at h1; subst h1; obtain ⟨g,_,_,t0,f0,x0,h3⟩:=hr; rw [hn] at h3; cases h3
    | ep s2 i2 o2 t2=>simp [Go.Fil.A.site] at h1; subst h1; obtain ⟨g,n,c,_,e2,te2,f2,x2,h3,_⟩:=hr; rw [hn] at h3; cases h3
    | own s2=>simp [Go.Fil.A.site] at h1; subst h1; obtain ⟨_,e2,te2,f2,x2,h3⟩:=hr; rw [hn] at h3; cases h3
    | xr=>simp [Go.Fil.A.site] at h1; subst h1; obtain ⟨_,e2,te2,x2,h3⟩:=hr; rw [hn] at h3; cases h3
    | xp i2 o2 t2=>simp [Go.Fil.A.site] at h1; subst h1; obtain ⟨ad,n,c,_,e2,te2,x2,h3,_⟩:=hr; rw [hn] at h3; cases h3
    | pt s2 p2 o2 t2=>simp [Go.Fil.A.site] at h1; subst h1; obtain ⟨u,L,bx,sh,t1,x1,_,h3,_⟩:=hr; rw [hn] at h3; cases h3
    | vw s2 p2 o2 t2=>simp [Go.Fil.A.site] at h1; subst h1; obtain ⟨u,L,bx,sh,t1,x1,cs,_,h3,_⟩:=hr; rw [hn] at h3; cases h3
    | tp s2 t2=>simp [Go.Fil.A.site] at h1; subst h1; obtain ⟨u,L,bx,sh,t1,x1,_,h3,_⟩:=hr; rw [hn] at h3; cases h3
    | _=>simp [Go.Fil.A.site] at h1
   exact ⟨by simp [upd,Ne.symm hne],Same.of_eq (by rw [hob,if_neg hne]),hs.keeps hg s1⟩
 ·intro s' o' ho'
  simp only [hob] at ho'
  by_cases e:s = s'
  ·subst e
   simp at ho'
   subst ho'
   simpa [upd] using hO
  ·rw [if_neg e] at ho'
   have:=(hs.ob s' o' ho').step (fun k hk=>hg.below.block k (hs.nlt hk)) hmv (fun k hk=>hg.below.block k ((hs.ob s' o' ho').lt hk).2)
   simpa [upd,Ne.symm e] using this
 ·intro s1 s2 o1 o2 k h1 h2 h3 h4
  simp only [hob] at h1 h2
  by_cases e1:s = s1 <;> by_cases e2:s = s2
  ·rw [← e1,← e2]
  ·subst e1
   rw [if_neg e2] at h2
   simp only [upd,if_true,if_neg (Ne.symm e2)] at h3 h4
   have:=hv k h3
   have:=((hs.ob s2 o2 h2).lt h4).2
   omega
  ·subst e2
   rw [if_neg e1] at h1
   simp only [upd,if_true,if_neg (Ne.symm e1)] at h3 h4
   have:=hv k h4
   have:=((hs.ob s1 o1 h1).lt h3).2
   omega
  ·rw [if_neg e1] at h1
   rw [if_neg e2] at h2
   simp only [upd,if_neg (Ne.symm e1),if_neg (Ne.symm e2)] at h3 h4
   exact hs.apart s1 s2 o1 o2 k h1 h2 h3 h4
theorem Grow.alloc (w:World) (o:Obj):Grow w (w.alloc o):=⟨(Below.refl _ _).alloc (Nat.le_refl _) o⟩
end
end Go.Fil
