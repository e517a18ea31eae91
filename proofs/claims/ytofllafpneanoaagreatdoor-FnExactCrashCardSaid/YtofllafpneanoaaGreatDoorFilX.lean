/- Putting into a tree, taking out of it. -/
import Derived.Test.YtofllafpneanoaaGreatDoorFilW
set_option linter.unusedSectionVars false
namespace Go.Fil
open Go.RowKit
set_option linter.unusedVariables false
set_option linter.unusedSimpArgs false
/-- What RepO asks of a tree. -/
def TrIs (w:World) (G:Nat→Prop) (bx:Bool) (sh:Sh) (t:Ty) (x:t.T) (u:Value) (L:List Nat):Prop :=
 if bx then ∃ g cs e L',L = g :: L'∧u = .pointer (some ⟨g,0,none⟩)∧w.heap[g]? = some (.cells cs e (0,0))∧KS w G sh t x cs.toList L' else ∃ cs,u = t.val cs∧KS w G sh t x cs L
/-- Where a pointer to a place points. -/
def PtAt (w:World) (L:List Nat) (bx:Bool) (u:Value) (p:List Stp) (off g q:Nat):Prop :=
 (p = []∧bx = true∧u = .pointer (some ⟨g,0,none⟩)∧q = off)∨PlAt w L (rootC w bx u) p off g q
theorem nodup_put {A B C D:List Nat} (h:(A ++ (B ++ C)).Nodup) (hD:D.Nodup) (hn:∀ k∈D,k∉A ++ (B ++ C)):(A ++ (D ++ C)).Nodup:=by
 rw [List.nodup_append] at h ⊢
 obtain ⟨h1,h2,h3⟩:=h
 rw [List.nodup_append] at h2 ⊢
 obtain ⟨h4,h5,h6⟩:=h2
 refine ⟨h1,⟨hD,h5,fun a ha b hb e=>hn a ha (by subst e; simp [hb])⟩,fun a ha b hb e=>?_⟩
 subst e
 rcases List.mem_append.1 hb with hb | hb
 ·exact hn a hb (by simp [ha])
 ·exact h3 a ha a (by simp [hb]) rfl
theorem root_put {w:World} {G:Nat→Prop} {bx:Bool} {sh:Sh} {t0:Ty} {x:t0.T} {u:Value} {L:List Nat} {cs:List Value} {Lr:List Nat} (hr:RootOk w G bx sh t0 x u L cs Lr)
  {p:List Stp} {off g q:Nat} (hp:PtAt w L bx u p off g q) {t:Ty} {y y':t.T} {s1 s2:Sh} {x':t0.T} (hg:getP t0 x p off t = some y) (hsh:shGP sh t0 p off t = some s1) (hput:putP t0 x p off t y' = some x') (hs2:p = []∨s2 = s1) :
  g∈L∧∃ (cur:Array Value) (e:Nat),w.heap[g]? = some (.cells cur e (0,0))∧q + t.sz≤cur.size ∧
   ∀ {w1:World} {G1:Nat→Prop} {cur':Array Value} {cy:List Value} {L2:List Nat},(∀ k,G k→k < w.heap.size→G1 k∧k < w1.heap.size∧w1.heap[k]? = w.heap[k]?)→(∀ k∈L,k≠g→w1.heap[k]? = w.heap[k]?) →
    w1.heap[g]? = some (.cells cur' e (0,0))→cur'.toList = cur.toList.take q ++ cy ++ cur.toList.drop (q + t.sz)→KS w1 G1 s2 t y' cy L2→L2.Nodup→(∀ k∈L2,k∉L) →
    ∃ L',TrIs w1 G1 bx (newSh p sh t0 off t s2) t0 x' u L'∧L'.Nodup∧∀ k∈L',k∈L∨k∈L2:=by
 rcases hp with ⟨rfl,rfl,rfl,rfl⟩ | hpl
 ·obtain ⟨g',c,e,h1,h2,rfl,rfl⟩:=hr.box rfl
  injection h1 with h1; injection h1 with h1; injection h1 with h1
  subst h1
  obtain ⟨La,L1,Lb,rfl,h3,h4,h5⟩:=KS_focus hg hsh hr.ks
  have hcl:=KS_len hr.ks
  simp only [Array.length_toList] at hcl
  refine ⟨by simp,c,e,h2,by omega,?_⟩
  intro w1 G1 cur' cy L2 k1 k2 k3 k4 k5 k6 k7
  have hnd:=hr.nd
  rw [List.nodup_cons] at hnd
  have hne:∀ k∈La ++ Lb,k≠g:=by
   rintro k hk rfl
   exact hnd.1 (by simp only [List.mem_append] at hk ⊢; rcases hk with hk | hk <;> simp [hk])
  have m1:=h5 k1 (fun k hk=>k2 k (by simp only [List.mem_append,List.mem_cons] at hk ⊢; rcases hk with hk | hk <;> simp [hk]) (hne k hk)) hput k5
  have m1:KS w1 G1 (newSh [] sh t0 q t s2) t0 x' (c.toList.take q ++ cy ++ c.toList.drop (q + t.sz)) (La ++ (L2 ++ Lb)):=by
   simp only [newSh]
   simp only [shGP] at hsh
   split
   ·rename_i e1
    rw [hsh] at e1
    injection e1 with e1
    subst e1
    exact KS_same hsh hr.ks m1
   ·exact m1
  refine ⟨g :: (La ++ (L2 ++ Lb)),?_,?_,?_⟩
  ·show if true = true then _ else _
   rw [if_pos rfl]
   exact ⟨g,cur',e,_,rfl,rfl,k3,by rw [k4]; exact m1⟩
  ·rw [List.nodup_cons]
   refine ⟨fun h=>?_,nodup_put hnd.2 k6 (fun k hk h=>k7 k hk (by simp only [List.mem_cons]; exact .inr h))⟩
   simp only [List.mem_append] at h
   rcases h with h | h | h
   ·exact hne g (by simp [h]) rfl
   ·exact k7 g h (by simp)
   ·exact hne g (by simp [h]) rfl
  ·intro k hk
   simp only [List.mem_cons,List.mem_append] at hk ⊢
   rcases hk with rfl | hk | hk | hk <;> simp_all
 ·have hpne:p≠[]:=by rintro rfl; exact hpl.elim
  obtain rfl:s2 = s1:=hs2.resolve_left hpne
  have hnew:newSh p sh t0 off t s2 = sh:=by
   cases p with
   | nil=>exact absurd rfl hpne
   | cons _ _=>rfl
  rw [hr.root] at hpl
  obtain ⟨La,L1,Lb,cur,e,rfl,h3,h4,h5,h6,h7⟩:=KS_path p hr.ks hr.ndr hpl hg hsh
  refine ⟨hr.sub g (by simp [h3]),cur,e,h4,h5,?_⟩
  intro w1 G1 cur' cy L2 k1 k2 k3 k4 k5 k6 k7
  have m1:=h7 k1 (fun k hk hkg=>k2 k (hr.sub k (by simp only [List.mem_append] at hk ⊢; rcases hk with hk | hk <;> simp [hk])) hkg) k3 k4 hput k5
  have hnd2:=nodup_put hr.ndr k6 (fun k hk h=>k7 k hk (hr.sub k h))
  rw [hnew]
  cases bx with
  | true =>
   obtain ⟨g0,c,e0,rfl,q2,rfl,rfl⟩:=hr.box rfl
   have hnd:=hr.nd
   rw [List.nodup_cons] at hnd
   have hg0:g0≠g:=by rintro rfl; exact hnd.1 (by simp [h3])
   refine ⟨g0 :: (La ++ (L2 ++ Lb)),?_,?_,?_⟩
   ·show if true = true then _ else _
    rw [if_pos rfl]
    exact ⟨g0,c,e0,_,rfl,rfl,by rw [k2 g0 (by simp) hg0]; exact q2,m1⟩
   ·rw [List.nodup_cons]
    refine ⟨fun h=>?_,hnd2⟩
    simp only [List.mem_append] at h
    rcases h with h | h | h
    ·exact hnd.1 (by simp [h])
    ·exact k7 g0 h (by simp)
    ·exact hnd.1 (by simp [h])
   ·intro k hk
    simp only [List.mem_cons,List.mem_append] at hk ⊢
    rcases hk with rfl | hk | hk | hk <;> simp_all
  | false =>
   obtain ⟨rfl,rfl⟩:=hr.val rfl
   refine ⟨La ++ (L2 ++ Lb),?_,hnd2,?_⟩
   ·show if false = true then _ else _
    rw [if_neg (by simp)]
    exact ⟨cs,rfl,m1⟩
   ·intro k hk
    simp only [List.mem_append] at hk ⊢
    rcases hk with hk | hk | hk <;> simp_all
theorem At_TrIs {w:World} {G:Nat→Prop} {bx:Bool} {sh:Sh} {t:Ty} {x:t.T} {u:Value} {L:List Nat} (h:TrIs w G bx sh t x u L):∀ k∈L,k < w.heap.size∧Plain w k:=by
 unfold TrIs at h
 cases bx with
 | true =>
  rw [if_pos rfl] at h
  obtain ⟨g,cs,e,L',rfl,rfl,h1,h2⟩:=h
  intro k hk
  rcases List.mem_cons.1 hk with rfl | hk
  ·exact ⟨(Array.getElem?_eq_some_iff.1 h1).1,cs,e,h1⟩
  ·exact KS_lt h2 k hk
 | false =>
  rw [if_neg (by simp)] at h
  obtain ⟨cs,rfl,h2⟩:=h
  exact KS_lt h2
section
variable [Lin] {P:Program} {E:Env} {o:Oper} {a:Act} {w:World} {next:Act→World→Prop} {Q:Exit→Act→World→Prop} {B:Nat} {okA:Nat→Prop} {w0:World} {β:Nat→Value} {st:St} {ρ:Type} {r:ρ} {K1:St→Option ρ}
/-- A tree, told. -/
theorem RepO_tr {w:World} {B:Nat} {G:Bool→Nat→Prop} {bx:Bool} {sh:Sh} {t:Ty} {x:t.T} {u:Value} {L:List Nat} (h:TrIs w (G false) bx sh t x u L) (hn:L.Nodup) (hB:∀ k∈L,B≤k∨Lin.T k):RepO w B G (tupV u L) (.tr bx sh t x) :=
 ⟨u,L,rfl,hn,fun k hk=>⟨hB k hk,(At_TrIs h k hk).1,(At_TrIs h k hk).2⟩,h⟩
/-- What is not struck when trees turn. -/
theorem kill_rep {A0:A} {v:Value} {G:Bool→Nat→Prop} {s:Nat} {bx:Bool} {sh:Sh} {t0:Ty} {x:t0.T} (hob:St.obj st.ob s = some (.tr bx sh t0 x)) (hr:RepA w G β st.ob A0 v) (hsite:A0.site = some s) (hd:A0.deep s = false) :
  ∃ off t u L g,A0 = .pt s [] off t∧bx = true∧β s = tupV u L∧u = .pointer (some ⟨g,0,none⟩)∧v = .pointer (some ⟨g,off,none⟩):=by
 cases A0 with
 | ptr s' off t=>simp only [A.site,Option.some.injEq] at hsite; subst hsite; obtain ⟨g,_,_,t1,fr,x1,h⟩:=hr; rw [hob] at h; cases h
 | ep s' i off t=>simp only [A.site,Option.some.injEq] at hsite; subst hsite; obtain ⟨g,n,c,_,e,te,fr,xs,h,_⟩:=hr; rw [hob] at h; cases h
 | own s'=>simp only [A.site,Option.some.injEq] at hsite; subst hsite; obtain ⟨_,e,te,fr,xs,h⟩:=hr; rw [hob] at h; cases h
 | xr=>simp only [A.site,Option.some.injEq] at hsite; subst hsite; obtain ⟨_,e,te,xs,h⟩:=hr; rw [hob] at h; cases h
 | xp i off t=>simp only [A.site,Option.some.injEq] at hsite; subst hsite; obtain ⟨ad,n,c,_,e,te,xs,h,_⟩:=hr; rw [hob] at h; cases h
 | vw s' p off t=>simp only [A.site,Option.some.injEq] at hsite; subst hsite; simp [A.deep] at hd
 | tp s' t=>simp only [A.site,Option.some.injEq] at hsite; subst hsite; simp [A.deep] at hd
 | pt s' p off t =>
  simp only [A.site,Option.some.injEq] at hsite
  subst hsite
  have hp:p = []:=by simpa [A.deep] using hd
  subst hp
  obtain ⟨u,L,bx',sh',t1,x1,hb,hob',hv⟩:=hr
  rw [hob] at hob'
  obtain ⟨rfl,_⟩:=tr_inj hob'
  rcases hv with ⟨_,rfl,g,rfl,rfl⟩ | ⟨_,g,q,hpl,_⟩
  ·exact ⟨off,t,_,L,g,rfl,rfl,hb,rfl,rfl⟩
  ·exact hpl.elim
 | _=>simp [A.site] at hsite
theorem killD_get {kl:List Nat} {tm:List A} {i:Nat} {A':A} (h:(killD kl tm)[i]? = some A'):A' = .und∨(tm[i]? = some A'∧∀ s∈kl,A'.deep s = false):=by
 unfold killD at h
 rw [List.getElem?_map,Option.map_eq_some_iff] at h
 obtain ⟨A0,h1,rfl⟩:=h
 by_cases hd:(kl.any fun s=>A0.deep s) = true
 ·simp [hd]
 ·simp only [List.any_nil,Bool.false_or]
  rw [if_neg hd]
  refine .inr ⟨h1,fun s hs=>?_⟩
  have:=List.any_eq_false.1 (Bool.eq_false_iff.2 hd) s hs
  simpa using this
theorem killS_get {kl:List Nat} {tm:List A} {q i:Nat} {A':A} (h:(killD kl tm [q])[i]? = some A'):A' = .und∨(tm[i]? = some A'∧A'.deepS q = false∧∀ s∈kl,A'.deep s = false):=by
 unfold killD at h
 rw [List.getElem?_map,Option.map_eq_some_iff] at h
 obtain ⟨A0,h1,rfl⟩:=h
 by_cases hq:A0.deepS q = true
 ·simp [hq]
 ·by_cases hd:(kl.any fun s=>A0.deep s) = true
  ·simp [hd]
  ·have hq:A0.deepS q = false:=by simpa using hq
   have hd:(kl.any fun s=>A0.deep s) = false:=by simpa using hd
   simp only [List.any_cons,List.any_nil,hq,hd,Bool.or_false,Bool.false_eq_true,if_false]
   refine .inr ⟨h1,trivial,fun s hs=>?_⟩
   have:=List.any_eq_false.1 hd s hs
   simpa using this
theorem killD_of {kl:List Nat} {tm:List A} {i:Nat} {A':A} (h:tm[i]? = some A') (hd:∀ s∈kl,A'.deep s = false):(killD kl tm)[i]? = some A':=by
 unfold killD
 rw [List.getElem?_map,h,Option.map_some]
 have:(kl.any fun s=>A'.deep s) = false:=List.any_eq_false.2 (fun s hs=>by simp [hd s hs])
 simp [this]
/-- A row's own value is not struck when an element of it changes. -/
theorem Sim.unkill (hs:Sim B okA w0 β st a w) {β':Nat→Value} {w1:World} {s:Nat} {kl:List Nat} {ob1:List (Option Ob)} (hS:Sim B okA w0 β' ⟨killD (s :: kl) st.tm,ob1⟩ a w1) {sh sh':Sh} {t0:Ty} {x x':t0.T} (hob:St.obj st.ob s = some (.tr false sh t0 x)) (hob1:St.obj ob1 s = some (.tr false sh' t0 x')) (hβ:∀ u L,β s = tupV u L→∃ L',β' s = tupV u L') :
  Sim B okA w0 β' ⟨killD kl st.tm [s],ob1⟩ a w1:=by
 refine { len:=by rw [hS.len]; simp [killD],tm:=?_,ob:=hS.ob,apart:=hS.apart,below:=hS.below,mrk:=hS.mrk,lt:=hS.lt,one:=hS.one,ltN:=hS.ltN,ltT:=hS.ltT,size:=hS.size,arg:=hS.arg,pin:=hS.pin,defers:=hS.defers }
 intro i A' hA
 rcases killS_get hA with rfl | ⟨h1,h2,h3⟩
 ·trivial
 ·by_cases hd:A'.deep s = true
  ·cases A' with
   | vw s' p off t =>
    have e1:s' = s:=by simpa [A.deep] using hd
    subst e1
    have e2:p = []:=by simpa [A.deepS] using h2
    subst e2
    obtain ⟨u,L,bx,sh2,t2,x2,cs,hb,ho,hin,hpc,hv⟩:=hs.tm i _ h1
    rw [hob] at ho
    obtain ⟨rfl,rfl,rfl,_⟩:=tr_inj ho
    obtain ⟨L',hb'⟩:=hβ u L hb
    refine ⟨u,L',false,sh',t0,x',cs,hb',hob1,(fun h=>by cases h),?_,hv⟩
    rcases hpc with ⟨_,h4⟩ | ⟨g,q,cur,e,fz,h4,_⟩
    ·exact .inl ⟨rfl,h4⟩
    ·exact h4.elim
   | tp s' t =>
    have e1:s' = s:=by simpa [A.deep] using hd
    subst e1
    obtain ⟨u,L,bx,sh2,t2,x2,hb,ho,hin,hv⟩:=hs.tm i _ h1
    rw [hob] at ho
    obtain ⟨rfl,rfl,rfl,_⟩:=tr_inj ho
    obtain ⟨L',hb'⟩:=hβ u L hb
    exact ⟨u,L',false,sh',t0,x',hb',hob1,(fun h=>by cases h),hv⟩
   | pt s' p off t =>
    exfalso
    simp only [A.deep,Bool.and_eq_true] at hd
    simp only [A.deepS,hd.1,hd.2,Bool.and_self] at h2
    cases h2
   | _=>simp [A.deep] at hd
  ·exact hS.tm i A' (killD_of h1 (fun q hq=>by
    rcases List.mem_cons.1 hq with rfl | hq
    ·simpa using hd
    ·exact h3 q hq))
theorem run_storeCells {t:Nat} {i:TI} (ht:TGood P t i) {g off e:Nat} {cur:Array Value} (hg:w.heap[g]? = some (.cells cur e (0,0))) {v:Value} {cs:List Value} (hv:v = i.ty.val cs) (hl:cs.length = i.ty.sz) (h1:∀ u∈cs,u.oneCell' = true) (hb:off + i.ty.sz≤cur.size) :
  (Instr.storeAt t (.pointer (some ⟨g,off,none⟩)) v).run P w = .ok () (w.setRow g (cur.toList.take off ++ cs ++ cur.toList.drop (off + i.ty.sz)).toArray):=by
 have hvc:v.cells.toList = cs:=by rw [hv]; exact val_cells hl h1
 have hl:v.cells.toList.length = i.ty.sz:=by rw [hvc]; exact hl
 have h1:∀ u∈v.cells.toList,u.oneCell' = true:=by rw [hvc]; exact h1
 have hsz:=run_size ht w
 have hst:=run_storeCells_at (P:=P) g off e v.cells.toList 0 cur w hg (by rw [hl]; omega) h1
 rw [hl] at hst
 simp only [Nat.add_zero] at hst
 simp only [Array.length_toList] at hl
 rw [hvc] at hst
 simp [Instr.storeAt,Instr.sureAddr,storeVar,hsz,hl,hvc,hst]
/-- Putting a datum at a place of a tree: out of another one (zs), or frozen. -/
theorem Sim.tr_put (hs:Sim B okA w0 β st a w) {s:Nat} {bx:Bool} {sh:Sh} {t0:Ty} {x:t0.T} (hob:St.obj st.ob s = some (.tr bx sh t0 x)) {p:List Stp} {off:Nat} {t':Ty} {v:Value} (hv:RepA w (okD w B okA β st.ob) β st.ob (.pt s p off t') v)
  {t:Ty} {y y':t.T} {s1 s2:Sh} {x':t0.T} (hg:getP t0 x p off t = some y) (hsh:shGP sh t0 p off t = some s1) (hput:putP t0 x p off t y' = some x') (hs2:p = []∨s2 = s1)
  {cy:List Value} {L2:List Nat} (hcy:KS w (okD w B okA β st.ob false) s2 t y' cy L2) (hn2:L2.Nodup) (zs:Option Nat) (hz:match zs with | none=>L2 = [] | some z=>z≠s∧∃ o,St.obj st.ob z = some o∧(∃ shz tz xz,o = .tr false shz tz xz)∧∀ k∈L2,owns (β z) k) :
  ∃ g q cur e,v = .pointer (some ⟨g,q,none⟩)∧w.heap[g]? = some (.cells cur e (0,0))∧q + t.sz≤cur.size ∧
   ∃ β',Sim B okA w0 β' ⟨killD (s :: zs.toList) st.tm,(match zs with | none=>st.ob | some z=>st.ob.set z none).set s (some (.tr bx (newSh p sh t0 off t s2) t0 x'))⟩ a (w.setRow g (cur.toList.take q ++ cy ++ cur.toList.drop (q + t.sz)).toArray)∧∀ u L,β s = tupV u L→∃ L',β' s = tupV u L':=by
 obtain ⟨u,L,bx',sh',t1,x1,hb,hob',hv⟩:=hv
 rw [hob] at hob'
 obtain ⟨rfl,rfl,rfl,hx⟩:=tr_inj hob'
 have hx:x = x1:=hx
 subst hx
 obtain ⟨rc,Lr,hr⟩:=hs.root hob hb
 have hp:∃ g q,PtAt w L bx u p off g q∧v = .pointer (some ⟨g,q,none⟩):=by
  rcases hv with ⟨h1,h2,g,h3,h4⟩ | ⟨_,g,q,h1,h2⟩
  ·exact ⟨g,off,.inl ⟨h1,h2,h3,rfl⟩,h4⟩
  ·exact ⟨g,q,.inr h1,h2⟩
 obtain ⟨g,q,hp,hvp⟩:=hp
 obtain ⟨hgL,cur,e,hgc,hle,hfin⟩:=root_put hr hp hg hsh hput hs2
 refine ⟨g,q,cur,e,hvp,hgc,hle,?_⟩
 have hlt:=lt_of_obj hob
 generalize hrow:(cur.toList.take q ++ cy ++ cur.toList.drop (q + t.sz)).toArray = row
 have hnewg:(w.setRow g row).heap[g]? = some (.cells row e (0,0)):=setRow_heap _ _ _ _ _ _ hgc
 have hsz:(w.setRow g row).heap.size = w.heap.size:=by simp
 have hoth:∀ k,k≠g→(w.setRow g row).heap[k]? = w.heap[k]?:=fun k hk=>setRow_other _ _ _ _ hk
 have hgow:owns (β s) g:=by rw [hb]; exact owns_tup.2 hgL
 have hbel:Below g w (w.setRow g row):=below_setRow (Below.refl _ _) (Nat.le_refl g) _
 -- the footprint that comes is not the tree's own
 have hdis:∀ k∈L2,k∉L:=by
  intro k hk hkL
  cases zs with
  | none=>rw [show L2 = [] from hz] at hk; simp at hk
  | some z =>
   obtain ⟨hne,o',ho',_,hown⟩:=hz
   exact hne (hs.apart z s _ _ k ho' hob (hown k hk) (by rw [hb]; exact owns_tup.2 hkL))
 have hgno:∀ k,okD w B okA β st.ob false k→k≠g:=by
  rintro k hk rfl
  exact hk.2.1 ⟨s,_,hob,hgow⟩
 have hg2:∀ k∈L2,k≠g:=by
  rintro k hk rfl
  exact hdis k hk hgL
 have hcy1:KS (w.setRow g row) (okD w B okA β st.ob false) s2 t y' cy L2:=KS_step (fun k hk hlt'=>⟨hk,by omega,hoth k (hgno k hk)⟩) (fun k hk=>hoth k (hg2 k hk)) hcy
 obtain ⟨L',h1,h2,h3⟩:=hfin (w1:=w.setRow g row) (G1:=okD w B okA β st.ob false) (fun k hk hlt'=>⟨hk,by omega,hoth k (hgno k hk)⟩) (fun k _ hk=>hoth k hk) hnewg (by rw [← hrow]) hcy1 hn2 hdis
 have hzo:∀ z,zs = some z→z≠s∧∃ o,St.obj st.ob z = some o∧(∃ shz tz xz,o = .tr false shz tz xz)∧∀ k∈L2,owns (β z) k:=by
  rintro z rfl; exact hz
 have hO:∀ i,St.obj ((match zs with | none=>st.ob | some z=>st.ob.set z none).set s (some (.tr bx (newSh p sh t0 off t s2) t0 x'))) i = if s = i then some (.tr bx (newSh p sh t0 off t s2) t0 x') else if zs = some i then none else St.obj st.ob i:=by
  intro i
  rw [obj_set]
  cases zs with
  | none=>by_cases e1:s = i <;> simp [e1,hlt] <;> (intro h; omega)
  | some z =>
   have hzl:=lt_of_obj (hzo z rfl).2.choose_spec.1
   by_cases e1:s = i
   ·subst e1; simp [hlt]
   ·simp only [e1,false_and,if_false]
    rw [obj_set]
    by_cases e2:z = i
    ·subst e2; simp [hzl]
    ·simp [e2]
 refine ⟨upd β s (tupV u L'),?_,fun u3 L3 h3=>⟨L',by rw [hb] at h3; simp [upd,(tup_inj h3).1]⟩⟩
 refine hs.change (fun i=>i = s∨zs = some i) ⟨hbel.os,hbel.tape,hbel.output,by omega,fun k _ hk=>hoth k (fun e=>hk ⟨s,_,.inl rfl,hob,e ▸ hgow⟩)⟩ (by simp [killD,hs.len]) hs.defers ?_ ?_ ?_ ?_ ?_ ?_ ?_ ?_
 ·intro i hi
  have e1:s≠i:=fun e=>hi (.inl e.symm)
  have e2:zs≠some i:=fun e=>hi (.inr e)
  exact ⟨by rw [hO,if_neg e1,if_neg e2],by simp [upd,Ne.symm e1]⟩
 ·rintro i o' (rfl | hi) ho' e1 t1 xs1 rfl
  ·rw [hob] at ho'; cases ho'
  ·obtain ⟨_,o2,h5,h6,_⟩:=hzo i hi
   rw [h5] at ho'
   injection ho' with ho'
   subst ho'
   obtain ⟨_,_,_,h6⟩:=h6
   cases h6
 ·rintro i o' hi ho' e1 t1 xs1 rfl
  rw [hO] at ho'
  by_cases e2:s = i
  ·rw [if_pos e2] at ho'; cases ho'
  ·rw [if_neg e2] at ho'
   rcases hi with hi | hi
   ·exact e2 hi.symm
   ·rw [if_pos hi] at ho'; cases ho'
 ·intro i o' k hi ho' hk
  rw [hO] at ho'
  by_cases e1:s = i
  ·subst e1
   simp only [upd,if_true] at hk
   rcases h3 k (owns_tup.1 hk) with h5 | h5
   ·exact .inr ⟨s,_,.inl rfl,hob,by rw [hb]; exact owns_tup.2 h5⟩
   ·cases zs with
    | none=>rw [show L2 = [] from hz] at h5; simp at h5
    | some z =>
     obtain ⟨_,o2,h6,_,h7⟩:=hzo z rfl
     exact .inr ⟨z,o2,.inr rfl,h6,h7 k h5⟩
  ·rw [if_neg e1] at ho'
   rcases hi with hi | hi
   ·exact absurd hi.symm e1
   ·rw [if_pos hi] at ho'; cases ho'
 ·intro i i' o1 o2 k hi hi' h5 h6 _ _
  rw [hO] at h5 h6
  have key:∀ {i:Nat} {o1:Ob},(i = s∨zs = some i)→(if s = i then some (.tr bx (newSh p sh t0 off t s2) t0 x') else if zs = some i then none else St.obj st.ob i) = some o1→i = s:=by
   intro i o1 hi h5
   by_cases e1:s = i
   ·exact e1.symm
   ·rw [if_neg e1] at h5
    rcases hi with hi | hi
    ·exact hi
    ·rw [if_pos hi] at h5; cases h5
  rw [key hi h5,key hi' h6]
 ·intro hmv i o' hi ho'
  rw [hO] at ho'
  by_cases e1:s = i
  ·subst e1
   simp only [if_true,Option.some.injEq] at ho'
   subst ho'
   simp only [upd,if_true]
   refine RepO_tr ?_ h2 ?_
   ·-- the class of what is frozen
    have hmono:∀ k,okD w B okA β st.ob false k→k < (w.setRow g row).heap.size→okD (w.setRow g row) B okA (upd β s (tupV u L')) ((match zs with | none=>st.ob | some z=>st.ob.set z none).set s (some (.tr bx (newSh p sh t0 off t s2) t0 x'))) false k:=fun k hk hlt'=>(hmv false k hk (by omega)).1
    revert h1
    unfold TrIs
    cases bx with
    | true =>
     simp only [if_true]
     rintro ⟨g1,cs1,e1,L1,q1,q2,q3,q4⟩
     exact ⟨g1,cs1,e1,L1,q1,q2,q3,KS_step (fun k hk hlt'=>⟨hmono k hk hlt',hlt',rfl⟩) (fun _ _=>rfl) q4⟩
    | false =>
     simp only [Bool.false_eq_true,if_false]
     rintro ⟨cs1,q1,q2⟩
     exact ⟨cs1,q1,KS_step (fun k hk hlt'=>⟨hmono k hk hlt',hlt',rfl⟩) (fun _ _=>rfl) q2⟩
   ·intro k hk
    rcases h3 k hk with h5 | h5
    ·exact ((hs.ob s _ hob).lt (by rw [hb]; exact owns_tup.2 h5)).1
    ·cases zs with
     | none=>rw [show L2 = [] from hz] at h5; simp at h5
     | some z =>
      obtain ⟨_,o2,h6,_,h7⟩:=hzo z rfl
      exact ((hs.ob z _ h6).lt (h7 k h5)).1
  ·rw [if_neg e1] at ho'
   rcases hi with hi | hi
   ·exact absurd hi.symm e1
   ·rw [if_pos hi] at ho'; cases ho'
 ·intro hmv i A' hA'
  rcases killD_get hA' with rfl | ⟨hA',hd⟩
  ·exact .inl trivial
  ·have hrep:=hs.tm i A' hA'
   by_cases hsite:∃ s',A'.site = some s'∧(s' = s∨zs = some s')
   ·obtain ⟨s',hs1,hs2⟩:=hsite
    rcases hs2 with rfl | hs2
    ·obtain ⟨off',t'',u',L'',g',rfl,rfl,hb',hu,hvv⟩:=kill_rep hob hrep hs1 (hd s' (by simp))
     rw [hb] at hb'
     obtain ⟨rfl,rfl⟩:=tup_inj hb'
     refine .inl ?_
     rw [hvv]
     exact ⟨u,L',true,newSh p sh t0 off t s2,t0,x',by simp [upd],by rw [hO,if_pos rfl],.inl ⟨rfl,rfl,g',hu,rfl⟩⟩
    ·exfalso
     obtain ⟨hne,o2,h6,h7,_⟩:=hzo s' hs2
     obtain ⟨shz,tz,xz,rfl⟩:=h7
     obtain ⟨off',t'',u',L'',g',_,hbx,_⟩:=kill_rep h6 hrep hs1 (hd s' (by simp [hs2]))
     cases hbx
   ·exact .inr ⟨hrep,fun s' hs1 hs2=>hsite ⟨s',hs1,hs2⟩⟩
 ·intro h0 hz bx3 sh3 t3 x3 h1
  rw [hO] at h1
  by_cases e1:s = 0
  ·subst e1
   rw [if_pos rfl] at h1
   obtain ⟨rfl,_,_⟩:=tr_inj h1
   obtain ⟨L3,hL3⟩:=hs.pin h0 _ _ _ _ hob
   rw [hb] at hL3
   exact ⟨L',by simp [upd,(tup_inj hL3).1]⟩
  ·rw [if_neg e1] at h1
   rcases hz with hz | hz
   ·exact absurd hz.symm e1
   ·rw [if_pos hz] at h1; cases h1
end
end Go.Fil
