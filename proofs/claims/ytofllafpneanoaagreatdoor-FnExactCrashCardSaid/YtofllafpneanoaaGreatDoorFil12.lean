/- Functions with their contracts, gathered; the table of the types. -/
import Derived.Test.YtofllafpneanoaaGreatDoorFil11
set_option linter.unusedSectionVars false
namespace Go.Fil
open Go.RowKit
noncomputable section
set_option linter.unusedVariables false
set_option linter.unusedSimpArgs false
/-- The arguments' kinds as one chain; the arguments of a chain; a chain out of data. -/
@[reducible] def chain:List Ty→Ty
 | []=>.unit
 | a :: as_=>.pair a (chain as_)
def toDts:(l:List Ty)→(chain l).T→List Dt
 | [],_=>[]
 | a :: as_,x=>⟨a,false,x.1⟩ :: toDts as_ x.2
def ofDts:(l:List Ty)→List Dt→Option (chain l).T
 | [],[]=>some ()
 | a :: as_,d :: ds=>match Ty.cast? d.t a d.x with
  | some y=>match ofDts as_ ds with
   | some ys=>some (y,ys)
   | none=>none
  | none=>none
 | _,_=>none
theorem ofDts_ok {w:World} {okA:Nat→Prop}:∀ {l:List Ty} {ds:List Dt} {x:(chain l).T} {vs:List Value},ofDts l ds = some x→All2 (fun d v=>V w okA d.t d.x v) ds vs→All2 (fun d v=>V w okA d.t d.x v) (toDts l x) vs
 | [],[],_,[],_,_=>trivial
 | a :: as_,⟨t,fr,z⟩ :: ds,x,v :: vs,h,hv=>by
  simp only [ofDts] at h
  split at h
  ·rename_i y hy
   split at h
   ·rename_i ys hys
    injection h with h
    subst h
    obtain ⟨e,hy⟩:=cast?_some hy
    have e:t = a:=e
    subst e
    have hy:y = z:=hy
    subst hy
    exact ⟨hv.1,ofDts_ok hys hv.2⟩
   ·cases h
  ·cases h
 | [],[],_,_ :: _,_,hv=>hv.elim
 | _ :: _,_ :: _,_,[],_,hv=>hv.elim
 | [],_ :: _,_,_,h,_=>by simp [ofDts] at h
 | _ :: _,[],_,_,h,_=>by simp [ofDts] at h
/-- A function of the program: what it is called with, what it comes to, and that it does. -/
structure Ent (P:Program) where
 f:FuncId
 args:List Ty
 one:Bool
 t:Ty
 fr:Bool
 ow:Bool
 g:(chain args).T→Option t.T
 ok:∀ x,CallOk P f (toDts args x) ⟨one,t,fr,ow,g x⟩
def Cof {P:Program}:List (Ent P)→FuncId→List Dt→Option CallR
 | [],_,_=>none
 | e :: l,f,ds=>if f = e.f then (match ofDts e.args ds with | some x=>some ⟨e.one,e.t,e.fr,e.ow,e.g x⟩ | none=>none) else Cof l f ds
theorem Cof_ok {P:Program}:∀ (l:List (Ent P)) (f:FuncId) (ds:List Dt) (c:CallR),Cof l f ds = some c→CallOk P f ds c
 | [],_,_,_,h=>by simp [Cof] at h
 | e :: l,f,ds,c,h=>by
  simp only [Cof] at h
  split at h
  ·rename_i hf
   subst hf
   split at h
   ·rename_i x hx
    injection h with h
    subst h
    exact ⟨(e.ok x).fn,fun y hy w okA vs hok hv=>(e.ok x).goes y hy w okA vs hok (ofDts_ok hx hv)⟩
   ·cases h
  ·exact Cof_ok l f ds c h
/-- The table's check, by evaluation. -/
def zeroIs:Ty→List Value→Bool
 | .int k,[.int k' 0]=>k = k'
 | .bool,[.bool false]=>true
 | .str,[.string ⟨⟨[]⟩⟩]=>true
 | .slice _ _,[.slice none 0 0]=>true
 | .unit,[]=>true
 | .pair a b,cs=>zeroIs a (cs.take a.sz) && zeroIs b (cs.drop a.sz)
 | _,_=>false
theorem zeroIs_ok:∀ {t:Ty} {cs:List Value},zeroIs t cs = true→cs = t.zcells:=by
 intro t
 induction t with
 | int k=>intro cs h; unfold zeroIs at h; split at h <;> simp_all [Ty.zcells]
 | bool=>intro cs h; unfold zeroIs at h; split at h <;> simp_all [Ty.zcells]
 | str=>intro cs h; unfold zeroIs at h; split at h <;> simp_all [Ty.zcells]
 | slice e t ih=>intro cs h; unfold zeroIs at h; split at h <;> simp_all [Ty.zcells]
 | unit=>intro cs h; unfold zeroIs at h; split at h <;> simp_all [Ty.zcells]
 | pair a b iha ihb =>
  intro cs h
  simp only [zeroIs,Bool.and_eq_true] at h
  have h1:=iha h.1
  have h2:=ihb h.2
  rw [Ty.zcells,← h1,← h2,List.take_append_drop]
def isAggV:Value→Bool
 | .agg _=>true
 | _=>false
def zeroValIs (t:Ty) (v:Value):Bool:=zeroIs t v.cells.toList && (isAggV v == t.agg)
theorem zeroValIs_ok {t:Ty} {v:Value} (h:zeroValIs t v = true):v = t.val t.zcells:=by
 unfold zeroValIs at h
 rw [Bool.and_eq_true] at h
 have h1:=zeroIs_ok h.1
 have h2:isAggV v = t.agg:=by simpa using h.2
 unfold Ty.val
 cases ha:t.agg
 ·rw [ha] at h2
  cases v <;> simp_all [isAggV,Value.cells] <;> rw [← h1] <;> rfl
 ·rw [ha] at h2
  cases v <;> simp_all [isAggV,Value.cells]
  rw [← h1]
def aggD:TypeDesc→Bool
 | .struct _=>true
 | .array _ _=>true
 | _=>false
def fldsOk (P:Program):List Field→List (Nat × Ty)→Bool
 | [],[]=>true
 | f :: fs,(off,t) :: l=>f.offset == off && ((P.info? f.type).map (·.size)) == some t.sz && decide (0 < t.sz) && ((P.underlying f.type).map aggD) == some t.agg && fldsOk P fs l
 | _,_=>false
def descIs (P:Program) (i:TI):TypeDesc→Bool
 | .int k=>decide (i.ty = .int k) && i.flds.isEmpty
 | .bool=>decide (i.ty = .bool) && i.flds.isEmpty
 | .string=>decide (i.ty = .str) && i.flds.isEmpty
 | .slice e=>(match i.ty with | .slice e' te=>decide (e = e') && ((P.info? e).map (·.size)) == some te.sz | _=>false) && i.flds.isEmpty
 | .struct fs=>(match i.ty with | .pair _ _=>fldsOk P fs.toList i.flds | _=>false) && i.arr.isNone
 | .array n e=>(match i.arr with | some (n',e',te)=>decide (n = n'∧e = e'∧i.ty = arrTy n te∧0 < n) && ((P.info? e).map (·.size)) == some te.sz | none=>false) && i.flds.isEmpty && !i.cmp
 | _=>false
def cmpFB (P:Program):Nat→List Field→Ty→Bool
 | _,[],.unit=>true
 | o,f :: fs,.pair a b=>f.name != "_" && f.offset == o && (match a,P.underlying f.type with | .int k,some (.int k')=>decide (k = k') | .bool,some .bool=>true | .str,some .string=>true | _,_=>false) && cmpFB P (o + 1) fs b
 | _,_,_=>false
theorem cmpFB_ok {P:Program}:∀ {fs:List Field} {o:Nat} {t:Ty},cmpFB P o fs t = true→CmpF P o fs t
 | [],o,t,h=>by cases t <;> simp_all [cmpFB,CmpF]
 | f :: fs,o,t,h=>by
  cases t with
  | pair a b =>
   simp only [cmpFB,Bool.and_eq_true,bne_iff_ne,beq_iff_eq] at h
   obtain ⟨⟨⟨h1,h2⟩,h3⟩,h4⟩:=h
   refine ⟨h1,h2,?_,cmpFB_ok h4⟩
   split at h3
   ·rename_i hd; simp only [decide_eq_true_eq] at h3; subst h3; exact hd
   ·rename_i hd; exact hd
   ·rename_i hd; exact hd
   ·cases h3
  | _=>simp [cmpFB] at h
def cmpB (P:Program) (t:Nat) (i:TI):Bool :=
 match P.underlying t with
 | some (.struct fs)=>!P.stoodInHeld t && !P.eqGuardType P.depth t && cmpFB P 0 fs.toList i.ty
 | _=>false
theorem cmpB_ok {P:Program} {t:Nat} {i:TI} (h:cmpB P t i = true):CmpOk P t i:=by
 unfold cmpB at h
 split at h
 ·rename_i fs hu
  simp only [Bool.and_eq_true,Bool.not_eq_true'] at h
  exact ⟨h.1.1,h.1.2,fs,hu,cmpFB_ok h.2⟩
 ·cases h
def tiOk (P:Program) (t:Nat) (i:TI):Bool :=
 match P.info? t,P.underlying t with
 | some inf,some d=>inf.size == i.ty.sz && inf.bytes == i.bytes && decide (0 < i.bytes) && (match inf.zero with | some z=>zeroValIs i.ty z | none=>false) && descIs P i d && (!i.cmp || cmpB P t i)
 | _,_=>false
theorem fldsOk_ok {P:Program}:∀ {fs:List Field} {l:List (Nat × Ty)},fldsOk P fs l = true→fs.length = l.length∧∀ (f off:Nat) (ft:Ty),l[f]? = some (off,ft)→∃ fld,fs[f]? = some fld∧fld.offset = off∧(∃ inf,P.info? fld.type = some inf∧inf.size = ft.sz)∧0 < ft.sz∧(∃ d',P.underlying fld.type = some d'∧(match d' with | .struct _ | .array _ _=>true | _=>false) = ft.agg)
 | [],[],_=>⟨rfl,fun f off ft h=>by simp at h⟩
 | x :: fs,(off,t) :: l,h=>by
  simp only [fldsOk,Bool.and_eq_true,beq_iff_eq,decide_eq_true_eq] at h
  obtain ⟨⟨⟨⟨h1,h2⟩,h3⟩,h4⟩,h5⟩:=h
  obtain ⟨h6,h7⟩:=fldsOk_ok h5
  refine ⟨by simp [h6],fun f off' ft hf=>?_⟩
  cases f with
  | zero =>
   simp only [List.getElem?_cons_zero,Option.some.injEq,Prod.mk.injEq] at hf
   obtain ⟨rfl,rfl⟩:=hf
   obtain ⟨inf,h8,h9⟩:=Option.map_eq_some_iff.1 h2
   obtain ⟨d',h10,h11⟩:=Option.map_eq_some_iff.1 h4
   exact ⟨x,rfl,h1,⟨inf,h8,h9⟩,h3,d',h10,by rw [← h11]; cases d' <;> rfl⟩
  | succ f=>exact h7 f off' ft (by simpa using hf)
 | [],_ :: _,h=>by simp [fldsOk] at h
 | _ :: _,[],h=>by simp [fldsOk] at h
theorem tiOk_ok {P:Program} {t:Nat} {i:TI} (h:tiOk P t i = true):TGood P t i:=by
 unfold tiOk at h
 split at h
 ·rename_i inf d hi hd
  simp only [Bool.and_eq_true,beq_iff_eq,decide_eq_true_eq] at h
  obtain ⟨⟨⟨⟨⟨h1,h2⟩,h3⟩,h4⟩,h5⟩,h6⟩:=h
  refine ⟨⟨inf,hi,h1,h2,?_⟩,h3,⟨d,hd,?_⟩,fun hc=>cmpB_ok (by simpa [hc] using h6)⟩
  ·cases hz:inf.zero with
   | none=>simp [hz] at h4
   | some z=>simp only [hz] at h4; rw [zeroValIs_ok h4]
  ·unfold descIs at h5
   unfold DescOk
   split at h5
   ·simp only [Bool.and_eq_true,decide_eq_true_eq,List.isEmpty_iff] at h5
    rw [h5.1]; exact ⟨rfl,h5.2⟩
   ·simp only [Bool.and_eq_true,decide_eq_true_eq,List.isEmpty_iff] at h5
    rw [h5.1]; exact ⟨rfl,h5.2⟩
   ·simp only [Bool.and_eq_true,decide_eq_true_eq,List.isEmpty_iff] at h5
    rw [h5.1]; exact ⟨rfl,h5.2⟩
   ·rename_i e
    simp only [Bool.and_eq_true,List.isEmpty_iff] at h5
    obtain ⟨h6,h7⟩:=h5
    split at h6
    ·rename_i e' te hy
     simp only [Bool.and_eq_true,decide_eq_true_eq,beq_iff_eq] at h6
     obtain ⟨rfl,h8⟩:=h6
     rw [hy]
     obtain ⟨inf',h9,h10⟩:=Option.map_eq_some_iff.1 h8
     exact ⟨rfl,h7,inf',h9,h10⟩
    ·cases h6
   ·rename_i fs
    rw [Bool.and_eq_true,Option.isNone_iff_eq_none] at h5
    obtain ⟨h5,harr⟩:=h5
    split at h5
    ·rename_i a b hy
     rw [hy]
     simp only [harr]
     obtain ⟨h6,h7⟩:=fldsOk_ok h5
     exact ⟨fs,rfl,by simpa using h6,fun f off ft hf=>by
      obtain ⟨fld,h8,h9⟩:=h7 f off ft hf
      exact ⟨fld,by simpa using h8,h9⟩⟩
    ·cases h5
   ·rename_i n e
    simp only [Bool.and_eq_true,List.isEmpty_iff] at h5
    obtain ⟨⟨h5,h7⟩,_⟩:=h5
    split at h5
    ·rename_i n' e' te harr
     simp only [Bool.and_eq_true,decide_eq_true_eq,beq_iff_eq] at h5
     obtain ⟨⟨rfl,rfl,h8,h9⟩,h10⟩:=h5
     obtain ⟨inf',h11,h12⟩:=Option.map_eq_some_iff.1 h10
     obtain ⟨m,rfl⟩:∃ m,n = m + 1:=⟨n - 1,by omega⟩
     have hp:i.ty = .pair te (arrTy m te):=h8
     rw [hp]
     simp only [harr]
     refine ⟨?_,h7,?_,inf',h11,h12⟩ <;> first | trivial | (rw [← hp]; exact h8)
    ·cases h5
   ·cases h5
 ·cases h
def tabOf:List (Nat × TI)→Nat→Option TI
 | [],_=>none
 | (t,i) :: l,n=>if n = t then some i else tabOf l n
theorem tab_ok {P:Program}:∀ {l:List (Nat × TI)},(l.all fun p=>tiOk P p.1 p.2) = true→∀ t i,tabOf l t = some i→TGood P t i
 | [],_,t,i,h=>by simp [tabOf] at h
 | (t',i') :: l,hl,t,i,h=>by
  simp only [List.all_cons,Bool.and_eq_true] at hl
  simp only [tabOf] at h
  split at h
  ·rename_i e; subst e
   injection h with h; subst h
   exact tiOk_ok hl.1
  ·exact tab_ok hl.2 t i h
/-- All that the functions of one program have in common. -/
structure Prg where
 P:Program
 tab:List (Nat × TI)
 ok:(tab.all fun p=>tiOk P p.1 p.2) = true
 mixed:P.follows .mixedOrders = true
def envOf (G:Prg) (cs:List (Ent G.P)) (k:Nat) (fT fS:Nat→List Nat):Env:=⟨tabOf G.tab,Cof cs,k,fT,fS,fun _ _ _ _=>none,fun _ _ _ _ _=>none,fun _ _ _=>none,fun _ _ _ _ _ _ _=>none,Tx.no⟩
theorem envOf_ok (G:Prg) (cs:List (Ent G.P)) (k:Nat) (fT fS:Nat→List Nat):EnvOk G.P (envOf G cs k fT fS):=⟨(fun _ _ _ _ _ _ _ h _=>by cases h),(fun _ _ _ _ h=>by cases h),(fun _ _ _ _ _ _ _ h _=>by cases h),(fun _ _ _ _ h _=>by cases h),(fun _ _ _ _ h=>by cases h),(fun _ _ _ _ _ _ _ _ h=>by cases h),(fun _ _ _ _ _ _ h=>by cases h),(fun _ _ _ _ _ h=>by cases h),tab_ok G.ok,Cof_ok cs⟩
structure fnOk (G:Prg) (f:FuncId) (fn:Func):Prop where
 at_:G.P.funcs[f]? = some fn
 ok:(fn.body.isSome && fn.name != "runtime.NumGoroutine") = true
theorem fnOk.body {G:Prg} {f:FuncId} {fn:Func} (h:fnOk G f fn):fn.body≠none:=by
 intro e; have:=h.ok; simp [e] at this
theorem fnOk.name {G:Prg} {f:FuncId} {fn:Func} (h:fnOk G f fn):fn.name≠"runtime.NumGoroutine":=by
 intro e; have:=h.ok; simp [e] at this
/-- A function by its code. -/
@[reducible] def mkEnt (G:Prg) (f:FuncId) (fn:Func) (hf:fnOk G f fn) (args:List Ty) (one:Bool) (t:Ty) (fr:Bool) (cs:List (Ent G.P)) (k:Nat) (fT fS:Nat→List Nat):Ent G.P where
 f:=f
 args:=args
 one:=one
 t:=t
 fr:=fr
 ow:=false
 g:=fun x=>run (envOf G cs k fT fS) dokB one t fr fn (toDts args x)
 ok:=fun x=>run_ok (envOf_ok G cs k fT fS) G.mixed hf.at_ hf.body hf.name one t fr (toDts args x)
/-- A function by its code that gives a row of its own; the same as one that gives data. -/
@[reducible] def mkEntO (G:Prg) (f:FuncId) (fn:Func) (hf:fnOk G f fn) (args:List Ty) (e:Nat) (te:Ty) (fr:Bool) (cs:List (Ent G.P)) (k:Nat) (fT fS:Nat→List Nat):Ent G.P where
 f:=f
 args:=args
 one:=true
 t:=.slice e te
 fr:=fr
 ow:=true
 g:=fun x=>runO (envOf G cs k fT fS) dokB e te fr fn (toDts args x)
 ok:=fun x=>runO_ok (envOf_ok G cs k fT fS) G.mixed hf.at_ hf.body hf.name e te fr (toDts args x)
@[reducible] def Ent.data {P:Program} (e:Ent P):Ent P:={ e with ow:=false,ok:=fun x=>⟨(e.ok x).fn,fun y hy w okA vs h1 h2=>((e.ok x).goes y hy w okA vs h1 h2).mono fun e' w' ⟨v,h3,h4,_,h5⟩=>⟨v,h3,h4,(fun h=>by cases h),h5⟩⟩ }
/-- A closure over one captured cell row; a function that takes a row and such a closure. -/
structure FEnt (P:Program) where
 f:FuncId
 c:Ty
 t:Ty
 g:t.T→c.T→Option Bool
 ok:∀ y,ClOk P f c y t (fun x=>g x y)
structure HEnt (P:Program) where
 f:FuncId
 e:Nat
 t:Ty
 f':FuncId
 c:Ty
 g:List t.T→c.T→Option Int
 ok:∀ xs y r,g xs y = some r→HOk P f e t xs f' c y r
def Fof {P:Program}:List (FEnt P)→FuncId→(c:Ty)→c.T→Option ((t:Ty) × (t.T→Option Bool))
 | [],_,_,_=>none
 | e :: l,f,c,y=>if h:f = e.f∧c = e.c then some ⟨e.t,fun x=>e.g x (h.2 ▸ y)⟩ else Fof l f c y
theorem Fof_ok {P:Program}:∀ (l:List (FEnt P)) (f:FuncId) (c:Ty) (y:c.T) (tp:(t:Ty) × (t.T→Option Bool)),Fof l f c y = some tp→ClOk P f c y tp.1 tp.2
 | [],_,_,_,_,h=>by simp [Fof] at h
 | e :: l,f,c,y,tp,h=>by
  simp only [Fof] at h
  split at h
  ·rename_i hc
   obtain ⟨rfl,hc2⟩:=hc
   subst hc2
   injection h with h
   subst h
   exact e.ok y
  ·exact Fof_ok l f c y tp h
def Hof {P:Program}:List (HEnt P)→FuncId→Nat→(t:Ty)→List t.T→FuncId→(c:Ty)→c.T→Option Int
 | [],_,_,_,_,_,_,_=>none
 | x :: l,f,e,t,xs,f',c,y=>if h:(f = x.f∧e = x.e∧f' = x.f')∧t = x.t∧c = x.c then x.g (h.2.1 ▸ xs) (h.2.2 ▸ y) else Hof l f e t xs f' c y
theorem Hof_ok {P:Program}:∀ (l:List (HEnt P)) (f:FuncId) (e:Nat) (t:Ty) (xs:List t.T) (f':FuncId) (c:Ty) (y:c.T) (r:Int),Hof l f e t xs f' c y = some r→HOk P f e t xs f' c y r
 | [],_,_,_,_,_,_,_,_,h=>by simp [Hof] at h
 | x :: l,f,e,t,xs,f',c,y,r,h=>by
  simp only [Hof] at h
  split at h
  ·rename_i hc
   obtain ⟨⟨rfl,rfl,rfl⟩,h1,h2⟩:=hc
   subst h1
   subst h2
   exact x.ok _ _ _ h
  ·exact Hof_ok l f e t xs f' c y r h
def envF (G:Prg) (cs:List (Ent G.P)) (fs:List (FEnt G.P)) (hs:List (HEnt G.P)) (k:Nat) (fT fS:Nat→List Nat):Env:=⟨tabOf G.tab,Cof cs,k,fT,fS,fun _ _ _ _=>none,fun _ _ _ _ _=>none,Fof fs,Hof hs,Tx.no⟩
theorem envF_ok (G:Prg) (cs:List (Ent G.P)) (fs:List (FEnt G.P)) (hs:List (HEnt G.P)) (k:Nat) (fT fS:Nat→List Nat):EnvOk G.P (envF G cs fs hs k fT fS):=⟨(fun _ _ _ _ _ _ _ h _=>by cases h),(fun _ _ _ _ h=>by cases h),(fun _ _ _ _ _ _ _ h _=>by cases h),(fun _ _ _ _ h _=>by cases h),Fof_ok fs,Hof_ok hs,(fun _ _ _ _ _ _ h=>by cases h),(fun _ _ _ _ _ h=>by cases h),tab_ok G.ok,Cof_ok cs⟩
theorem okD0 {w:World} {n k:Nat} {okA:Nat→Prop} (h:okA k):okD w w.heap.size okA (fun _=>undef) (List.replicate n none) false k:=⟨.inl h,(by
 rintro ⟨s,o,h,_⟩
 unfold St.obj at h
 rw [List.getElem?_replicate] at h
 split at h <;> cases h),fun h=>by cases h⟩
@[reducible] def mkFEnt (G:Prg) (f:FuncId) (fn:Func) (hf:fnOk G f fn) (c t:Ty) (hc:c.flat = true) (cs:List (Ent G.P)) (k:Nat) (fT fS:Nat→List Nat):FEnt G.P where
 f:=f
 c:=c
 t:=t
 g:=fun x y=>runA (envF G cs [] [] k fT fS) dokB .bool fn [.d t t.flat x,.rp c false y]
 ok:=fun y=>⟨⟨fn,hf.at_,hf.body,hf.name⟩,fun x b hb w okA u ad cs' hok hK hA hk hV=>by
  refine (runA_ok (envF_ok G cs [] [] k fT fS) G.mixed hf.at_ .bool _ b hb w okA [u,.pointer (some ad)] hok ⟨fun L=>?_,fun L=>?_,trivial⟩).mono ?_
  ·have h0:V w (okD w w.heap.size okA (fun _=>undef) (List.replicate fn.ntmps none) false) t x u:=V_step (fun k hk hlt=>⟨okD0 hk,hlt,rfl⟩) hV
   have h1:=V_fr h0
   simp only [Bool.false_or] at h1
   exact h1
  ·exact ⟨ad,cs',rfl,K_step (fun k hk hlt=>⟨okD0 hk,hlt,rfl⟩) hK,hA,okD0 hk,hok _ hk⟩
  ·rintro e w' ⟨v,rfl,h1,h2⟩
   exact ⟨by rw [bool_of_V h1],h2⟩⟩
@[reducible] def mkHEnt (G:Prg) (f:FuncId) (fn:Func) (hf:fnOk G f fn) (e:Nat) (t:Ty) (f':FuncId) (c:Ty) (cs:List (Ent G.P)) (fs:List (FEnt G.P)) (k:Nat) (fT fS:Nat→List Nat):HEnt G.P where
 f:=f
 e:=e
 t:=t
 f':=f'
 c:=c
 g:=fun xs y=>runA (envF G cs fs [] k fT fS) dokB (.int .i64) fn [.d (.slice e t) false xs,.fnv f' c y]
 ok:=fun xs y r hr=>⟨⟨fn,hf.at_,hf.body,hf.name⟩,fun w okA u v hok hV hF=>by
  refine (runA_ok (envF_ok G cs fs [] k fT fS) G.mixed hf.at_ (.int .i64) _ r hr w okA [u,v] hok ⟨fun L=>?_,fun L=>?_,trivial⟩).mono ?_
  ·exact V_step (fun k hk hlt=>⟨okD0 hk,hlt,rfl⟩) hV
  ·obtain ⟨ad,cs',h1,h2,h3,h4,h5⟩:=hF
   exact ⟨ad,cs',h1,K_step (fun k hk hlt=>⟨okD0 hk,hlt,rfl⟩) h2,h3,okD0 h4,h5⟩
  ·rintro e w' ⟨v,rfl,h1,h2⟩
   exact ⟨by rw [int_of_V h1],h2⟩⟩
/-- A function by its code, where functions are values. -/
@[reducible] def mkEntF (G:Prg) (f:FuncId) (fn:Func) (hf:fnOk G f fn) (args:List Ty) (one:Bool) (t:Ty) (fr:Bool) (cs:List (Ent G.P)) (fs:List (FEnt G.P)) (hs:List (HEnt G.P)) (k:Nat) (fT fS:Nat→List Nat):Ent G.P where
 f:=f
 args:=args
 one:=one
 t:=t
 fr:=fr
 ow:=false
 g:=fun x=>run (envF G cs fs hs k fT fS) dokB one t fr fn (toDts args x)
 ok:=fun x=>run_ok (envF_ok G cs fs hs k fT fS) G.mixed hf.at_ hf.body hf.name one t fr (toDts args x)
/-- States told by what is in them. -/
def mkSt (n:Nat) (l:List (Nat × A)) (ob:List (Nat × Ob)):St:=⟨l.foldl (fun s p=>s.set p.1 p.2) (List.replicate n .und),ob.foldl (fun s p=>s.set p.1 (some p.2)) (List.replicate n none)⟩
end
end Go.Fil
