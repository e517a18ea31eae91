/- Functions that give trees, that write through pointers, that write the rows of what came in: gathered. -/
import Derived.Test.YtofllafpneanoaaGreatDoorFilR
set_option linter.unusedSectionVars false
namespace Go.Fil
open Go.RowKit
noncomputable section
set_option linter.unusedVariables false
set_option linter.unusedSimpArgs false
/-- A function that gives a tree. -/
structure SEnt (P:Program) where
 f:FuncId
 args:List Ty
 tp:Bool
 sh:Sh
 t:Ty
 g:(chain args).T→Option t.T
 ok:∀ x y,g x = some y→SOk P f (toDts args x) tp sh t y
def Sof {P:Program}:List (SEnt P)→FuncId→List Dt→Option SR
 | [],_,_=>none
 | e :: l,f,ds=>if f = e.f then (match ofDts e.args ds with | some x=>some ⟨e.tp,e.sh,e.t,e.g x⟩ | none=>none) else Sof l f ds
theorem Sof_ok {P:Program}:∀ (l:List (SEnt P)) (f:FuncId) (ds:List Dt) (r:SR) (y:r.t.T),Sof l f ds = some r→r.res = some y→SOk P f ds r.tp r.sh r.t y
 | [],_,_,_,_,h,_=>by simp [Sof] at h
 | e :: l,f,ds,r,y,h,hy=>by
  simp only [Sof] at h
  split at h
  ·rename_i hf
   subst hf
   split at h
   ·rename_i x hx
    injection h with h
    subst h
    have:=e.ok x y hy
    exact ⟨this.fn,fun w okA vs hok hv=>this.goes w okA vs hok (ofDts_ok hx hv)⟩
   ·cases h
  ·exact Sof_ok l f ds r y h hy
/-- A function that writes the rows of what came in. -/
structure TEnt (P:Program) where
 f:FuncId
 sh:Sh
 t:Ty
 g:t.T→Int→Option (Int × t.T)
 ok:∀ x k k' x',g x k = some (k',x')→TOk P f sh t x k k' x'
def castT {t t':Ty} (h:t' = t) (r:Option (Int × t'.T)):Option (Int × t.T):=h ▸ r
def Tof {P:Program}:List (TEnt P)→FuncId→Sh→(t:Ty)→Option (t.T→Int→Option (Int × t.T))
 | [],_,_,_=>none
 | e :: l,f,sh,t=>if h:(f = e.f∧sh = e.sh)∧t = e.t then some (fun x k=>castT h.2.symm (e.g (h.2 ▸ x) k)) else Tof l f sh t
theorem Tof_ok {P:Program}:∀ (l:List (TEnt P)) (f:FuncId) (sh:Sh) (t:Ty) (h:t.T→Int→Option (Int × t.T)),Tof l f sh t = some h→∀ x k r,h x k = some r→TOk P f sh t x k r.1 r.2
 | [],_,_,_,_,h=>by simp [Tof] at h
 | e :: l,f,sh,t,g,h=>by
  simp only [Tof] at h
  split at h
  ·rename_i hc
   obtain ⟨⟨rfl,rfl⟩,ht⟩:=hc
   subst ht
   injection h with h
   subst h
   intro x k r hr
   exact e.ok _ _ _ _ hr
  ·exact Tof_ok l f sh t g h
/-- A function that writes through a pointer. -/
structure PEnt (P:Program) where
 f:FuncId
 args:List Ty
 sh:Sh
 sh':Sh
 t:Ty
 g:t.T→(chain args).T→Option t.T
 ok:∀ x a x',g x a = some x'→POk P f sh t x (toDts args a) sh' x'
def castP {t t':Ty} (h:t' = t) (r:Option t'.T):Option t.T:=h ▸ r
def Pof {P:Program}:List (PEnt P)→FuncId→Sh→(t:Ty)→t.T→List Dt→Option (PR t)
 | [],_,_,_,_,_=>none
 | e :: l,f,sh,t,x,ds=>if h:(f = e.f∧sh = e.sh)∧t = e.t then (match ofDts e.args ds with | some a=>some ⟨e.sh',castP h.2.symm (e.g (h.2 ▸ x) a)⟩ | none=>none) else Pof l f sh t x ds
theorem Pof_ok {P:Program}:∀ (l:List (PEnt P)) (f:FuncId) (sh:Sh) (t:Ty) (x:t.T) (ds:List Dt) (r:PR t) (y:t.T),Pof l f sh t x ds = some r→r.res = some y→POk P f sh t x ds r.sh y
 | [],_,_,_,_,_,_,_,h,_=>by simp [Pof] at h
 | e :: l,f,sh,t,x,ds,r,y,h,hy=>by
  simp only [Pof] at h
  split at h
  ·rename_i hc
   obtain ⟨⟨rfl,rfl⟩,ht⟩:=hc
   subst ht
   split at h
   ·rename_i a ha
    injection h with h
    subst h
    have:=e.ok _ a y hy
    exact ⟨this.fn,fun w okA g cs e0 L vs h1 h2 h3 h4 h5=>this.goes w okA g cs e0 L vs h1 h2 h3 h4 (ofDts_ok ha h5)⟩
   ·cases h
  ·exact Pof_ok l f sh t x ds r y h hy
/-- A function that is given a pointer and gives one below it. -/
structure QEnt (P:Program) where
 f:FuncId
 args:List Ty
 sh:Sh
 t:Ty
 pth:t.T→(chain args).T→List Stp × Nat × Ty
 g:t.T→(chain args).T→Option t.T
 ok:∀ x a x',g x a = some x'→QOk P f sh t x (toDts args a) (x',pth x a)
def Qof {P:Program}:List (QEnt P)→FuncId→Sh→(t:Ty)→t.T→List Dt→Option ((List Stp × Nat × Ty) × Option t.T)
 | [],_,_,_,_,_=>none
 | e :: l,f,sh,t,x,ds=>if h:(f = e.f∧sh = e.sh)∧t = e.t then (match ofDts e.args ds with | some a=>some (e.pth (h.2 ▸ x) a,castP h.2.symm (e.g (h.2 ▸ x) a)) | none=>none) else Qof l f sh t x ds
theorem Qof_ok {P:Program}:∀ (l:List (QEnt P)) (f:FuncId) (sh:Sh) (t:Ty) (x:t.T) (ds:List Dt) (r:(List Stp × Nat × Ty) × Option t.T) (y:t.T),Qof l f sh t x ds = some r→r.2 = some y→QOk P f sh t x ds (y,r.1)
 | [],_,_,_,_,_,_,_,h,_=>by simp [Qof] at h
 | e :: l,f,sh,t,x,ds,r,y,h,hy=>by
  simp only [Qof] at h
  split at h
  ·rename_i hc
   obtain ⟨⟨rfl,rfl⟩,ht⟩:=hc
   subst ht
   split at h
   ·rename_i a ha
    injection h with h
    subst h
    have:=e.ok _ a y hy
    exact ⟨this.fn,fun w okA g cs e0 L vs h1 h2 h3 h4 h5=>this.goes w okA g cs e0 L vs h1 h2 h3 h4 (ofDts_ok ha h5)⟩
   ·cases h
  ·exact Qof_ok l f sh t x ds r y h hy
/-- A whole shape of one's own. -/
def shFull:Ty→Sh
 | .slice e t=>.ow (shFull t)
 | .pair a b=>if (Ty.pair a b).flat then .fz else .pr (shFull a) (shFull b)
 | _=>.fz
def shOf:List (Nat × Sh)→Nat→Option Sh
 | [],_=>none
 | (t,s) :: l,n=>if n = t then some s else shOf l n
structure TxB where
 tr:List Nat
 ov:List (Nat × Sh)
 wk:List (Nat × Sh)
def envT (G:Prg) (cs:List (Ent G.P)) (ss:List (SEnt G.P)) (ps:List (PEnt G.P)) (ts:List (TEnt G.P)) (qs:List (QEnt G.P)) (b:TxB) (k:Nat) (fT fS:Nat→List Nat):Env:=⟨tabOf G.tab,Cof cs,k,fT,fS,fun _ _ _ _=>none,fun _ _ _ _ _=>none,fun _ _ _=>none,fun _ _ _ _ _ _ _=>none,
 ⟨fun s=>b.tr.contains s,fun t=>match shOf b.ov t with | some s=>s | none=>(match tabOf G.tab t with | some i=>shFull i.ty | none=>.fz),shOf b.wk,Sof ss,Pof ps,Tof ts,Qof qs⟩⟩
theorem envT_ok (G:Prg) (cs:List (Ent G.P)) (ss:List (SEnt G.P)) (ps:List (PEnt G.P)) (ts:List (TEnt G.P)) (qs:List (QEnt G.P)) (b:TxB) (k:Nat) (fT fS:Nat→List Nat):EnvOk G.P (envT G cs ss ps ts qs b k fT fS):=⟨Qof_ok qs,Tof_ok ts,Pof_ok ps,Sof_ok ss,(fun _ _ _ _ h=>by cases h),(fun _ _ _ _ _ _ _ _ h=>by cases h),(fun _ _ _ _ _ _ h=>by cases h),(fun _ _ _ _ _ h=>by cases h),tab_ok G.ok,Cof_ok cs⟩
@[reducible] def mkEntT (G:Prg) (f:FuncId) (fn:Func) (hf:fnOk G f fn) (args:List Ty) (one:Bool) (t:Ty) (fr:Bool) (cs:List (Ent G.P)) (ss:List (SEnt G.P)) (ps:List (PEnt G.P)) (ts:List (TEnt G.P)) (qs:List (QEnt G.P)) (b:TxB) (k:Nat) (fT fS:Nat→List Nat):Ent G.P where
 f:=f
 args:=args
 one:=one
 t:=t
 fr:=fr
 ow:=false
 g:=fun x=>run (envT G cs ss ps ts qs b k fT fS) dokB one t fr fn (toDts args x)
 ok:=fun x=>run_ok (envT_ok G cs ss ps ts qs b k fT fS) G.mixed hf.at_ hf.body hf.name one t fr (toDts args x)
@[reducible] def mkSEnt (G:Prg) (f:FuncId) (fn:Func) (hf:fnOk G f fn) (args:List Ty) (sh:Sh) (t:Ty) (cs:List (Ent G.P)) (ss:List (SEnt G.P)) (ps:List (PEnt G.P)) (ts:List (TEnt G.P)) (qs:List (QEnt G.P)) (b:TxB) (k:Nat) (fT fS:Nat→List Nat):SEnt G.P where
 f:=f
 args:=args
 tp:=false
 sh:=sh
 t:=t
 g:=fun x=>runS (envT G cs ss ps ts qs b k fT fS) dokB sh t fn (toDts args x)
 ok:=fun x y h=>runS_ok (envT_ok G cs ss ps ts qs b k fT fS) G.mixed hf.at_ hf.body hf.name sh t (toDts args x) y h
@[reducible] def mkSEnt2 (G:Prg) (f:FuncId) (fn:Func) (hf:fnOk G f fn) (args:List Ty) (sh:Sh) (t:Ty) (cs:List (Ent G.P)) (ss:List (SEnt G.P)) (ps:List (PEnt G.P)) (ts:List (TEnt G.P)) (qs:List (QEnt G.P)) (b:TxB) (k:Nat) (fT fS:Nat→List Nat):SEnt G.P where
 f:=f
 args:=args
 tp:=true
 sh:=sh
 t:=t
 g:=fun x=>runS2 (envT G cs ss ps ts qs b k fT fS) dokB sh t fn (toDts args x)
 ok:=fun x y h=>runS2_ok (envT_ok G cs ss ps ts qs b k fT fS) G.mixed hf.at_ hf.body hf.name sh t (toDts args x) y h
@[reducible] def mkTEnt (G:Prg) (f:FuncId) (fn:Func) (hf:fnOk G f fn) (sh:Sh) (t:Ty) (cs:List (Ent G.P)) (ss:List (SEnt G.P)) (ps:List (PEnt G.P)) (ts:List (TEnt G.P)) (qs:List (QEnt G.P)) (b:TxB) (k:Nat) (fT fS:Nat→List Nat):TEnt G.P where
 f:=f
 sh:=sh
 t:=t
 g:=fun x n=>runT (envT G cs ss ps ts qs b k fT fS) dokB sh t fn x n
 ok:=fun x n n' x' h=>runT_ok (envT_ok G cs ss ps ts qs b k fT fS) G.mixed hf.at_ hf.body hf.name sh t x n n' x' h
@[reducible] def mkPEnt (G:Prg) (f:FuncId) (fn:Func) (hf:fnOk G f fn) (args:List Ty) (sh sh':Sh) (t:Ty) (cs:List (Ent G.P)) (ss:List (SEnt G.P)) (ps:List (PEnt G.P)) (ts:List (TEnt G.P)) (qs:List (QEnt G.P)) (b:TxB) (k:Nat) (fT fS:Nat→List Nat):PEnt G.P where
 f:=f
 args:=args
 sh:=sh
 sh':=sh'
 t:=t
 g:=fun x a=>runP (envT G cs ss ps ts qs b k fT fS) dokB sh sh' t fn x (toDts args a)
 ok:=fun x a x' h=>runP_ok (envT_ok G cs ss ps ts qs b k fT fS) G.mixed hf.at_ hf.body hf.name sh sh' t x (toDts args a) x' h
theorem K_split {w:World} {ok:Nat→Prop} (fr:Bool):∀ {t:Ty} {x:t.T} {cs:List Value},K w ok t x cs→All2 (fun d u=>V w ok d.t d.x u) (split fr t x) (tvals t cs)
 | .pair a b,x,cs,h=>by
  obtain ⟨c1,c2,rfl,h1,h2⟩:=h
  have l1:=K_len h1
  have e1:(c1 ++ c2).take a.sz = c1:=by rw [← l1,List.take_left' rfl]
  have e2:(c1 ++ c2).drop a.sz = c2:=by rw [← l1,List.drop_left' rfl]
  simp only [split,tvals,e1,e2]
  exact ⟨⟨c1,h1,rfl⟩,K_split fr h2⟩
 | .int _,_,_,_=>trivial
 | .bool,_,_,_=>trivial
 | .str,_,_,_=>trivial
 | .unit,_,_,_=>trivial
 | .slice _ _,_,_,_=>trivial
@[reducible] def mkQEnt (G:Prg) (f:FuncId) (fn:Func) (hf:fnOk G f fn) (args:List Ty) (sh:Sh) (t:Ty) (cs:List (Ent G.P)) (ss:List (SEnt G.P)) (ps:List (PEnt G.P)) (ts:List (TEnt G.P)) (qs:List (QEnt G.P)) (b:TxB) (k:Nat) (fT fS:Nat→List Nat) (pth:t.T→(chain args).T→List Stp × Nat × Ty) (g:t.T→(chain args).T→Option t.T) (h:∀ x a x',g x a = some x'→runQ (envT G cs ss ps ts qs b k fT fS) dokB sh t fn x (toDts args a) = some (x',pth x a)):QEnt G.P where
 f:=f
 args:=args
 sh:=sh
 t:=t
 pth:=pth
 g:=g
 ok:=fun x a x' hx=>runQ_ok (envT_ok G cs ss ps ts qs b k fT fS) G.mixed hf.at_ hf.body hf.name sh t x (toDts args a) _ (h x a x' hx)
theorem brQ {α β:Type} {c:Bool} {x x1:α} {p:β} (h:br c (some x) none = some x1):br c (some (x,p)) none = some (x1,p):=by
 cases c with
 | true=>simp only [br,Option.some.injEq] at h ⊢; rw [h]
 | false=>cases h
/-- A function that gives a tree, taken as one that gives data. -/
@[reducible] def SEnt.data {P:Program} (e:SEnt P) (hw:e.sh.whole = true) (hfn:∃ fn,P.funcs[e.f]? = some fn∧fn.body≠none∧fn.name≠"runtime.NumGoroutine"):Ent P where
 f:=e.f
 args:=e.args
 one:=!e.tp
 t:=e.t
 fr:=false
 ow:=false
 g:=e.g
 ok:=fun x=>⟨hfn,fun y hy w okA vs h1 h2=>((e.ok x y hy).goes w okA vs h1 h2).mono fun e' w' ⟨cs,L,h3,h4,h5,h6,h7⟩=>by
  refine ⟨_,h3,?_,(fun h=>by cases h),h7⟩
  have hK:K w' (fun k=>(okA k∨w.heap.size≤k)∧(false = true→w.heap.size≤k∧Plain w' k)) e.t y cs:=K_step (fun k hk hlt=>⟨⟨hk.elim (fun h=>h.1) (fun h=>.inr (h6 k h)),fun h=>by cases h⟩,hlt,rfl⟩) (KS_K hw h4)
  unfold RetV
  cases e.tp
  ·exact ⟨cs,hK,rfl⟩
  ·exact ⟨tvals e.t cs,rfl,K_split false hK⟩⟩
theorem KS_ofRow {w:World} {B:Nat} {ok ok':Nat→Prop} {e:Nat} {te:Ty} {xs:List te.T} {v:Value} (h:RowV w B ok v (.slice e te) xs) (hok:∀ k,ok k→blk v≠some k→ok' k):∃ L:List Nat,KS w ok' (.ow .fz) (.slice e te) xs [v] L∧L.Nodup∧(∀ k∈L,B≤k∧blk v = some k):=by
 obtain ⟨css,h1,h2⟩:=h
 letI:Lin:=⟨w,fun _=>False,fun _=>False,undef,fun _ _=>False,fun _=>False⟩
 refine ⟨v.ownBlock.toList,⟨v,css.map fun c=>(c,[]),rfl,?_,?_,?_⟩,?_,?_⟩
 ·have e1:((css.map fun c=>(c,([]:List Nat))).map Prod.fst) = css:=by
   rw [List.map_map]; exact List.map_id css
  rw [e1]
  refine ⟨h1.1,?_⟩
  rcases h1.2 with h3 | ⟨g,cap,cur,h3,h4,h5⟩
  ·exact .inl h3
  ·exact .inr ⟨g,cap,cur,h3,Nat.zero_le _,h5⟩
 ·clear h1
  induction css generalizing xs with
  | nil=>cases xs with
   | nil=>trivial
   | cons _ _=>exact h2.elim
  | cons c css ih=>cases xs with
   | nil=>exact h2.elim
   | cons x xs=>exact ⟨⟨rfl,K_step (fun k hk hlt=>⟨hok k hk.1 hk.2,hlt,rfl⟩) h2.1⟩,ih h2.2⟩
 ·have e2:((css.map fun c=>(c,([]:List Nat))).map Prod.snd).flatten = []:=by
   rw [List.map_map]
   induction css with
   | nil=>rfl
   | cons c css ih=>simp
  rw [e2,List.append_nil]
 ·cases v.ownBlock <;> simp
 ·intro k hk
  have hb:=own_blk h1
  rw [hb] at hk
  have hk:blk v = some k:=by simpa using hk
  exact ⟨(own_lt' h1 hk).1,hk⟩
/-- A function that gives a row of its own. -/
@[reducible] def Ent.tree {P:Program} (e:Ent P) (h1:e.one = true) (h2:e.ow = true) (ht:∃ q te,e.t = .slice q te):SEnt P where
 f:=e.f
 args:=e.args
 tp:=false
 sh:=.ow .fz
 t:=e.t
 g:=e.g
 ok:=fun x y hy=>⟨(e.ok x).fn,fun w okA vs hok hv=>((e.ok x).goes y hy w okA vs hok hv).mono fun e' w' ⟨v,h3,h4,h5,h6⟩=>by
  have h5:=h5 h2
  obtain ⟨q,te,ht⟩:=ht
  obtain ⟨f,args,one,t,fr,ow,g,ok⟩:=e
  simp only at h1 h2 ht
  subst ht
  obtain ⟨L,k1,k2,k3⟩:=KS_ofRow (ok':=fun k=>(okA k∨w.heap.size≤k)∧blk v≠some k) h5 (fun k hk hb=>⟨hk.1,hb⟩)
  refine ⟨[v],L,?_,KS_step (fun k hk hlt=>⟨⟨hk.1,fun h=>hk.2 (k3 k h).2⟩,hlt,rfl⟩) (fun _ _=>rfl) k1,k2,fun k hk=>(k3 k hk).1,h6⟩
  rw [h3]; rfl⟩
theorem fnOk.ex {G:Prg} {f:FuncId} {fn:Func} (h:fnOk G f fn):∃ fn,G.P.funcs[f]? = some fn∧fn.body≠none∧fn.name≠"runtime.NumGoroutine":=⟨fn,h.at_,h.body,h.name⟩
end
end Go.Fil
