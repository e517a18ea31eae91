/- An evaluator of code over data (no memory but the call's own blocks). -/
import Derived.Test.YtofllafpneanoaaGreatDoorFilL
set_option linter.unusedVariables false
set_option linter.unusedSimpArgs false
namespace Go.Fil
open Go.RowKit
noncomputable section
def Ty.cast? (a b:Ty) (x:a.T):Option b.T:=if h:a = b then some (h ▸ x) else none
/-- The part of kind t that begins at cell off. -/
def sub:(t0:Ty)→t0.T→Nat→(t:Ty)→Option t.T
  | .pair a b,x,off,t=>if off = 0∧Ty.pair a b = t then Ty.cast? (.pair a b) t x else if off < a.sz then sub a x.1 off t else sub b x.2 (off - a.sz) t
  | t0,x,off,t=>if off = 0 then Ty.cast? t0 t x else none
def put:(t0:Ty)→t0.T→Nat→(t:Ty)→t.T→Option t0.T
  | .pair a b,x,off,t,y=>if off = 0∧Ty.pair a b = t then Ty.cast? t (.pair a b) y else if off < a.sz then (put a x.1 off t y).map (fun z=>(z,x.2)) else (put b x.2 (off - a.sz) t y).map (fun z=>(x.1,z))
  | t0,_,off,t,y=>if off = 0 then Ty.cast? t t0 y else none
/-- How a datum is held: frozen; taken out; a row of one's own, with elements so; a pair; a row of one's own whose elements below n are taken out. -/
inductive Sh where
  | fz
  | mv
  | ow (s:Sh)
  | pr (a b:Sh)
  | ct (s:Sh) (n:Int)
  deriving DecidableEq
/-- A step: into element i of the row (elements e, of kind te) at cell o. -/
structure Stp where
  o:Nat
  e:Nat
  te:Ty
  i:Int
def getP:(t0:Ty)→t0.T→List Stp→Nat→(t:Ty)→Option t.T
  | t0,x,[],off,t=>sub t0 x off t
  | t0,x,q :: p,off,t=>match sub t0 x q.o (.slice q.e q.te) with
    | some xs=>getP q.te (List.getD xs q.i.toNat q.te.zero) p off t
    | none=>none
def putP:(t0:Ty)→t0.T→List Stp→Nat→(t:Ty)→t.T→Option t0.T
  | t0,x,[],off,t,y=>put t0 x off t y
  | t0,x,q :: p,off,t,y=>match sub t0 x q.o (.slice q.e q.te) with
    | some xs=>match putP q.te (List.getD xs q.i.toNat q.te.zero) p off t y with
      | some z=>put t0 x q.o (.slice q.e q.te) (List.set xs q.i.toNat z)
      | none=>none
    | none=>none
def Sh.l:Sh→Sh
  | .pr a _=>a
  | .fz=>.fz
  | _=>.mv
def Sh.r:Sh→Sh
  | .pr _ b=>b
  | .fz=>.fz
  | _=>.mv
/-- The shape of the part of kind t at cell off. -/
def shG:Sh→Ty→Nat→Ty→Option Sh
  | s,.pair a b,off,t=>if off = 0∧Ty.pair a b = t then some s else if off < a.sz then shG s.l a off t else shG s.r b (off - a.sz) t
  | s,t0,off,t=>if off = 0∧t0 = t then some s else none
def shP:Sh→Ty→Nat→Ty→Sh→Sh
  | s,.pair a b,off,t,z=>if off = 0∧Ty.pair a b = t then z else if off < a.sz then .pr (shP s.l a off t z) s.r else .pr s.l (shP s.r b (off - a.sz) t z)
  | _,_,_,_,z=>z
def Sh.isFz:Sh→Bool
  | .fz=>true
  | _=>false
/-- Nothing is taken out. -/
def Sh.whole:Sh→Bool
  | .fz=>true
  | .mv=>false
  | .ow s=>s.whole
  | .pr a b=>a.whole && b.whole
  | .ct _ _=>false
def shGP:Sh→Ty→List Stp→Nat→Ty→Option Sh
  | s,t0,[],off,t=>shG s t0 off t
  | s,t0,q :: p,off,t=>match shG s t0 q.o (.slice q.e q.te) with
    | some (.ow s')=>shGP s' q.te p off t
    | _=>none
structure Dt where
  t:Ty
  fr:Bool
  x:t.T
inductive A where
  | und
  | nil
  | d (t:Ty) (fr:Bool) (x:t.T)
  | tup (l:List Dt)
  | rp (t:Ty) (fr:Bool) (x:t.T)
  | ptr (s off:Nat) (t:Ty)
  | ep (s:Nat) (i:Int) (off:Nat) (t:Ty)
  | own (s:Nat)
  | no
  | lin (t:Ty) (x:t.T)
  | lp (t:Ty) (x:t.T)
  | lb (t:Ty) (x:t.T)
  | xr
  | xp (i:Int) (off:Nat) (t:Ty)
  | od (c:Nat) (t:Ty) (x:t.T)
  | orp (c:Nat) (t:Ty) (x:t.T)
  | fnv (f:FuncId) (c:Ty) (y:c.T)
  | pt (s:Nat) (p:List Stp) (off:Nat) (t:Ty)
  | vw (s:Nat) (p:List Stp) (off:Nat) (t:Ty)
  | z (t:Ty) (x:t.T)
  | pb (s:Nat) (off:Nat) (t:Ty)
  | pv (t:Ty)
  | tp (s:Nat) (t:Ty)
inductive Ob where
  | box (t:Ty) (fr:Bool) (x:t.T)
  | arr (e:Nat) (t:Ty) (fr:Bool) (xs:List t.T)
  | row (e:Nat) (t:Ty) (xs:List t.T)
  | tr (bx:Bool) (sh:Sh) (t:Ty) (x:t.T)
/-- The values of a tuple's parts; one of them. -/
def tvals:Ty→List Value→List Value
  | .pair a b,cs=>a.val (cs.take a.sz) :: tvals b (cs.drop a.sz)
  | _,_=>[]
def tupOf (t:Ty) (cs:List Value):Value:=.tuple (tvals t cs).toArray
def nth:Ty→Nat→Option (Nat × Ty)
  | .pair a _,0=>some (0,a)
  | .pair a b,n + 1=>(nth b n).map fun q=>(a.sz + q.1,q.2)
  | _,_=>none
/-- What is flat is known; of the rest, nothing. -/
def flatSh:Ty→Sh
  | .pair a b=>if (Ty.pair a b).flat then .fz else .pr (flatSh a) (flatSh b)
  | t=>if t.flat then .fz else .mv
def flOk:Sh→Ty→Bool
  | s,.pair a b=>if (Ty.pair a b).flat then s.whole else flOk s.l a && flOk s.r b
  | s,t=>if t.flat then s.whole else true
def Ty.el:Ty→Ty
  | .slice _ t=>t
  | t=>t
/-- A shape that says less. -/
def Sh.le:Sh→Sh→Bool
  | .fz,b=>b.whole
  | .ow a,.ow b=>a.le b
  | .pr a b,.pr c d=>a.le c && b.le d
  | .mv,.mv=>true
  | .ct a n,.ow b=>decide (n = 0) && decide (a = b)
  | .ct a n,.ct b m=>decide (n = m) && decide (a = b)
  | _,_=>false
/-- A shape that a kind can have. -/
def Sh.fits:Sh→Ty→Bool
  | .fz,_=>true
  | .ow s,.slice _ t=>s.fits t
  | .pr a b,.pair t u=>a.fits t && b.fits u
  | _,_=>false
/-- Nothing is frozen but what is flat. -/
def Sh.full:Sh→Ty→Bool
  | .fz,t=>t.flat
  | .ow s,.slice _ t=>s.full t
  | .pr a b,.pair t u=>a.full t && b.full u
  | _,_=>false
def newSh (p:List Stp) (sh:Sh) (t0:Ty) (off:Nat) (t:Ty) (s2:Sh):Sh:=match p with
  | []=>if shG sh t0 off t = some s2 then sh else shP sh t0 off t s2
  | _=>sh
/-- What is read at a place. -/
def rdA (s1:Sh) (t:Ty) (y:t.T) (v:A):A:=if t.flat && s1.whole then .d t true y else if s1.isFz then .d t false y else v
structure St where
  tm:List A
  ob:List (Option Ob)
def arrTy:Nat→Ty→Ty
  | 0,_=>.unit
  | n + 1,t=>.pair t (arrTy n t)
structure TI where
  ty:Ty
  bytes:Nat
  flds:List (Nat × Ty)
  cmp:Bool:=false
  arr:Option (Nat × Nat × Ty):=none
/-- What a call comes to: one datum (one), or a tuple of those in t. -/
structure CallR where
  one:Bool
  t:Ty
  fr:Bool
  ow:Bool
  res:Option t.T
/-- What a call comes to that gives a tree of its own. -/
structure SR where
  tp:Bool
  sh:Sh
  t:Ty
  res:Option t.T
def resA (tp:Bool) (s:Nat) (t:Ty):A:=if tp then .tp s t else .vw s [] 0 t
/-- What a call comes to that writes through its first argument, a pointer. -/
structure PR (t:Ty) where
  sh:Sh
  res:Option t.T
/-- How trees are told: where they are made, the shape of what is zero, what is weakened where it is made, calls that give them, write through a pointer, write rows. -/
structure Tx where
  tr:Nat→Bool
  shT:Nat→Sh
  wk:Nat→Option Sh
  S:FuncId→List Dt→Option SR
  P:FuncId→Sh→(t:Ty)→t.T→List Dt→Option (PR t)
  X:FuncId→Sh→(t:Ty)→Option (t.T→Int→Option (Int × t.T))
  Q:FuncId→Sh→(t:Ty)→t.T→List Dt→Option ((List Stp × Nat × Ty) × Option t.T)
def Tx.no:Tx:=⟨fun _=>false,fun _=>.fz,fun _=>none,fun _ _=>none,fun _ _ _ _ _=>none,fun _ _ _=>none,fun _ _ _ _ _=>none⟩
structure Env where
  T:Nat→Option TI
  C:FuncId→List Dt→Option CallR
  fuel:Nat
  fgT:Nat→List Nat
  fgS:Nat→List Nat
  L:FuncId→(t:Ty)→t.T→Int→Option Int
  X:FuncId→Nat→(t:Ty)→List t.T→Int→Option (Int × List t.T)
  F:FuncId→(c:Ty)→c.T→Option ((t:Ty) × (t.T→Option Bool))
  H:FuncId→Nat→(t:Ty)→List t.T→FuncId→(c:Ty)→c.T→Option Int
  tx:Tx
variable {ρ:Type}
/-- A datum told once. -/
def lt {α:Type} (x:α) (f:α→Option ρ):Option ρ:=f x
def br (c:Bool) (x y:Option ρ):Option ρ:=match c with | true=>x | false=>y
open Classical in
/-- Whichever of the two: they come to the same. -/
def both (x y:Option ρ):Option ρ:=if x = y then x else none
theorem both_some {x y:Option ρ} {r:ρ} (h:both x y = some r):x = some r∧y = some r:=by
  unfold both at h
  split at h
  · rename_i e; exact ⟨h,e ▸ h⟩
  · cases h
def St.set (st:St) (dst:Option Tmp) (a:A):St:=match dst with | some d=>{ st with tm:=st.tm.set d a } | none=>st
def St.obj (ob:List (Option Ob)) (s:Nat):Option Ob:=(ob[s]?).join
def constA:Value→A
  | .int k n=>.d (.int k) true n
  | .bool b=>.d .bool true b
  | .string s=>.d .str true s
  | .slice none 0 0=>.nil
  | _=>.und
def St.val (st:St):Operand→A
  | .tmp t=>st.tm.getD t .und
  | .const v=>constA v
  | _=>.und
def A.site:A→Option Nat
  | .ptr s _ _=>some s
  | .ep s _ _ _=>some s
  | .own s=>some s
  | .xr=>some 0
  | .xp _ _ _=>some 0
  | .pt s _ _ _=>some s
  | .vw s _ _ _=>some s
  | .tp s _=>some s
  | _=>none
def bt (s:ByteArray) (i:Int):Int:=((s.data[i.toNat]?).getD 0).toNat
def strEq (x y:ByteArray):Bool:=x.toList == y.toList
def strLt (x y:ByteArray):Bool:=Op.bytesLess x.toList y.toList
def strOf (xs:List Int):ByteArray:=xs.foldl (fun r n=>r.push (UInt8.ofNat n.toNat)) ByteArray.empty
def bits (op:BinOp) (k:IntKind) (x y:Int):Int :=
  let a:=BitVec.ofInt k.bits x
  let b:=BitVec.ofInt k.bits y
  k.wrap (match op with | .and=>a &&& b | .or=>a ||| b | .xor=>a ^^^ b | _=>a &&& ~~~b).toNat
/-- Two data of the same flat kind alike. -/
def eqT:(t:Ty)→t.T→t.T→Bool
  | .int _,x,y=>x == y
  | .bool,x,y=>x == y
  | .str,x,y=>x == y
  | .pair a b,x,y=>eqT a x.1 y.1 && eqT b x.2 y.2
  | .unit,_,_=>true
  | .slice _ _,_,_=>false
def intK (op:BinOp) (k:IntKind) (x y:Int) (K:A→Option ρ):Option ρ :=
  match op with
  | .add=>K (.d (.int k) true (k.wrap (x + y)))
  | .sub=>K (.d (.int k) true (k.wrap (x - y)))
  | .mul=>K (.d (.int k) true (k.wrap (x * y)))
  | .quo=>br (decide (y = 0)) none (K (.d (.int k) true (k.wrap (x.tdiv y))))
  | .rem=>br (decide (y = 0)) none (K (.d (.int k) true (x.tmod y)))
  | .and=>K (.d (.int k) true (bits .and k x y))
  | .or=>K (.d (.int k) true (bits .or k x y))
  | .xor=>K (.d (.int k) true (bits .xor k x y))
  | .andNot=>K (.d (.int k) true (bits .andNot k x y))
  | .eql=>K (.d .bool true (x == y))
  | .neq=>K (.d .bool true (x != y))
  | .lss=>K (.d .bool true (decide (x < y)))
  | .leq=>K (.d .bool true (decide (x≤y)))
  | .gtr=>K (.d .bool true (decide (x > y)))
  | .geq=>K (.d .bool true (decide (x ≥ y)))
  | _=>none
def shK (op:BinOp) (k:IntKind) (x y:Int) (K:A→Option ρ):Option ρ :=
  match op with
  | .shl=>br (decide (y < 0)) none (K (.d (.int k) true (k.wrap (x * 2 ^ (min y.toNat k.bits)))))
  | .shr=>br (decide (y < 0)) none (K (.d (.int k) true (x.fdiv (2 ^ (min y.toNat k.bits)))))
  | _=>none
def strK (op:BinOp) (x y:ByteArray) (K:A→Option ρ):Option ρ :=
  match op with
  | .add=>br (decide (x.size + y.size≤9223372036854775807)) (K (.d .str true (x ++ y))) none
  | .eql=>K (.d .bool true (strEq x y))
  | .neq=>K (.d .bool true (!strEq x y))
  | .lss=>K (.d .bool true (strLt x y))
  | .leq=>K (.d .bool true (strLt x y || strEq x y))
  | .gtr=>K (.d .bool true (!(strLt x y || strEq x y)))
  | .geq=>K (.d .bool true (!strLt x y))
  | _=>none
def boolK (op:BinOp) (x y:Bool) (K:A→Option ρ):Option ρ :=
  match op with
  | .eql=>K (.d .bool true (x == y))
  | .neq=>K (.d .bool true (!(x == y)))
  | _=>none
def isShift:BinOp→Bool
  | .shl=>true
  | .shr=>true
  | _=>false
def binK (E:Env) (op:BinOp) (xt:Nat) (a b:A) (K:A→Option ρ):Option ρ :=
  match a,b with
  | .d (.int k) _ x,.d (.int k') _ y=>if isShift op then shK op k x y K else if k = k' then intK op k x y K else none
  | .d .str _ x,.d .str _ y=>strK op x y K
  | .d .bool _ x,.d .bool _ y=>match E.T xt with
    | some i=>if i.ty = .bool then boolK op x y K else none
    | none=>none
  | .d (.pair a b) _ x,.d (.pair a' b') _ y=>match E.T xt with
    | some i=>if i.cmp = true∧i.ty = .pair a b then (match Ty.cast? (.pair a' b') (.pair a b) y with
      | some z=>boolK op (eqT (.pair a b) x z) true K
      | none=>none) else none
    | none=>none
  | _,_=>none
/-- Data handed on as a value of type tid. -/
def dtOf (E:Env) (tid:Nat) (a:A):Option Dt :=
  match a,E.T tid with
  | .d t fr x,some i=>if i.ty = t then some ⟨t,fr,x⟩ else none
  | .nil,some i=>match i.ty with | .slice e t=>some ⟨.slice e t,true,[]⟩ | _=>none
  | .od _ t x,some i=>if i.ty = t then some ⟨t,false,x⟩ else none
  | _,_=>none
def dts (E:Env):List Nat→List A→Option (List Dt)
  | t :: ts,a :: as_=>(dtOf E t a).bind fun d=>(dts E ts as_).map fun ds=>d :: ds
  | [],[]=>some []
  | _,_=>none
def split (fr:Bool):(t:Ty)→t.T→List Dt
  | .pair a b,x=>⟨a,fr,x.1⟩ :: split fr b x.2
  | _,_=>[]
def retA (one:Bool) (t:Ty) (fr:Bool) (x:t.T):A:=if one then .d t (fr || t.flat) x else .tup (split fr t x)
def lenK (ob:List (Option Ob)) (a:A) (K:A→Option ρ):Option ρ :=
  match a with
  | .d (.slice _ _) _ xs=>K (.d (.int .i64) true (xs.length:Int))
  | .d .str _ s=>K (.d (.int .i64) true (s.size:Int))
  | .nil=>K (.d (.int .i64) true (0:Int))
  | .lin (.slice _ _) xs=>K (.d (.int .i64) true (xs.length:Int))
  | .own s=>match St.obj ob s with | some (.arr _ _ _ xs)=>K (.d (.int .i64) true (xs.length:Int)) | _=>none
  | .xr=>match St.obj ob 0 with | some (.row _ _ xs)=>K (.d (.int .i64) true (xs.length:Int)) | _=>none
  | .vw s p off (.slice e te)=>match St.obj ob s with
    | some (.tr _ sh t0 x)=>match getP t0 x p off (.slice e te),shGP sh t0 p off (.slice e te) with
      | some xs,some (.ow _)=>K (.d (.int .i64) true (List.length xs:Int))
      | _,_=>none
    | _=>none
  | _=>none
def bndK (a:A) (top:Nat) (K:Nat→Option ρ):Option ρ :=
  match a with
  | .d (.int _) _ i=>br (decide (0≤i) && decide (i≤top)) (K i.toNat) none
  | _=>none
def fieldsPut (i:TI) (x:i.ty.T) (fr:Bool):List (Nat × A)→Option (i.ty.T × Bool)
  | []=>some (x,fr)
  | (f,.d t fr' y) :: r=>match i.flds[f]? with
    | some (off,ft)=>if ft = t then (put i.ty x off t y).bind fun x'=>fieldsPut i x' (fr && fr') r else none
    | none=>none
  | (f,.nil) :: r=>match i.flds[f]? with
    | some (off,.slice e t)=>(put i.ty x off (.slice e t) []).bind fun x'=>fieldsPut i x' fr r
    | _=>none
  | _=>none
def builtinLenK (E:Env) (ob:List (Option Ob)) (t:Nat) (v:A) (K:A→Option ρ):Option ρ :=
  match E.T t with
  | some i=>match i.ty with
    | .slice _ _=>match v with | .d .str _ _=>none | v=>lenK ob v K
    | .str=>match v with | .d .str fr x=>lenK ob (.d .str fr x) K | _=>none
    | _=>none
  | none=>none
def callK (E:Env) (f:FuncId) (ts:List Nat) (as_:List A) (K:A→Option ρ):Option ρ :=
  match dts E ts as_ with
  | some ds=>match E.C f ds with | some r=>r.res.bind fun y=>K (retA r.one r.t r.fr y) | none=>none
  | none=>none
/-- The place that a number tells, out of q, q + 1, .. -/
def pickK (j:Int) (K:Nat→Option ρ):Nat→Nat→Option ρ
  | _,0=>none
  | q,m + 1=>br (decide (j = (q:Int))) (K q) (pickK j K (q + 1) m)
def minK (a b:A) (K:A→Option ρ):Option ρ :=
  match a,b with
  | .d (.int k) _ x,.d (.int k') _ y=>if k = k' then K (.d (.int k) true (if y < x then y else x)) else none
  | _,_=>none
def maxK (a b:A) (K:A→Option ρ):Option ρ :=
  match a,b with
  | .d (.int k) _ x,.d (.int k') _ y=>if k = k' then K (.d (.int k) true (if y > x then y else x)) else none
  | _,_=>none
/-- Operations that make a value and change none of the call's own blocks. -/
def compK (E:Env) (o:Oper) (val:Operand→A) (ob:List (Option Ob)) (K:A→Option ρ):Option ρ :=
  match o.op with
  | .move x=>K (val x)
  | .assign x=>K (val x)
  | .pick c a b=>match val c with
    | .d .bool _ b0=>br b0 (K (val a)) (K (val b))
    | _=>none
  | .load t a=>match E.T t,val a with
    | some i,.rp t' fr x=>match Ty.cast? t' i.ty x with | some y=>K (.d i.ty (fr || i.ty.flat) y) | none=>none
    | some i,.ptr s off _=>match St.obj ob s with
      | some (.box t0 fr x)=>match sub t0 x off i.ty with | some y=>K (.d i.ty (fr || i.ty.flat) y) | none=>none
      | _=>none
    | some i,.orp c t' x=>match Ty.cast? t' i.ty x with | some y=>K (.od c i.ty y) | none=>none
    | some i,.lb t' x=>match Ty.cast? t' i.ty x with | some y=>K (.lin i.ty y) | none=>none
    | some i,.lp (.slice e t') x=>match Ty.cast? (.slice e t') i.ty x with | some y=>K (.lin i.ty y) | none=>none
    | some i,.ep s j off _=>match St.obj ob s with
      | some (.arr _ te fr xs)=>match sub te (xs.getD j.toNat te.zero) off i.ty with | some y=>K (.d i.ty (fr || i.ty.flat) y) | none=>none
      | _=>none
    | some i,.pt s p off _=>match St.obj ob s with
      | some (.tr _ sh t0 x)=>match getP t0 x p off i.ty,shGP sh t0 p off i.ty with
        | some y,some s1=>K (rdA s1 i.ty y (.vw s p off i.ty))
        | _,_=>none
      | _=>none
    | some i,.pb _ off _=>match St.obj ob 0 with
      | some (.tr false sh t0 x)=>match sub t0 x off i.ty,shG sh t0 off i.ty with
        | some y,some s1=>K (rdA s1 i.ty y (.vw 0 [] off i.ty))
        | _,_=>none
      | _=>none
    | _,_=>none
  | .nilCheck x=>match val x with
    | .rp t fr y=>K (.rp t fr y)
    | .ptr s off t=>K (.ptr s off t)
    | .ep s j off t=>K (.ep s j off t)
    | .pt s p off t=>K (.pt s p off t)
    | _=>none
  | .binOp op xt x y _=>binK E op xt (val x) (val y) K
  | .unOp op _ x=>match op,val x with
    | .not,.d .bool _ b=>K (.d .bool true (!b))
    | .neg,.d (.int k) _ n=>K (.d (.int k) true (k.wrap (0 - n)))
    | _,_=>none
  | .convert s t x=>match E.T s,E.T t,val x with
    | some _,some i,.d (.int _) _ n=>match i.ty with | .int k=>K (.d (.int k) true (k.wrap n)) | _=>none
    | some _,some i,.d .str fr v=>match i.ty with | .str=>K (.d .str fr v) | _=>none
    | some j,some i,.d (.slice e (.int .u8)) _ xs=>if j.ty = .slice e (.int .u8)∧(E.T e).map (·.ty) = some (.int .u8) then (match i.ty with | .str=>K (.d .str true (strOf xs)) | _=>none) else none
    | _,_,_=>none
  | .slice t x lo hi mx=>match mx with
    | some _=>none
    | none=>match E.T t,val x with
      | some i,.d .str fr v=>match i.ty with
        | .str=>(match hi with | some h=>bndK (val h) v.size | none=>fun K'=>K' v.size) fun h=>(match lo with | some l=>bndK (val l) h | none=>fun K'=>K' 0) fun l=>K (.d .str fr (v.extract l h))
        | _=>none
      | some i,.d (.slice e te) fr xs=>if i.ty = .slice e te then (match hi with | some h=>bndK (val h) xs.length | none=>fun K'=>K' xs.length) fun h=>(match lo with | some l=>bndK (val l) h | none=>fun K'=>K' 0) fun l=>K (.d (.slice e te) fr ((xs.take h).drop l)) else none
      | _,_=>none
  | .fieldAddr s x f=>match E.T s with
    | some i=>match i.flds[f]? with
      | some (off,ft)=>match val x with
        | .rp t fr v=>if i.ty = t then (match sub t v off ft with | some y=>K (.rp ft fr y) | none=>none) else none
        | .ptr s' o' t=>if i.ty = t then K (.ptr s' (o' + off) ft) else none
        | .ep s' j o' t=>if i.ty = t then K (.ep s' j (o' + off) ft) else none
        | .lp t v=>if i.ty = t then (match sub t v off ft with | some y=>K (.lp ft y) | none=>none) else none
        | .lb t v=>if i.ty = t then (match sub t v off ft with | some y=>K (.lb ft y) | none=>none) else none
        | .xp j o' t=>if i.ty = t then K (.xp j (o' + off) ft) else none
        | .pt s' p o' t=>if i.ty = t then K (.pt s' p (o' + off) ft) else none
        | .pb s' o' t=>if i.ty = t then K (.pb s' (o' + off) ft) else none
        | _=>none
      | none=>none
    | none=>none
  | .field s x f=>match E.T s with
    | some i=>match i.flds[f]? with
      | some (off,ft)=>match val x with
        | .d t fr v=>if i.ty = t then (match sub t v off ft with | some y=>K (.d ft (fr || ft.flat) y) | none=>none) else none
        | _=>none
      | none=>none
    | none=>none
  | .indexAddr t x ix=>match E.T t,val x,val ix with
    | some i,.d (.slice e te) fr xs,.d (.int _) _ j=>if i.ty = .slice e te then br (decide (0≤j) && decide (j < xs.length)) (K (.rp te fr (xs.getD j.toNat te.zero))) none else none
    | some i,.lin (.slice e te) xs,.d (.int _) _ j=>if i.ty = .slice e te then br (decide (0≤j) && decide (j < xs.length)) (K (.lp te (xs.getD j.toNat te.zero))) none else none
    | some i,.xr,.d (.int _) _ j=>match St.obj ob 0 with
      | some (.row e te xs)=>if i.ty = .slice e te then br (decide (0≤j) && decide (j < xs.length)) (K (.xp j 0 te)) none else none
      | _=>none
    | some i,.own s,.d (.int _) _ j=>match St.obj ob s with
      | some (.arr e te _ xs)=>if i.ty = .slice e te then br (decide (0≤j) && decide (j < xs.length)) (K (.ep s j 0 te)) none else none
      | _=>none
    | some i,.ptr s off ta,.d (.int _) _ j=>match i.arr with
      | some (n,_,te)=>if i.ty = ta∧i.ty = arrTy n te∧0 < n then pickK j (fun q=>K (.ptr s (off + q * te.sz) te)) 0 n else none
      | none=>none
    | some i,.vw s p off (.slice e te),.d (.int _) _ j=>match St.obj ob s with
      | some (.tr _ sh t0 x)=>match getP t0 x p off (.slice e te),shGP sh t0 p off (.slice e te) with
        | some xs,some (.ow _)=>if i.ty = .slice e te then br (decide (0≤j) && decide (j < (List.length xs:Int))) (K (.pt s (p ++ [⟨off,e,te,j⟩]) 0 te)) none else none
        | _,_=>none
      | _=>none
    | _,_,_=>none
  | .index t x ix=>match E.T t,val x,val ix with
    | some i,.d .str _ v,.d (.int _) _ j=>match i.ty with
      | .str=>br (decide (0≤j) && decide (j < v.size)) (K (.d (.int .u8) true (bt v j))) none
      | _=>none
    | _,_,_=>none
  | .extract x n=>match val x with
    | .tup l=>match l[n]? with | some d=>K (.d d.t (d.fr || d.t.flat) d.x) | none=>none
    | .tp s t=>match St.obj ob s,nth t n with
      | some (.tr _ sh t0 x),some q=>if t0 = t then (match sub t0 x q.1 q.2,shG sh t0 q.1 q.2 with
        | some y,some s1=>K (rdA s1 q.2 y (.vw s [] q.1 q.2))
        | _,_=>none) else none
      | _,_=>none
    | _=>none
  | .build t parts=>match E.T t with
    | some i=>match i.ty with
      | .pair _ _=>match i.arr,parts.toList with
        | none,_=>match fieldsPut i i.ty.zero true (parts.toList.map fun p=>(p.1,val p.2)) with | some (x,fr)=>K (.d i.ty fr x) | none=>none
        | some _,[]=>K (.d i.ty true i.ty.zero)
        | _,_=>none
      | _=>none
    | none=>none
  | .call c=>match c.callee with
    | .builtin .len=>match c.args.toList,c.argTypes.toList with
      | [x],[t]=>builtinLenK E ob t (val x) K
      | _,_=>none
    | .builtin .min=>match c.args.toList with
      | [x,y]=>minK (val x) (val y) K
      | _=>none
    | .builtin .max=>match c.args.toList with
      | [x,y]=>maxK (val x) (val y) K
      | _=>none
    | .value (.func f)=>callK E f c.argTypes.toList (c.args.toList.map val) K
    | _=>none
  | _=>none
/-- Site s's own slice becomes data. -/
def A.freeze (s e:Nat) (t:Ty) (fr:Bool) (xs:List t.T):A→A
  | .own s'=>if s' = s then .d (.slice e t) fr xs else .own s'
  | .ep s' i o t'=>if s' = s then .und else .ep s' i o t'
  | a=>a
def St.freeze1 (st:St) (s:Nat):St :=
  match St.obj st.ob s with
  | some (.arr e t fr xs)=>⟨st.tm.map (A.freeze s e t fr xs),st.ob.set s none⟩
  | _=>st
def St.freezeAll (st:St):List Operand→St
  | []=>st
  | x :: xs=>match st.val x with | .own s=>(st.freeze1 s).freezeAll xs | _=>st.freezeAll xs
/-- As site; but a pointer at a tree's root asks only that the tree is there. -/
def A.ksite:A→Option Nat
  | .pt s p _ _=>if p.isEmpty then none else some s
  | a=>a.site
/-- What speaks of a tree's inside. -/
def A.deep (s:Nat):A→Bool
  | .pt s' p _ _=>s' == s && !p.isEmpty
  | .vw s' _ _ _=>s' == s
  | .tp s' _=>s' == s
  | _=>false
/-- What speaks of a place below a row. -/
def A.deepS (s:Nat):A→Bool
  | .pt s' p _ _=>s' == s && !p.isEmpty
  | .vw s' p _ _=>s' == s && !p.isEmpty
  | _=>false
def killD (kl:List Nat) (tm:List A) (ks:List Nat:=[]):List A:=tm.map fun a=>if ks.any (fun s=>a.deepS s) || kl.any (fun s=>a.deep s) then .und else a
/-- All that speaks of site s is struck. -/
def St.kill (st:St) (s:Nat):List A:=st.tm.map fun a=>if a.ksite = some s then .und else a
def freezes:Op→List Operand
  | .call c=>match c.callee with
    | .value (.func _)=>c.args.toList
    | .value (.tmp _)=>c.args.toList
    | .builtin .append=>c.args.toList.drop 1
    | _=>[]
  | .slice _ x _ _ _=>[x]
  | .convert _ _ x=>[x]
  | .build _ ps=>ps.toList.map (·.2)
  | .buildSlice _ _ ps=>ps.toList.map (·.2)
  | .box _ x=>[x]
  | .store _ _ x=>[x]
  | _=>[]
def sliceParts (e:Nat) (t:Ty) (xs:List t.T) (fr:Bool):List (Nat × A)→Option (List t.T × Bool)
  | []=>some (xs,fr)
  | (j,.d t' fr' y) :: r=>if j < xs.length then (Ty.cast? t' t y).bind fun y'=>sliceParts e t (xs.set j y') (fr && fr') r else none
  | (j,.nil) :: r=>match t with
    | .slice e' t'=>if j < xs.length then sliceParts e (.slice e' t') (xs.set j ([]:List t'.T)) fr r else none
    | _=>none
  | _=>none
def appendK (E:Env) (o:Oper) (st:St) (t t':Nat) (x y:Operand) (K:St→Option ρ):Option ρ :=
  match E.T t,dtOf E t' (st.val y),o.dst with
    | some i,some ⟨.slice e' te',fr',ys⟩,some s=>match i.ty with
      | .slice e te=>match E.T e,Ty.cast? (.slice e' te') (.slice e te) ys with
        | some ie,some zs=>if t = t'∧ie.ty = te∧0 < te.sz then (match st.val x with
          | .own s1=>match St.obj st.ob s1 with
            | some (.arr e1 t1 fr1 xs)=>match Ty.cast? (.slice e1 t1) (.slice e te) xs with
              | some ws=>br (decide ((ws.length + zs.length) * ie.bytes≤140737488355328)) (K { tm:=(st.kill s1).set s (.own s1),ob:=st.ob.set s1 (some (.arr e te (fr1 && fr') (ws ++ zs))) }) none
              | none=>none
            | _=>none
          | _=>none) else none
        | _,_=>none
      | _=>none
    | _,_,_=>none
def bytesOf (s:ByteArray):List Int:=s.data.toList.map fun b=>(b.toNat:Int)
/-- append(b, s...), s a string. -/
def appendSK (E:Env) (o:Oper) (st:St) (t t':Nat) (x:Operand) (s:ByteArray) (K:St→Option ρ):Option ρ :=
  match E.T t,E.T t',o.dst with
    | some i,some i',some d=>match i.ty with
      | .slice e (.int .u8)=>match E.T e with
        | some ie=>if ie.ty = .int .u8∧ie.bytes = 1∧i'.ty = .str then (match st.val x with
          | .own s1=>match St.obj st.ob s1 with
            | some (.arr e1 t1 _ xs)=>match Ty.cast? (.slice e1 t1) (.slice e (.int .u8)) xs with
              | some ws=>br (decide (List.length ws + s.size≤140737488355328)) (K { tm:=(st.kill s1).set d (.own s1),ob:=st.ob.set s1 (some (.arr e (.int .u8) true (ws ++ bytesOf s))) }) none
              | none=>none
            | _=>none
          | _=>none) else none
        | _=>none
      | _=>none
    | _,_,_=>none
/-- A slice that is data, held against nil: whether it is empty. -/
def nilA:A→A→Option Bool
  | .d (.slice _ _) _ xs,.nil=>some xs.isEmpty
  | _,_=>none
def nilK (op:BinOp) (e:Bool) (K:Bool→Option ρ):Option ρ :=
  match op with
  | .eql=>br e (both (K true) (K false)) (K false)
  | .neq=>br e (both (K true) (K false)) (K true)
  | _=>none
/-- A call that gives a row of its own. -/
def ownK (E:Env) (o:Oper) (st:St) (f:FuncId) (ts:List Nat) (as_:List A) (K:St→Option ρ) (K0:Option ρ):Option ρ :=
  match dts E ts as_,o.dst with
  | some ds,some s=>match E.C f ds,st.ob[s]? with
    | some ⟨true,.slice e te,fr,true,res⟩,some none=>res.bind fun xs=>K { tm:=st.tm.set s (.own s),ob:=st.ob.set s (some (.arr e te fr xs)) }
    | _,_=>K0
  | _,_=>K0
def A.inS (ss:List Nat) (a:A):Bool:=match a.site with
  | some s=>ss.contains s
  | none=>false
def A.clear (ts ss:List Nat) (a:A) (i:Nat):A:=if ts.contains i || a.inS ss then .und else a
def St.clear (st:St) (ts ss:List Nat):St :=
  ⟨st.tm.zipIdx.map (fun p=>A.clear ts ss p.1 p.2),st.ob.zipIdx.map (fun p=>if ss.contains p.2 then none else p.1)⟩
def Ty.scal:Ty→Bool
  | .int _=>true
  | .bool=>true
  | .str=>true
  | _=>false
/-- A call that marks the rows of its argument. -/
def linK (E:Env) (o:Oper) (st:St) (f:FuncId) (as_:List A) (K:St→Option ρ) (K0:Option ρ):Option ρ :=
  match as_ with
  | [.xr,.d (.int .i64) _ k]=>match St.obj st.ob 0 with
    | some (.row e t xs)=>(E.X f e t xs k).bind fun r=>K { tm:=(st.set o.dst (.d (.int .i64) true r.1)).tm,ob:=st.ob.set 0 (some (.row e t r.2)) }
    | _=>none
  | [.d (.slice e t) _ xs,.fnv f' c y]=>(E.H f e t xs f' c y).bind fun r=>K (st.set o.dst (.d (.int .i64) true r))
  | [.lin t x,.d (.int .i64) _ k]=>(E.L f t x k).bind fun k'=>K (st.set o.dst (.d (.int .i64) true k'))
  | _=>K0
/-- A call of a function value. -/
def funK (E:Env) (o:Oper) (st:St) (a:A) (ts:List Nat) (as_:List A) (K:St→Option ρ):Option ρ :=
  match a,dts E ts as_ with
  | .fnv f c y,some [d]=>match E.F f c y with
    | some tp=>match Ty.cast? d.t tp.1 d.x with
      | some z=>(tp.2 z).bind fun b=>K (st.set o.dst (.d .bool true b))
      | none=>none
    | none=>none
  | _,_=>none
/-- Operations that make or change the call's own blocks; all else: compK. -/
def effK0 (E:Env) (o:Oper) (st:St) (K:St→Option ρ):Option ρ :=
  match o.op with
  | .assign (.const (.slice none 0 0))=>match E.T o.type,o.dst with
    | some i,some s=>match i.ty,st.ob[s]? with
      | .slice e t,some none=>K { tm:=st.tm.set s (.own s),ob:=st.ob.set s (some (.arr e t true [])) }
      | _,_=>K (st.set o.dst .nil)
    | _,_=>K (st.set o.dst .nil)
  | .alloc t=>match E.T t,o.dst with
    | some i,some s=>match st.ob[s]? with
      | some none=>K { tm:=st.tm.set s (.ptr s 0 i.ty),ob:=st.ob.set s (some (.box i.ty true i.ty.zero)) }
      | _=>none
    | _,_=>none
  | .box t x=>match st.val x with
    | .lin t' y=>K (st.set o.dst (.lb t' y))
    | a=>match E.T t,o.dst,dtOf E t a with
      | some _,some s,some d=>match st.ob[s]? with
        | some none=>K { tm:=st.tm.set s (.ptr s 0 d.t),ob:=st.ob.set s (some (.box d.t d.fr d.x)) }
        | _=>none
      | _,_,_=>none
  | .buildSlice t n ps=>match E.T t,o.dst with
    | some i,some s=>match i.ty,st.ob[s]? with
      | .slice e te,some none=>match E.T e with
        | some ie=>if ie.ty = te∧n * te.sz≤16777216∧n≤9223372036854775807 then (match sliceParts e te (List.replicate n te.zero) true (ps.toList.map fun p=>(p.1,st.val p.2)) with
          | some (xs,fr)=>K { tm:=st.tm.set s (.own s),ob:=st.ob.set s (some (.arr e te fr xs)) }
          | none=>none) else none
        | none=>none
      | _,_=>none
    | _,_=>none
  | .makeSlice t x y=>match E.T t,o.dst,st.val x,st.val y with
    | some i,some s,.d (.int .i64) _ n,.d (.int .i64) _ m=>match i.ty,st.ob[s]? with
      | .slice e te,some none=>match E.T e with
        | some ie=>if ie.ty = te∧0 < te.sz then br (decide (0≤n) && decide (n = m) && decide (n.toNat * ie.bytes≤281474976710656)) (K { tm:=st.tm.set s (.own s),ob:=st.ob.set s (some (.arr e te true (List.replicate n.toNat te.zero))) }) none else none
        | none=>none
      | _,_=>none
    | _,_,_,_=>none
  | .store t a x=>match dtOf E t (st.val x),o.dst with
    | some d,none=>match st.val a with
      | .ptr s off _=>match St.obj st.ob s with
        | some (.box t0 fr v)=>match put t0 v off d.t d.x with
          | some v'=>K { tm:=st.tm,ob:=st.ob.set s (some (.box t0 (fr && d.fr) v')) }
          | none=>none
        | _=>none
      | .ep s j off _=>match St.obj st.ob s with
        | some (.arr e te fr xs)=>match put te (xs.getD j.toNat te.zero) off d.t d.x with
          | some v'=>K { tm:=st.tm,ob:=st.ob.set s (some (.arr e te (fr && d.fr) (xs.set j.toNat v'))) }
          | none=>none
        | _=>none
      | .xp j off _=>match St.obj st.ob 0 with
        | some (.row e te xs)=>match put te (xs.getD j.toNat te.zero) off d.t d.x with
          | some v'=>if te.flat = true∧d.t.flat = true∧0 < te.sz then K { tm:=st.tm,ob:=st.ob.set 0 (some (.row e te (xs.set j.toNat v'))) } else none
          | none=>none
        | _=>none
      | .lp t' _=>if d.t = t'∧t'.scal = true then K st else none
      | _=>none
    | _,_=>none
  | .makeFunc fn first caps=>match fn,first.toList,caps.toList with
    | .func f,[],[x]=>match st.val x with
      | .ptr s 0 _=>match St.obj st.ob s with
        | some (.box c _ y)=>if c.flat = true then K ((st.clear [] [s]).set o.dst (.fnv f c y)) else none
        | _=>none
      | _=>none
    | _,_,_=>none
  | .call c=>match c.callee with
    | .builtin .append=>match c.args.toList,c.argTypes.toList with
      | [x,y],[t,t']=>match st.val y with
        | .d .str _ s=>appendSK E o st t t' x s K
        | _=>appendK E o st t t' x y K
      | _,_=>none
    | .value (.tmp t)=>funK E o st (st.val (.tmp t)) c.argTypes.toList (c.args.toList.map st.val) K
    | .value (.func f)=>linK E o st f (c.args.toList.map st.val) K (ownK E o st f c.argTypes.toList (c.args.toList.map st.val) K (compK E o st.val st.ob fun a=>K (st.set o.dst a)))
    | _=>compK E o st.val st.ob fun a=>K (st.set o.dst a)
  | .binOp op xt x y _=>match nilA (st.val x) (st.val y),E.T xt with
    | some e,some i=>match i.ty with
      | .slice _ _=>nilK op e fun b=>K (st.set o.dst (.d .bool true b))
      | _=>none
    | _,_=>compK E o st.val st.ob fun a=>K (st.set o.dst a)
  | _=>compK E o st.val st.ob fun a=>K (st.set o.dst a)
/-- What an operation of a drawn region does: a value; a new object at its place; an object turned; a row that grows, which temp d has then. -/
inductive Dl where
  | v (a:A)
  | m (s:Nat) (a:A) (o:Ob)
  | s (s:Nat) (o:Ob)
  | k (s:Nat) (o:Ob) (d:Nat)
  | u (ups:List (Nat × Option Ob)) (kl:List Nat) (a:A) (ks:List Nat:=[])
def updOb:List (Option Ob)→List (Nat × Option Ob)→List (Option Ob)
  | ob,[]=>ob
  | ob,(s,o) :: r=>updOb (ob.set s o) r
def Dl.sites:Dl→List Nat
  | .v _=>[]
  | .m q _ _=>[q]
  | .s q _=>[q]
  | .k q _ _=>[q]
  | .u ups kl _ ks=>ks ++ (ups.map (·.1) ++ kl)
def Dl.isU:Dl→Bool
  | .u ..=>true
  | _=>false
def Dl.app (dst:Option Tmp) (st:St):Dl→St
  | .v a=>st.set dst a
  | .m q a o=>⟨st.tm.set q a,st.ob.set q (some o)⟩
  | .s q o=>⟨st.tm,st.ob.set q (some o)⟩
  | .k q o d=>⟨(st.kill q).set d (.own q),st.ob.set q (some o)⟩
  | .u ups kl a ks=>(⟨killD kl st.tm ks,updOb st.ob ups⟩:St).set dst a
/-- A row of one's own, lent to a call: read as data. -/
def dtL (E:Env) (ob:List (Option Ob)) (tid:Nat) (a:A):Option Dt :=
  match a with
  | .own s=>match St.obj ob s,E.T tid with
    | some (.arr e t _ xs),some i=>if i.ty = .slice e t then some ⟨.slice e t,false,xs⟩ else none
    | _,_=>none
  | .vw s p off t=>match St.obj ob s,E.T tid with
    | some (.tr _ sh t0 x),some i=>if i.ty = t then (match getP t0 x p off t,shGP sh t0 p off t with
      | some y,some s1=>if s1.whole then some ⟨t,false,y⟩ else none
      | _,_=>none) else none
    | _,_=>none
  | a=>dtOf E tid a
def dtsL (E:Env) (ob:List (Option Ob)):List Nat→List A→Option (List Dt)
  | t :: ts,a :: as_=>(dtL E ob t a).bind fun d=>(dtsL E ob ts as_).map fun ds=>d :: ds
  | [],[]=>some []
  | _,_=>none
/-- A call whose result has no part in what it was lent. -/
def lendK (E:Env) (o:Oper) (st:St) (f:FuncId) (ts:List Nat) (as_:List A) (K:Dl→Option ρ) (K0:Option ρ):Option ρ :=
  match dtsL E st.ob ts as_ with
  | some ds=>match E.C f ds with
    | some r=>if r.t.flat then r.res.bind fun y=>K (.v (retA r.one r.t true y)) else (match r,o.dst with
      | ⟨true,.slice e te,_,true,res⟩,some s=>match st.ob[s]?,te.flat with
        | some none,true=>res.bind fun xs=>K (.m s (.own s) (.arr e te true xs))
        | _,_=>K0
      | _,_=>K0)
    | none=>K0
  | none=>K0
/-- A datum put at a place: which one, of what shape, and out of which tree. -/
structure Src (t:Ty) where
  y:t.T
  sh:Sh
  ups:List (Nat × Option Ob)
  kl:List Nat
def srcA (E:Env) (st:St) (s:Nat) (tid:Nat) (t:Ty) (a:A):Option (Src t) :=
  match a with
  | .vw s' [] off t'=>if s' = s then none else match St.obj st.ob s' with
    | some (.tr bx sh t1 x1)=>if t' = t then (match sub t1 x1 off t,shG sh t1 off t with
      | some y,some s2=>some ⟨y,s2,[(s',some (.tr bx (shP sh t1 off t .mv) t1 x1))],[s']⟩
      | _,_=>none) else none
    | _=>none
  | .vw s' (q :: p) off t'=>match St.obj st.ob s' with
    | some (.tr _ sh t1 x1)=>if t' = t then (match getP t1 x1 (q :: p) off t,shGP sh t1 (q :: p) off t with
      | some y,some s1=>if flOk s1 t then some ⟨y,flatSh t,[],[]⟩ else none
      | _,_=>none) else none
    | _=>none
  | .nil=>match t with
    | .slice e te=>if (E.tx.shT tid).fits (.slice e te) then some ⟨([]:List te.T),E.tx.shT tid,[],[]⟩ else none
    | _=>none
  | a=>match dtOf E tid a with
    | some d=>match Ty.cast? d.t t d.x with
      | some y=>some ⟨y,.fz,[],[]⟩
      | none=>none
    | none=>none
/-- A store into a tree. -/
def storeT (E:Env) (o:Oper) (st:St) (t:Nat) (s:Nat) (p:List Stp) (off:Nat) (x:A) (K:Dl→Option ρ):Option ρ :=
  match o.dst,St.obj st.ob s,E.T t with
  | none,some (.tr bx sh t0 x0),some i=>match getP t0 x0 p off i.ty,shGP sh t0 p off i.ty,srcA E st s t i.ty x with
    | some _,some s1,some z=>if p.isEmpty || decide (z.sh = s1) then (match putP t0 x0 p off i.ty z.y with
      | some x'=>if p.isEmpty then K (.u (z.ups ++ [(s,some (.tr bx (newSh p sh t0 off i.ty z.sh) t0 x'))]) (s :: z.kl) .und) else if bx then lt x' fun x'=>K (.u (z.ups ++ [(s,some (.tr bx (newSh p sh t0 off i.ty z.sh) t0 x'))]) (s :: z.kl) .und) else lt x' fun x'=>K (.u (z.ups ++ [(s,some (.tr bx (newSh p sh t0 off i.ty z.sh) t0 x'))]) z.kl .und [s])
      | none=>none) else none
    | _,_,_=>none
  | _,_,_=>none
/-- A call that gives a tree. -/
def callT (E:Env) (o:Oper) (st:St) (f:FuncId) (ts:List Nat) (as_:List A) (K:Dl→Option ρ) (K0:Option ρ):Option ρ :=
  match dtsL E st.ob ts as_ with
  | some ds=>match E.tx.S f ds with
    | some r=>match o.dst with
      | some s=>match st.ob[s]? with
        | some none=>if (r.sh.full r.t || (dts E ts as_).isSome) && !(s == 0) then (match E.tx.wk s with
          | none=>r.res.bind fun y=>K (.u [(s,some (.tr false r.sh r.t y))] [] (resA r.tp s r.t))
          | some sh'=>if sh'.le r.sh then r.res.bind fun y=>K (.u [(s,some (.tr false sh' r.t y))] [] (resA r.tp s r.t)) else none) else none
        | _=>none
      | none=>none
    | none=>K0
  | none=>K0
/-- The row that is put behind another one. -/
def tailA (E:Env) (st:St) (s:Nat) (tid:Nat) (e:Nat) (te:Ty) (sh:Sh) (a:A):Option (List te.T × Option Nat) :=
  match a with
  | .vw s2 [] 0 t2=>if s2 = s then none else match St.obj st.ob s2 with
    | some (.tr false sh2 t1 x1)=>if sh2 = .ow sh∧t2 = t1 then (match Ty.cast? t1 (.slice e te) x1 with
      | some ys=>some (ys,some s2)
      | none=>none) else none
    | _=>none
  | a=>match dtOf E tid a with
    | some d=>if sh = .fz then (match Ty.cast? d.t (.slice e te) d.x with
      | some ys=>some (ys,none)
      | none=>none) else none
    | none=>none
/-- append to a row of a tree. -/
def appT (E:Env) (o:Oper) (st:St) (t t':Nat) (s off:Nat) (tv:Ty) (y:A) (K:Dl→Option ρ):Option ρ :=
  match E.T t,St.obj st.ob s,o.dst with
  | some i,some (.tr bx sh0 t0 x0),some d0=>match i.ty with
    | .slice e te=>match E.T e,sub t0 x0 off (.slice e te),shG sh0 t0 off (.slice e te) with
      | some ie,some xs,some (.ow sh)=>match tailA E st s t' e te sh y with
        | some (ys,z)=>if t = t'∧ie.ty = te∧0 < te.sz∧tv = .slice e te then br (decide ((List.length xs + List.length ys) * ie.bytes≤140737488355328))
            (if bx = false∧off = 0∧t0 = .slice e te∧s≠0 then K (.u ((z.toList.map fun q=>(q,none)) ++ [(s,some (.tr false (.ow sh) (.slice e te) (xs ++ ys:List te.T)))]) (s :: z.toList) (.vw s [] 0 (.slice e te)))
             else if d0 = 0 then none else match st.ob[d0]? with
              | some none=>K (.u ((z.toList.map fun q=>(q,none)) ++ [(s,some (.tr bx (shP sh0 t0 off (.slice e te) .mv) t0 x0)),(d0,some (.tr false (.ow sh) (.slice e te) (xs ++ ys:List te.T)))]) (s :: z.toList) (.vw d0 [] 0 (.slice e te)))
              | _=>none) none else none
        | none=>none
      | _,_,_=>none
    | _=>none
  | _,_,_=>none
/-- A datum that becomes a part: out of a whole tree (whose site), or frozen. -/
def oneA (E:Env) (st:St) (s:Nat) (t:Ty) (a:A):Option (t.T × Sh × Option Nat) :=
  match a with
  | .vw s2 [] 0 t2=>if s2 = s then none else match St.obj st.ob s2 with
    | some (.tr false sh2 t1 x1)=>if t2 = t1 then (match Ty.cast? t1 t x1 with
      | some y=>some (y,sh2,some s2)
      | none=>none) else none
    | _=>none
  | .d t1 _ x1=>match Ty.cast? t1 t x1 with
    | some y=>some (y,.fz,none)
    | none=>none
  | _=>none
/-- A row told out of its elements: none, or one. -/
def litT (E:Env) (o:Oper) (st:St) (t n:Nat) (ps:List (Nat × A)) (K:Dl→Option ρ):Option ρ :=
  match E.T t,o.dst with
  | some i,some s=>match i.ty,st.ob[s]? with
    | .slice e te,some none=>match E.T e with
      | some ie=>if ie.ty = te∧n * te.sz≤16777216∧n≤9223372036854775807∧s≠0 then (match n,ps with
        | 0,[]=>match E.tx.shT t with
          | .ow sh=>K (.u [(s,some (.tr false (.ow sh) (.slice e te) ([]:List te.T)))] [] (.vw s [] 0 (.slice e te)))
          | _=>none
        | 1,[(0,a)]=>match oneA E st s te a with
          | some (y,sh,z)=>K (.u ((z.toList.map fun q=>(q,none)) ++ [(s,some (.tr false (.ow sh) (.slice e te) ([y]:List te.T)))]) z.toList (.vw s [] 0 (.slice e te)))
          | none=>none
        | _,_=>none) else none
      | none=>none
    | _,_=>none
  | _,_=>none
/-- The parts of a struct put one by one. -/
def partsT (E:Env) (st:St) (s:Nat) (i:TI):List (Nat × A)→i.ty.T→Sh→List Nat→Option (i.ty.T × Sh × List Nat)
  | [],x,sh,zs=>some (x,sh,zs)
  | (f,a) :: r,x,sh,zs=>match i.flds[f]? with
    | some (off,ft)=>match oneA E st s ft a,shG sh i.ty off ft,sub i.ty x off ft with
      | some (y,sh2,z),some s1,some _=>if (z.toList.all fun q=>!zs.contains q) = true then (match put i.ty x off ft y with
        | some x'=>partsT E st s i r x' (if s1 = sh2 then sh else shP sh i.ty off ft sh2) (z.toList ++ zs)
        | none=>none) else none
      | _,_,_=>none
    | none=>none
def Ty.isPair:Ty→Bool
  | .pair _ _=>true
  | _=>false
/-- A struct told out of its parts. -/
def buildT (E:Env) (o:Oper) (st:St) (t:Nat) (ps:List (Nat × A)) (K:Dl→Option ρ):Option ρ :=
  match E.T t,o.dst with
  | some i,some s=>match st.ob[s]?,i.arr with
    | some none,none=>if (E.tx.shT t).fits i.ty = true∧s≠0∧i.ty.isPair = true then (match partsT E st s i ps i.ty.zero (E.tx.shT t) [] with
      | some (x,sh,zs)=>K (.u ((zs.map fun q=>(q,none)) ++ [(s,some (.tr false sh i.ty x))]) zs (.vw s [] 0 i.ty))
      | none=>none) else none
    | _,_=>none
  | _,_=>none
/-- A new row of zeros. -/
def makeT (E:Env) (o:Oper) (st:St) (t:Nat) (x y:A) (K:Dl→Option ρ):Option ρ :=
  match E.T t,o.dst,x,y with
    | some i,some s,.d (.int .i64) _ n,.d (.int .i64) _ m=>match i.ty,st.ob[s]?,E.tx.shT t with
      | .slice e te,some none,.ow sh=>match E.T e with
        | some ie=>if ie.ty = te∧0 < te.sz∧sh.fits te = true∧s≠0 then br (decide (0≤n) && decide (n = m) && decide (n.toNat * ie.bytes≤281474976710656)) (K (.u [(s,some (.tr false (.ow sh) (.slice e te) (List.replicate n.toNat te.zero)))] [] (.vw s [] 0 (.slice e te)))) none else none
        | none=>none
      | _,_,_=>none
    | _,_,_,_=>none
/-- A box of a datum, as a tree; a box of the value that came in. -/
def boxT (E:Env) (o:Oper) (st:St) (t:Nat) (x:A) (K:Dl→Option ρ) (K0:Option ρ):Option ρ :=
  match x,o.dst with
  | .pv t',some s=>match E.T t with
    | some i=>if i.ty = t' then K (.u [] [] (.pb 0 0 t')) else none
    | none=>none
  | .vw s2 [] 0 t2,some s=>if E.tx.tr s then (match E.T t,st.ob[s]? with
      | some i,some none=>(match oneA E st s i.ty (.vw s2 [] 0 t2) with
        | some (y,sh,z)=>if s = 0 then none else K (.u ((z.toList.map fun q=>(q,none)) ++ [(s,some (.tr true sh i.ty y))]) z.toList (.pt s [] 0 i.ty))
        | none=>none)
      | _,_=>none) else K0
  | x,some s=>if E.tx.tr s then (match E.T t,dtOf E t x,st.ob[s]? with
      | some _,some d,some none=>if s = 0 then none else K (.u [(s,some (.tr true .fz d.t d.x))] [] (.pt s [] 0 d.t))
      | _,_,_=>none) else K0
  | _,none=>K0
/-- A call that gives a row: of what lies within its elements nothing is told but what is flat. -/
def callF (E:Env) (o:Oper) (st:St) (f:FuncId) (ts:List Nat) (as_:List A) (K:Dl→Option ρ) (K0:Option ρ):Option ρ :=
  match o.dst with
  | some s=>match E.tx.wk s with
    | some (.ow .mv)=>match dtsL E st.ob ts as_ with
      | some ds=>match E.tx.S f ds with
        | some r=>match st.ob[s]? with
          | some none=>if r.sh = .ow .fz∧r.tp = false∧s≠0 then r.res.bind fun y=>K (.u [(s,some (.tr false (.ow (flatSh r.t.el)) r.t y))] [] (.vw s [] 0 r.t)) else none
          | _=>none
        | none=>none
      | none=>none
    | _=>K0
  | none=>K0
/-- A call that is given a pointer at a tree's root and gives one below it. -/
def callQ (E:Env) (o:Oper) (st:St) (f:FuncId) (ts:List Nat) (as_:List A) (K:Dl→Option ρ) (K0:Option ρ):Option ρ :=
  match ts,as_ with
  | _ :: ts,.pt s [] 0 t' :: as_=>match St.obj st.ob s,dts E ts as_ with
    | some (.tr true sh t0 x),some ds=>match E.tx.Q f sh t0 x ds with
      | some r=>if t' = t0 then r.2.bind fun x'=>K (.u [(s,some (.tr true sh t0 x'))] [s] (.pt s r.1.1 r.1.2.1 r.1.2.2)) else none
      | none=>K0
    | _,_=>K0
  | _,_=>K0
/-- A call that writes through a pointer at a tree's root. -/
def callP (E:Env) (o:Oper) (st:St) (f:FuncId) (ts:List Nat) (as_:List A) (K:Dl→Option ρ) (K0:Option ρ):Option ρ :=
  match ts,as_ with
  | _ :: ts,.pt s [] 0 t' :: as_=>match St.obj st.ob s,dts E ts as_ with
    | some (.tr true sh t0 x),some ds=>match E.tx.P f sh t0 x ds with
      | some r=>if t' = t0 then r.res.bind fun x'=>K (.u [(s,some (.tr true r.sh t0 x'))] [s] .und) else none
      | none=>none
    | _,_=>none
  | _,_=>K0
/-- A call that writes the rows of a part of a tree. -/
def callX (E:Env) (o:Oper) (st:St) (f:FuncId) (as_:List A) (K:Dl→Option ρ) (K0:Option ρ):Option ρ :=
  match as_ with
  | [.vw s p off t',.d (.int .i64) _ k]=>match St.obj st.ob s with
    | some (.tr bx sh t0 x)=>match getP t0 x p off t',shGP sh t0 p off t' with
      | some y,some s1=>match E.tx.X f s1 t' with
        | some h=>(h y k).bind fun r=>match putP t0 x p off t' r.2 with
          | some x'=>lt x' fun x'=>K (.u [(s,some (.tr bx sh t0 x'))] [s] (.d (.int .i64) true r.1))
          | none=>none
        | none=>K0
      | _,_=>K0
    | _=>K0
  | _=>K0
/-- A call whose result is not told as a tree here. -/
def Tx.skip (x:Tx) (d:Option Tmp):Bool:=match d with
  | some s=>(match x.wk s with | some .mv=>true | _=>false)
  | none=>false
/-- What is done to trees; all else: K0. -/
def treK (E:Env) (o:Oper) (st:St) (K:Dl→Option ρ) (K0:Option ρ):Option ρ :=
  match o.op with
  | .move x=>match st.val x with
    | .pv t=>match St.obj st.ob 0 with
      | some (.tr false _ t0 _)=>if t0 = t then K (.u [] [] (.vw 0 [] 0 t)) else none
      | _=>none
    | _=>K0
  | .alloc t=>match o.dst with
    | some s=>if E.tx.tr s then (match E.T t,st.ob[s]? with
      | some i,some none=>if (E.tx.shT t).fits i.ty = true∧s≠0 then K (.u [(s,some (.tr true (E.tx.shT t) i.ty i.ty.zero))] [] (.pt s [] 0 i.ty)) else none
      | _,_=>none) else K0
    | none=>K0
  | .box t x=>boxT E o st t (st.val x) K K0
  | .build t ps=>match o.dst with
    | some s=>if E.tx.tr s then buildT E o st t (ps.toList.map fun p=>(p.1,st.val p.2)) K else K0
    | none=>K0
  | .buildSlice t n ps=>match o.dst with
    | some s=>if E.tx.tr s then litT E o st t n (ps.toList.map fun p=>(p.1,st.val p.2)) K else K0
    | none=>K0
  | .makeSlice t x y=>match o.dst with
    | some s=>if E.tx.tr s then makeT E o st t (st.val x) (st.val y) K else K0
    | none=>K0
  | .store t a x=>match st.val a with
    | .pt s p off _=>storeT E o st t s p off (st.val x) K
    | _=>K0
  | .call c=>match c.callee with
    | .value (.func f)=>callQ E o st f c.argTypes.toList (c.args.toList.map st.val) K (callP E o st f c.argTypes.toList (c.args.toList.map st.val) K (callX E o st f (c.args.toList.map st.val) K (if E.tx.skip o.dst = true then K0 else callF E o st f c.argTypes.toList (c.args.toList.map st.val) K (callT E o st f c.argTypes.toList (c.args.toList.map st.val) K K0))))
    | .builtin .append=>match c.args.toList,c.argTypes.toList with
      | [x,y],[t,t']=>match st.val x with
        | .vw s [] off tv=>appT E o st t t' s off tv (st.val y) K
        | _=>K0
      | _,_=>K0
    | _=>K0
  | _=>K0
/-- Rows whose elements are taken out one by one, first to last; a box's content taken out. -/
def ctK (E:Env) (o:Oper) (st:St) (K:St→Option ρ) (K0:Option ρ):Option ρ :=
  match o.op with
  | .indexAddr t x ix=>match E.T t,st.val x,st.val ix with
    | some i,.vw s [] 0 (.slice e te),.d (.int _) _ j=>match St.obj st.ob s with
      | some (.tr false (.ct _ _) t0 x0)=>match Ty.cast? t0 (.slice e te) x0 with
        | some xs=>if i.ty = .slice e te then br (decide (0≤j) && decide (j < (List.length xs:Int))) (K (st.set o.dst (.pt s [⟨0,e,te,j⟩] 0 te))) none else none
        | none=>none
      | _=>K0
    | _,_,_=>K0
  | .load t p=>match E.T t,st.val p,o.dst with
    | some i,.pt s [q] 0 _,some d=>match St.obj st.ob s,st.ob[d]? with
      | some (.tr false (.ct s1 n) t0 x0),some none=>match Ty.cast? t0 (.slice q.e q.te) x0 with
        | some xs=>if q.o = 0∧i.ty = q.te∧d≠0 then br (decide (0≤n) && decide (n≤q.i)) (K ((Dl.u [(s,some (.tr false (.ct s1 (q.i + 1)) (.slice q.e q.te) xs)),(d,some (.tr false s1 q.te (List.getD xs q.i.toNat q.te.zero)))] [] (.vw d [] 0 q.te) [s]).app o.dst st)) none else none
        | none=>none
      | _,_=>K0
    | some i,.pt s [] 0 _,some d=>match E.tx.wk d with
      | some (.pr .mv .mv)=>match St.obj st.ob s,st.ob[d]? with
        | some (.tr true sh t0 x0),some none=>if i.ty = t0∧d≠0 then K ((Dl.u [(s,some (.tr true .mv t0 x0)),(d,some (.tr false sh t0 x0))] [s] (.vw d [] 0 t0)).app o.dst st) else none
        | _,_=>none
      | _=>K0
    | _,_,_=>K0
  | .call c=>match c.callee with
    | .builtin .len=>match c.args.toList,c.argTypes.toList with
      | [x],[t]=>match E.T t,st.val x with
        | some i,.vw s [] 0 (.slice e te)=>match St.obj st.ob s with
          | some (.tr false (.ct _ _) t0 x0)=>match Ty.cast? t0 (.slice e te) x0 with
            | some xs=>if i.ty = .slice e te then K (st.set o.dst (.d (.int .i64) true (List.length xs:Int))) else none
            | none=>none
          | _=>K0
        | _,_=>K0
      | _,_=>K0
    | _=>K0
  | _=>K0
/-- Operations that make or change the call's own blocks. -/
def effK (E:Env) (o:Oper) (st:St) (K:St→Option ρ):Option ρ:=treK E o st (fun δ=>K (δ.app o.dst st)) (ctK E o st K (effK0 E o st K))
def appendDK (E:Env) (o:Oper) (st:St) (t t':Nat) (x y:Operand) (K:Dl→Option ρ):Option ρ :=
  match E.T t,dtOf E t' (st.val y),o.dst with
    | some i,some ⟨.slice e' te',fr',ys⟩,some d=>match i.ty with
      | .slice e te=>match E.T e,Ty.cast? (.slice e' te') (.slice e te) ys with
        | some ie,some zs=>if t = t'∧ie.ty = te∧0 < te.sz then (match st.val x with
          | .own s1=>match St.obj st.ob s1 with
            | some (.arr e1 t1 fr1 xs)=>match Ty.cast? (.slice e1 t1) (.slice e te) xs with
              | some ws=>br (decide ((ws.length + zs.length) * ie.bytes≤140737488355328)) (K (.k s1 (.arr e te (fr1 && fr') (ws ++ zs)) d)) none
              | none=>none
            | _=>none
          | _=>none) else none
        | _,_=>none
      | _=>none
    | _,_,_=>none
/-- The operations of a drawn region. -/
def effDK0 (E:Env) (o:Oper) (st:St) (K:Dl→Option ρ):Option ρ :=
  match o.op with
  | .alloc t=>match E.T t,o.dst with
    | some i,some s=>match st.ob[s]? with
      | some none=>K (.m s (.ptr s 0 i.ty) (.box i.ty true i.ty.zero))
      | _=>none
    | _,_=>none
  | .buildSlice t n ps=>match E.T t,o.dst with
    | some i,some s=>match i.ty,st.ob[s]? with
      | .slice e te,some none=>match E.T e with
        | some ie=>if ie.ty = te∧n * te.sz≤16777216∧n≤9223372036854775807 then (match sliceParts e te (List.replicate n te.zero) true (ps.toList.map fun p=>(p.1,st.val p.2)) with
          | some (xs,fr)=>K (.v (.d (.slice e te) fr xs))
          | none=>none) else none
        | none=>none
      | _,_=>none
    | _,_=>none
  | .store t a x=>match dtOf E t (st.val x),o.dst with
    | some d,none=>match st.val a with
      | .ptr s off _=>match St.obj st.ob s with
        | some (.box t0 fr v)=>match put t0 v off d.t d.x with
          | some v'=>K (.s s (.box t0 (fr && d.fr) v'))
          | none=>none
        | _=>none
      | .ep s j off _=>match St.obj st.ob s with
        | some (.arr e te fr xs)=>match put te (xs.getD j.toNat te.zero) off d.t d.x with
          | some v'=>K (.s s (.arr e te (fr && d.fr) (xs.set j.toNat v')))
          | none=>none
        | _=>none
      | _=>none
    | _,_=>none
  | .call c=>match c.callee with
    | .builtin .append=>match c.args.toList,c.argTypes.toList with
      | [x,y],[t,t']=>appendDK E o st t t' x y K
      | _,_=>none
    | .value (.func f)=>lendK E o st f c.argTypes.toList (c.args.toList.map st.val) K (compK E o st.val st.ob fun a=>K (.v a))
    | _=>compK E o st.val st.ob fun a=>K (.v a)
  | _=>compK E o st.val st.ob fun a=>K (.v a)
/-- The operations of a drawn region. -/
def effDK (E:Env) (o:Oper) (st:St) (K:Dl→Option ρ):Option ρ:=treK E o st K (effDK0 E o st K)
def Operand.isTmp':Operand→Bool
  | .tmp _=>true
  | _=>false
/-- A call of a function that is named. -/
def funcOf:Op→Option (FuncId × List Nat × List Operand)
  | .call c=>match c.callee with
    | .value (.func f)=>some (f,c.argTypes.toList,c.args.toList)
    | _=>none
  | _=>none
def A.isOwn:A→Bool
  | .own _=>true
  | .vw _ _ _ _=>true
  | _=>false
def effLK (E:Env) (o:Oper) (st:St) (K:St→Option ρ):Option ρ :=
  match funcOf o.op with
  | some (f,ts,xs)=>if (xs.any fun x=>(st.val x).isOwn) = true then lendK E o st f ts (xs.map st.val) (fun δ=>K (δ.app o.dst st)) (effK E o (st.freezeAll (freezes o.op)) K) else effK E o (st.freezeAll (freezes o.op)) K
  | none=>effK E o (st.freezeAll (freezes o.op)) K
/-- The places that an operation looks at. -/
def insens:Op→Bool
  | .fieldAddr ..=>true
  | .nilCheck ..=>true
  | .move ..=>true
  | .assign ..=>true
  | _=>false
def A.rsite (i:Bool) (a:A):Option Nat:=if i then a.ksite else a.site
def sitesOf (o:Oper) (st:St):List Nat:=o.dst.toList ++ o.op.operands.toList.filterMap fun x=>(st.val x).rsite (insens o.op)
def A.isUnd:A→Bool
  | .und=>true
  | .pv _=>true
  | .pb _ _ _=>true
  | _=>false
def undOf (o:Oper) (st:St):Bool:=o.op.operands.toList.any fun x=>Operand.isTmp' x && (st.val x).isUnd
def Dl.fitB (dst:Option Tmp) (rs:List Nat):Dl→Bool
  | .v a=>match a.ksite with | some q=>rs.contains q | none=>true
  | .m q a _=>dst == some q && a.site == some q && rs.contains q
  | .s q _=>rs.contains q
  | .k q _ d=>dst == some d && rs.contains q
  | .u ups kl a ks=>(ks ++ (ups.map (·.1) ++ kl)).all fun q=>rs.contains q
def undK (E:Env) (o:Oper) (st:St) (K:Dl→Option ρ):Option ρ:=if undOf o st = true then none else effDK E o st fun δ=>if δ.fitB o.dst (sitesOf o st) = true then K δ else none
structure Hx where
  i:Nat
  r:List Nat
  w:List Nat
  u:Bool
def Hx.free (a b:Hx):Bool:=(a.w.all (fun s=>!b.r.contains s) && b.w.all (fun s=>!a.r.contains s)) && !((a.u && !b.w.isEmpty) || (b.u && !a.w.isEmpty))
/-- Of each operation, which ones must have come before it: a bit each. -/
def maskOf (i:Nat) (R:List Nat):List Edge→Nat→Nat
  | [],m=>m
  | e :: es,m=>maskOf i R es (if (Region.binds .any e && decide (e.on < i)) = true then m ||| (2 ^ e.on ||| R.getD e.on 0) else m)
def masksGo:Nat→List Oper→List Nat→List Nat
  | _,[],R=>R
  | i,o :: os,R=>masksGo (i + 1) os (R ++ [maskOf i R o.after.toList 0])
def reachB (ops:Array Oper) (n i j:Nat):Bool:=((masksGo 0 ops.toList []).getD i 0).testBit j
/-- Two operations that may change places, or may not come in the other order. -/
def Hx.ok (ops:Array Oper) (a b:Hx):Bool:=a.free b || (if a.i < b.i then reachB ops ops.size b.i a.i else reachB ops ops.size a.i b.i)
/-- The guard's value is told where it is known. -/
def guardK (ops:Array Oper) (o:Oper) (st:St) (K1 K0:St→Option ρ):Option ρ :=
  match o.guard with
  | none=>K1 st
  | some (j,want)=>match (ops[j]?).bind (·.dst) with
    | some t=>match st.tm[t]? with
      | some (.d .bool fr b)=>br b (if want then K1 { st with tm:=st.tm.set t (.d .bool fr true) } else K0 { st with tm:=st.tm.set t (.d .bool fr true) }) (if want then K0 { st with tm:=st.tm.set t (.d .bool fr false) } else K1 { st with tm:=st.tm.set t (.d .bool fr false) })
      | some .no=>K0 st
      | _=>none
    | none=>none
def stepK (E:Env) (ops:Array Oper) (o:Oper) (st:St) (K:St→Option ρ):Option ρ :=
  guardK ops o st (fun st=>effLK E o st K) (fun st=>K (st.set o.dst .no))
def opsK (E:Env) (ops:Array Oper):List Oper→St→(St→Option ρ)→Option ρ
  | [],st,K=>K st
  | o :: r,st,K=>stepK E ops o st fun st'=>opsK E ops r st' K
def stepDK (E:Env) (ops:Array Oper) (o:Oper) (st:St) (K:Dl→List Nat→St→Option ρ):Option ρ :=
  guardK ops o st (fun st=>undK E o st fun δ=>K δ (sitesOf o st) st) (fun st=>K (.v .no) [] st)
def opsD (E:Env) (ops:Array Oper):List Nat→List Hx→St→(St→Option ρ)→Option ρ
  | [],_,st,K=>K st
  | i :: is,h,st,K=>match ops[i]? with
    | some o=>stepDK E ops o st fun δ rs st=>if (h.all fun x=>x.ok ops ⟨i,rs,δ.sites,δ.isU⟩) = true then opsD E ops is (⟨i,rs,δ.sites,δ.isU⟩ :: h) (δ.app o.dst st) K else none
    | none=>none
inductive Ex where
  | normal
  | exit (id:Nat)
  | ret
def keyOf:Code→Nat
  | .region id _ _=>id
  | .seq a _=>keyOf a
  | .block _ a=>keyOf a
  | .loop a=>keyOf a
  | .scope a=>keyOf a
  | _=>0
def loopK (body:St→(Ex→St→Option ρ)→Option ρ) (clr:St→St):Nat→St→(Ex→St→Option ρ)→Option ρ
  | 0,_,_=>none
  | n + 1,st,K=>body st fun ex st'=>match ex with
    | .normal=>loopK body clr n (clr st') K
    | ex=>K ex st'
def codeK (E:Env) (dok:Array Oper→Bool):Code→St→(Ex→St→Option ρ)→Option ρ
  | .skip,st,K=>K .normal st
  | .label _,st,K=>K .normal st
  | .region _ ops dr,st,K=>if dr then (if dok ops then opsD E ops (List.range ops.size) [] st (K .normal) else none) else opsK E ops ops.toList st (K .normal)
  | .seq a b,st,K=>codeK E dok a st fun ex st'=>match ex with
    | .normal=>codeK E dok b st' K
    | ex=>K ex st'
  | .cond c a b,st,K=>match st.val c with
    | .d .bool _ b0=>br b0 (codeK E dok a st K) (codeK E dok b st K)
    | _=>none
  | .block id a,st,K=>codeK E dok a st fun ex st'=>match ex with
    | .exit id'=>if id' = id then K .normal st' else K (.exit id') st'
    | ex=>K ex st'
  | .loop a,st,K=>loopK (fun st' K'=>codeK E dok a st' K') (fun st'=>st'.clear (E.fgT (keyOf a)) (E.fgS (keyOf a))) E.fuel (st.clear (E.fgT (keyOf a)) (E.fgS (keyOf a))) K
  | .exit id,st,K=>K (.exit id) st
  | .ret,st,K=>K .ret st
  | _,_,_=>none
/-- The results as one datum of kind t (one), or as a chain of them. -/
def results (E:Env) (fr:Bool):List ResultVar→List Nat→St→(t:Ty)→Option t.T
  | .tmp a :: rs,ty :: tys,st,.pair t u=>let st':=st.freezeAll [.tmp a]
    match dtOf E ty (st'.val (.tmp a)) with
    | some d=>if fr && !d.fr then none else match Ty.cast? d.t t d.x with
      | some x=>(results E fr rs tys st' u).map fun y=>(x,y)
      | none=>none
    | none=>none
  | .cell a ty :: rs,_ :: tys,st,.pair t u=>match E.T ty,st.val (.tmp a) with
    | some i,.ptr s off _=>match St.obj st.ob s with
      | some (.box t0 fr0 v)=>if fr && !(fr0 || t.flat) || !decide (i.ty = t) then none else match sub t0 v off t with
        | some x=>(results E fr rs tys st u).map fun y=>(x,y)
        | none=>none
      | _=>none
    | _,_=>none
  | [],[],_,.unit=>some ()
  | _,_,_,_=>none
def start (n:Nat) (args:List Dt):St:=⟨args.map (fun d=>.d d.t d.t.flat d.x) ++ List.replicate (n - args.length) .und,List.replicate n none⟩
/-- The one result, a row of the call's own. -/
def resOwn (e:Nat) (te:Ty) (fr:Bool) (rs:List ResultVar) (st:St):Option (List te.T) :=
  match rs with
  | [.tmp a]=>match st.val (.tmp a) with
    | .own s=>match St.obj st.ob s with
      | some (.arr e' te' fr' xs)=>if fr && !(fr' || te'.flat) then none else Ty.cast? (.slice e' te') (.slice e te) xs
      | _=>none
    | .nil=>some []
    | _=>none
  | _=>none
def endO (e:Nat) (te:Ty) (fr:Bool) (fn:Func) (ex:Ex) (st:St):Option (List te.T) :=
  match ex with
  | .exit _=>none
  | _=>resOwn e te fr fn.results.toList st
/-- What the results are: one of kind t, or a tuple. -/
def endK (E:Env) (one:Bool) (t:Ty) (fr:Bool) (fn:Func) (ex:Ex) (st:St):Option t.T :=
  match ex with
  | .exit _=>none
  | _=>if one then (match results E fr fn.results.toList fn.resultTypes.toList st (.pair t .unit) with | some x=>some x.1 | none=>none) else if fn.results.size = 1 then none else results E fr fn.results.toList fn.resultTypes.toList st t
def run (E:Env) (dok:Array Oper→Bool) (one:Bool) (t:Ty) (fr:Bool) (fn:Func) (args:List Dt):Option t.T :=
  match fn.body with
  | some c=>if args.length≤fn.ntmps then codeK E dok c (start fn.ntmps args) (endK E one t fr fn) else none
  | none=>none
def runO (E:Env) (dok:Array Oper→Bool) (e:Nat) (te:Ty) (fr:Bool) (fn:Func) (args:List Dt):Option (List te.T) :=
  match fn.body with
  | some c=>if args.length≤fn.ntmps then codeK E dok c (start fn.ntmps args) (endO e te fr fn) else none
  | none=>none
/-- The one result, a tree of the call's own. -/
def resTree (E:Env) (sh:Sh) (t:Ty) (rs:List ResultVar) (st:St):Option t.T :=
  match rs with
  | [.cell a ty]=>match E.T ty,st.val (.tmp a) with
    | some i,.pt s [] off _=>match St.obj st.ob s with
      | some (.tr true sh' t0 x)=>if off = 0∧sh' = sh∧i.ty = t then Ty.cast? t0 t x else none
      | _=>none
    | _,_=>none
  | [.tmp a]=>match st.val (.tmp a) with
    | .vw s [] off tv=>match St.obj st.ob s with
      | some (.tr false sh' t0 x)=>if off = 0∧sh' = sh∧tv = t0 then Ty.cast? t0 t x else none
      | _=>none
    | _=>none
  | _=>none
/-- Two results: a tree of the call's own, and a scalar. -/
def resTree2 (E:Env):(sh:Sh)→(t:Ty)→List ResultVar→St→Option t.T
  | .pr sh1 (.pr .fz .fz),.pair t1 (.pair t2 .unit),[.cell a ty,.tmp b],st=>match resTree E sh1 t1 [.cell a ty] st,st.val (.tmp b) with
    | some y1,.d t2' _ z=>if t2.scal = true then (match Ty.cast? t2' t2 z with | some y2=>some (y1,(y2,())) | none=>none) else none
    | _,_=>none
  | _,_,_,_=>none
def endS2 (E:Env) (sh:Sh) (t:Ty) (fn:Func) (ex:Ex) (st:St):Option t.T :=
  match ex with
  | .exit _=>none
  | _=>resTree2 E sh t fn.results.toList st
def runS2 (E:Env) (dok:Array Oper→Bool) (sh:Sh) (t:Ty) (fn:Func) (args:List Dt):Option t.T :=
  match fn.body with
  | some c=>if args.length≤fn.ntmps then codeK E dok c (start fn.ntmps args) (endS2 E sh t fn) else none
  | none=>none
def endS (E:Env) (sh:Sh) (t:Ty) (fn:Func) (ex:Ex) (st:St):Option t.T :=
  match ex with
  | .exit _=>none
  | _=>resTree E sh t fn.results.toList st
def runS (E:Env) (dok:Array Oper→Bool) (sh:Sh) (t:Ty) (fn:Func) (args:List Dt):Option t.T :=
  match fn.body with
  | some c=>if args.length≤fn.ntmps then codeK E dok c (start fn.ntmps args) (endS E sh t fn) else none
  | none=>none
/-- A call that writes the rows of a value that came in. -/
def startT (n:Nat) (sh:Sh) (t:Ty) (x:t.T) (k:Int):St:=⟨[.pv t,.d (.int .i64) true k] ++ List.replicate (n - 2) .und,(some (.tr false sh t x)) :: List.replicate (n - 1) none⟩
def endT (E:Env) (sh:Sh) (t:Ty) (fn:Func) (ex:Ex) (st:St):Option (Int × t.T) :=
  match endK E true (.int .i64) true fn ex st with
  | some y=>match St.obj st.ob 0 with
    | some (.tr false sh' t' x)=>if sh' = sh then (match Ty.cast? t' t x with
      | some z=>some (y,z)
      | none=>none) else none
    | _=>none
  | none=>none
def runT (E:Env) (dok:Array Oper→Bool) (sh:Sh) (t:Ty) (fn:Func) (x:t.T) (k:Int):Option (Int × t.T) :=
  match fn.body with
  | some c=>if 2≤fn.ntmps then codeK E dok c (startT fn.ntmps sh t x k) (endT E sh t fn) else none
  | none=>none
/-- A call that writes through a pointer that came in. -/
def startP (n:Nat) (sh:Sh) (t:Ty) (x:t.T) (args:List Dt):St:=⟨.pt 0 [] 0 t :: args.map (fun d=>.d d.t d.t.flat d.x) ++ List.replicate (n - (args.length + 1)) .und,(some (.tr true sh t x)) :: List.replicate (n - 1) none⟩
def endP (sh:Sh) (t:Ty) (fn:Func) (ex:Ex) (st:St):Option t.T :=
  match ex with
  | .exit _=>none
  | _=>if fn.results.size = 0 then (match St.obj st.ob 0 with
    | some (.tr true sh' t' x)=>if sh' = sh then Ty.cast? t' t x else none
    | _=>none) else none
def runP (E:Env) (dok:Array Oper→Bool) (sh sh':Sh) (t:Ty) (fn:Func) (x:t.T) (args:List Dt):Option t.T :=
  match fn.body with
  | some c=>if args.length + 1≤fn.ntmps then codeK E dok c (startP fn.ntmps sh t x args) (endP sh' t fn) else none
  | none=>none
/-- The same, that gives a pointer below. -/
def endQ (sh:Sh) (t:Ty) (fn:Func) (ex:Ex) (st:St):Option (t.T × List Stp × Nat × Ty) :=
  match ex with
  | .exit _=>none
  | _=>match fn.results.toList with
    | [.tmp a]=>match st.val (.tmp a),St.obj st.ob 0 with
      | .pt 0 (q :: p) off t2,some (.tr true sh' t' x)=>if sh' = sh then (match Ty.cast? t' t x with | some z=>some (z,q :: p,off,t2) | none=>none) else none
      | _,_=>none
    | _=>none
def runQ (E:Env) (dok:Array Oper→Bool) (sh:Sh) (t:Ty) (fn:Func) (x:t.T) (args:List Dt):Option (t.T × List Stp × Nat × Ty) :=
  match fn.body with
  | some c=>if args.length + 1≤fn.ntmps then codeK E dok c (startP fn.ntmps sh t x args) (endQ sh t fn) else none
  | none=>none
/-- A body run from any arguments, to one result. -/
def startA (n:Nat) (as_:List A):St:=⟨as_ ++ List.replicate (n - as_.length) .und,List.replicate n none⟩
def runA (E:Env) (dok:Array Oper→Bool) (t:Ty) (fn:Func) (as_:List A):Option t.T :=
  match fn.body with
  | some c=>if as_.length≤fn.ntmps then codeK E dok c (startA fn.ntmps as_) (endK E true t true fn) else none
  | none=>none
/-- The loop at a path, and what comes behind it. 0: left, 1: right, n + 2: into a loop with n rounds left. -/
def contAt (E:Env) (dok:Array Oper→Bool):Code→List Nat→(Ex→St→Option ρ)→Option (Code × (Ex→St→Option ρ))
  | .loop a,[],K=>some (a,K)
  | .seq a b,0 :: p,K=>contAt E dok a p fun ex st'=>match ex with
    | .normal=>codeK E dok b st' K
    | ex=>K ex st'
  | .seq _ b,1 :: p,K=>contAt E dok b p K
  | .cond _ a _,0 :: p,K=>contAt E dok a p K
  | .cond _ _ b,1 :: p,K=>contAt E dok b p K
  | .block id a,0 :: p,K=>contAt E dok a p fun ex st'=>match ex with
    | .exit id'=>if id' = id then K .normal st' else K (.exit id') st'
    | ex=>K ex st'
  | .loop a,(n + 2) :: p,K=>contAt E dok a p fun ex st'=>match ex with
    | .normal=>loopK (fun st' K'=>codeK E dok a st' K') (fun st'=>st'.clear (E.fgT (keyOf a)) (E.fgS (keyOf a))) n (st'.clear (E.fgT (keyOf a)) (E.fgS (keyOf a))) K
    | ex=>K ex st'
  | _,_,_=>none
def resumeO (E:Env) (dok:Array Oper→Bool) (e:Nat) (te:Ty) (fr:Bool) (fn:Func) (p:List Nat) (n:Nat) (st:St):Option (List te.T) :=
  match fn.body with
  | some c=>match contAt E dok c p (endO e te fr fn) with
    | some (a,K)=>loopK (fun st' K'=>codeK E dok a st' K') (fun st'=>st'.clear (E.fgT (keyOf a)) (E.fgS (keyOf a))) n st K
    | none=>none
  | none=>none
def resumeT (E:Env) (dok:Array Oper→Bool) (sh:Sh) (t:Ty) (fn:Func) (p:List Nat) (n:Nat) (st:St):Option (Int × t.T) :=
  match fn.body with
  | some c=>match contAt E dok c p (endT E sh t fn) with
    | some (a,K)=>loopK (fun st' K'=>codeK E dok a st' K') (fun st'=>st'.clear (E.fgT (keyOf a)) (E.fgS (keyOf a))) n st K
    | none=>none
  | none=>none
def resumeP (E:Env) (dok:Array Oper→Bool) (sh:Sh) (t:Ty) (fn:Func) (p:List Nat) (n:Nat) (st:St):Option t.T :=
  match fn.body with
  | some c=>match contAt E dok c p (endP sh t fn) with
    | some (a,K)=>loopK (fun st' K'=>codeK E dok a st' K') (fun st'=>st'.clear (E.fgT (keyOf a)) (E.fgS (keyOf a))) n st K
    | none=>none
  | none=>none
def resumeS (E:Env) (dok:Array Oper→Bool) (sh:Sh) (t:Ty) (fn:Func) (p:List Nat) (n:Nat) (st:St):Option t.T :=
  match fn.body with
  | some c=>match contAt E dok c p (endS E sh t fn) with
    | some (a,K)=>loopK (fun st' K'=>codeK E dok a st' K') (fun st'=>st'.clear (E.fgT (keyOf a)) (E.fgS (keyOf a))) n st K
    | none=>none
  | none=>none
def resume (E:Env) (dok:Array Oper→Bool) (one:Bool) (t:Ty) (fr:Bool) (fn:Func) (p:List Nat) (n:Nat) (st:St):Option t.T :=
  match fn.body with
  | some c=>match contAt E dok c p (endK E one t fr fn) with
    | some (a,K)=>loopK (fun st' K'=>codeK E dok a st' K') (fun st'=>st'.clear (E.fgT (keyOf a)) (E.fgS (keyOf a))) n st K
    | none=>none
  | none=>none
end
end Go.Fil
