/- Operations that make a value: the machine's value says what the evaluator's does. -/
import Derived.Test.YtofllafpneanoaaGreatDoorFil3
import Derived.Laws.StructEq
set_option linter.unusedSectionVars false
namespace Go.Fil
open Go.RowKit
set_option linter.unusedVariables false
set_option linter.unusedSimpArgs false
def DescOk (P:Program) (d:TypeDesc) (i:TI):Prop:=match i.ty with
  | .int k=>d = .int k∧i.flds = []
  | .bool=>d = .bool∧i.flds = []
  | .str=>d = .string∧i.flds = []
  | .slice e te=>d = .slice e∧i.flds = []∧∃ inf,P.info? e = some inf∧inf.size = te.sz
  | .pair _ _=>match i.arr with
    | some (n,e,te)=>d = .array n e∧i.flds = []∧i.ty = arrTy n te∧∃ inf,P.info? e = some inf∧inf.size = te.sz
    | none=>∃ fs,d = .struct fs∧fs.size = i.flds.length∧∀ (f off:Nat) (ft:Ty),i.flds[f]? = some (off,ft)→∃ fld,fs[f]? = some fld∧fld.offset = off∧(∃ inf,P.info? fld.type = some inf∧inf.size = ft.sz)∧0 < ft.sz∧(∃ d',P.underlying fld.type = some d'∧(match d' with | .struct _ | .array _ _=>true | _=>false) = ft.agg)
  | .unit=>(∃ fs,d = .struct fs)∧i.flds = []
def ScD (P:Program) (t:Nat):Ty→Prop
  | .int k=>P.underlying t = some (.int k)
  | .bool=>P.underlying t = some .bool
  | .str=>P.underlying t = some .string
  | _=>False
/-- The fields, all plain, from place o on. -/
def CmpF (P:Program):Nat→List Field→Ty→Prop
  | _,[],.unit=>True
  | o,f :: fs,.pair a b=>f.name≠"_"∧f.offset = o∧ScD P f.type a∧CmpF P (o + 1) fs b
  | _,_,_=>False
def CmpOk (P:Program) (t:Nat) (i:TI):Prop:=P.stoodInHeld t = false∧P.eqGuardType P.depth t = false∧∃ fs,P.underlying t = some (.struct fs)∧CmpF P 0 fs.toList i.ty
structure TGood (P:Program) (t:Nat) (i:TI):Prop where
  info:∃ inf,P.info? t = some inf∧inf.size = i.ty.sz∧inf.bytes = i.bytes∧inf.zero = some (i.ty.val i.ty.zcells)
  pos:0 < i.bytes
  und:∃ d,P.underlying t = some d∧DescOk P d i
  cmp:i.cmp = true→CmpOk P t i
/-- A call's contract. -/
def RetV (w:World) (ok:Nat→Prop) (c:CallR) (y:c.t.T) (v:Value):Prop :=
  if c.one then V w ok c.t y v else ∃ vs,v = .tuple vs.toArray∧All2 (fun d u=>V w ok d.t d.x u) (split c.fr c.t y) vs
/-- A row of one's own: from block B on. -/
def RowV (w:World) (B:Nat) (ok:Nat→Prop) (v:Value):(t:Ty)→t.T→Prop
  | .slice e te,xs=>∃ css:List (List Value),w.ownsRow B e te.sz v xs.length css.flatten∧All2 (fun x cl=>K w (fun k=>ok k∧blk v≠some k) te x cl) xs css
  | _,_=>False
structure CallOk (P:Program) (f:FuncId) (ds:List Dt) (c:CallR):Prop where
  fn:∃ fn,P.funcs[f]? = some fn∧fn.body≠none∧fn.name≠"runtime.NumGoroutine"
  goes:∀ y,c.res = some y→∀ (w:World) (okA:Nat→Prop) (vs:List Value),(∀ k,okA k→k < w.heap.size)→All2 (fun d v=>V w okA d.t d.x v) ds vs →
    Calls P f vs.toArray w fun e w'=>∃ v,e = .returned v∧RetV w' (fun k=>(okA k∨w.heap.size≤k)∧(c.fr = true→w.heap.size≤k∧Plain w' k)) c y v∧(c.ow = true→RowV w' w.heap.size (fun k=>(okA k∨w.heap.size≤k)∧(c.fr = true→w.heap.size≤k∧Plain w' k)) v c.t y)∧Grow w w'
/-- A call that marks the rows of its argument: of x only the lengths count. -/
structure LinOk (P:Program) (f:FuncId) (t:Ty) (x:t.T) (k k':Int):Prop where
  fn:∃ fn,P.funcs[f]? = some fn∧fn.body≠none∧fn.name≠"runtime.NumGoroutine"
  goes:∀ (w:World) (M:Nat→Prop) (v:Value),Mark M w w→VL w M t x v→Calls P f #[v,.int .i64 k] w fun e w'=>e = .returned (.int .i64 k')∧Mark M w w'∧BelowM M w.heap.size w w'
/-- A function that writes a row that came in (flat elements). -/
structure XOk (P:Program) (f:FuncId) (e:Nat) (t:Ty) (xs:List t.T) (k k':Int) (ys:List t.T):Prop where
  fn:∃ fn,P.funcs[f]? = some fn∧fn.body≠none∧fn.name≠"runtime.NumGoroutine"
  flat:t.flat = true
  goes:∀ (w:World) (N:Nat→Prop) (v:Value),(∀ k,N k→k < w.heap.size∧Plain w k)→V w N (.slice e t) xs v→Calls P f #[v,.int .i64 k] w fun e' w'=>e' = .returned (.int .i64 k')∧V w' (fun k=>N k∧Plain w' k) (.slice e t) ys v∧BelowM N w.heap.size w w'
/-- A function value over one captured row of cells. -/
def FnV (w:World) (ok:Nat→Prop) (f:FuncId) (c:Ty) (y:c.T) (v:Value):Prop:=∃ ad cs,v = .func (.func f) #[] #[.pointer (some ad)]∧K w ok c y cs∧At w ad cs∧ok ad.block∧ad.block < w.heap.size
structure ClOk (P:Program) (f:FuncId) (c:Ty) (y:c.T) (t:Ty) (p:t.T→Option Bool):Prop where
  fn:∃ fn,P.funcs[f]? = some fn∧fn.body≠none∧fn.name≠"runtime.NumGoroutine"
  goes:∀ x b,p x = some b→∀ (w:World) (okA:Nat→Prop) (u:Value) (ad:Addr) (cs:List Value),(∀ k,okA k→k < w.heap.size)→K w okA c y cs→At w ad cs→okA ad.block→V w okA t x u →
    Calls P f #[u,.pointer (some ad)] w fun e w'=>e = .returned (.bool b)∧Grow w w'
structure HOk (P:Program) (f:FuncId) (e:Nat) (t:Ty) (xs:List t.T) (f':FuncId) (c:Ty) (y:c.T) (r:Int):Prop where
  fn:∃ fn,P.funcs[f]? = some fn∧fn.body≠none∧fn.name≠"runtime.NumGoroutine"
  goes:∀ (w:World) (okA:Nat→Prop) (u v:Value),(∀ k,okA k→k < w.heap.size)→V w okA (.slice e t) xs u→FnV w okA f' c y v →
    Calls P f #[u,v] w fun e w'=>e = .returned (.int .i64 r)∧Grow w w'
/-- A call that gives a tree: its blocks are new and its own. -/
structure SOk (P:Program) (f:FuncId) (ds:List Dt) (tp:Bool) (sh:Sh) (t:Ty) (y:t.T):Prop where
  fn:∃ fn,P.funcs[f]? = some fn∧fn.body≠none∧fn.name≠"runtime.NumGoroutine"
  goes:∀ (w:World) (okA:Nat→Prop) (vs:List Value),(∀ k,okA k→k < w.heap.size)→All2 (fun d v=>V w okA d.t d.x v) ds vs →
    Calls P f vs.toArray w fun e w'=>∃ cs L,e = .returned (if tp then tupOf t cs else t.val cs)∧KS w' (fun k=>(okA k∨w.heap.size≤k)∧k∉L) sh t y cs L∧L.Nodup∧(∀ k∈L,w.heap.size≤k)∧Grow w w'
/-- A call that writes the rows of a value that came in. -/
structure TOk (P:Program) (f:FuncId) (sh:Sh) (t:Ty) (x:t.T) (k k':Int) (x':t.T):Prop where
  fn:∃ fn,P.funcs[f]? = some fn∧fn.body≠none∧fn.name≠"runtime.NumGoroutine"
  goes:∀ (w:World) (okA:Nat→Prop) (cs:List Value) (L:List Nat),(∀ k,okA k→k < w.heap.size∧k∉L)→KS w okA sh t x cs L→L.Nodup →
    Calls P f #[t.val cs,.int .i64 k] w fun e w'=>e = .returned (.int .i64 k')∧(∃ L',KS w' (fun k=>(okA k∨w.heap.size≤k)∧k∉L') sh t x' cs L'∧L'.Nodup∧∀ k∈L',k∈L∨w.heap.size≤k)∧BelowM (fun k=>k∈L) w.heap.size w w'
/-- A call that writes through a pointer. -/
structure POk (P:Program) (f:FuncId) (sh:Sh) (t:Ty) (x:t.T) (ds:List Dt) (sh':Sh) (x':t.T):Prop where
  fn:∃ fn,P.funcs[f]? = some fn∧fn.body≠none∧fn.name≠"runtime.NumGoroutine"
  goes:∀ (w:World) (okA:Nat→Prop) (g:Nat) (cs:Array Value) (e:Nat) (L:List Nat) (vs:List Value),(∀ k,okA k→k < w.heap.size∧k∉g :: L)→w.heap[g]? = some (.cells cs e (0,0))→KS w okA sh t x cs.toList L→(g :: L).Nodup→All2 (fun d v=>V w okA d.t d.x v) ds vs →
    Calls P f (.pointer (some ⟨g,0,none⟩) :: vs).toArray w fun e1 w'=>∃ v,e1 = .returned v∧(∃ cs' e' L',w'.heap[g]? = some (.cells cs' e' (0,0))∧KS w' (fun k=>(okA k∨w.heap.size≤k)∧k∉g :: L') sh' t x' cs'.toList L'∧(g :: L').Nodup∧∀ k∈L',k∈L∨w.heap.size≤k)∧BelowM (fun k=>k∈g :: L) w.heap.size w w'
/-- A call that is given a pointer and gives one below it. -/
structure QOk (P:Program) (f:FuncId) (sh:Sh) (t:Ty) (x:t.T) (ds:List Dt) (r:t.T × List Stp × Nat × Ty):Prop where
  fn:∃ fn,P.funcs[f]? = some fn∧fn.body≠none∧fn.name≠"runtime.NumGoroutine"
  goes:∀ (w:World) (okA:Nat→Prop) (g:Nat) (cs:Array Value) (e:Nat) (L:List Nat) (vs:List Value),(∀ k,okA k→k < w.heap.size∧k∉g :: L)→w.heap[g]? = some (.cells cs e (0,0))→KS w okA sh t x cs.toList L→(g :: L).Nodup→All2 (fun d v=>V w okA d.t d.x v) ds vs →
    Calls P f (.pointer (some ⟨g,0,none⟩) :: vs).toArray w fun e1 w'=>∃ v,e1 = .returned v∧(∃ cs' e' L',w'.heap[g]? = some (.cells cs' e' (0,0))∧KS w' (fun k=>(okA k∨w.heap.size≤k)∧k∉g :: L') sh t r.1 cs'.toList L'∧(g :: L').Nodup∧(∀ k∈L',k∈L∨w.heap.size≤k)∧∃ g2 q,PlAt w' (g :: L') cs'.toList r.2.1 r.2.2.1 g2 q∧v = .pointer (some ⟨g2,q,none⟩))∧BelowM (fun k=>k∈g :: L) w.heap.size w w'
structure EnvOk (P:Program) (E:Env):Prop where
  TQ:∀ f sh t x ds r y,E.tx.Q f sh t x ds = some r→r.2 = some y→QOk P f sh t x ds (y,r.1)
  TX:∀ f sh t h,E.tx.X f sh t = some h→∀ x k r,h x k = some r→TOk P f sh t x k r.1 r.2
  TP:∀ f sh t x ds r y,E.tx.P f sh t x ds = some r→r.res = some y→POk P f sh t x ds r.sh y
  S:∀ f ds r y,E.tx.S f ds = some r→r.res = some y→SOk P f ds r.tp r.sh r.t y
  F:∀ f c y tp,E.F f c y = some tp→ClOk P f c y tp.1 tp.2
  H:∀ f e t xs f' c y r,E.H f e t xs f' c y = some r→HOk P f e t xs f' c y r
  X:∀ f e t xs k r,E.X f e t xs k = some r→XOk P f e t xs k r.1 r.2
  L:∀ f t x k k',E.L f t x k = some k'→LinOk P f t x k k'
  T:∀ t i,E.T t = some i→TGood P t i
  C:∀ f ds c,E.C f ds = some c→CallOk P f ds c
theorem br_some {ρ:Type} {c:Bool} {x y:Option ρ} {r:ρ} (h:br c x y = some r):(c = true∧x = some r)∨(c = false∧y = some r):=by
  cases c
  · exact .inr ⟨rfl,h⟩
  · exact .inl ⟨rfl,h⟩
section
variable {P:Program} {E:Env} {o:Oper} {a:Act} {w:World} {next:Act→World→Prop} {Q:Exit→Act→World→Prop} {B:Nat} {okA:Nat→Prop} {w0:World} {β:Nat→Value} {st:St}
theorem wp_value {v:Value} (h:(execOp a.eval o).run P w = .ok (.value v) w) (hn:next (a.put o.dst v) w):o.wp P a w next Q:=by
  unfold Oper.wp; rw [h]; exact hn
theorem run_size {t:Nat} {i:TI} (h:TGood P t i) (w:World):(sizeOf t).run P w = .ok i.ty.sz w:=by
  obtain ⟨inf,h1,h2,_⟩:=h.info
  simp [sizeOf,typeInfo,h1,h2]
theorem run_agg {t:Nat} {i:TI} (h:TGood P t i) (w:World):(isAgg t).run P w = .ok i.ty.agg w:=by
  obtain ⟨d,h1,h2⟩:=h.und
  unfold isAgg
  rw [Sem.run_bind,run_underlying h1 w]
  unfold DescOk at h2
  cases hy:i.ty <;> simp only [hy] at h2 <;> first | (cases ha:i.arr <;> simp only [ha] at h2 <;> obtain ⟨_,rfl,_⟩:=h2 <;> simp [Ty.agg]; done) | (cases ha:i.arr <;> simp only [ha] at h2 <;> first | (obtain ⟨rfl,_⟩:=h2; simp [Ty.agg]; done) | (obtain ⟨fs,rfl,_⟩:=h2; simp [Ty.agg]; done)) | (obtain ⟨rfl,_⟩:=h2; simp [Ty.agg]; done) | (obtain ⟨fs,rfl,_⟩:=h2; simp [Ty.agg]; done) | (obtain ⟨⟨fs,rfl⟩,_⟩:=h2; simp [Ty.agg]; done)
theorem headD_of {t:Ty} {cs:List Value} (h:cs.length = t.sz) (ht:t.agg = false):∃ u,cs = [u]:=by
  have:t.sz = 1:=by cases t <;> simp_all [Ty.agg,Ty.sz]
  rw [this] at h
  exact List.length_eq_one_iff.1 h
/-- Load: cells at an address. -/
theorem run_loadVar {t:Nat} {i:TI} (h:TGood P t i) {ad:Addr} {cs:List Value} (hl:cs.length = i.ty.sz) (hc:At w ad cs):(loadVar t ad).run P w = .ok (i.ty.val cs) w:=by
  have h1:=run_agg h w
  have h2:=run_size h w
  cases ha:i.ty.agg
  · obtain ⟨u,rfl⟩:=headD_of hl ha
    have:=hc 0 u rfl
    rw [add_zero'] at this
    simp [loadVar,Sem.run_bind,h1,ha,Ty.val,run_load,this]
  · have h3:=run_loadCells_list (P:=P) w ad cs hc
    rw [hl] at h3
    simp [loadVar,Sem.run_bind,h1,ha,h2,h3,Ty.val]
theorem run_zero {t:Nat} {i:TI} (h:TGood P t i) (w:World):(zeroValue t).run P w = .ok (i.ty.val i.ty.zcells) w:=by
  obtain ⟨inf,h1,h2,h3,h4⟩:=h.info
  simp [zeroValue,typeInfo,h1,h4]
theorem int_of_V {ok:Nat→Prop} {k:IntKind} {n:Int} {v:Value} (h:V w ok (.int k) n v):v = .int k n:=by
  obtain ⟨cs,h1,rfl⟩:=h
  simp only [K] at h1
  subst h1; rfl
theorem bool_of_V {ok:Nat→Prop} {b:Bool} {v:Value} (h:V w ok .bool b v):v = .bool b:=by
  obtain ⟨cs,h1,rfl⟩:=h
  simp only [K] at h1
  subst h1; rfl
theorem str_of_V {ok:Nat→Prop} {s:ByteArray} {v:Value} (h:V w ok .str s v):v = .string s:=by
  obtain ⟨cs,h1,rfl⟩:=h
  simp only [K] at h1
  subst h1; rfl
theorem slice_of_V {ok:Nat→Prop} {e:Nat} {t:Ty} {xs:List t.T} {v:Value} (h:V w ok (.slice e t) xs v):∃ A c,∃ css:List (List Value),v = .slice A xs.length c∧xs.length≤c∧xs.length≤maxLen∧All2 (fun x r=>K w ok t x r) xs css∧(0 < xs.length→∃ ad,A = some ad∧ok ad.block∧ad.block < w.heap.size∧At w ad css.flatten):=by
  obtain ⟨cs,⟨A,c,css,rfl,h1⟩,rfl⟩:=h
  exact ⟨A,c,css,rfl,h1⟩
theorem V_int {ok:Nat→Prop} (k:IntKind) (n:Int):V w ok (.int k) n (.int k n):=⟨_,rfl,rfl⟩
theorem V_bool {ok:Nat→Prop} (b:Bool):V w ok .bool b (.bool b):=⟨_,rfl,rfl⟩
theorem V_str {ok:Nat→Prop} (s:ByteArray):V w ok .str s (.string s):=⟨_,rfl,rfl⟩
variable [Lin]
/-- What compK gives, where the world stays: the value is there, and says what A says. -/
def Gives (P:Program) (w:World) (G:Bool→Nat→Prop) (β:Nat→Value) (ob:List (Option Ob)) (s:Sem Value) (A:A):Prop:=∃ v,s.run P w = .ok v w∧RepA w G β ob A v
theorem int_gives {ρ:Type} {K:A→Option ρ} {r:ρ} {op:BinOp} {xt:Nat} {x y:Operand} {k:IntKind} {n m:Int} {G:Bool→Nat→Prop} {ob:List (Option Ob)} (h:intK op k n m K = some r) :
    ∃ A,K A = some r∧Gives P w G β ob (do eqGuard op xt x y (.int k n) (.int k m); binOp op xt (.int k n) (.int k m)) A:=by
  cases op <;> simp only [intK] at h <;> first
    | (refine ⟨_,h,_,?_,V_int _ _⟩; simp [eqGuard,binOp,Op.intArith,bits,Op.intBits]; done)
    | (refine ⟨_,h,_,?_,V_bool _⟩; simp [eqGuard,binOp,Op.intCmp]; done)
    | (rcases br_some h with ⟨_,h⟩ | ⟨hc,h⟩
       · cases h
       · refine ⟨_,h,_,?_,V_int _ _⟩
         simp at hc
         simp [eqGuard,binOp,Op.intDiv,hc])
    | cases h
theorem sh_gives {ρ:Type} {K:A→Option ρ} {r:ρ} {op:BinOp} {xt:Nat} {x y:Operand} {k k':IntKind} {n m:Int} {G:Bool→Nat→Prop} {ob:List (Option Ob)} (h:shK op k n m K = some r) :
    ∃ A,K A = some r∧Gives P w G β ob (do eqGuard op xt x y (.int k n) (.int k' m); binOp op xt (.int k n) (.int k' m)) A:=by
  cases op <;> simp only [shK] at h <;> first
    | (rcases br_some h with ⟨_,h⟩ | ⟨hc,h⟩
       · cases h
       · refine ⟨_,h,_,?_,V_int _ _⟩
         simp at hc
         have:¬ m < 0:=by omega
         simp [eqGuard,binOp,Op.shift,this])
    | cases h
theorem str_gives {ρ:Type} {K:A→Option ρ} {r:ρ} {op:BinOp} {xt:Nat} {x y:Operand} {n m:ByteArray} {G:Bool→Nat→Prop} {ob:List (Option Ob)} (h:strK op n m K = some r) :
    ∃ A,K A = some r∧Gives P w G β ob (do eqGuard op xt x y (.string n) (.string m); binOp op xt (.string n) (.string m)) A:=by
  cases op <;> simp only [strK] at h <;> first
    | (refine ⟨_,h,_,?_,V_bool _⟩; simp [eqGuard,binOp,Op.stringOp,strEq,strLt]; done)
    | (rcases br_some h with ⟨hc,h⟩ | ⟨_,h⟩
       · refine ⟨_,h,_,?_,V_str _⟩
         have hc:=of_decide_eq_true hc
         have h3:¬ (((n.size + m.size:Nat):Int) > IntKind.i64.max):=by
           have:IntKind.i64.max = 9223372036854775807:=by decide
           omega
         simp only [eqGuard,binOp,Op.stringOp,if_neg h3]
         rfl
       · cases h)
    | cases h
theorem run_eq_bool {xt:Nat} {n m:Bool} (hu:P.underlying xt = some .bool) (w:World):(Op.equal xt (.bool n) (.bool m)).run P w = .ok (n == m) w:=by
  show (Op.equalIn (9999 + 1) xt (.bool n) (.bool m)).run P w = _
  rw [Op.equalIn]
  simp [run_underlying hu]
theorem bool_gives {ρ:Type} {K:A→Option ρ} {r:ρ} {op:BinOp} {xt:Nat} {x y:Operand} {n m:Bool} {G:Bool→Nat→Prop} {ob:List (Option Ob)} (hu:P.underlying xt = some .bool) (h:boolK op n m K = some r) :
    ∃ A,K A = some r∧Gives P w G β ob (do eqGuard op xt x y (.bool n) (.bool m); binOp op xt (.bool n) (.bool m)) A:=by
  cases op <;> simp only [boolK] at h <;> first
    | (refine ⟨_,h,_,?_,V_bool _⟩; simp [eqGuard,binOp,run_eq_bool hu]; done)
    | cases h
theorem run_eq_cell {d t:Nat} {a:Ty} {x y:a.T} {u v:Value} {ok:Nat→Prop} (hu:ScD P t a) (hx:K w ok a x [u]) (hy:K w ok a y [v]):(Op.equalIn (d + 1) t u v).run P w = .ok (eqT a x y) w:=by
  cases a with
  | int k =>
    simp only [K,List.cons.injEq,and_true] at hx hy
    subst hx; subst hy
    simp only [ScD] at hu
    rw [Op.equalIn]
    simp [run_underlying hu,eqT]
  | bool =>
    simp only [K,List.cons.injEq,and_true] at hx hy
    subst hx; subst hy
    simp only [ScD] at hu
    rw [Op.equalIn]
    simp [run_underlying hu,eqT]
  | str =>
    simp only [K,List.cons.injEq,and_true] at hx hy
    subst hx; subst hy
    simp only [ScD] at hu
    rw [Op.equalIn]
    simp [run_underlying hu,eqT]
  | _=>exact hu.elim
theorem run_part_cell {a:Ty} {t:Nat} {xs:Array Value} {o:Nat} {u:Value} (hu:ScD P t a) (hx:xs[o]? = some u):(part t xs o).run P w = .ok u w:=by
  have:(isAgg t).run P w = .ok false w:=by
    unfold isAgg
    cases a with
    | int k=>simp only [ScD] at hu; rw [Sem.run_bind,run_underlying hu w]; simp
    | bool=>simp only [ScD] at hu; rw [Sem.run_bind,run_underlying hu w]; simp
    | str=>simp only [ScD] at hu; rw [Sem.run_bind,run_underlying hu w]; simp
    | _=>exact hu.elim
  simp [part,this,hx]
theorem run_eq_fields {d:Nat} {xs ys:Array Value} {ok:Nat→Prop}:∀ (fs:List Field) (o:Nat) (t:Ty) (x y:t.T),CmpF P o fs t→K w ok t x (xs.toList.drop o)→K w ok t y (ys.toList.drop o)→(Op.eqFields (d + 1) xs ys fs).run P w = .ok (eqT t x y) w
  | [],o,t,x,y,h,hx,hy=>by
    cases t with
    | unit=>simp [Op.eqFields,eqT]
    | _=>exact h.elim
  | f :: fs,o,t,x,y,h,hx,hy=>by
    cases t with
    | pair a b =>
      obtain ⟨h1,rfl,h3,h4⟩:=h
      have hsz:a.sz = 1:=by cases a <;> simp_all [Ty.sz,ScD]
      obtain ⟨c1,c2,e1,k1,k2⟩:=hx
      obtain ⟨d1,d2,e2,k3,k4⟩:=hy
      have l1:=K_len k1
      have l2:=K_len k3
      rw [hsz] at l1 l2
      obtain ⟨u,rfl⟩:=List.length_eq_one_iff.1 l1
      obtain ⟨v,rfl⟩:=List.length_eq_one_iff.1 l2
      have gx:xs[f.offset]? = some u:=by
        have:(xs.toList.drop f.offset)[0]? = some u:=by rw [e1]; rfl
        simpa using this
      have gy:ys[f.offset]? = some v:=by
        have:(ys.toList.drop f.offset)[0]? = some v:=by rw [e2]; rfl
        simpa using this
      have rx:xs.toList.drop (f.offset + 1) = c2:=by
        rw [← List.drop_drop,e1]; rfl
      have ry:ys.toList.drop (f.offset + 1) = d2:=by
        rw [← List.drop_drop,e2]; rfl
      have ih:=run_eq_fields (d:=d) fs (f.offset + 1) b x.2 y.2 h4 (by rw [rx]; exact k2) (by rw [ry]; exact k4)
      have hc:=run_eq_cell (P:=P) (d:=d) h3 k1 k3
      rw [Op.eqFields,if_pos h1]
      simp only [Sem.run_bind,run_part_cell h3 gx,run_part_cell h3 gy,Result.andThen_ok,hc]
      rw [eqT]
      cases eqT a x.1 y.1
      · simp
      · simpa using ih
    | _=>exact h.elim
theorem run_eq_agg {t:Nat} {i:TI} (h:CmpOk P t i) {x y:i.ty.T} {u v:Value} {ok:Nat→Prop} {a b:Ty} (ha:i.ty = .pair a b) (hx:V w ok i.ty x u) (hy:V w ok i.ty y v):(∃ xs ys,u = .agg xs∧v = .agg ys)∧(Op.equal t u v).run P w = .ok (eqT i.ty x y) w:=by
  obtain ⟨h1,h2,fs,h3,h4⟩:=h
  obtain ⟨cx,k1,rfl⟩:=hx
  obtain ⟨cy,k2,rfl⟩:=hy
  have hagg:i.ty.agg = true:=by rw [ha]; rfl
  have e1:i.ty.val cx = .agg cx.toArray:=by unfold Ty.val; rw [hagg]; rfl
  have e2:i.ty.val cy = .agg cy.toArray:=by unfold Ty.val; rw [hagg]; rfl
  refine ⟨⟨_,_,e1,e2⟩,?_⟩
  rw [e1,e2]
  have hf:P.fieldsOf t = fs:=by simp [Program.fieldsOf,h3]
  show (Op.equalIn (9998 + 1 + 1) t _ _).run P w = _
  rw [run_equalIn_struct w (9998 + 1) t _ _ (by rw [hf]; exact h3) h1,hf]
  exact run_eq_fields fs.toList 0 i.ty x y h4 (by simpa using k1) (by simpa using k2)
theorem boolK2_gives {ρ:Type} {K:A→Option ρ} {r:ρ} {op:BinOp} {xt:Nat} {x y:Operand} {u v:Value} {b:Bool} {G:Bool→Nat→Prop} {ob:List (Option Ob)} (hagg:∃ xs ys,u = .agg xs∧v = .agg ys) (hg:P.eqGuardType P.depth xt = false) (he:(Op.equal xt u v).run P w = .ok b w) (h:boolK op b true K = some r) :
    ∃ A,K A = some r∧Gives P w G β ob (do eqGuard op xt x y u v; binOp op xt u v) A:=by
  obtain ⟨xs,ys,rfl,rfl⟩:=hagg
  cases op <;> simp only [boolK] at h <;> first
    | (refine ⟨_,h,_,?_,V_bool _⟩; simp [eqGuard,binOp,he,hg]; done)
    | cases h
theorem bin_gives (he:EnvOk P E) {ρ:Type} {K:A→Option ρ} {r:ρ} {op:BinOp} {xt:Nat} {x y:Operand} {A1 A2:A} {v1 v2:Value} {G:Bool→Nat→Prop} {ob:List (Option Ob)}
    (h:binK E op xt A1 A2 K = some r) (h1:RepA w G β ob A1 v1) (h2:RepA w G β ob A2 v2) :
    ∃ A,K A = some r∧Gives P w G β ob (do eqGuard op xt x y v1 v2; binOp op xt v1 v2) A:=by
  cases A1 with
  | d t1 f1 x1=>cases A2 with
    | d t2 f2 x2=>cases t1 <;> cases t2 <;> simp only [binK] at h <;> first
      | cases h
      | (obtain rfl:=int_of_V h1
         obtain rfl:=int_of_V h2
         split at h
         · exact sh_gives h
         · split at h
           · rename_i hk; subst hk; exact int_gives h
           · cases h)
      | (obtain rfl:=str_of_V h1
         obtain rfl:=str_of_V h2
         exact str_gives h)
      | (obtain rfl:=bool_of_V h1
         obtain rfl:=bool_of_V h2
         split at h
         · rename_i i hi
           split at h
           · rename_i hb
             obtain ⟨d,h3,h4⟩:=(he.T _ _ hi).und
             simp only [DescOk,hb] at h4
             obtain ⟨rfl,_⟩:=h4
             exact bool_gives h3 h
           · cases h
         · cases h)
      | (split at h
         · rename_i i hi
           split at h
           · rename_i hc
             split at h
             · rename_i z hz
               obtain ⟨e,hz⟩:=cast?_some hz
               injection e with e1 e2
               subst e1; subst e2
               have hz:z = x2:=hz
               subst hz
               have hcm:=(he.T _ _ hi).cmp hc.1
               obtain ⟨ity,ib,ifl,ic⟩:=i
               have hty:=hc.2
               simp only at hty
               subst hty
               have hw1:∀ (b1:Bool),V w (G b1) _ x1 v1→V w (fun _=>True) _ x1 v1:=fun b1 hv=>V_step (fun k hk hlt=>⟨trivial,hlt,rfl⟩) hv
               have g1:V w (fun _=>True) _ x1 v1:=V_step (fun k hk hlt=>⟨trivial,hlt,rfl⟩) h1
               have g2:V w (fun _=>True) _ z v2:=V_step (fun k hk hlt=>⟨trivial,hlt,rfl⟩) h2
               obtain ⟨q1,q2⟩:=run_eq_agg hcm rfl g1 g2
               exact boolK2_gives q1 hcm.2.1 q2 h
             · cases h
           · cases h
         · cases h)
    | _=>cases t1 <;> simp [binK] at h
  | _=>simp [binK] at h
end
end Go.Fil
