/- What the loops of the law's own helpers come to: copies, comparisons, sizes, marks. No program. -/
import Derived.Test.YtofllafpneanoaaGreatDoorFil12
import Derived.Laws.BitsLemmas
set_option linter.unusedSimpArgs false
namespace Go.Fil
open Go.RowKit
set_option linter.unusedVariables false
theorem br_true {ρ:Type} {c:Bool} {x y:Option ρ} (h:c = true):br c x y = x:=by subst h; rfl
theorem br_false {ρ:Type} {c:Bool} {x y:Option ρ} (h:c = false):br c x y = y:=by subst h; rfl
theorem wrap_id {k:Int} (h1:-9223372036854775808≤k) (h2:k≤9223372036854775807):IntKind.wrap .i64 k = k:=by
 rw [IntKind.wrap_i64]; omega
/-- Lengths and sizes of what came in. -/
def Bd (by_:Nat→Nat):(t:Ty)→t.T→Prop
 | .int k,n=>(Lit.int k n).wf = true
 | .bool,_=>True
 | .str,s=>s.size≤140737488351232
 | .slice e t,xs=>xs.length * by_ e≤140737488351232∧xs.length≤maxLen∧∀ x∈xs,Bd by_ t x
 | .unit,_=>True
 | .pair a b,x=>Bd by_ a x.1∧Bd by_ b x.2
/-- The sum of the lengths. -/
def wt:(t:Ty)→t.T→Nat
 | .int _,_=>0
 | .bool,_=>0
 | .str,s=>s.size
 | .slice _ t,xs=>xs.length + (xs.map fun x=>wt t x).sum
 | .unit,_=>0
 | .pair a b,x=>wt a x.1 + wt b x.2
theorem maxLen_lt:maxLen≤9223372036854775807:=by decide
theorem in_true {v:Int} {n:Nat} (h0:0≤v) (h1:v < n):(decide (0≤v) && decide (v < (n:Int))) = true:=by simp [h0,h1]
theorem to_loop {α:Type} {L:Nat→Int→List α→Option (List α)} {x0:List α} {G:α→Option α} {z:α}
  (step:∀ k v o,L (k + 1) v o = br (decide (v < ((x0.length:Nat):Int))) (br (decide (0≤v) && decide (v < (x0.length:Int))) ((G (x0.getD v.toNat z)).bind fun y=>br (decide (0≤v) && decide (v < (o.length:Int))) (L k (IntKind.wrap .i64 (v + 1)) (o.set v.toNat y)) none) none) (some o))
  (hG:∀ x∈x0,G x = some x) (hl:x0.length≤maxLen):∀ (n v k:Nat) (o:List α),v + n = x0.length→o.length = x0.length→(∀ j,j < v→o[j]? = x0[j]?)→n < k→L k (v:Int) o = some x0
 | 0,v,k + 1,o,hv,ho,hj,_=>by
  rw [step,br_false (by simp; omega)]
  congr 1
  apply List.ext_getElem?
  intro j
  by_cases h:j < v
  ·exact hj j h
  ·rw [List.getElem?_eq_none (by omega),List.getElem?_eq_none (by omega)]
 | n + 1,v,k + 1,o,hv,ho,hj,hk=>by
  have hm:=maxLen_lt
  have hlt:v < x0.length:=by omega
  have hget:x0.getD (v:Int).toNat z = x0[v]:=by
   rw [Int.toNat_natCast,List.getD_eq_getElem?_getD,List.getElem?_eq_getElem hlt]; rfl
  rw [step,br_true (by simp; omega),br_true (in_true (by omega) (by omega)),hget,hG _ (List.getElem_mem hlt),Option.bind_some,br_true (in_true (by omega) (by omega)),wrap_id (by omega) (by omega)]
  have:=to_loop step hG hl n (v + 1) k (o.set (v:Int).toNat x0[v]) (by omega) (by simpa using ho) (by
   intro j hjv
   rw [Int.toNat_natCast,List.getElem?_set]
   by_cases e:v = j
   ·subst e; simp [ho,hlt]
   ·rw [if_neg e]; exact hj j (by omega)) (by omega)
  exact this
 | _,_,0,_,_,_,_,h=>absurd h (Nat.not_lt_zero _)
theorem to_fn {α:Type} {L:Nat→Int→List α→Option (List α)} {x0:List α} {G:α→Option α} {z z':α} {c K:Nat} (hK:maxLen + 2≤K)
  (step:∀ k v o,L (k + 1) v o = br (decide (v < ((x0.length:Nat):Int))) (br (decide (0≤v) && decide (v < (x0.length:Int))) ((G (x0.getD v.toNat z)).bind fun y=>br (decide (0≤v) && decide (v < (o.length:Int))) (L k (IntKind.wrap .i64 (v + 1)) (o.set v.toNat y)) none) none) (some o))
  (hc:x0.length * c≤140737488351232) (hl:x0.length≤maxLen) (hG:∀ x∈x0,G x = some x) :
  br (decide (0≤((x0.length:Nat):Int)) && decide (((x0.length:Nat):Int) = ((x0.length:Nat):Int)) && decide (Int.toNat ((x0.length:Nat):Int) * c≤281474976710656)) (L K 0 (List.replicate (Int.toNat ((x0.length:Nat):Int)) z')) none = some x0:=by
 rw [br_true (by simp; omega)]
 exact to_loop step hG hl x0.length 0 K _ (by omega) (by simp) (fun j hj=>by omega) (by omega)
theorem eq_loop {α:Type} {L:Nat→Int→Option Bool} {x0:List α} {G:α→α→Option Bool} {z:α}
  (step:∀ k v,L (k + 1) v = br (decide (v < ((x0.length:Nat):Int))) (br (decide (0≤v) && decide (v < (x0.length:Int))) (br (decide (0≤v) && decide (v < (x0.length:Int))) ((G (x0.getD v.toNat z) (x0.getD v.toNat z)).bind fun y=>br (!y) (some false) (L k (IntKind.wrap .i64 (v + 1)))) none) none) (some true))
  (hG:∀ x∈x0,G x x = some true) (hl:x0.length≤maxLen):∀ (n v k:Nat),v + n = x0.length→n < k→L k (v:Int) = some true
 | 0,v,k + 1,hv,_=>by rw [step,br_false (by simp; omega)]
 | n + 1,v,k + 1,hv,hk=>by
  have hm:=maxLen_lt
  have hlt:v < x0.length:=by omega
  have hget:x0.getD (v:Int).toNat z = x0[v]:=by
   rw [Int.toNat_natCast,List.getD_eq_getElem?_getD,List.getElem?_eq_getElem hlt]; rfl
  rw [step,br_true (by simp; omega),br_true (in_true (by omega) (by omega)),br_true (in_true (by omega) (by omega)),hget,hG _ (List.getElem_mem hlt),Option.bind_some,br_false (c:=!true) rfl,wrap_id (by omega) (by omega)]
  exact eq_loop step hG hl n (v + 1) k (by omega) (by omega)
 | _,_,0,_,h=>absurd h (Nat.not_lt_zero _)
theorem eq_fn {α:Type} {L:Nat→Int→Option Bool} {x0:List α} {G:α→α→Option Bool} {z:α} {K:Nat} (hK:maxLen + 2≤K)
  (step:∀ k v,L (k + 1) v = br (decide (v < ((x0.length:Nat):Int))) (br (decide (0≤v) && decide (v < (x0.length:Int))) (br (decide (0≤v) && decide (v < (x0.length:Int))) ((G (x0.getD v.toNat z) (x0.getD v.toNat z)).bind fun y=>br (!y) (some false) (L k (IntKind.wrap .i64 (v + 1)))) none) none) (some true))
  (hl:x0.length≤maxLen) (hG:∀ x∈x0,G x x = some true) :
  br (((x0.length:Nat):Int) != ((x0.length:Nat):Int)) (some false) (L K 0) = some true:=by
 rw [br_false (by simp)]
 exact eq_loop step hG hl x0.length 0 K (by omega) (by omega)
theorem ne_self (a:Int):(a != a) = false:=by simp
theorem strEq_self (a:ByteArray):strEq a a = true:=by simp [strEq]
theorem bne_self_bool (a:Bool):(!(a == a)) = false:=by simp
/-- What a size function comes to. -/
def SzOk (w:Nat) (l:Int) (r:Option Int):Prop:=r = some (-1)∨∃ m:Int,r = some m∧0≤m∧m + w≤l
theorem sz_sub {n:Nat} {l:Int} (h0:0≤l) (h1:l≤1048576) (hn:n≤140737488351232) {w:Nat} {y:Option Int} (h:0≤l - (n:Int)→SzOk w (l - n) y) :
  SzOk (n + w) l (br (decide ((IntKind.wrap .i64 (l - ((n:Nat):Int))) < 0)) (some (-1)) y):=by
 rw [wrap_id (by omega) (by omega)]
 by_cases hlt:l - (n:Int) < 0
 ·rw [br_true (by simpa using hlt)]; exact .inl rfl
 ·rw [br_false (by simpa using hlt)]
  rcases h (by omega) with h | ⟨m,h2,h3,h4⟩
  ·exact .inl h
  ·exact .inr ⟨m,h2,h3,by omega⟩
theorem sz_done {l:Int} (h0:0≤l):SzOk 0 l (some l):=.inr ⟨l,rfl,h0,by omega⟩
theorem sz_bind {w1 w2:Nat} {l:Int} {x:Option Int} {F:Int→Option Int} (h1:l≤1048576) (h:SzOk w1 l x) (hF:∀ m,0≤m→m≤l→SzOk w2 m (F m)):SzOk (w1 + w2) l (x.bind fun y=>br (decide (y < 0)) (some (-1)) (F y)):=by
 rcases h with rfl | ⟨m,rfl,h3,h4⟩
 ·exact .inl rfl
 ·rw [Option.bind_some,br_false (by simp; omega)]
  rcases hF m h3 (by omega) with h | ⟨m',h5,h6,h7⟩
  ·exact .inl h
  ·exact .inr ⟨m',h5,h6,by omega⟩
theorem sz_loop {α:Type} {L:Nat→Int→Int→Option Int} {x0:List α} {G:α→Int→Option Int} {z:α} {wf:α→Nat}
  (step:∀ k l v,L (k + 1) l v = br (decide (v < ((x0.length:Nat):Int))) (br (decide (0≤v) && decide (v < (x0.length:Int))) ((G (x0.getD v.toNat z) l).bind fun y=>br (decide (y < 0)) (some (-1)) (L k y (IntKind.wrap .i64 (v + 1)))) none) (some l))
  (hG:∀ x∈x0,∀ l,0≤l→l≤1048576→SzOk (wf x) l (G x l)) (hl:x0.length≤maxLen):∀ (n v k:Nat) (l:Int),v + n = x0.length→n < k→0≤l→l≤1048576→SzOk ((x0.drop v).map wf).sum l (L k l (v:Int))
 | 0,v,k + 1,l,hv,_,h0,h1=>by
  rw [step,br_false (by simp; omega),List.drop_eq_nil_of_le (by omega)]
  exact sz_done h0
 | n + 1,v,k + 1,l,hv,hk,h0,h1=>by
  have hm:=maxLen_lt
  have hlt:v < x0.length:=by omega
  have hget:x0.getD (v:Int).toNat z = x0[v]:=by
   rw [Int.toNat_natCast,List.getD_eq_getElem?_getD,List.getElem?_eq_getElem hlt]; rfl
  rw [step,br_true (by simp; omega),br_true (in_true (by omega) (by omega)),hget,wrap_id (by omega) (by omega),List.drop_eq_getElem_cons hlt,List.map_cons,List.sum_cons]
  exact sz_bind h1 (hG _ (List.getElem_mem hlt) l h0 h1) (fun m h2 h3=>sz_loop step hG hl n (v + 1) k m (by omega) (by omega) h2 (by omega))
 | _,_,0,_,_,h,_,_=>absurd h (Nat.not_lt_zero _)
theorem sz_fn {α:Type} {L:Nat→Int→Int→Option Int} {x0:List α} {G:α→Int→Option Int} {z:α} {wf:α→Nat} {K:Nat} (hK:maxLen + 2≤K)
  (step:∀ k l v,L (k + 1) l v = br (decide (v < ((x0.length:Nat):Int))) (br (decide (0≤v) && decide (v < (x0.length:Int))) ((G (x0.getD v.toNat z) l).bind fun y=>br (decide (y < 0)) (some (-1)) (L k y (IntKind.wrap .i64 (v + 1)))) none) (some l))
  (hc:x0.length≤140737488351232) (hl:x0.length≤maxLen) (hG:∀ x∈x0,∀ l,0≤l→l≤1048576→SzOk (wf x) l (G x l)) {l:Int} (h0:0≤l) (h1:l≤1048576) :
  SzOk (x0.length + (x0.map wf).sum) l (br (decide ((IntKind.wrap .i64 (l - ((x0.length:Nat):Int))) < 0)) (some (-1)) (L K (IntKind.wrap .i64 (l - ((x0.length:Nat):Int))) 0)):=by
 refine sz_sub h0 h1 hc (fun h=>?_)
 rw [wrap_id (by omega) (by omega)]
 exact sz_loop step hG hl x0.length 0 K _ (by omega) (by omega) h (by omega)
theorem SzOk.mono {w w':Nat} {l:Int} {r:Option Int} (h:SzOk w l r) (hw:w'≤w):SzOk w' l r:=by
 rcases h with h | ⟨m,h1,h2,h3⟩
 ·exact .inl h
 ·exact .inr ⟨m,h1,h2,by omega⟩
theorem br_t {ρ:Type} (x y:Option ρ):br true x y = x:=rfl
theorem br_f {ρ:Type} (x y:Option ρ):br false x y = y:=rfl
theorem le_by {n b:Nat} (h:n * b≤140737488351232) (hb:0 < b):n≤140737488351232:=Nat.le_trans (Nat.le_mul_of_pos_right n hb) h
theorem sum_zero {α:Type} {f:α→Nat} (h:∀ x,f x = 0):∀ {xs:List α},(xs.map f).sum = 0
 | []=>rfl
 | x :: xs=>by rw [List.map_cons,List.sum_cons,h,sum_zero h]
theorem sz_sub2 {n:Nat} {l:Int} {F:Int→Option Int} (h0:0≤l) (h1:l≤1048576) (hn:n≤140737488351232) {w:Nat} (h:∀ m,0≤m→m + n≤l→SzOk w m (F m)) :
  SzOk (n + w) l (br (decide ((IntKind.wrap .i64 (l - ((n:Nat):Int))) < 0)) (some (-1)) (F (IntKind.wrap .i64 (l - ((n:Nat):Int))))):=by
 refine sz_sub h0 h1 hn (fun hp=>?_)
 rw [wrap_id (by omega) (by omega)]
 exact h _ hp (by omega)
end Go.Fil
