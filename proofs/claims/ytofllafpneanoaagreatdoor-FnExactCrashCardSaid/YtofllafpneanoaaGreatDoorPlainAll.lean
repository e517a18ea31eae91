/- PlainAll. -/
import Derived.Test.YtofllafpneanoaaGreatDoorFunN1
import Derived.Test.YtofllafpneanoaaGreatDoorFunN2
import Derived.Test.YtofllafpneanoaaGreatDoorFunN3
import Derived.Test.YtofllafpneanoaaGreatDoorFunN4
import Derived.Test.YtofllafpneanoaaGreatDoorFilP
import Derived.Lib.Bytealg
import Derived.Lib.Join
set_option linter.unusedSimpArgs false
/- Rows of bytes cut at a byte, and put together again; decimal numerals of two digits. -/
namespace Go.Fil.Cf
/-- What comes ahead of the first piece. -/
def cont (pre:List UInt8):List (List UInt8)→List (List UInt8)
 | []=>[pre]
 | p :: ps=>(pre ++ p) :: ps
def splitBy (c:UInt8):List UInt8→List (List UInt8)
 | []=>[[]]
 | b :: r=>if b = c then [] :: splitBy c r else cont [b] (splitBy c r)
def joinBy (c:UInt8):List (List UInt8)→List UInt8
 | []=>[]
 | [p]=>p
 | p :: q :: ps=>p ++ c :: joinBy c (q :: ps)
theorem cont_ne (pre:List UInt8) (ps:List (List UInt8)):cont pre ps≠[]:=by cases ps <;> simp [cont]
theorem splitBy_ne (c:UInt8):∀ l,splitBy c l≠[]
 | []=>by simp [splitBy]
 | b :: r=>by
  unfold splitBy
  split
  ·simp
  ·exact cont_ne _ _
theorem cont_cont (a b:List UInt8) {ps:List (List UInt8)} (h:ps≠[]):cont a (cont b ps) = cont (a ++ b) ps:=by
 cases ps with
 | nil=>exact absurd rfl h
 | cons p ps=>simp [cont]
theorem cont_nil {ps:List (List UInt8)} (h:ps≠[]):cont [] ps = ps:=by
 cases ps with
 | nil=>exact absurd rfl h
 | cons p ps=>simp [cont]
theorem join_cont (c:UInt8) (pre:List UInt8) {ps:List (List UInt8)} (h:ps≠[]):joinBy c (cont pre ps) = pre ++ joinBy c ps:=by
 match ps,h with
 | [p],_=>simp [cont,joinBy]
 | p :: q :: ps,_=>simp [cont,joinBy]
theorem join_split (c:UInt8):∀ l,joinBy c (splitBy c l) = l
 | []=>rfl
 | b :: r=>by
  have ih:=join_split c r
  have hn:=splitBy_ne c r
  unfold splitBy
  split
  ·rename_i e
   subst e
   match hs:splitBy b r,hn with
   | q :: ps,_=>rw [hs] at ih; simp [joinBy,ih]
  ·rw [join_cont c _ hn,ih]; rfl
theorem split_plain (c:UInt8):∀ p:List UInt8,c∉p→splitBy c p = [p]
 | [],_=>rfl
 | b :: r,h=>by
  have hb:b≠c:=fun e=>h (by simp [e])
  rw [splitBy,if_neg hb,split_plain c r (fun e=>h (by simp [e]))]
  rfl
theorem split_app (c:UInt8) (r:List UInt8):∀ p:List UInt8,c∉p→splitBy c (p ++ c :: r) = p :: splitBy c r
 | [],_=>by simp [splitBy]
 | b :: p,h=>by
  have hb:b≠c:=fun e=>h (by simp [e])
  rw [List.cons_append,splitBy,if_neg hb,split_app c r p (fun e=>h (by simp [e]))]
  rfl
theorem split_join (c:UInt8):∀ ps:List (List UInt8),ps≠[]→(∀ p∈ps,c∉p)→splitBy c (joinBy c ps) = ps
 | [],h,_=>absurd rfl h
 | [p],_,h=>split_plain c p (h p (by simp))
 | p :: q :: ps,_,h=>by
  rw [joinBy,split_app c _ p (h p (by simp)),split_join c (q :: ps) (by simp) (fun x hx=>h x (by simp [hx]))]
theorem splitBy_len (c:UInt8):∀ l,(splitBy c l).length≤l.length + 1
 | []=>by simp [splitBy]
 | b :: r=>by
  have ih:=splitBy_len c r
  unfold splitBy
  split
  ·simp; omega
  ·cases hs:splitBy c r with
   | nil=>simp [cont]
   | cons p ps=>rw [hs] at ih; simp [cont] at ih ⊢; omega
theorem split_piece (c:UInt8):∀ l,∀ p∈splitBy c l,p.length≤l.length∧c∉p
 | [],p,h=>by simp [splitBy] at h; subst h; simp
 | b :: r,p,h=>by
  have ih:=split_piece c r
  unfold splitBy at h
  split at h
  ·rcases List.mem_cons.1 h with rfl | h
   ·simp
   ·have:=ih p h; exact ⟨by simp; omega,this.2⟩
  ·rename_i hb
   cases hs:splitBy c r with
   | nil=>exact absurd hs (splitBy_ne c r)
   | cons q ps =>
    rw [hs] at h ih
    simp only [cont] at h
    rcases List.mem_cons.1 h with rfl | h
    ·have:=ih q (by simp)
     exact ⟨by simp; omega,by
      intro hc
      rcases List.mem_cons.1 hc with e | hc
      ·exact hb e.symm
      ·exact this.2 hc⟩
    ·have:=ih p (by simp [h]); exact ⟨by simp; omega,this.2⟩
/-- At the first place of c: what is ahead, what is behind. -/
def cutAt (c:UInt8):List UInt8→Option (List UInt8 × List UInt8)
 | []=>none
 | b :: r=>if b = c then some ([],r) else (cutAt c r).map fun x=>(b :: x.1,x.2)
theorem cut_none (c:UInt8):∀ l,cutAt c l = none↔c∉l
 | []=>by simp [cutAt]
 | b :: r=>by
  unfold cutAt
  split
  ·rename_i e; subst e; simp
  ·rename_i e
   rw [Option.map_eq_none_iff,cut_none c r]
   simp [Ne.symm e]
theorem cut_some (c:UInt8):∀ l p r,cutAt c l = some (p,r)→l = p ++ c :: r∧c∉p
 | [],p,r,h=>by simp [cutAt] at h
 | b :: l,p,r,h=>by
  unfold cutAt at h
  split at h
  ·rename_i e
   simp only [Option.some.injEq,Prod.mk.injEq] at h
   obtain ⟨rfl,rfl⟩:=h
   subst e
   simp
  ·rename_i e
   obtain ⟨x,hx,h⟩:=Option.map_eq_some_iff.1 h
   simp only [Prod.mk.injEq] at h
   obtain ⟨rfl,rfl⟩:=h
   obtain ⟨h1,h2⟩:=cut_some c l x.1 x.2 hx
   refine ⟨by rw [h1]; rfl,?_⟩
   intro hc
   rcases List.mem_cons.1 hc with e' | hc
   ·exact e e'.symm
   ·exact h2 hc
theorem cut_app (c:UInt8) (r:List UInt8):∀ p,c∉p→cutAt c (p ++ c :: r) = some (p,r)
 | [],_=>by simp [cutAt]
 | b :: p,h=>by
  have hb:b≠c:=fun e=>h (by simp [e])
  rw [List.cons_append,cutAt,if_neg hb,cut_app c r p (fun e=>h (by simp [e]))]
  rfl
/-- At most n pieces, the last one uncut. -/
def splitN (c:UInt8):Nat→List UInt8→List (List UInt8)
 | 0,l=>[l]
 | n + 1,l=>match cutAt c l with
  | none=>[l]
  | some (p,r)=>p :: splitN c n r
theorem splitN_len (c:UInt8):∀ n l,(splitN c n l).length≤n + 1
 | 0,l=>by simp [splitN]
 | n + 1,l=>by
  unfold splitN
  split
  ·simp
  ·have:=splitN_len c n
   simp; exact this _
theorem splitN_join (c:UInt8):∀ (n:Nat) (ps:List (List UInt8)),ps≠[]→ps.length≤n + 1→(∀ p∈ps,c∉p)→splitN c n (joinBy c ps) = ps
 | _,[],h,_,_=>absurd rfl h
 | 0,[p],_,_,_=>rfl
 | n + 1,[p],_,_,h=>by
  rw [splitN,joinBy,(cut_none c p).2 (h p (by simp))]
 | 0,_ :: _ :: _,_,h,_=>by simp at h
 | n + 1,p :: q :: ps,_,hl,h=>by
  rw [splitN,joinBy,cut_app c _ p (h p (by simp))]
  simp only
  rw [splitN_join c n (q :: ps) (by simp) (by simpa using hl) (fun x hx=>h x (by simp [hx]))]
theorem splitN_all (c:UInt8):∀ (n:Nat) (l:List UInt8),l.length≤n→splitN c n l = splitBy c l
 | 0,[],_=>rfl
 | 0,_ :: _,h=>by simp at h
 | n + 1,l,h=>by
  unfold splitN
  split
  ·rename_i hc
   rw [split_plain c l ((cut_none c l).1 hc)]
  ·rename_i p r hc
   obtain ⟨h1,h2⟩:=cut_some c l p r hc
   rw [h1,split_app c r p h2,splitN_all c n r (by rw [h1] at h; simp at h; omega)]
def num (n:Nat):List UInt8:=if n < 10 then [UInt8.ofNat (48 + n)] else [UInt8.ofNat (48 + n / 10),UInt8.ofNat (48 + n % 10)]
end Go.Fil.Cf
/- Words, texts, sums: what both programs write and read. -/
namespace F5
open Go Go.Fil Go.Proofs
set_option maxRecDepth 100000
set_option linter.unusedVariables false
theorem isIn_eq (K:Nat) (a b c:Int):Zr K a b c = some (decide (b≤a) && decide (a≤c)):=by
 rw [Zr.eq]
 by_cases h:b≤a
 ·simp only [decide_eq_true h,br_t,Bool.true_and]
 ·simp only [decide_eq_false h,br_f,Bool.false_and]
theorem l1In_eq (K:Nat) (a b c:Int):Zh K a b c = some (decide (b≤a) && decide (a≤c)):=by
 rw [Zh.eq]
 by_cases h:b≤a
 ·have h1:decide ((a:Int) ≥ b) = true:=decide_eq_true h
  have h2:decide (b≤a) = true:=decide_eq_true h
  simp only [h1,h2,br_t,Bool.true_and]
 ·have h1:decide ((a:Int) ≥ b) = false:=decide_eq_false h
  have h2:decide (b≤a) = false:=decide_eq_false h
  simp only [h1,h2,br_f,Bool.false_and]
theorem both_self {ρ:Type} (x:Option ρ):both x x = x:=by unfold both; simp
theorem clone_eq (K:Nat) (x:List Int) (h:x.length≤1048576):Z1c K x = some x:=by
 rw [Z1c.eq]
 have d:decide ((List.length ([]:List Int) + List.length x) * 1≤140737488355328) = true:=decide_eq_true (by simp; omega)
 cases x with
 | nil =>
  show both (some []) (br _ (some ([] ++ [])) none) = _
  rw [d,br_t]
  exact both_self _
 | cons a x =>
  show br _ _ _ = _
  rw [d,br_t]; rfl
theorem wrap_u8 (x:Int):IntKind.wrap .u8 x = x % 256:=by
 simp [IntKind.wrap,IntKind.bits,IntKind.signed]
theorem bv_small (x:Int) (h0:0≤x) (h1:x < 18446744073709551616):(BitVec.ofInt 64 x).toNat = x.toNat:=by
 rw [BitVec.toNat_ofInt,Int.emod_eq_of_lt h0 (by simpa using h1)]
theorem and255 (x:Int):Fil.bits .and .i64 x 255 = x % 256:=by
 show IntKind.wrap .i64 (((BitVec.ofInt 64 x &&& BitVec.ofInt 64 255:BitVec 64).toNat:Nat):Int) = _
 rw [BitVec.toNat_and]
 have h:(BitVec.ofInt 64 (255:Int)).toNat = 2 ^ 8 - 1:=by decide
 rw [h,Nat.and_two_pow_sub_one_eq_mod,BitVec.toNat_ofInt]
 rw [wrap_id (by omega) (by omega)]
 omega
def hi (n:Int):Int:=IntKind.wrap .u8 (Int.fdiv n (2 ^ (min (Int.toNat 8) (IntKind.bits .i64))))
def lo (n:Int):Int:=IntKind.wrap .u8 n
/-- A word's bytes behind others. -/
def pw (b:List Int) (n:Int):List Int:=b ++ [hi n,lo n]
theorem wrap_and255 (x:Int):IntKind.wrap .u8 (Fil.bits .and .i64 x 255) = IntKind.wrap .u8 x:=by
 rw [and255,wrap_u8,wrap_u8]; omega
theorem pw_len (b:List Int) (n:Int):(pw b n).length = b.length + 2:=by simp [pw]
theorem putWord_i (K:Nat) (b:List Int) (n:Int) (h:b.length≤1000000):Z4f K b n = some (pw b n):=by
 rw [Z4f.eq,clone_eq K b (by omega),Option.bind_some,br_false (by decide),br_true (decide_eq_true (by simp; omega))]
 rfl
theorem putWord_s (K:Nat) (b:List Int) (n:Int) (h:b.length≤1000000):Z4c K b n = some (pw b n):=by
 rw [Z4c.eq,br_true (decide_eq_true (by simp; omega)),br_false (by decide),br_true (decide_eq_true (by simp; omega)),wrap_and255,wrap_and255]
 rfl
theorem or8 (a b:Int) (h0:0≤a) (h1:a≤255) (g0:0≤b) (g1:b≤255):Fil.bits .or .i64 (IntKind.wrap .i64 (a * (2 ^ (min (Int.toNat 8) (IntKind.bits .i64))))) b = a * 256 + b:=by
 have e:(2:Int) ^ (min (Int.toNat 8) (IntKind.bits .i64)) = 256:=by decide
 rw [e,wrap_id (by omega) (by omega)]
 show IntKind.wrap .i64 (((BitVec.ofInt 64 (a * 256) ||| BitVec.ofInt 64 b:BitVec 64).toNat:Nat):Int) = _
 rw [BitVec.toNat_or,bv_small _ (by omega) (by omega),bv_small _ (by omega) (by omega)]
 obtain ⟨p,rfl⟩:=Int.eq_ofNat_of_zero_le h0
 obtain ⟨q,rfl⟩:=Int.eq_ofNat_of_zero_le g0
 have e1:(((p:Int) * 256).toNat) = 2 ^ 8 * p:=by omega
 have e2:((q:Int)).toNat = q:=by omega
 rw [e1,e2,← Nat.two_pow_add_eq_or_of_lt (by omega) p]
 rw [wrap_id (by omega) (by omega)]
 omega
theorem sum_eq (K:Nat) (x:List Int):∀ (n:Nat) (v3 v4:Int),Z6z K n x v3 v4 = Z4u K n x v3 v4
 | 0,v3,v4=>by rw [Z6z.zero,Z4u.zero]
 | n + 1,v3,v4=>by
  have inner:∀ (k:Nat) (v3 v5:Int),Z64 K k n x v4 v3 v5 = Z4d K k n x v4 v3 v5:=by
   intro k
   induction k with
   | zero=>intro v3 v5; rw [Z64.zero,Z4d.zero]
   | succ k ih =>
    intro v3 v5
    have e:(2:Int) ^ (min (Int.toNat 1) (IntKind.bits .i64)) = 2:=by decide
    rw [Z64.step,Z4d.step,br_false (c:=decide ((1:Nat) < 0)) (by decide),e,ih,ih,sum_eq K x n]
  have e:(2:Int) ^ (min (Int.toNat 8) (IntKind.bits .i64)) = 256:=by decide
  rw [Z6z.step,Z4u.step,br_false (c:=decide ((8:Nat) < 0)) (by decide),e,inner,Int.mul_comm 256]
theorem sum_run {K:Nat} (hK:maxLen + 2≤K) (x:List Int) (hl:List.length x≤1048576):∀ (q n v:Nat) (s:Int),v + q = List.length x→q < n→∃ r,Z4u K n x s (v:Int) = some r
 | 0,n + 1,v,s,hv,_=>by
  rw [Z4u.step,br_false (decide_eq_false (by omega))]
  exact ⟨_,rfl⟩
 | q + 1,n + 1,v,s,hv,hn=>by
  have hm:maxLen = 2 ^ 63 - 1:=rfl
  have inner:∀ (p k t:Nat) (s:Int),t + p = 8→p < k→∃ r,Z4d K k n x (v:Int) s (t:Int) = some r:=by
   intro p
   induction p with
   | zero =>
    intro k t s ht hk
    obtain ⟨k,rfl⟩:∃ m,k = m + 1:=⟨k - 1,by omega⟩
    rw [Z4d.step,br_false (decide_eq_false (by omega)),wrap_id (by omega) (by omega)]
    exact sum_run hK x hl q n (v + 1) s (by omega) (by omega)
   | succ p ih =>
    intro k t s ht hk
    obtain ⟨k,rfl⟩:∃ m,k = m + 1:=⟨k - 1,by omega⟩
    rw [Z4d.step,br_true (decide_eq_true (by omega)),br_false (c:=decide ((1:Nat) < 0)) (by decide),wrap_id (k:=(t:Int) + 1) (by omega) (by omega)]
    have:=fun s=>ih k (t + 1) s (by omega) (by omega)
    cases decide (((IntKind.wrap .i64 (s * (2 ^ (min (Int.toNat 1) (IntKind.bits .i64))))):Int) > 65535)
    ·exact this _
    ·exact this _
  rw [Z4u.step,br_true (decide_eq_true (by omega)),br_true (in_true (by omega) (by omega)),br_false (c:=decide ((8:Nat) < 0)) (by decide)]
  exact inner 8 K 0 _ (by omega) (by omega)
 | _,0,_,_,_,h=>absurd h (Nat.not_lt_zero _)
theorem sum {K:Nat} (hK:maxLen + 2≤K) (x:List Int) (hl:List.length x≤1048576):∃ r,Ze3 K x = some r∧Ze5 K x = some r:=by
 have hm:maxLen = 2 ^ 63 - 1:=rfl
 obtain ⟨r,h⟩:=sum_run hK x hl (List.length x) K 0 65535 (by omega) (by omega)
 exact ⟨r,by rw [Ze3.eq]; exact h,by rw [Ze5.eq,sum_eq]; exact h⟩
theorem text_loop {K:Nat} (s:ByteArray) (hl:s.size≤1048576):∀ (q v k:Nat),v + q = s.size→q < k→∃ r,Z5z K k s (v:Int) = some r∧Z70 K k s (v:Int) = some r∧(100 < s.size→r = false)
 | 0,v,k + 1,hv,hk=>by
  have hlt:decide ((v:Int) < ((s.size:Nat):Int)) = false:=decide_eq_false (by omega)
  rw [Z5z.step,Z70.step]
  simp only [hlt,br_f]
  exact ⟨_,rfl,rfl,fun h=>decide_eq_false (by omega)⟩
 | q + 1,v,k + 1,hv,hk=>by
  have hin:(decide (0≤(v:Int)) && decide ((v:Int) < (s.size:Int))) = true:=in_true (by omega) (by omega)
  have hlt:decide ((v:Int) < ((s.size:Nat):Int)) = true:=decide_eq_true (by omega)
  rw [Z5z.step,Z70.step]
  simp only [hin,hlt,br_t]
  rw [wrap_id (by omega) (by omega)]
  obtain ⟨r,h1,h2,h3⟩:=text_loop s hl q (v + 1) k (by omega) (by omega)
  by_cases hv100:(v:Int)≤100
  ·have h100:decide ((v:Int)≤100) = true:=decide_eq_true hv100
   simp only [h100,br_t]
   cases decide (((bt s v):Int) < 32)
   ·cases decide (((bt s v):Int) > 126)
    ·exact ⟨r,h1,h2,h3⟩
    ·exact ⟨false,rfl,rfl,fun _=>rfl⟩
   ·exact ⟨false,rfl,rfl,fun _=>rfl⟩
  ·have h100:decide ((v:Int)≤100) = false:=decide_eq_false hv100
   have hs:decide (((s.size:Nat):Int)≤100) = false:=decide_eq_false (by omega)
   simp only [h100,br_f,hs]
   have hr:=h3 (by omega)
   subst hr
   cases decide (((bt s v):Int) < 32)
   ·cases decide (((bt s v):Int) > 126)
    ·exact ⟨false,rfl,h2,fun _=>rfl⟩
    ·exact ⟨false,rfl,rfl,fun _=>rfl⟩
   ·exact ⟨false,rfl,rfl,fun _=>rfl⟩
 | _,_,0,_,h=>absurd h (Nat.not_lt_zero _)
theorem textOk {K:Nat} (hK:maxLen + 2≤K) (s:ByteArray) (hl:s.size≤1048576):∃ r,Z2d K s = some r∧Z7m K s = some r∧(r = true→s.size≤100):=by
 have hm:maxLen = 2 ^ 63 - 1:=rfl
 obtain ⟨r,h1,h2,h3⟩:=text_loop (K:=K) s hl s.size 0 K (by omega) (by omega)
 exact ⟨r,by rw [Z2d.eq]; exact h1,by rw [Z7m.eq]; exact h2,fun hr=>by
  by_cases h:100 < s.size
  ·rw [h3 h] at hr; cases hr
  ·omega⟩
theorem text_empty {K:Nat} (hK:maxLen + 2≤K):Z2d K (⟨#[]⟩:ByteArray) = some true:=by
 obtain ⟨k,rfl⟩:∃ m,K = m + 1:=⟨K - 1,by omega⟩
 rw [Z2d.eq,Z5z.step]
 rfl
theorem bytesOf_len (s:ByteArray):(bytesOf s).length = s.size:=by simp [bytesOf]
/-- A text behind bytes. -/
def pt (b:List Int) (s:ByteArray):List Int:=b ++ [IntKind.wrap .u8 ((s.size:Nat):Int)] ++ bytesOf s
theorem putText {K:Nat} (hK:maxLen + 2≤K) (b:List Int) (s:ByteArray) (h:b.length≤1000) (hs:s.size≤1000):∃ t,Z2d K s = some t∧Zbl K b s = some (if t = true then pt b s else b)∧Zbv K b s = some (if t = true then pt b s else b):=by
 obtain ⟨t,h1,h2,_⟩:=textOk hK s (by omega)
 refine ⟨t,h1,?_,?_⟩
 ·rw [Zbl.eq,br_true (decide_eq_true (by simp; omega)),h1,Option.bind_some]
  cases t
  ·rfl
  ·show br false _ _ = _
   rw [br_f,br_true (decide_eq_true (by simp; omega)),br_true (decide_eq_true (by simp; omega))]
   rfl
 ·rw [Zbv.eq,clone_eq K b (by omega),h2,Option.bind_some,Option.bind_some]
  cases t
  ·rfl
  ·show br false _ _ = _
   rw [br_f,br_true (decide_eq_true (by simp; omega)),br_true (decide_eq_true (by simp; omega))]
   rfl
end F5
/- Strings as rows of bytes; cutting and putting together. -/
namespace F5
open Go Go.Fil Go.Proofs Go.Fil.Cf
set_option maxRecDepth 100000
set_option linter.unusedVariables false
abbrev tl (s:ByteArray):List UInt8:=s.data.toList
def fl (l:List UInt8):ByteArray:=⟨l.toArray⟩
theorem tl_fl (l:List UInt8):tl (fl l) = l:=by simp [tl,fl]
theorem fl_tl (s:ByteArray):fl (tl s) = s:=by cases s; simp [tl,fl]
theorem tl_len (s:ByteArray):(tl s).length = s.size:=rfl
theorem fl_size (l:List UInt8):(fl l).size = l.length:=by rw [← tl_len,tl_fl]
theorem tl_inj {a b:ByteArray} (h:tl a = tl b):a = b:=by rw [← fl_tl a,h,fl_tl]
theorem tl_append (a b:ByteArray):tl (a ++ b) = tl a ++ tl b:=by simp [tl]
theorem tl_extract (s:ByteArray) (a b:Nat):tl (s.extract a b) = ((tl s).drop a).take (b - a):=by
 simp [tl,ByteArray.data_extract,List.extract_eq_take_drop]
theorem ext_eq (s:ByteArray) (a b:Nat):s.extract a b = fl (((tl s).drop a).take (b - a)):=tl_inj (by rw [tl_extract,tl_fl])
theorem bt_eq (s:ByteArray) (i:Nat) (h:i < (tl s).length):bt s (i:Int) = (((tl s)[i].toNat:Nat):Int):=by
 have h':i < s.data.size:=h
 unfold bt
 rw [show (i:Int).toNat = i by omega,Array.getElem?_eq_getElem h']
 rfl
theorem beqB_iff (a b:ByteArray):(a == b) = true↔a = b:=by
 obtain ⟨a⟩:=a
 obtain ⟨b⟩:=b
 constructor
 ·intro h
  have:(a == b) = true:=h
  rw [beq_iff_eq.1 this]
 ·intro h
  injection h with h
  subst h
  show (a == a) = true
  exact beq_self_eq_true a
theorem strEq_iff (a b:ByteArray):strEq a b = true↔a = b:=by
 unfold strEq
 rw [ByteArray.toList_eq,ByteArray.toList_eq,beq_iff_eq]
 constructor
 ·intro h
  obtain ⟨a⟩:=a
  obtain ⟨b⟩:=b
  congr 1
  exact Array.toList_inj.1 h
 ·rintro rfl; rfl
theorem strEq_f {a b:ByteArray} (h:a≠b):strEq a b = false:=by
 cases e:strEq a b
 ·rfl
 ·exact absurd ((strEq_iff a b).1 e) h
theorem strEq_t (a:ByteArray):strEq a a = true:=(strEq_iff a a).2 rfl
theorem beq_true {a b:Int} (h:a = b):(a == b) = true:=by simp [h]
theorem beq_false {a b:Int} (h:a≠b):(a == b) = false:=by simp [h]
theorem bne_true {a b:Int} (h:a≠b):(a != b) = true:=by simp [h]
theorem bne_false {a b:Int} (h:a = b):(a != b) = false:=by simp [h]
theorem split_loop {K:Nat} (s:ByteArray) (hl:s.size≤1048576) (c:UInt8):∀ (q a b k:Nat) (o:List ByteArray),b + q = (tl s).length→a≤b→q + 1 < k→o.length≤b →
  Z45 K k s ((c.toNat:Nat):Int) (a:Int) (b:Int) o = some (o ++ (cont (((tl s).drop a).take (b - a)) (splitBy c ((tl s).drop b))).map fl)
 | 0,a,b,k + 2,o,hb,hab,hk,ho=>by
  have e:s.size = b:=by rw [← tl_len]; omega
  have hd:(tl s).drop b = []:=List.drop_eq_nil_of_le (by omega)
  rw [Z45.step,br_true (decide_eq_true (by omega)),br_true (beq_true (by omega)),br_true (by simp; omega),br_true (by simp; omega),br_true (decide_eq_true (by simp; omega))]
  rw [wrap_id (by omega) (by omega),Z45.step,br_false (decide_eq_false (by omega)),hd]
  simp only [splitBy,cont,List.append_nil,List.map_cons,List.map_nil]
  rw [ext_eq]
  rfl
 | q + 1,a,b,k + 1,o,hb,hab,hk,ho=>by
  have e:s.size = b + q + 1:=by rw [← tl_len]; omega
  have hlt:b < (tl s).length:=by omega
  have hd:(tl s).drop b = (tl s)[b] :: (tl s).drop (b + 1):=List.drop_eq_getElem_cons hlt
  rw [Z45.step,br_true (decide_eq_true (by omega)),br_false (beq_false (by omega)),br_true (by simp; omega),bt_eq s b hlt,hd,wrap_id (by omega) (by omega)]
  by_cases hc:(tl s)[b] = c
  ·rw [br_true (beq_true (by rw [hc])),br_true (by simp; omega),br_true (by simp; omega),br_true (decide_eq_true (by simp; omega))]
   have:=split_loop (K:=K) s hl c q (b + 1) (b + 1) k (o ++ [s.extract a b]) (by omega) (by omega) (by omega) (by simp; omega)
   rw [Int.natCast_add] at this
   refine this.trans ?_
   rw [splitBy,if_pos hc,show b + 1 - (b + 1) = 0 by omega,List.take_zero,cont_nil (splitBy_ne c _),ext_eq]
   simp [cont]
  ·rw [br_false (beq_false (fun h=>hc (UInt8.toNat_inj.1 (Int.ofNat_inj.1 h))))]
   have:=split_loop (K:=K) s hl c q a (b + 1) k o (by omega) (by omega) (by omega) (by omega)
   rw [Int.natCast_add] at this
   refine this.trans ?_
   rw [splitBy,if_neg hc,cont_cont _ _ (splitBy_ne c _)]
   have:((tl s).drop a).take (b + 1 - a) = ((tl s).drop a).take (b - a) ++ [(tl s)[b]]:=by
    rw [show b + 1 - a = (b - a) + 1 by omega,List.take_add_one,List.getElem?_drop,show a + (b - a) = b by omega,List.getElem?_eq_getElem hlt]
    rfl
   rw [this]
 | 0,_,_,0,_,_,_,h,_=>absurd h (by omega)
 | 0,_,_,1,_,_,_,h,_=>absurd h (by omega)
 | _ + 1,_,_,0,_,_,_,h,_=>absurd h (by omega)
/-- The pieces of a string. -/
def sp (c:UInt8) (s:ByteArray):List ByteArray:=(splitBy c (tl s)).map fl
theorem split_s {K:Nat} (hK:maxLen + 2≤K) (s:ByteArray) (hl:s.size≤1048576) (c:UInt8):Z81 K s ((c.toNat:Nat):Int) = some (sp c s):=by
 have hm:maxLen = 2 ^ 63 - 1:=rfl
 rw [Z81.eq]
 refine (split_loop (K:=K) s hl c (tl s).length 0 0 K [] (by omega) (by omega) (by rw [tl_len]; omega) (by simp)).trans ?_
 rw [List.drop_zero,Nat.sub_zero,List.take_zero,cont_nil (splitBy_ne c _)]
 rfl
theorem idx_none (c:UInt8):∀ l,cutAt c l = none→Lib.indexByte l c = -1
 | [],_=>rfl
 | b :: r,h=>by
  unfold cutAt at h
  split at h
  ·cases h
  ·rename_i hb
   rw [Option.map_eq_none_iff] at h
   have ih:=idx_none c r h
   unfold Lib.indexByte
   rw [if_neg (by simpa using hb),ih]
   rfl
theorem idx_some (c:UInt8):∀ l p r,cutAt c l = some (p,r)→Lib.indexByte l c = (p.length:Int)
 | [],p,r,h=>by simp [cutAt] at h
 | b :: l,p,r,h=>by
  unfold cutAt at h
  split at h
  ·rename_i hb
   simp only [Option.some.injEq,Prod.mk.injEq] at h
   obtain ⟨rfl,rfl⟩:=h
   unfold Lib.indexByte
   rw [if_pos (by simpa using hb)]
   rfl
  ·rename_i hb
   obtain ⟨x,hx,h⟩:=Option.map_eq_some_iff.1 h
   simp only [Prod.mk.injEq] at h
   obtain ⟨rfl,rfl⟩:=h
   have ih:=idx_some c l x.1 x.2 hx
   unfold Lib.indexByte
   rw [if_neg (by simpa using hb),ih,if_neg (by simp)]
   simp
theorem index_eq (K:Nat) (s:ByteArray) (c:UInt8):Z8n K s (fl [c]) = some (Lib.indexByte (tl s) c):=by
 rw [Z8n.eq,Z2b.eq,br_false (beq_false (by rw [fl_size]; simp))]
 by_cases h:fl [c] = s
 ·subst h
  rw [br_true (strEq_t _),Option.bind_some,tl_fl]
  simp [Lib.indexByte]
 ·rw [br_false (strEq_f h),br_true (beq_true (by rw [fl_size]; simp)),br_true (by rw [fl_size]; rfl)]
  have e:bt (fl [c]) 0 = ((c.toNat:Nat):Int):=by
   have:=bt_eq (fl [c]) 0 (by rw [tl_fl]; simp)
   simpa [fl] using this
  rw [e,Z4l.eq,Option.bind_some,Option.bind_some]
  congr 2
  simp
theorem index_lite (K:Nat) (s:ByteArray) (c:UInt8):Z2b K s (fl [c]) = some (Lib.indexByte (tl s) c):=by
 have:=index_eq K s c
 rw [Z8n.eq] at this
 cases h:Z2b K s (fl [c]) with
 | none=>rw [h] at this; cases this
 | some y=>rw [h] at this; exact this
theorem cut_eq (K:Nat) (s:ByteArray) (hl:s.size≤1048576) (c:UInt8):Zd0 K s (fl [c]) = some (match cutAt c (tl s) with | none=>(s,(fl [],(false,()))) | some (p,r)=>(fl p,(fl r,(true,())))):=by
 rw [Zd0.eq,Z65.eq,index_lite,Option.bind_some]
 cases h:cutAt c (tl s) with
 | none =>
  rw [idx_none c _ h,br_false (by decide)]
  rfl
 | some x =>
  obtain ⟨p,r⟩:=x
  obtain ⟨h1,h2⟩:=cut_some c _ p r h
  have hs:s.size = p.length + (r.length + 1):=by rw [← tl_len,h1,List.length_append,List.length_cons]
  rw [idx_some c _ p r h,br_true (decide_eq_true (by omega)),br_true (by simp; omega),fl_size,wrap_id (by simp; omega) (by simp; omega),br_true (by simp; omega),Option.bind_some]
  have e1:s.extract 0 ((p.length:Int)).toNat = fl p:=by
   rw [ext_eq,h1]; simp
  have e2:s.extract ((p.length:Int) + (([c].length:Nat):Int)).toNat s.size = fl r:=by
   rw [ext_eq,h1,show ((p.length:Int) + (([c].length:Nat):Int)).toNat = p.length + 1 by simp,hs,show p.length + (r.length + 1) - (p.length + 1) = r.length by omega]
   have:(p ++ c :: r).drop (p.length + 1) = r:=by
    rw [show p ++ c :: r = (p ++ [c]) ++ r by simp,List.drop_left' (by simp)]
   rw [this,List.take_length]
  rw [e1,e2]
theorem take_set {α:Type} (o:List α) (i:Nat) (x:α) (h:i < o.length):(o.set i x).take (i + 1) = o.take i ++ [x]:=by
 apply List.ext_getElem?
 intro j
 rw [List.getElem?_append,List.length_take,Nat.min_eq_left (by omega),List.getElem?_take,List.getElem?_take,List.getElem?_set]
 by_cases h1:j < i
 ·rw [if_pos (by omega),if_pos h1,if_pos h1,if_neg (by omega)]
 ·rw [if_neg h1]
  by_cases h2:j = i
  ·subst h2; rw [if_pos (by omega),if_pos rfl,if_pos h]; simp
  ·rw [if_neg (by omega)]
   rw [List.getElem?_eq_none (by simp; omega)]
theorem gen_loop {K:Nat} (c:UInt8):∀ (m i k:Nat) (s:ByteArray) (o:List ByteArray),i + m < o.length→o.length≤2000000→s.size≤1048576→m < k →
  Z3j K k (fl [c]) 0 s ((i + m:Nat):Int) (i:Int) o = some (o.take i ++ (splitN c m (tl s)).map fl)
 | 0,i,k + 1,s,o,h,h2,h3,hk=>by
  rw [Z3j.step,br_false (decide_eq_false (by omega)),br_true (by simp; omega),wrap_id (by omega) (by omega),br_true (by simp; omega)]
  rw [show ((i:Int) + 1).toNat = i + 1 by omega,show (i:Int).toNat = i by omega,List.drop_zero,take_set o i s (by omega),splitN,List.map_cons,List.map_nil,fl_tl]
 | m + 1,i,k + 1,s,o,h,h2,h3,hk=>by
  rw [Z3j.step,br_true (decide_eq_true (by omega)),index_eq,Option.bind_some,splitN]
  cases hc:cutAt c (tl s) with
  | none =>
   rw [idx_none c _ hc,br_true (by decide),br_true (by simp; omega),wrap_id (k:=(i:Int) + 1) (by omega) (by omega),br_true (by simp; omega)]
   rw [show ((i:Int) + 1).toNat = i + 1 by omega,show (i:Int).toNat = i by omega,List.drop_zero,take_set o i s (by omega),List.map_cons,List.map_nil,fl_tl]
  | some x =>
   obtain ⟨p,r⟩:=x
   obtain ⟨g1,g2⟩:=cut_some c _ p r hc
   have hs:s.size = p.length + (r.length + 1):=by rw [← tl_len,g1,List.length_append,List.length_cons]
   rw [idx_some c _ p r hc,br_false (decide_eq_false (by omega)),fl_size,wrap_id (k:=(p.length:Int) + 0) (by omega) (by omega),br_true (by simp; omega),br_true (by simp; omega),wrap_id (k:=(p.length:Int) + (([c].length:Nat):Int)) (by simp; omega) (by simp; omega),br_true (by simp; omega),wrap_id (k:=(i:Int) + 1) (by omega) (by omega)]
   have e1:s.extract 0 ((p.length:Int) + 0).toNat = fl p:=by
    rw [ext_eq,g1]; simp
   have e2:s.extract ((p.length:Int) + (([c].length:Nat):Int)).toNat s.size = fl r:=by
    rw [ext_eq,g1,show ((p.length:Int) + (([c].length:Nat):Int)).toNat = p.length + 1 by simp,hs,show p.length + (r.length + 1) - (p.length + 1) = r.length by omega]
    have:(p ++ c :: r).drop (p.length + 1) = r:=by
     rw [show p ++ c :: r = (p ++ [c]) ++ r by simp,List.drop_left' (by simp)]
    rw [this,List.take_length]
   rw [e1,e2,show (i:Int).toNat = i by omega]
   have:=gen_loop (K:=K) c m (i + 1) k (fl r) (o.set i (fl p)) (by simp; omega) (by simpa using h2) (by rw [fl_size]; omega) (by omega)
   rw [show i + 1 + m = i + (m + 1) by omega,Int.natCast_add i 1] at this
   refine this.trans ?_
   rw [take_set o i _ (by omega),tl_fl]
   simp
 | _,_,0,_,_,_,_,_,h=>absurd h (Nat.not_lt_zero _)
theorem splitN_count (c:UInt8):∀ (n:Nat) (l:List UInt8),l.count c≤n→splitN c n l = splitBy c l
 | 0,l,h=>by
  have:c∉l:=by
   intro hc
   have:=List.count_pos_iff.2 hc
   omega
  rw [splitN,split_plain c l this]
 | n + 1,l,h=>by
  unfold splitN
  split
  ·rename_i hc
   rw [split_plain c l ((cut_none c l).1 hc)]
  ·rename_i p r hc
   obtain ⟨h1,h2⟩:=cut_some c l p r hc
   rw [h1,split_app c r p h2,splitN_count c n r (by
    rw [h1,List.count_append,List.count_cons_self,List.count_eq_zero.2 h2] at h; omega)]
theorem split_i {K:Nat} (hK:maxLen + 2≤K) (s:ByteArray) (hl:s.size≤1048576) (c:UInt8):Zaz K s (fl [c]) = some (sp c s):=by
 have hm:maxLen = 2 ^ 63 - 1:=rfl
 have hne:fl [c]≠⟨#[]⟩:=by intro h; have:=congrArg ByteArray.size h; rw [fl_size] at this; cases this
 have hcn:(tl s).count c≤s.size:=by rw [← tl_len]; exact List.count_le_length
 rw [Zaz.eq,Z6i.eq,br_false (by decide),br_false (strEq_f hne),br_true (by decide),Zdh.eq]
 have hc1:count1 s (fl [c]) = some (((tl s).count c:Nat):Int):=rfl
 have hfin:∀ n,n = (tl s).count c→splitN c n (tl s) = splitBy c (tl s):=fun n h=>splitN_count c n _ (by omega)
 rw [hc1,Option.bind_some]
 generalize (tl s).count c = n at *
 rw [wrap_id (k:=((s.size:Nat):Int) + 1) (by omega) (by omega),wrap_id (k:=((n:Nat):Int) + 1) (by omega) (by omega)]
 rw [if_neg (by omega),br_true (by simp; omega),wrap_id (by omega) (by omega)]
 have:=gen_loop (K:=K) c n 0 K s (List.replicate (((n:Nat):Int) + 1).toNat ⟨#[]⟩) (by simp <;> omega) (by simp <;> omega) hl (by omega)
 rw [show (((n:Nat):Int) + 1 - 1) = ((0 + n:Nat):Int) by omega]
 rw [show (0:Int) = ((0:Nat):Int) from rfl] at *
 rw [this,Option.bind_some,List.take_zero,List.nil_append,hfin n rfl]
 rfl
theorem split4_i {K:Nat} (hK:maxLen + 2≤K) (s:ByteArray) (hl:s.size≤1048576) (c:UInt8):Za0 K s (fl [c]) 4 = some ((splitN c 3 (tl s)).map fl):=by
 have hm:maxLen = 2 ^ 63 - 1:=rfl
 have hne:fl [c]≠⟨#[]⟩:=by intro h; have:=congrArg ByteArray.size h; rw [fl_size] at this; cases this
 rw [Za0.eq,Z6i.eq,br_false (by decide),br_false (strEq_f hne),br_false (by decide),wrap_id (k:=((s.size:Nat):Int) + 1) (by omega) (by omega)]
 by_cases h4:((s.size:Nat):Int) + 1 < 4
 ·rw [if_pos h4,br_true (by simp; omega),wrap_id (by omega) (by omega)]
  have:=gen_loop (K:=K) c s.size 0 K s (List.replicate (((s.size:Nat):Int) + 1).toNat ⟨#[]⟩) (by simp <;> omega) (by simp <;> omega) hl (by omega)
  rw [show ((s.size:Nat):Int) + 1 - 1 = ((0 + s.size:Nat):Int) by omega]
  rw [show (0:Int) = ((0:Nat):Int) from rfl] at *
  rw [this,Option.bind_some,List.take_zero,List.nil_append,splitN_all c _ _ (by rw [tl_len]; omega),splitN_all c 3 _ (by rw [tl_len]; omega)]
 ·rw [if_neg h4,br_true (by decide),wrap_id (by omega) (by omega)]
  have:=gen_loop (K:=K) c 3 0 K s (List.replicate (4:Int).toNat ⟨#[]⟩) (by decide) (by decide) hl (by omega)
  rw [show (4:Int) - 1 = ((0 + 3:Nat):Int) by decide]
  rw [show (0:Int) = ((0:Nat):Int) from rfl] at *
  rw [this,Option.bind_some,List.take_zero,List.nil_append]
end F5
/- Numerals, names, and what a configuration must keep. -/
namespace F5
open Go Go.Fil Go.Proofs Go.Fil.Cf
set_option maxRecDepth 100000
set_option linter.unusedVariables false
def dig:Int→List UInt8→Option Int
 | v,[]=>some v
 | v,b :: r=>if 48≤b.toNat∧b.toNat≤57 then dig (10 * v + ((b.toNat:Int) - 48)) r else none
def enc:Option Int→Int × (Bool × Unit)
 | none=>(0,(false,()))
 | some n=>(n,(true,()))
def upto (mx:Int):Option Int→Option Int
 | none=>none
 | some n=>if n > mx then none else some n
def pnum (mx:Int) (l:List UInt8):Option Int :=
 if l.length = 0 then none else if 5 < l.length then none else if 1 < l.length∧l.head? = some 48 then none else upto mx (dig 0 l)
theorem drop_parts {s:List UInt8} {i:Nat} {b:UInt8} {r:List UInt8} (h:s.drop i = b :: r):∃ hi:i < s.length,s[i] = b∧s.drop (i + 1) = r:=by
 have hi:i < s.length:=by
  by_cases hi:i < s.length
  ·exact hi
  ·rw [List.drop_eq_nil_of_le (by omega)] at h; cases h
 rw [List.drop_eq_getElem_cons hi] at h
 injection h with h1 h2
 exact ⟨hi,h1,h2⟩
theorem pow_le (i:Nat) (h:i≤5):(10:Int) ^ i≤100000:=by
 have:∀ i:Fin 6,(10:Int) ^ i.1≤100000:=by decide
 exact this ⟨i,by omega⟩
theorem num_s {K:Nat} (s:ByteArray) (mx:Int) (hs:s.size≤5):∀ (r:List UInt8) (i k:Nat) (v:Int),(tl s).drop i = r→i + r.length = s.size→0≤v→v < 10 ^ i→r.length < k→Z57 K k s mx v (i:Int) = some (enc (upto mx (dig v r)))
 | [],i,k + 1,v,h,hi,h0,h1,hk=>by
  rw [Z57.step,br_false (decide_eq_false (by simp at hi; omega)),dig,upto]
  by_cases hm:v > mx
  ·rw [br_true (decide_eq_true hm),if_pos hm]; rfl
  ·rw [br_false (decide_eq_false hm),if_neg hm]; rfl
 | b :: r,i,k + 1,v,h,hi,h0,h1,hk=>by
  obtain ⟨hlt,hb,hr⟩:=drop_parts h
  have hlt':i < s.size:=hlt
  have hb2:b.toNat < 256:=b.toNat_lt
  have hin:(decide (0≤(i:Int)) && decide ((i:Int) < ((s.size:Nat):Int))) = true:=by simp; omega
  have hp:=pow_le i (by omega)
  rw [Z57.step,br_true (decide_eq_true (by omega)),br_true hin,bt_eq s i hlt,hb,wrap_id (k:=((b.toNat:Nat):Int)) (by omega) (by omega),l1In_eq,Option.bind_some,br_true hin,dig]
  by_cases h48:48≤b.toNat∧b.toNat≤57
  ·have h1':(decide ((48:Int)≤((b.toNat:Nat):Int)) && decide (((b.toNat:Nat):Int)≤57)) = true:=by simp; omega
   have e:IntKind.wrap .u8 (((b.toNat:Nat):Int) - 48) = ((b.toNat:Nat):Int) - 48:=by rw [wrap_u8]; omega
   rw [h1',br_false (c:=!true) rfl,if_pos h48,e,wrap_id (k:=((b.toNat:Nat):Int) - 48) (by omega) (by omega),wrap_id (k:=10 * v) (by omega) (by omega),wrap_id (k:=10 * v + (((b.toNat:Nat):Int) - 48)) (by omega) (by omega),wrap_id (k:=(i:Int) + 1) (by omega) (by omega)]
   have:=num_s (K:=K) s mx hs r (i + 1) k (10 * v + (((b.toNat:Nat):Int) - 48)) hr (by simp at hi; omega) (by omega) (by rw [Int.pow_succ]; omega) (by simp at hk; omega)
   rw [Int.natCast_add] at this
   exact this
  ·have h1':(decide ((48:Int)≤((b.toNat:Nat):Int)) && decide (((b.toNat:Nat):Int)≤57)) = false:=by
    rw [Bool.and_eq_false_iff,decide_eq_false_iff_not,decide_eq_false_iff_not]; omega
   rw [h1',br_true (c:=!false) rfl,if_neg h48]; rfl
 | _,_,0,_,_,_,_,_,h=>absurd h (Nat.not_lt_zero _)
theorem num_i {K:Nat} (s:ByteArray) (mx:Int) (hs:s.size≤5):∀ (r:List UInt8) (i k:Nat) (v:Int),(tl s).drop i = r→i + r.length = s.size→0≤v→v < 10 ^ i→r.length < k→Z59 K k s mx v (i:Int) = some (enc (upto mx (dig v r)))
 | [],i,k + 1,v,h,hi,h0,h1,hk=>by
  rw [Z59.step,br_false (decide_eq_false (by simp at hi; omega)),dig,upto]
  by_cases hm:v > mx
  ·rw [br_true (decide_eq_true hm),if_pos hm]; rfl
  ·rw [br_false (decide_eq_false hm),if_neg hm]; rfl
 | b :: r,i,k + 1,v,h,hi,h0,h1,hk=>by
  obtain ⟨hlt,hb,hr⟩:=drop_parts h
  have hlt':i < s.size:=hlt
  have hb2:b.toNat < 256:=b.toNat_lt
  have hin:(decide (0≤(i:Int)) && decide ((i:Int) < ((s.size:Nat):Int))) = true:=by simp; omega
  have hp:=pow_le i (by omega)
  rw [Z59.step,br_true (decide_eq_true (by omega)),br_true hin,br_true hin,br_true hin,bt_eq s i hlt,hb,dig]
  by_cases h48:48≤b.toNat∧b.toNat≤57
  ·have e:IntKind.wrap .u8 (((b.toNat:Nat):Int) - 48) = ((b.toNat:Nat):Int) - 48:=by rw [wrap_u8]; omega
   rw [br_false (decide_eq_false (by omega)),br_false (decide_eq_false (by omega)),if_pos h48,e,wrap_id (k:=((b.toNat:Nat):Int) - 48) (by omega) (by omega),wrap_id (k:=10 * v) (by omega) (by omega),wrap_id (k:=10 * v + (((b.toNat:Nat):Int) - 48)) (by omega) (by omega),wrap_id (k:=(i:Int) + 1) (by omega) (by omega)]
   have:=num_i (K:=K) s mx hs r (i + 1) k (10 * v + (((b.toNat:Nat):Int) - 48)) hr (by simp at hi; omega) (by omega) (by rw [Int.pow_succ]; omega) (by simp at hk; omega)
   rw [Int.natCast_add] at this
   exact this
  ·rw [if_neg h48]
   by_cases h2:b.toNat < 48
   ·rw [br_true (decide_eq_true (by omega))]; rfl
   ·rw [br_false (decide_eq_false (by omega)),br_true (decide_eq_true (by omega))]; rfl
 | _,_,0,_,_,_,_,_,h=>absurd h (Nat.not_lt_zero _)
theorem head_bt (s:ByteArray) (h:0 < (tl s).length):(bt s 0 == 48) = true↔(tl s).head? = some 48:=by
 have e:bt s 0 = (((tl s)[0].toNat:Nat):Int):=bt_eq s 0 h
 rw [e]
 match hs:tl s,h with
 | b :: r,_ =>
  simp only [List.getElem_cons_zero,List.head?_cons,beq_iff_eq,Option.some.injEq]
  constructor
  ·intro h2
   exact UInt8.toNat_inj.1 (by have:(48:UInt8).toNat = 48:=rfl; omega)
  ·rintro rfl; rfl
theorem head_nb (s:ByteArray) (h:0 < (tl s).length) (h48:(tl s).head?≠some 48):(bt s 0 == 48) = false:=by
 cases e:bt s 0 == 48
 ·rfl
 ·exact absurd ((head_bt s h).1 e) h48
theorem parseNum_s {K:Nat} (hK:maxLen + 2≤K) (s:ByteArray) (mx:Int) (hm:mx≤65535):Zaw K s mx = some (enc (pnum mx (tl s))):=by
 have hml:maxLen = 2 ^ 63 - 1:=rfl
 rw [Zaw.eq,pnum]
 by_cases h0:(tl s).length = 0
 ·have h0':s.size = 0:=h0
  rw [br_true (beq_true (by omega)),if_pos h0]; rfl
 ·have h0':s.size≠0:=h0
  rw [br_false (beq_false (by omega)),if_neg h0]
  by_cases h5:5 < (tl s).length
  ·have h5':5 < s.size:=h5
   rw [br_true (decide_eq_true (by omega)),if_pos h5]; rfl
  ·have h5':¬ 5 < s.size:=h5
   have hrun:=num_s (K:=K) s mx (by omega) (tl s) 0 K 0 (by simp) (by rw [tl_len]; omega) (by omega) (by omega) (by rw [tl_len]; omega)
   rw [br_false (decide_eq_false (by omega)),if_neg h5]
   by_cases h1:1 < (tl s).length
   ·have h1':1 < s.size:=h1
    rw [br_true (decide_eq_true (by omega)),br_true (by simp; omega)]
    by_cases h48:(tl s).head? = some 48
    ·rw [br_true ((head_bt s (by omega)).2 h48),if_pos ⟨h1,h48⟩]; rfl
    ·rw [br_false (head_nb s (by omega) h48),if_neg (fun h=>h48 h.2),br_false (decide_eq_false (by omega))]
     exact hrun
   ·have h1':¬ 1 < s.size:=h1
    rw [br_false (decide_eq_false (by omega)),if_neg (fun h=>h1 h.1),br_false (decide_eq_false (by omega))]
    exact hrun
theorem parseNum_i {K:Nat} (hK:maxLen + 2≤K) (s:ByteArray) (mx:Int) (hm:mx≤65535):Zb0 K s mx = some (enc (pnum mx (tl s))):=by
 have hml:maxLen = 2 ^ 63 - 1:=rfl
 rw [Zb0.eq,pnum,br_false (decide_eq_false (by omega)),isIn_eq,Option.bind_some]
 by_cases h0:(tl s).length = 0
 ·have h0':s.size = 0:=h0
  rw [br_true (by simp; omega),if_pos h0]; rfl
 ·have h0':s.size≠0:=h0
  rw [if_neg h0]
  by_cases h5:5 < (tl s).length
  ·have h5':5 < s.size:=h5
   rw [br_true (by simp; omega),if_pos h5]; rfl
  ·have h5':¬ 5 < s.size:=h5
   have hrun:=num_i (K:=K) s mx (by omega) (tl s) 0 K 0 (by simp) (by rw [tl_len]; omega) (by omega) (by omega) (by rw [tl_len]; omega)
   rw [br_false (by simp; omega),if_neg h5]
   by_cases h1:1 < (tl s).length
   ·have h1':1 < s.size:=h1
    rw [br_true (decide_eq_true (by omega)),br_true (by simp; omega)]
    by_cases h48:(tl s).head? = some 48
    ·rw [br_true ((head_bt s (by omega)).2 h48),if_pos ⟨h1,h48⟩]; rfl
    ·rw [br_false (head_nb s (by omega) h48),if_neg (fun h=>h48 h.2)]
     exact hrun
   ·have h1':¬ 1 < s.size:=h1
    rw [br_false (decide_eq_false (by omega)),if_neg (fun h=>h1 h.1)]
    exact hrun
theorem pnum_num (mx:Int) (n:Nat) (h:n < 100) (hm:(n:Int)≤mx):pnum mx (num n) = some (n:Int):=by
 have key:∀ n:Fin 100,(num n.1).length≠0∧¬ 5 < (num n.1).length∧¬ (1 < (num n.1).length∧(num n.1).head? = some 48)∧dig 0 (num n.1) = some (n.1:Int):=by decide +kernel
 obtain ⟨a,b,c,d⟩:=key ⟨n,h⟩
 unfold pnum
 simp only [] at a b c d
 rw [if_neg a,if_neg b,if_neg c,d,upto,if_neg (by omega)]
theorem dig_ge:∀ (l:List UInt8) (v w:Int),0≤v→dig v l = some w→v≤w
 | [],v,w,_,h=>by rw [dig] at h; injection h with h; omega
 | b :: r,v,w,h0,h=>by
  rw [dig] at h
  split at h
  ·rename_i hb
   have:=dig_ge r _ w (by omega) h
   omega
  ·cases h
theorem num_of (mx:Int) (l:List UInt8) (v:Int) (hm:mx≤99) (h:pnum mx l = some v):∃ n:Nat,n < 100∧(n:Int)≤mx∧v = n∧l = num n:=by
 unfold pnum at h
 split at h
 ·cases h
 split at h
 ·cases h
 split at h
 ·cases h
 rename_i h0 h5 h1
 cases hd:dig 0 l with
 | none=>rw [hd] at h; cases h
 | some w =>
  rw [hd,upto] at h
  split at h
  ·cases h
  rename_i hw
  injection h with h
  subst h
  match l,h0,h1,hd with
  | [a],_,_,hd =>
   rw [dig] at hd
   split at hd
   ·rename_i ha
    rw [dig] at hd
    injection hd with hd
    refine ⟨a.toNat - 48,by omega,by omega,by omega,?_⟩
    unfold num
    rw [if_pos (by omega),show 48 + (a.toNat - 48) = a.toNat by omega,UInt8.ofNat_toNat]
   ·cases hd
  | [a,b],_,h1,hd =>
   rw [dig] at hd
   split at hd
   ·rename_i ha
    rw [dig] at hd
    split at hd
    ·rename_i hb
     rw [dig] at hd
     injection hd with hd
     have ha0:a.toNat≠48:=fun e=>h1 ⟨by simp,by
      have:a = 48:=UInt8.toNat_inj.1 e
      simp [this]⟩
     refine ⟨10 * (a.toNat - 48) + (b.toNat - 48),by omega,by omega,by omega,?_⟩
     unfold num
     rw [if_neg (by omega),show 48 + (10 * (a.toNat - 48) + (b.toNat - 48)) / 10 = a.toNat by omega,show 48 + (10 * (a.toNat - 48) + (b.toNat - 48)) % 10 = b.toNat by omega,UInt8.ofNat_toNat,UInt8.ofNat_toNat]
    ·cases hd
   ·cases hd
  | a :: b :: c :: r,_,h1,hd =>
   exfalso
   rw [dig] at hd
   split at hd
   ·rename_i ha
    rw [dig] at hd
    split at hd
    ·rename_i hb
     rw [dig] at hd
     split at hd
     ·rename_i hc
      have ha0:a.toNat≠48:=fun e=>h1 ⟨by simp,by
       have:a = 48:=UInt8.toNat_inj.1 e
       simp [this]⟩
      have:=dig_ge r _ w (by omega) hd
      omega
     ·cases hd
    ·cases hd
   ·cases hd
theorem num_chars (n:Nat) (h:n < 100):∀ x∈num n,48≤x.toNat∧x.toNat≤57:=by
 have key:∀ n:Fin 100,∀ x∈num n.1,48≤x.toNat∧x.toNat≤57:=by decide +kernel
 exact key ⟨n,h⟩
theorem num_len (n:Nat):(num n).length≤2:=by unfold num; split <;> simp
def Nm (l:List UInt8):Prop:=(1≤l.length∧l.length≤8)∧∀ x∈l,97≤x.toNat∧x.toNat≤122
theorem name_loop {K:Nat} (s:ByteArray) (hs:s.size≤1048576):∀ (r:List UInt8) (i k:Nat),(tl s).drop i = r→i + r.length = s.size→r.length < k →
  ∃ b,Z6s K k s (i:Int) = some b∧Z71 K k s (i:Int) = some b∧(b = true↔(1≤s.size∧s.size≤8)∧∀ x∈r,97≤x.toNat∧x.toNat≤122)
 | [],i,k + 1,h,hi,hk=>by
  rw [Z6s.step,Z71.step,br_false (decide_eq_false (by simp at hi; omega)),l1In_eq,isIn_eq,Option.bind_some,br_false (decide_eq_false (by simp at hi; omega))]
  refine ⟨_,rfl,rfl,?_⟩
  simp
  omega
 | b :: r,i,k + 1,h,hi,hk=>by
  obtain ⟨hlt,hb,hr⟩:=drop_parts h
  have hlt':i < s.size:=hlt
  have hin:(decide (0≤(i:Int)) && decide ((i:Int) < ((s.size:Nat):Int))) = true:=by simp; omega
  have hlt2:decide ((i:Int) < ((s.size:Nat):Int)) = true:=decide_eq_true (by omega)
  rw [Z6s.step,Z71.step]
  simp only [hlt2,br_t,hin,bt_eq s i hlt,hb]
  rw [wrap_id (k:=(i:Int) + 1) (by omega) (by omega)]
  by_cases h1:b.toNat < 97
  ·simp only [show decide (((b.toNat:Nat):Int) < 97) = true from decide_eq_true (by omega),br_t]
   exact ⟨false,rfl,rfl,by simp; omega⟩
  ·by_cases h2:b.toNat > 122
   ·simp only [show decide (((b.toNat:Nat):Int) < 97) = false from decide_eq_false (by omega),show decide (((b.toNat:Nat):Int) > 122) = true from decide_eq_true (by omega),br_t,br_f]
    exact ⟨false,rfl,rfl,by simp; omega⟩
   ·simp only [show decide (((b.toNat:Nat):Int) < 97) = false from decide_eq_false (by omega),show decide (((b.toNat:Nat):Int) > 122) = false from decide_eq_false (by omega),br_f]
    obtain ⟨c,c1,c2,c3⟩:=name_loop (K:=K) s hs r (i + 1) k hr (by simp at hi; omega) (by simp at hk; omega)
    rw [Int.natCast_add] at c1 c2
    refine ⟨c,c1,c2,c3.trans ?_⟩
    simp
    omega
 | _,_,0,_,_,h=>absurd h (Nat.not_lt_zero _)
theorem name {K:Nat} (hK:maxLen + 2≤K) (s:ByteArray) (hs:s.size≤1048576):∃ b,Z1n K s = some b∧Z7n K s = some b∧(b = true↔Nm (tl s)):=by
 have hml:maxLen = 2 ^ 63 - 1:=rfl
 obtain ⟨b,h1,h2,h3⟩:=name_loop (K:=K) s hs (tl s) 0 K (by simp) (by rw [tl_len]; omega) (by rw [tl_len]; omega)
 exact ⟨b,by rw [Z1n.eq]; exact h1,by rw [Z7n.eq]; exact h2,h3⟩
def DbOk (d:Zc):Prop:=Nm (tl d.1)∧(1≤d.2.1∧d.2.1≤3)∧(0≤d.2.2.1∧d.2.2.1≤4)∧(1≤d.2.2.2.1∧d.2.2.2.1≤20)∧(1≤d.2.2.2.2.1∧d.2.2.2.2.1≤20)
theorem l3Db {K:Nat} (hK:maxLen + 2≤K) (d:Zc) (hs:d.1.size≤1048576):∃ b,Zed K d = some b∧(b = true↔DbOk d):=by
 obtain ⟨b,h1,_,h3⟩:=name hK d.1 hs
 rw [Zed.eq,h1,Option.bind_some]
 simp only [l1In_eq,Option.bind_some]
 unfold DbOk
 rw [← h3]
 cases b
 ·exact ⟨false,rfl,by simp⟩
 ·rw [br_t]
  by_cases a1:1≤d.2.1∧d.2.1≤3
  ·rw [br_true (by simp; omega)]
   by_cases a2:0≤d.2.2.1∧d.2.2.1≤4
   ·rw [br_true (by simp; omega)]
    by_cases a3:1≤d.2.2.2.1∧d.2.2.2.1≤20
    ·rw [br_true (by simp; omega)]
     exact ⟨_,rfl,by simp; omega⟩
    ·rw [br_false (by rw [Bool.and_eq_false_iff,decide_eq_false_iff_not,decide_eq_false_iff_not]; omega)]
     exact ⟨false,rfl,by simp; omega⟩
   ·rw [br_false (by rw [Bool.and_eq_false_iff,decide_eq_false_iff_not,decide_eq_false_iff_not]; omega)]
    exact ⟨false,rfl,by simp; omega⟩
  ·rw [br_false (by rw [Bool.and_eq_false_iff,decide_eq_false_iff_not,decide_eq_false_iff_not]; omega)]
   exact ⟨false,rfl,by simp; omega⟩
end F5
/- Configurations: kept or not; their text. -/
namespace F5
open Go Go.Fil Go.Proofs Go.Fil.Cf
set_option maxRecDepth 100000
set_option linter.unusedVariables false
abbrev dbAt (l:List Zc) (j:Nat):Zc:=List.getD l j Zl.zero
def Cf0 (l:List Zc) (i:Nat):Prop:=∀ j,i≤j→j < l.length→DbOk (dbAt l j)∧∀ j',j' < j→(dbAt l j').1≠(dbAt l j).1
def CfOk (l:List Zc):Prop:=Cf0 l 0∧1≤l.length∧l.length≤3
theorem Cf0_next {l:List Zc} {i:Nat} (hi:i < l.length):Cf0 l i↔(DbOk (dbAt l i)∧∀ j',j' < i→(dbAt l j').1≠(dbAt l i).1)∧Cf0 l (i + 1):=by
 constructor
 ·intro h
  exact ⟨h i (Nat.le_refl _) hi,fun j hj hl=>h j (by omega) hl⟩
 ·rintro ⟨h1,h2⟩ j hj hl
  by_cases e:j = i
  ·subst e; exact h1
  ·exact h2 j (by omega) hl
theorem dbAt_mem {l:List Zc} {i:Nat} (hi:i < l.length):dbAt l i∈l:=by
 rw [dbAt,List.getD_eq_getElem?_getD,List.getElem?_eq_getElem hi]
 exact List.getElem_mem hi
theorem conf_s {K:Nat} (hK:maxLen + 2≤K) (l:List Zc) (hl:l.length≤1048577) (hn:∀ d∈l,d.1.size≤1048576):∀ (q i k:Nat),i + q = l.length→q < k →
  ∃ b,Z6t K k l (i:Int) = some b∧(b = true↔Cf0 l i∧1≤l.length∧l.length≤3)
 | 0,i,k + 1,hi,hk=>by
  rw [Z6t.step,br_false (decide_eq_false (by omega)),l1In_eq,Option.bind_some]
  refine ⟨_,rfl,?_⟩
  have:Cf0 l i:=fun j hj hl=>absurd hl (by omega)
  simp [this]
  omega
 | q + 1,i,k + 1,hi,hk=>by
  have hm:maxLen = 2 ^ 63 - 1:=rfl
  have hlt:i < l.length:=by omega
  have hin:(decide (0≤(i:Int)) && decide ((i:Int) < ((l.length:Nat):Int))) = true:=by simp; omega
  obtain ⟨b1,h1,h2⟩:=l3Db hK (dbAt l i) (hn _ (dbAt_mem hlt))
  have inner:∀ (p j k':Nat),j + p = i→p < k'→∃ b,Z6u K k' k l (i:Int) (j:Int) = some b∧(b = true↔(∀ j',j≤j'→j' < i→(dbAt l j').1≠(dbAt l i).1)∧Cf0 l (i + 1)∧1≤l.length∧l.length≤3):=by
   intro p
   induction p with
   | zero =>
    intro j k' hj hk'
    obtain ⟨k',rfl⟩:∃ m,k' = m + 1:=⟨k' - 1,by omega⟩
    rw [Z6u.step,br_false (decide_eq_false (by omega)),wrap_id (by omega) (by omega)]
    obtain ⟨b,c1,c2⟩:=conf_s hK l hl hn q (i + 1) k (by omega) (by omega)
    refine ⟨b,c1,c2.trans ?_⟩
    constructor
    ·intro h
     exact ⟨fun j' g1 g2=>absurd g2 (by omega),h⟩
    ·intro h
     exact h.2
   | succ p ih =>
    intro j k' hj hk'
    obtain ⟨k',rfl⟩:∃ m,k' = m + 1:=⟨k' - 1,by omega⟩
    rw [Z6u.step,br_true (decide_eq_true (by omega)),br_true (by simp; omega),br_true hin,show (j:Int).toNat = j by omega,show (i:Int).toNat = i by omega,wrap_id (by omega) (by omega)]
    obtain ⟨b,c1,c2⟩:=ih (j + 1) k' (by omega) (by omega)
    by_cases e:(dbAt l j).1 = (dbAt l i).1
    ·rw [br_true ((strEq_iff _ _).2 e)]
     refine ⟨false,rfl,?_⟩
     constructor
     ·intro h; cases h
     ·intro h; exact absurd e (h.1 j (Nat.le_refl _) (by omega))
    ·rw [br_false (strEq_f e)]
     refine ⟨b,c1,c2.trans ?_⟩
     constructor
     ·rintro ⟨g1,g2⟩
      refine ⟨fun j' h1 h2=>?_,g2⟩
      by_cases e':j' = j
      ·subst e'; exact e
      ·exact g1 j' (by omega) h2
     ·rintro ⟨g1,g2⟩
      exact ⟨fun j' h1 h2=>g1 j' (by omega) h2,g2⟩
  obtain ⟨b,c1,c2⟩:=inner i 0 K (by omega) (by omega)
  rw [Z6t.step,br_true (decide_eq_true (by omega)),br_true hin,show (i:Int).toNat = i by omega,h1,Option.bind_some]
  cases b1 with
  | false =>
   refine ⟨false,rfl,?_⟩
   rw [Cf0_next hlt]
   constructor
   ·intro h; cases h
   ·intro h; exact absurd (h2.2 h.1.1.1) (by simp)
  | true =>
   rw [br_false (c:=!true) rfl]
   refine ⟨b,c1,c2.trans ?_⟩
   rw [Cf0_next hlt]
   have hd:=h2.1 rfl
   constructor
   ·rintro ⟨g1,g2,g3⟩
    exact ⟨⟨⟨hd,fun j' h=>g1 j' (by omega) h⟩,g2⟩,g3⟩
   ·rintro ⟨⟨⟨_,g1⟩,g2⟩,g3⟩
    exact ⟨fun j' _ h=>g1 j' h,g2,g3⟩
 | _,_,0,_,h=>absurd h (Nat.not_lt_zero _)
theorem place_loop {K:Nat} (l:List Zc) (hl:l.length≤1048577) (i:Nat) (hi:i < l.length):∀ (p j k:Nat),j + p = i→p < k →
  ∃ r:Int,Z2l K k l (dbAt l i).1 (j:Int) = some r∧(r = (i:Int)↔∀ j',j≤j'→j' < i→(dbAt l j').1≠(dbAt l i).1)
 | p,j,k + 1,hj,hk=>by
  rw [Z2l.step,br_true (decide_eq_true (by omega)),br_true (by simp; omega),show (j:Int).toNat = j by omega,Zch.eq,Option.bind_some,wrap_id (by omega) (by omega)]
  by_cases e:(dbAt l j).1 = (dbAt l i).1
  ·rw [br_true ((strEq_iff _ _).2 e)]
   refine ⟨_,rfl,?_⟩
   constructor
   ·intro h j' g1 g2; omega
   ·intro h
    by_cases g:j < i
    ·exact absurd e (h j (Nat.le_refl _) g)
    ·omega
  ·rw [br_false (strEq_f e)]
   match p,hj,hk with
   | 0,hj,hk =>
    have:j = i:=by omega
    subst this
    exact absurd rfl e
   | p + 1,hj,hk =>
    obtain ⟨r,r1,r2⟩:=place_loop (K:=K) l hl i hi p (j + 1) k (by omega) (by omega)
    refine ⟨r,r1,r2.trans ?_⟩
    constructor
    ·intro g j' h1 h2
     by_cases e':j' = j
     ·subst e'; exact e
     ·exact g j' (by omega) h2
    ·intro g j' h1 h2
     exact g j' (by omega) h2
 | _,_,0,_,h=>absurd h (Nat.not_lt_zero _)
theorem place {K:Nat} (hK:maxLen + 2≤K) (l:List Zc) (hl:l.length≤1048577) (i:Nat) (hi:i < l.length):∃ r:Int,Zbt K l (dbAt l i).1 = some r∧(r = (i:Int)↔∀ j',j' < i→(dbAt l j').1≠(dbAt l i).1):=by
 have hm:maxLen = 2 ^ 63 - 1:=rfl
 obtain ⟨r,r1,r2⟩:=place_loop (K:=K) l hl i hi i 0 K (by omega) (by omega)
 refine ⟨r,?_,r2.trans ⟨fun h j' g=>h j' (by omega) g,fun h j' _ g=>h j' g⟩⟩
 rw [Zbt.eq,Z5r.eq]
 exact congrArg (fun o=>Option.bind o fun y=>some y) r1
theorem conf_i {K:Nat} (hK:maxLen + 2≤K) (l:List Zc) (hl:l.length≤1048577) (hn:∀ d∈l,d.1.size≤1048576):∀ (q i k:Nat),i + q = l.length→q < k →
  ∃ b,Z72 K k l (i:Int) = some b∧(b = true↔Cf0 l i∧1≤l.length∧l.length≤3)
 | 0,i,k + 1,hi,hk=>by
  rw [Z72.step,br_false (decide_eq_false (by omega)),isIn_eq,Option.bind_some]
  refine ⟨_,rfl,?_⟩
  have:Cf0 l i:=fun j hj hl=>absurd hl (by omega)
  simp [this]
  omega
 | q + 1,i,k + 1,hi,hk=>by
  have hlt:i < l.length:=by omega
  obtain ⟨b1,_,h1,h2⟩:=name hK (dbAt l i).1 (hn _ (dbAt_mem hlt))
  obtain ⟨r,r1,r2⟩:=place hK l hl i hlt
  obtain ⟨b,c1,c2⟩:=conf_i hK l hl hn q (i + 1) k (by omega) (by omega)
  rw [Z72.step,br_true (decide_eq_true (by omega)),br_true (by simp; omega),show (i:Int).toNat = i by omega,h1,Option.bind_some,wrap_id (by omega) (by omega)]
  have no:∀ (P:Prop),¬ P→(false = true↔P):=fun P hP=>⟨fun h=>(by cases h),fun h=>absurd h hP⟩
  rw [Cf0_next hlt]
  unfold DbOk
  rw [← h2]
  have nn:∀ {a b c:Int},¬ (b≤a∧a≤c)→(!(decide (b≤a) && decide (a≤c))) = true:=fun h=>by
   rw [Bool.not_eq_true',Bool.and_eq_false_iff,decide_eq_false_iff_not,decide_eq_false_iff_not]; omega
  have yy:∀ {a b c:Int},(b≤a∧a≤c)→(!(decide (b≤a) && decide (a≤c))) = false:=fun h=>by simp [h.1,h.2]
  cases b1 with
  | false=>exact ⟨false,rfl,no _ (by simp)⟩
  | true =>
   rw [br_false (c:=!true) rfl,r1,Option.bind_some]
   by_cases hr:r = (i:Int)
   ·rw [br_false (bne_false hr)]
    simp only [isIn_eq,Option.bind_some]
    by_cases a1:1≤(dbAt l i).2.1∧(dbAt l i).2.1≤3
    ·rw [br_false (yy a1)]
     by_cases a2:0≤(dbAt l i).2.2.1∧(dbAt l i).2.2.1≤4
     ·rw [br_false (yy a2)]
      by_cases a3:1≤(dbAt l i).2.2.2.1∧(dbAt l i).2.2.2.1≤20
      ·rw [br_false (yy a3)]
       by_cases a4:1≤(dbAt l i).2.2.2.2.1∧(dbAt l i).2.2.2.2.1≤20
       ·rw [br_false (yy a4)]
        refine ⟨b,c1,c2.trans ?_⟩
        constructor
        ·rintro ⟨g1,g2⟩
         exact ⟨⟨⟨⟨trivial,a1,a2,a3,a4⟩,r2.1 hr⟩,g1⟩,g2⟩
        ·rintro ⟨⟨_,g1⟩,g2⟩
         exact ⟨g1,g2⟩
       ·rw [br_true (nn a4)]
        exact ⟨false,rfl,no _ (fun h=>a4 h.1.1.1.2.2.2.2)⟩
      ·rw [br_true (nn a3)]
       exact ⟨false,rfl,no _ (fun h=>a3 h.1.1.1.2.2.2.1)⟩
     ·rw [br_true (nn a2)]
      exact ⟨false,rfl,no _ (fun h=>a2 h.1.1.1.2.2.1)⟩
    ·rw [br_true (nn a1)]
     exact ⟨false,rfl,no _ (fun h=>a1 h.1.1.1.2.1)⟩
   ·rw [br_true (bne_true hr)]
    exact ⟨false,rfl,no _ (fun h=>hr (r2.2 h.1.1.2))⟩
 | _,_,0,_,h=>absurd h (Nat.not_lt_zero _)
theorem confOk {K:Nat} (hK:maxLen + 2≤K) (l:List Zc) (hl:l.length≤1048577) (hn:∀ d∈l,d.1.size≤1048576):∃ b,Z2e K l = some b∧Z33 K l = some b∧(b = true↔CfOk l):=by
 have hm:maxLen = 2 ^ 63 - 1:=rfl
 obtain ⟨b,h1,h2⟩:=conf_s hK l hl hn l.length 0 K (by omega) (by omega)
 obtain ⟨c,h3,h4⟩:=conf_i hK l hl hn l.length 0 K (by omega) (by omega)
 have e:b = c:=Bool.eq_iff_iff.2 (h2.trans h4.symm)
 subst e
 exact ⟨b,by rw [Z2e.eq]; exact h1,by rw [Z33.eq]; exact h3,h2⟩
theorem CfOk.db {l:List Zc} (h:CfOk l):∀ d∈l,DbOk d:=by
 intro d hd
 obtain ⟨i,hi,rfl⟩:=List.getElem_of_mem hd
 have:=(h.1 i (by omega) hi).1
 rwa [dbAt,List.getD_eq_getElem?_getD,List.getElem?_eq_getElem hi] at this
def nums (d:Zc):List (List UInt8):=[num d.2.1.toNat,num d.2.2.1.toNat,num d.2.2.2.1.toNat,num d.2.2.2.2.1.toNat]
def ent (d:Zc):List UInt8:=tl d.1 ++ 58 :: joinBy 47 (nums d)
def txt (l:List Zc):List UInt8:=joinBy 59 (l.map ent)
theorem numText (K:Nat) (n:Int) (h0:0≤n) (h1:n≤20):Z6j K n = some (fl (num n.toNat)):=by
 have key:∀ n:Fin 21,Z5h K (n.1:Int) = some (fl (num n.1)):=by
  intro n
  rw [Z5h.eq]
  revert n
  decide +kernel
 have e:=key ⟨n.toNat,by omega⟩
 rw [show (((⟨n.toNat,by omega⟩:Fin 21).1:Nat):Int) = n by simp; omega] at e
 rw [Z6j.eq,Ze6.eq,Z7o.eq,Z5s.eq,br_true (by decide),br_true (decide_eq_true (by omega)),br_true (decide_eq_true (by omega)),e]
 rfl
theorem join_by (c:UInt8):∀ xs,Lib.join xs [c] = joinBy c xs
 | []=>rfl
 | [x]=>Lib.join_one x [c]
 | x :: y :: r=>by
  rw [joinBy,Lib.join_cons,← join_by c (y :: r),Lib.join_cons]
  simp [Lib.joinTail]
theorem joinBy_len (c:UInt8) (m:Nat):∀ ps:List (List UInt8),(∀ p∈ps,p.length≤m)→(joinBy c ps).length≤(m + 1) * ps.length
 | [],_=>by simp [joinBy]
 | [p],h=>by
  have:=h p (by simp)
  simp [joinBy]
  omega
 | p :: q :: ps,h=>by
  have h1:=h p (by simp)
  have h2:=joinBy_len c m (q :: ps) (fun x hx=>h x (by simp [hx]))
  rw [joinBy,List.length_append,List.length_cons,List.length_cons,Nat.mul_succ]
  omega
theorem ent_len (d:Zc) (h:DbOk d):(ent d).length≤30:=by
 have h1:=h.1.1.2
 have h2:=joinBy_len 47 2 (nums d) (fun p hp=>by
  simp only [nums,List.mem_cons,List.not_mem_nil,or_false] at hp
  rcases hp with rfl | rfl | rfl | rfl <;> exact num_len _)
 have h3:(nums d).length = 4:=rfl
 rw [h3] at h2
 rw [ent,List.length_append,List.length_cons]
 omega
theorem text_loop2 {K:Nat} (l:List Zc) (hl:CfOk l):∀ (r:List Zc) (i k:Nat) (o:List ByteArray),l.drop i = r→i + r.length = l.length→o.length = i→(∀ x∈o,(tl x).length≤30)→r.length < k →
  Z5v K k l (i:Int) o = some (fl (joinBy 59 (o.map tl ++ r.map ent)))
 | [],i,k + 1,o,h,hi,ho,hx,hk=>by
  have h3:=hl.2.2
  have hj:Lib.join (o.map (·.data.toList)) (ByteArray.data ⟨#[59]⟩).toList = joinBy 59 (o.map tl):=join_by 59 _
  have hb:=joinBy_len 59 30 (o.map tl) (fun p hp=>by
   obtain ⟨x,h1,rfl⟩:=List.mem_map.1 hp
   exact hx x h1)
  rw [List.length_map] at hb
  rw [Z5v.step,br_false (decide_eq_false (by simp at hi; omega)),Ze2.eq]
  unfold joinS
  rw [hj,if_pos ⟨by simp at hi; omega,by simp at hi; omega⟩,List.map_nil,List.append_nil]
  rfl
 | d :: r,i,k + 1,o,h,hi,ho,hx,hk=>by
  have h3:=hl.2.2
  have hlt:i < l.length:=by simp at hi; omega
  have hd:l.drop i = l[i] :: l.drop (i + 1):=List.drop_eq_getElem_cons hlt
  rw [hd] at h
  injection h with hd1 hr
  have hat:dbAt l i = d:=by rw [dbAt,List.getD_eq_getElem?_getD,List.getElem?_eq_getElem hlt]; exact hd1
  have hok:DbOk d:=hl.db d (by rw [← hd1]; exact List.getElem_mem hlt)
  obtain ⟨⟨⟨_,n1⟩,_⟩,a1,a2,a3,a4⟩:=hok
  have n1:d.1.size≤8:=n1
  have l1:=num_len d.2.1.toNat
  have l2:=num_len d.2.2.1.toNat
  have l3:=num_len d.2.2.2.1.toNat
  have l4:=num_len d.2.2.2.2.1.toNat
  have s58:ByteArray.size (⟨#[58]⟩:ByteArray) = 1:=rfl
  have s47:ByteArray.size (⟨#[47]⟩:ByteArray) = 1:=rfl
  have hat':List.getD l i Zl.zero = d:=hat
  rw [Z5v.step,br_true (decide_eq_true (by omega)),br_true (by simp; omega),show (i:Int).toNat = i by omega,hat']
  rw [br_true (decide_eq_true (by omega)),numText K d.2.1 (by omega) (by omega),Option.bind_some]
  rw [br_true (decide_eq_true (by simp only [ByteArray.size_append,fl_size]; omega)),br_true (decide_eq_true (by simp only [ByteArray.size_append,fl_size]; omega)),numText K d.2.2.1 (by omega) (by omega),Option.bind_some]
  rw [br_true (decide_eq_true (by simp only [ByteArray.size_append,fl_size]; omega)),br_true (decide_eq_true (by simp only [ByteArray.size_append,fl_size]; omega)),numText K d.2.2.2.1 (by omega) (by omega),Option.bind_some]
  rw [br_true (decide_eq_true (by simp only [ByteArray.size_append,fl_size]; omega)),br_true (decide_eq_true (by simp only [ByteArray.size_append,fl_size]; omega)),numText K d.2.2.2.2.1 (by omega) (by omega),Option.bind_some]
  rw [br_true (decide_eq_true (by simp only [ByteArray.size_append,fl_size]; omega)),br_true (decide_eq_true (by simp; omega)),wrap_id (by omega) (by omega)]
  have e:((((((((d.1 ++ (⟨#[58]⟩:ByteArray)) ++ fl (num d.2.1.toNat)) ++ (⟨#[47]⟩:ByteArray)) ++ fl (num d.2.2.1.toNat)) ++ (⟨#[47]⟩:ByteArray)) ++ fl (num d.2.2.2.1.toNat)) ++ (⟨#[47]⟩:ByteArray)) ++ fl (num d.2.2.2.2.1.toNat)) = fl (ent d):=by
   apply tl_inj
   simp only [tl_append,tl_fl,ent,nums,joinBy]
   simp [tl]
  rw [e]
  have:=text_loop2 (K:=K) l hl r (i + 1) k (o ++ [fl (ent d)]) hr (by simp at hi; omega) (by simp; omega) (fun x hx'=>by
   rcases List.mem_append.1 hx' with h' | h'
   ·exact hx x h'
   ·rw [List.mem_singleton.1 h',tl_fl]; exact ent_len d ⟨⟨⟨‹_›,n1⟩,‹_›⟩,a1,a2,a3,a4⟩) (by simp at hk; omega)
  refine this.trans ?_
  simp [tl_fl]
 | _,_,0,_,_,_,_,_,h=>absurd h (Nat.not_lt_zero _)
theorem confText {K:Nat} (hK:maxLen + 2≤K) (l:List Zc) (hl:l.length≤1048577) (hn:∀ d∈l,d.1.size≤1048576):(CfOk l→Z73 K l = some (fl (txt l)))∧(¬ CfOk l→Z73 K l = some ⟨#[]⟩):=by
 have hm:maxLen = 2 ^ 63 - 1:=rfl
 obtain ⟨b,_,h2,h3⟩:=confOk hK l hl hn
 rw [Z73.eq,h2,Option.bind_some]
 constructor
 ·intro h
  rw [h3.2 h,br_false (c:=!true) rfl]
  exact text_loop2 (K:=K) l h l 0 K [] (by simp) (by omega) rfl (by simp) (by omega)
 ·intro h
  cases b with
  | false=>rfl
  | true=>exact absurd (h3.1 rfl) h
end F5
/- Both programs read the same configurations. -/
namespace F5
open Go Go.Fil Go.Proofs Go.Fil.Cf
set_option maxRecDepth 100000
set_option linter.unusedVariables false
abbrev Q4:Type:=Int × (Int × (Int × (Int × Unit)))
abbrev PC:Type:=List Zc × (Bool × Unit)
def refuse:PC:=([],(false,()))
def setc:Nat→Int→Q4→Q4
 | 0,n,o=>(n,o.2)
 | 1,n,o=>(o.1,(n,o.2.2))
 | 2,n,o=>(o.1,(o.2.1,(n,o.2.2.2)))
 | _,n,o=>(o.1,(o.2.1,(o.2.2.1,(n,o.2.2.2.2))))
def comps:List (List UInt8)→Nat→Q4→Q4
 | [],_,o=>o
 | x :: r,j,o=>comps r (j + 1) (setc j ((pnum 20 x).getD 0) o)
def iEnt (p:List UInt8):Zc:=match cutAt 58 p with
 | none=>(fl p,comps (splitN 47 3 []) 0 (0,(0,(0,(0,())))))
 | some (a,b)=>(fl a,comps (splitN 47 3 b) 0 (0,(0,(0,(0,())))))
theorem enc_getD (o:Option Int):(enc o).1 = o.getD 0:=by cases o <;> rfl
theorem nums_loop {K:Nat} (hK:maxLen + 2≤K) (n0:Nat) (x0:ByteArray) (ps:List ByteArray) (v:Int) (y2:ByteArray × (ByteArray × (Bool × Unit))) (xs:List (List UInt8)) (hx:xs.length≤4) (o:List Zc) (ho:o.length≤2000000):∀ (r:List (List UInt8)) (j k:Nat) (q:Q4),xs.drop j = r→j + r.length = xs.length→r.length < k →
  Z2z K k n0 x0 ps v y2 (xs.map fl) (j:Int) o q = Z4j K n0 x0 ps (IntKind.wrap .i64 (v + 1)) (o ++ [(y2.1,comps r j q)])
 | [],j,k + 1,q,h,hj,hk=>by
  rw [Z2z.step,br_false (decide_eq_false (by simp at hj ⊢; omega)),br_true (decide_eq_true (by simp; omega))]
  rfl
 | x :: r,j,k + 1,q,h,hj,hk=>by
  have hlt:j < xs.length:=by simp at hj; omega
  have hd:xs.drop j = xs[j] :: xs.drop (j + 1):=List.drop_eq_getElem_cons hlt
  rw [hd] at h
  injection h with hd1 hr
  have hat:List.getD (xs.map fl) j (⟨#[]⟩:ByteArray) = fl x:=by
   rw [List.getD_eq_getElem?_getD,List.getElem?_map,List.getElem?_eq_getElem hlt,hd1]; rfl
  rw [Z2z.step,br_true (decide_eq_true (by simp; omega)),br_true (by simp; omega),show (j:Int).toNat = j by omega,hat,parseNum_i hK _ 20 (by omega),Option.bind_some,tl_fl,wrap_id (by omega) (by omega),enc_getD]
  have:=nums_loop hK n0 x0 ps v y2 xs hx o ho r (j + 1) k (setc j ((pnum 20 x).getD 0) q) hr (by simp at hj; omega) (by simp at hk; omega)
  rw [Int.natCast_add] at this
  rw [comps]
  match j,hlt,this with
  | 0,_,this=>exact this
  | 1,_,this=>exact this
  | 2,_,this=>exact this
  | 3,_,this=>exact this
  | j + 4,hlt,_=>omega
 | _,_,0,_,_,_,h=>absurd h (Nat.not_lt_zero _)
noncomputable def fin_i (K:Nat) (x0:ByteArray) (o:List Zc):Option PC :=
 br (strEq x0 (⟨#[]⟩:ByteArray)) (some ([],(false,()))) ((Z73 K o).bind fun y=>br (!strEq y x0) (some ([],(false,()))) (some (o,(true,()))))
theorem pieces_i {K:Nat} (hK:maxLen + 2≤K) (x0:ByteArray) (ps:List (List UInt8)) (hp:ps.length≤1048577) (hq:∀ p∈ps,p.length≤1048576):∀ (r:List (List UInt8)) (i k:Nat) (o:List Zc),ps.drop i = r→i + r.length = ps.length→o.length≤i→r.length < k →
  Z4j K k x0 (ps.map fl) (i:Int) o = fin_i K x0 (o ++ r.map iEnt)
 | [],i,k + 1,o,h,hi,ho,hk=>by
  rw [Z4j.step,br_false (decide_eq_false (by simp at hi ⊢; omega)),List.map_nil,List.append_nil]
  rfl
 | x :: r,i,k + 1,o,h,hi,ho,hk=>by
  have hm:maxLen = 2 ^ 63 - 1:=rfl
  have hlt:i < ps.length:=by simp at hi; omega
  have hd:ps.drop i = ps[i] :: ps.drop (i + 1):=List.drop_eq_getElem_cons hlt
  rw [hd] at h
  injection h with hd1 hr
  have hat:List.getD (ps.map fl) i (⟨#[]⟩:ByteArray) = fl x:=by
   rw [List.getD_eq_getElem?_getD,List.getElem?_map,List.getElem?_eq_getElem hlt,hd1]; rfl
  have hxl:x.length≤1048576:=hq x (by rw [← hd1]; exact List.getElem_mem hlt)
  have ih:=fun o' ho'=>pieces_i hK x0 ps hp hq r (i + 1) k o' hr (by simp at hi; omega) ho' (by simp at hk; omega)
  rw [Int.natCast_add] at ih
  have c58:(⟨#[58]⟩:ByteArray) = fl [58]:=rfl
  have c47:(⟨#[47]⟩:ByteArray) = fl [47]:=rfl
  rw [Z4j.step,br_true (decide_eq_true (by simp; omega)),br_true (by simp; omega),show (i:Int).toNat = i by omega,hat,c58,cut_eq K (fl x) (by rw [fl_size]; omega) 58,Option.bind_some,tl_fl,c47]
  rw [List.map_cons]
  cases hc:cutAt 58 x with
  | none =>
   simp only
   have hs:(fl []).size≤1048576:=by rw [fl_size]; simp
   rw [split4_i hK (fl []) hs 47,Option.bind_some,tl_fl]
   have e:=nums_loop hK k x0 (ps.map fl) (i:Int) (fl x,(fl [],(false,()))) (splitN 47 3 []) (splitN_len 47 3 []) o (by omega) (splitN 47 3 []) 0 K (0,(0,(0,(0,())))) (by simp) (by simp) (by have:=splitN_len 47 3 []; omega)
   refine e.trans ?_
   rw [wrap_id (by omega) (by omega)]
   refine (ih _ (by simp; omega)).trans ?_
   have:iEnt x = (fl x,comps (splitN 47 3 []) 0 (0,(0,(0,(0,()))))):=by unfold iEnt; rw [hc]
   rw [this]
   simp
  | some ab =>
   obtain ⟨a,b⟩:=ab
   simp only
   obtain ⟨g1,_⟩:=cut_some 58 x a b hc
   have hbl:b.length≤1048576:=by rw [g1] at hxl; simp at hxl; omega
   have hs:(fl b).size≤1048576:=by rw [fl_size]; exact hbl
   rw [split4_i hK (fl b) hs 47,Option.bind_some,tl_fl]
   have e:=nums_loop hK k x0 (ps.map fl) (i:Int) (fl a,(fl b,(true,()))) (splitN 47 3 b) (splitN_len 47 3 b) o (by omega) (splitN 47 3 b) 0 K (0,(0,(0,(0,())))) (by simp) (by simp) (by have:=splitN_len 47 3 b; omega)
   refine e.trans ?_
   rw [wrap_id (by omega) (by omega)]
   refine (ih _ (by simp; omega)).trans ?_
   have:iEnt x = (fl a,comps (splitN 47 3 b) 0 (0,(0,(0,(0,()))))):=by unfold iEnt; rw [hc]
   rw [this]
   simp
 | _,_,0,_,_,_,_,h=>absurd h (Nat.not_lt_zero _)
theorem iEnt_name (p:List UInt8):(iEnt p).1.size≤p.length:=by
 unfold iEnt
 split
 ·rw [fl_size]; exact Nat.le_refl _
 ·rename_i a b h
  obtain ⟨g1,_⟩:=cut_some 58 p a b h
  rw [fl_size,g1]
  simp
def lI (s:ByteArray):List Zc:=(splitBy 59 (tl s)).map iEnt
theorem parse_i {K:Nat} (hK:maxLen + 2≤K) (s:ByteArray) (hs:s.size≤100) :
  (CfOk (lI s)∧txt (lI s) = tl s∧s≠⟨#[]⟩→Z2t K s = some (lI s,(true,())))∧(¬ (CfOk (lI s)∧txt (lI s) = tl s∧s≠⟨#[]⟩)→Z2t K s = some refuse):=by
 have hm:maxLen = 2 ^ 63 - 1:=rfl
 have hp:=splitBy_len 59 (tl s)
 rw [tl_len] at hp
 have hq:∀ p∈splitBy 59 (tl s),p.length≤1048576:=fun p hp=>by
  have:=(split_piece 59 (tl s) p hp).1
  rw [tl_len] at this
  omega
 have c59:(⟨#[59]⟩:ByteArray) = fl [59]:=rfl
 have hrun:Z2t K s = fin_i K s (lI s):=by
  rw [Z2t.eq,c59,split_i hK s (by omega) 59,Option.bind_some]
  exact pieces_i hK s (splitBy 59 (tl s)) (by omega) hq (splitBy 59 (tl s)) 0 K [] (by simp) (by simp) (by simp) (by omega)
 obtain ⟨t1,t2⟩:=confText hK (lI s) (by rw [lI,List.length_map]; omega) (fun d hd=>by
  obtain ⟨p,h1,rfl⟩:=List.mem_map.1 hd
  exact Nat.le_trans (iEnt_name p) (hq p h1))
 rw [hrun,fin_i]
 constructor
 ·rintro ⟨h1,h2,h3⟩
  rw [br_false (strEq_f h3),t1 h1,Option.bind_some,h2,fl_tl,strEq_t,br_false (c:=!true) rfl]
 ·intro h
  by_cases h3:s = ⟨#[]⟩
  ·rw [br_true ((strEq_iff _ _).2 h3)]; rfl
  ·rw [br_false (strEq_f h3)]
   by_cases h1:CfOk (lI s)
   ·rw [t1 h1,Option.bind_some,strEq_f (fun e=>h ⟨h1,by have:=congrArg tl e; rwa [tl_fl] at this,h3⟩),br_true (c:=!false) rfl]; rfl
   ·rw [t2 h1,Option.bind_some,strEq_f (fun e=>h3 e.symm),br_true (c:=!false) rfl]; rfl
def sNums (b:List UInt8):Option Q4:=match splitBy 47 b with
 | [w,x,y,z]=>match pnum 99 w,pnum 99 x,pnum 99 y,pnum 99 z with
  | some w,some x,some y,some z=>some (w,(x,(y,(z,()))))
  | _,_,_,_=>none
 | _=>none
def sEnt (p:List UInt8):Option Zc:=match splitBy 58 p with
 | [a,b]=>(sNums b).map fun q=>(fl a,q)
 | _=>none
def sAll:List (List UInt8)→Option (List Zc)
 | []=>some []
 | p :: r=>match sEnt p with
  | none=>none
  | some d=>match sAll r with
   | none=>none
   | some l=>some (d :: l)
noncomputable def fin_s (K:Nat):Option (List Zc)→Option PC
 | none=>some refuse
 | some o=>(Z2e K o).bind fun y=>br (!y) (some ([],(false,()))) (some (o,(true,())))
theorem step16 {K:Nat} (hK:maxLen + 2≤K) (n0 k:Nat) (v:Int) (j:Nat) (hj:j < 4) (ps:List ByteArray) (o:List Zc) (u:List ByteArray) (xs:List (List UInt8)) (hx:xs.length = 4) (q:List Int) (hq:q.length = 4) (x:List UInt8) (hxj:xs[j]? = some x) :
  Z3c K (k + 1) n0 v (j:Int) ps o u (xs.map fl) q = match pnum 99 x with
   | none=>some refuse
   | some n=>Z3c K k n0 v ((j + 1:Nat):Int) ps o u (xs.map fl) (q.set j n):=by
 have hat:List.getD (xs.map fl) j (⟨#[]⟩:ByteArray) = fl x:=by
  rw [List.getD_eq_getElem?_getD,List.getElem?_map,hxj]; rfl
 rw [Z3c.step,br_true (decide_eq_true (by omega)),br_true (by simp; omega),show (j:Int).toNat = j by omega,hat,parseNum_s hK _ 99 (by omega),Option.bind_some,tl_fl,wrap_id (by omega) (by omega)]
 cases pnum 99 x with
 | none=>rfl
 | some n =>
  show br (!true) _ _ = _
  rw [br_false (c:=!true) rfl,br_true (by simp; omega)]
  rfl
theorem pieces_s {K:Nat} (hK:maxLen + 2≤K) (ps:List (List UInt8)) (hp:ps.length≤1048577) (hq:∀ p∈ps,p.length≤1048576):∀ (r:List (List UInt8)) (i k:Nat) (o:List Zc),ps.drop i = r→i + r.length = ps.length→o.length≤i→r.length < k →
  Z5f K k (i:Int) (ps.map fl) o = fin_s K ((sAll r).map fun l=>o ++ l)
 | [],i,k + 1,o,h,hi,ho,hk=>by
  rw [Z5f.step,br_false (decide_eq_false (by simp at hi ⊢; omega)),sAll,Option.map_some,List.append_nil]
  rfl
 | p :: r,i,k + 1,o,h,hi,ho,hk=>by
  have hm:maxLen = 2 ^ 63 - 1:=rfl
  have hlt:i < ps.length:=by simp at hi; omega
  have hd:ps.drop i = ps[i] :: ps.drop (i + 1):=List.drop_eq_getElem_cons hlt
  rw [hd] at h
  injection h with hd1 hr
  have hat:List.getD (ps.map fl) i (⟨#[]⟩:ByteArray) = fl p:=by
   rw [List.getD_eq_getElem?_getD,List.getElem?_map,List.getElem?_eq_getElem hlt,hd1]; rfl
  have hxl:p.length≤1048576:=hq p (by rw [← hd1]; exact List.getElem_mem hlt)
  have ih:=fun o' ho'=>pieces_s hK ps hp hq r (i + 1) k o' hr (by simp at hi; omega) ho' (by simp at hk; omega)
  rw [Int.natCast_add] at ih
  have s58:=split_s hK (fl p) (by rw [fl_size]; omega) 58
  have e58:(((58:UInt8).toNat:Nat):Int) = 58:=rfl
  have e47:(((47:UInt8).toNat:Nat):Int) = 47:=rfl
  rw [e58] at s58
  rw [Z5f.step,br_true (decide_eq_true (by simp; omega)),br_true (by simp; omega),show (i:Int).toNat = i by omega,hat,s58,Option.bind_some,sp,tl_fl,sAll]
  match h58:splitBy 58 p with
  | []=>exact absurd h58 (splitBy_ne 58 p)
  | [a] =>
   have hE:sEnt p = none:=by simp [sEnt,h58]
   rw [hE]; rfl
  | a :: b :: c :: t =>
   have hE:sEnt p = none:=by simp [sEnt,h58]
   rw [br_true (bne_true (by simp; omega)),hE]; rfl
  | [a,b] =>
   have hE:sEnt p = (sNums b).map fun q=>(fl a,q):=by simp [sEnt,h58]
   rw [hE]
   have hb:=(split_piece 58 p b (by rw [h58]; simp)).1
   have s47:=split_s hK (fl b) (by rw [fl_size]; omega) 47
   rw [e47] at s47
   have hb1:List.getD ([a,b].map fl) (Int.toNat 1) (⟨#[]⟩:ByteArray) = fl b:=rfl
   rw [br_false (bne_false (by simp)),br_true (by simp),hb1,s47,Option.bind_some,sp,tl_fl]
   match h47:splitBy 47 b with
   | []=>exact absurd h47 (splitBy_ne 47 b)
   | [_] =>
    have hN:sNums b = none:=by simp [sNums,h47]
    rw [hN]; rfl
   | [_,_] =>
    have hN:sNums b = none:=by simp [sNums,h47]
    rw [hN]; rfl
   | [_,_,_] =>
    have hN:sNums b = none:=by simp [sNums,h47]
    rw [hN]; rfl
   | _ :: _ :: _ :: _ :: _ :: t =>
    have hN:sNums b = none:=by simp [sNums,h47]
    rw [br_true (bne_true (by simp; omega)),hN]; rfl
   | [w,x,y,z] =>
    obtain ⟨K',rfl⟩:∃ m,K = m + 1 + 1 + 1 + 1 + 1:=⟨K - 5,by omega⟩
    rw [br_false (bne_false (by simp))]
    refine (step16 hK k _ _ 0 (by omega) _ _ _ [w,x,y,z] rfl [0,0,0,0] rfl w rfl).trans ?_
    cases hw:pnum 99 w with
    | none =>
     have hN:sNums b = none:=by simp [sNums,h47,hw]
     rw [hN]; rfl
    | some nw =>
     refine (step16 hK k _ _ 1 (by omega) _ _ _ [w,x,y,z] rfl [nw,0,0,0] rfl x rfl).trans ?_
     cases hx:pnum 99 x with
     | none =>
      have hN:sNums b = none:=by simp [sNums,h47,hw,hx]
      rw [hN]; rfl
     | some nx =>
      refine (step16 hK k _ _ 2 (by omega) _ _ _ [w,x,y,z] rfl [nw,nx,0,0] rfl y rfl).trans ?_
      cases hy:pnum 99 y with
      | none =>
       have hN:sNums b = none:=by simp [sNums,h47,hw,hx,hy]
       rw [hN]; rfl
      | some ny =>
       refine (step16 hK k _ _ 3 (by omega) _ _ _ [w,x,y,z] rfl [nw,nx,ny,0] rfl z rfl).trans ?_
       cases hz:pnum 99 z with
       | none =>
        have hN:sNums b = none:=by simp [sNums,h47,hw,hx,hy,hz]
        rw [hN]; rfl
       | some nz =>
        have hN:sNums b = some (nw,(nx,(ny,(nz,())))):=by simp [sNums,h47,hw,hx,hy,hz]
        rw [hN]
        show Z3c _ (K' + 1) k _ ((4:Nat):Int) _ _ _ _ [nw,nx,ny,nz] = _
        rw [Z3c.step,br_false (by decide),br_true (by simp),br_true (by simp),br_true (by simp),br_true (by simp),br_true (by simp),br_true (decide_eq_true (by simp; omega)),wrap_id (by omega) (by omega)]
        refine (ih _ (by simp; omega)).trans ?_
        cases sAll r with
        | none=>rfl
        | some l=>simp [fin_s]
 | _,_,0,_,_,_,_,h=>absurd h (Nat.not_lt_zero _)
theorem parse_s {K:Nat} (hK:maxLen + 2≤K) (s:ByteArray) (hs:s.size≤100):Z5e K s = fin_s K (sAll (splitBy 59 (tl s))):=by
 have hm:maxLen = 2 ^ 63 - 1:=rfl
 have hp:=splitBy_len 59 (tl s)
 rw [tl_len] at hp
 have hq:∀ p∈splitBy 59 (tl s),p.length≤1048576:=fun p hp=>by
  have:=(split_piece 59 (tl s) p hp).1
  rw [tl_len] at this
  omega
 have s59:=split_s hK s (by omega) 59
 have e59:(((59:UInt8).toNat:Nat):Int) = 59:=rfl
 rw [e59] at s59
 rw [Z5e.eq,br_false (decide_eq_false (by omega)),s59,Option.bind_some]
 refine (pieces_s hK (splitBy 59 (tl s)) (by omega) hq (splitBy 59 (tl s)) 0 K [] (by simp) (by simp) (by simp) (by omega)).trans ?_
 cases sAll (splitBy 59 (tl s)) <;> simp
end F5
/- One configuration, read by both. -/
namespace F5
open Go Go.Fil Go.Proofs Go.Fil.Cf
set_option maxRecDepth 100000
set_option linter.unusedVariables false
theorem sNums_ent {b:List UInt8} {q:Q4} (h:sNums b = some q):b = joinBy 47 [num q.1.toNat,num q.2.1.toNat,num q.2.2.1.toNat,num q.2.2.2.1.toNat]:=by
 unfold sNums at h
 split at h
 ·rename_i w x y z hb
  split at h
  ·rename_i w' x' y' z' hw hx hy hz
   injection h with h
   subst h
   obtain ⟨n1,_,_,rfl,rfl⟩:=num_of 99 w _ (by omega) hw
   obtain ⟨n2,_,_,rfl,rfl⟩:=num_of 99 x _ (by omega) hx
   obtain ⟨n3,_,_,rfl,rfl⟩:=num_of 99 y _ (by omega) hy
   obtain ⟨n4,_,_,rfl,rfl⟩:=num_of 99 z _ (by omega) hz
   have:=join_split 47 b
   rw [hb] at this
   simpa using this.symm
  ·cases h
 ·cases h
theorem sEnt_ent {p:List UInt8} {d:Zc} (h:sEnt p = some d):p = ent d:=by
 unfold sEnt at h
 split at h
 ·rename_i a b hp
  obtain ⟨q,hq,rfl⟩:=Option.map_eq_some_iff.1 h
  have e:=sNums_ent hq
  have:=join_split 58 p
  rw [hp] at this
  rw [ent,nums,tl_fl,← this,joinBy,joinBy,e]
 ·cases h
theorem sAll_ent:∀ {ps:List (List UInt8)} {l:List Zc},sAll ps = some l→ps = l.map ent
 | [],l,h=>by rw [sAll] at h; injection h with h; subst h; rfl
 | p :: r,l,h=>by
  rw [sAll] at h
  split at h
  ·cases h
  ·rename_i d hd
   split at h
   ·cases h
   ·rename_i l' hl
    injection h with h
    subst h
    rw [List.map_cons,← sEnt_ent hd,← sAll_ent hl]
theorem nums_ok {d:Zc} (h:DbOk d):∀ x∈nums d,∃ n:Nat,n≤20∧x = num n:=by
 intro x hx
 obtain ⟨_,a1,a2,a3,a4⟩:=h
 simp only [nums,List.mem_cons,List.not_mem_nil,or_false] at hx
 rcases hx with rfl | rfl | rfl | rfl
 ·exact ⟨_,by omega,rfl⟩
 ·exact ⟨_,by omega,rfl⟩
 ·exact ⟨_,by omega,rfl⟩
 ·exact ⟨_,by omega,rfl⟩
theorem not_num {c:UInt8} (hc:c.toNat < 48∨57 < c.toNat) {n:Nat} (h:n≤20):c∉num n:=fun hm=>by
 have:=num_chars n (by omega) c hm
 omega
theorem not_name {c:UInt8} (hc:c.toNat < 97) {l:List UInt8} (h:Nm l):c∉l:=fun hm=>by
 have:=h.2 c hm
 omega
theorem joinBy_mem (c:UInt8):∀ {ps:List (List UInt8)} {x:UInt8},x∈joinBy c ps→x = c∨∃ p∈ps,x∈p
 | [],x,h=>by simp [joinBy] at h
 | [p],x,h=>.inr ⟨p,by simp,by simpa [joinBy] using h⟩
 | p :: q :: ps,x,h=>by
  rw [joinBy] at h
  rcases List.mem_append.1 h with h | h
  ·exact .inr ⟨p,by simp,h⟩
  ·rcases List.mem_cons.1 h with h | h
   ·exact .inl h
   ·rcases joinBy_mem c h with h | ⟨r,h1,h2⟩
    ·exact .inl h
    ·exact .inr ⟨r,by simp [h1],h2⟩
theorem tail_not {c:UInt8} (hc:c.toNat < 48∨57 < c.toNat) (h47:c≠47) {d:Zc} (h:DbOk d):c∉joinBy 47 (nums d):=fun hm=>by
 rcases joinBy_mem 47 hm with e | ⟨p,h1,h2⟩
 ·exact h47 e
 ·obtain ⟨n,hn,rfl⟩:=nums_ok h p h1
  exact not_num hc hn h2
theorem split47 {d:Zc} (h:DbOk d):splitBy 47 (joinBy 47 (nums d)) = nums d :=
 split_join 47 (nums d) (by simp [nums]) (fun p hp=>by
  obtain ⟨n,hn,rfl⟩:=nums_ok h p hp
  exact not_num (by decide) hn)
theorem pnum_ok (mx:Int) {n:Int} (h0:0≤n) (h1:n≤20) (hm:20≤mx):pnum mx (num n.toNat) = some n:=by
 have:=pnum_num mx n.toNat (by omega) (by omega)
 rw [this]
 congr 1
 omega
theorem ent_sEnt {d:Zc} (h:DbOk d):sEnt (ent d) = some d:=by
 have h1:splitBy 58 (ent d) = [tl d.1,joinBy 47 (nums d)]:=by
  rw [ent,split_app 58 _ _ (not_name (by decide) h.1),split_plain 58 _ (tail_not (by decide) (by decide) h)]
 have h2:sNums (joinBy 47 (nums d)) = some d.2:=by
  unfold sNums
  rw [split47 h]
  obtain ⟨_,a1,a2,a3,a4⟩:=h
  simp only [nums]
  rw [pnum_ok 99 (by omega) (by omega) (by omega),pnum_ok 99 (by omega) (by omega) (by omega),pnum_ok 99 (by omega) (by omega) (by omega),pnum_ok 99 (by omega) (by omega) (by omega)]
 unfold sEnt
 rw [h1]
 simp only
 rw [h2,fl_tl]
 rfl
theorem ent_iEnt {d:Zc} (h:DbOk d):iEnt (ent d) = d:=by
 have h1:cutAt 58 (ent d) = some (tl d.1,joinBy 47 (nums d)):=by
  rw [ent,cut_app 58 _ _ (not_name (by decide) h.1)]
 have h2:splitN 47 3 (joinBy 47 (nums d)) = nums d :=
  splitN_join 47 3 (nums d) (by simp [nums]) (by simp [nums]) (fun p hp=>by
   obtain ⟨n,hn,rfl⟩:=nums_ok h p hp
   exact not_num (by decide) hn)
 unfold iEnt
 rw [h1]
 simp only
 rw [h2,fl_tl]
 obtain ⟨_,a1,a2,a3,a4⟩:=h
 simp only [nums,comps]
 rw [pnum_ok 20 (by omega) (by omega) (by omega),pnum_ok 20 (by omega) (by omega) (by omega),pnum_ok 20 (by omega) (by omega) (by omega),pnum_ok 20 (by omega) (by omega) (by omega)]
 rfl
theorem all_sAll:∀ {l:List Zc},(∀ d∈l,DbOk d)→sAll (l.map ent) = some l
 | [],_=>rfl
 | d :: l,h=>by
  rw [List.map_cons,sAll,ent_sEnt (h d (by simp))]
  simp only
  rw [all_sAll (fun x hx=>h x (by simp [hx]))]
theorem all_iEnt:∀ {l:List Zc},(∀ d∈l,DbOk d)→(l.map ent).map iEnt = l
 | [],_=>rfl
 | d :: l,h=>by
  rw [List.map_cons,List.map_cons,ent_iEnt (h d (by simp)),all_iEnt (fun x hx=>h x (by simp [hx]))]
theorem ent59 {d:Zc} (h:DbOk d):(59:UInt8)∉ent d:=fun hm=>by
 rw [ent] at hm
 rcases List.mem_append.1 hm with h' | h'
 ·exact not_name (by decide) h.1 h'
 ·rcases List.mem_cons.1 h' with h' | h'
  ·exact absurd h' (by decide)
  ·exact tail_not (by decide) (by decide) h h'
theorem split_txt {l:List Zc} (h:CfOk l):splitBy 59 (txt l) = l.map ent :=
 split_join 59 _ (fun e=>by
  have h2:(l.map ent).length = 0:=by rw [e]; rfl
  rw [List.length_map] at h2
  have:=h.2.1
  omega) (fun p hp=>by
  obtain ⟨d,hd,rfl⟩:=List.mem_map.1 hp
  exact ent59 (h.db d hd))
theorem txt_ne {l:List Zc} (h:CfOk l):txt l≠[]:=by
 have h1:=h.2.1
 match l,h1 with
 | [d],_=>simp [txt,joinBy,ent]
 | d :: e :: l,_=>simp [txt,joinBy,ent]
theorem parseConf {K:Nat} (hK:maxLen + 2≤K) (s:ByteArray) (hs:s.size≤100):∃ r:PC,Z5e K s = some r∧Z2t K s = some r∧(r.2.1 = true→CfOk r.1∧txt r.1 = tl s)∧(r.2.1 = false→r = refuse):=by
 obtain ⟨i1,i2⟩:=parse_i hK s hs
 have hp:=splitBy_len 59 (tl s)
 rw [tl_len] at hp
 have hq:=split_piece 59 (tl s)
 rw [parse_s hK s hs]
 by_cases hI:CfOk (lI s)∧txt (lI s) = tl s∧s≠⟨#[]⟩
 ·refine ⟨(lI s,(true,())),?_,i1 hI,fun _=>⟨hI.1,hI.2.1⟩,fun h=>by cases h⟩
  have hsp:splitBy 59 (tl s) = (lI s).map ent:=by rw [← hI.2.1,split_txt hI.1]
  rw [hsp,all_sAll hI.1.db,fin_s]
  obtain ⟨b,b1,_,b2⟩:=confOk hK (lI s) (by have:=hI.1.2.2; omega) (fun d hd=>by have:d.1.size≤8:=(hI.1.db d hd).1.1.2; omega)
  rw [b1,Option.bind_some,b2.2 hI.1]
  rfl
 ·refine ⟨refuse,?_,i2 hI,(fun h=>by cases h),fun _=>rfl⟩
  cases hA:sAll (splitBy 59 (tl s)) with
  | none=>rfl
  | some l =>
   have hsp:=sAll_ent hA
   have hll:l.length≤101:=by
    have:=congrArg List.length hsp
    rw [List.length_map] at this
    omega
   have htx:txt l = tl s:=by rw [txt,← hsp,join_split]
   obtain ⟨b,b1,_,b2⟩:=confOk hK l (by omega) (fun d hd=>by
    have h1:ent d∈splitBy 59 (tl s):=by rw [hsp]; exact List.mem_map.2 ⟨d,hd,rfl⟩
    have h2:=(hq _ h1).1
    rw [ent,List.length_append,tl_len,tl_len] at h2
    omega)
   rw [fin_s,b1,Option.bind_some]
   cases b with
   | false=>rfl
   | true =>
    exfalso
    have hc:=b2.1 rfl
    have hl:lI s = l:=by rw [lI,hsp,all_iEnt hc.db]
    refine hI ⟨hl ▸ hc,hl ▸ htx,fun e=>?_⟩
    subst e
    exact txt_ne hc htx
/-- Whether a text is a configuration: both say the same. -/
theorem confT {K:Nat} (hK:maxLen + 2≤K) (s:ByteArray) (hs:s.size≤100):∃ b,Z26 K s = some b∧Z8s K s = some b∧(s = ⟨#[]⟩→b = false):=by
 obtain ⟨r,h1,h2,h3,_⟩:=parseConf hK s hs
 refine ⟨r.2.1,by rw [Z26.eq,h1]; rfl,by rw [Z8s.eq,h2]; rfl,?_⟩
 rintro rfl
 cases h:r.2.1 with
 | false=>rfl
 | true=>exact absurd (h3 h).2 (txt_ne (h3 h).1)
end F5
/- Records: what both programs read off a sector. -/
namespace F5
open Go Go.Fil Go.Proofs Go.Fil.Cf
set_option maxRecDepth 100000
set_option linter.unusedVariables false
theorem br_some {ρ:Type} (c:Bool) (a b:ρ):br c (some a) (some b) = some (if c = true then a else b):=by cases c <;> rfl
def Bytes (x:List Int):Prop:=∀ b∈x,0≤b∧b≤255
theorem foldl_push (xs:List Int):∀ r:ByteArray,tl (xs.foldl (fun r n=>r.push (UInt8.ofNat n.toNat)) r) = tl r ++ xs.map (fun n=>UInt8.ofNat n.toNat):=by
 induction xs with
 | nil=>intro r; simp
 | cons x xs ih =>
  intro r
  rw [List.foldl_cons,ih]
  simp [tl,ByteArray.push]
theorem tl_strOf (xs:List Int):tl (strOf xs) = xs.map (fun n=>UInt8.ofNat n.toNat):=by
 unfold strOf
 rw [foldl_push]
 rfl
theorem strOf_len (xs:List Int):(strOf xs).size = xs.length:=by rw [← tl_len,tl_strOf,List.length_map]
theorem getD_in {x:List Int} (h:Bytes x) {i:Nat} (hi:i < x.length):0≤x.getD i 0∧x.getD i 0≤255:=by
 rw [List.getD_eq_getElem?_getD,List.getElem?_eq_getElem hi]
 exact h _ (List.getElem_mem hi)
theorem getWord (K:Nat) (x:List Int) (i:Nat) (hB:Bytes x) (hl:x.length≤1048576) (hi:i≤1048576):∃ r,Z3n K x (i:Int) = some r∧Z3o K x (i:Int) = some r∧(r.2.2.1 = true↔i + 2≤x.length):=by
 rw [Z3n.eq,Z3o.eq,isIn_eq,Option.bind_some,br_false (c:=decide ((i:Int) < 0)) (decide_eq_false (by omega))]
 by_cases h:i + 2≤x.length
 ·have hw:IntKind.wrap .i64 (((x.length:Nat):Int) - 2) = ((x.length:Nat):Int) - 2:=wrap_id (by omega) (by omega)
  have hw1:IntKind.wrap .i64 ((i:Int) + 1) = (i:Int) + 1:=wrap_id (by omega) (by omega)
  have g1:=getD_in hB (i:=i) (by omega)
  have g2:=getD_in hB (i:=i + 1) (by omega)
  have e1:(i:Int).toNat = i:=by omega
  have e2:((i:Int) + 1).toNat = i + 1:=by omega
  rw [hw,hw1,e1,e2]
  rw [br_false (decide_eq_false (by omega)),br_true (by simp; omega),br_true (by simp; omega),br_false (by simp; omega),br_true (by simp; omega),br_false (c:=decide ((8:Nat) < 0)) (by decide),br_true (by simp; omega)]
  rw [wrap_id (k:=x.getD i 0) (by omega) (by omega),wrap_id (k:=x.getD (i + 1) 0) (by omega) (by omega),or8 _ _ g1.1 g1.2 g2.1 g2.2,wrap_id (k:=x.getD i 0 * 256) (by omega) (by omega),wrap_id (k:=x.getD i 0 * 256 + x.getD (i + 1) 0) (by omega) (by omega)]
  exact ⟨_,rfl,rfl,by simp; omega⟩
 ·have hw:IntKind.wrap .i64 (((x.length:Nat):Int) - 2) = ((x.length:Nat):Int) - 2:=wrap_id (by omega) (by omega)
  rw [hw,br_true (decide_eq_true (by omega)),br_true (by simp; omega)]
  exact ⟨_,rfl,rfl,by simp; omega⟩
theorem empty_size:ByteArray.size (⟨#[]⟩:ByteArray) = 0:=rfl
theorem getText {K:Nat} (hK:maxLen + 2≤K) (x:List Int) (i:Nat) (hB:Bytes x) (hl:x.length≤1048576) (hi:i≤1048576):∃ r,Z9m K x (i:Int) = some r∧Z9p K x (i:Int) = some r∧Z2d K r.1 = some true∧r.1.size≤100∧(r.2.2.1 = false→r.1 = ⟨#[]⟩)∧(i < x.length→x.getD i 0 = 0→r.2.2.1 = true):=by
 rw [Z9m.eq,Z9p.eq,isIn_eq,Option.bind_some,br_false (c:=decide ((i:Int) < 0)) (decide_eq_false (by omega))]
 have hw:IntKind.wrap .i64 (((x.length:Nat):Int) - 1) = ((x.length:Nat):Int) - 1:=wrap_id (by omega) (by omega)
 rw [hw]
 have hno:∀ P:Prop,¬ P→∃ r:ByteArray × (Int × (Bool × Unit)),some ((⟨#[]⟩:ByteArray),((0:Int),(false,()))) = some r∧some ((⟨#[]⟩:ByteArray),((0:Int),(false,()))) = some r∧Z2d K r.1 = some true∧r.1.size≤100∧(r.2.2.1 = false→r.1 = ⟨#[]⟩)∧(P→r.2.2.1 = true) :=
  fun P hP=>⟨_,rfl,rfl,text_empty hK,by rw [empty_size]; omega,fun _=>rfl,fun h=>absurd h hP⟩
 by_cases h:i < x.length
 ·have g1:=getD_in hB (i:=i) h
  have e1:(i:Int).toNat = i:=by omega
  have hw1:IntKind.wrap .i64 ((i:Int) + 1) = (i:Int) + 1:=wrap_id (by omega) (by omega)
  rw [br_false (decide_eq_false (by omega)),br_true (by simp; omega),br_false (c:=!(decide ((0:Int)≤(i:Int)) && decide ((i:Int)≤((x.length:Nat):Int) - 1))) (by simp; omega),e1,hw1]
  have hin:(decide ((0:Int)≤(i:Int)) && decide ((i:Int) < ((x.length:Nat):Int))) = true:=by simp; omega
  rw [hin,br_t,br_t]
  generalize hn:x.getD i 0 = n at *
  rw [wrap_id (k:=n) (by omega) (by omega),wrap_id (k:=((x.length:Nat):Int) - (i:Int)) (by omega) (by omega),wrap_id (k:=((x.length:Nat):Int) - (i:Int) - 1) (by omega) (by omega),wrap_id (k:=(i:Int) + 1 + n) (by omega) (by omega)]
  by_cases hb:n > ((x.length:Nat):Int) - (i:Int) - 1
  ·rw [br_true (decide_eq_true hb),br_true (decide_eq_true hb)]
   obtain ⟨r,r1,r2,r3,r4,r5,r6⟩:=hno (n = 0) (by omega)
   exact ⟨r,r1,r2,r3,r4,r5,fun _=>r6⟩
  ·have hin2:(decide ((0:Int)≤(i:Int) + 1 + n) && decide ((i:Int) + 1 + n≤((x.length:Nat):Int))) = true:=by simp; omega
   have hin3:(decide ((0:Int)≤(i:Int) + 1) && decide ((i:Int) + 1≤(((((i:Int) + 1 + n).toNat:Nat)):Int))) = true:=by simp; omega
   rw [br_false (decide_eq_false hb),br_false (decide_eq_false hb),hin2,hin3]
   simp only [br_t]
   have hs:(strOf (List.drop (((i:Int) + 1).toNat) (List.take (((i:Int) + 1 + n).toNat) x))).size = n.toNat:=by
    rw [strOf_len,List.length_drop,List.length_take]; omega
   generalize strOf (List.drop (((i:Int) + 1).toNat) (List.take (((i:Int) + 1 + n).toNat) x)) = s at *
   obtain ⟨t,t1,t2,t3⟩:=textOk hK s (by omega)
   rw [t1,t2,Option.bind_some]
   cases t with
   | true =>
    rw [br_false (c:=!true) rfl]
    exact ⟨_,rfl,rfl,t1,t3 rfl,(fun h=>by cases h),fun _ _=>rfl⟩
   | false =>
    rw [br_true (c:=!false) rfl]
    obtain ⟨r,r1,r2,r3,r4,r5,r6⟩:=hno (n = 0) (fun h0=>by
     have hz:s = ⟨#[]⟩:=tl_inj (List.eq_nil_of_length_eq_zero (by rw [tl_len]; omega))
     rw [hz,text_empty hK] at t1
     cases t1)
    exact ⟨r,r1,r2,r3,r4,r5,fun _=>r6⟩
 ·rw [br_true (decide_eq_true (by omega)),br_true (by simp; omega)]
  obtain ⟨r,r1,r2,r3,r4,r5,r6⟩:=hno (i < x.length) h
  exact ⟨r,r1,r2,r3,r4,r5,fun h=>absurd h (by omega)⟩
theorem recOk {K:Nat} (hK:maxLen + 2≤K) (r:Z5u) (hs:r.2.2.2.1.size≤100):∃ b,Z6v K r = some b∧Za1 K r = some b∧(b = true→r.1 = 1∨r.1 = 2∨r.1 = 3):=by
 obtain ⟨c,h1,h2,_⟩:=confT hK r.2.2.2.1 hs
 rw [Z6v.eq,Za1.eq]
 simp only [l1In_eq,isIn_eq,h1,h2,Option.bind_some,br_some]
 refine ⟨_,rfl,rfl,?_⟩
 intro h
 simp only [beq_iff_eq] at h
 by_cases k1:r.1 = 1
 ·exact .inl k1
 by_cases k2:r.1 = 2
 ·exact .inr (.inl k2)
 by_cases k3:r.1 = 3
 ·exact .inr (.inr k3)
 rw [if_neg k1,if_neg k2,if_neg k3] at h
 split at h <;> cases h
theorem headOf {K:Nat} (hK:maxLen + 2≤K) (a b:Int):∃ l,Zcr K a b = some l∧Zcy K a b = some l∧(l = []∨(l.length = 6∧1≤a)):=by
 rw [Zcr.eq,Zcy.eq]
 simp only [l1In_eq,isIn_eq,Option.bind_some]
 by_cases h1:1≤a∧a≤60000
 ·by_cases h2:0≤b∧b≤18
  ·have l1:(pw [] a).length = 2:=rfl
   have l2:(pw (pw [] a) b).length = 4:=by rw [pw_len,l1]
   obtain ⟨s,s1,s2⟩:=sum hK (pw (pw [] a) b) (by omega)
   have e1:(!(decide (1≤a) && decide (a≤60000))) = false:=by simp [h1.1,h1.2]
   have e2:(!(decide (0≤b) && decide (b≤18))) = false:=by simp [h2.1,h2.2]
   rw [e1,e2]
   simp only [br_f]
   rw [putWord_s K [] a (by simp),putWord_i K [] a (by simp),Option.bind_some,Option.bind_some,putWord_s K _ b (by omega),putWord_i K _ b (by omega),Option.bind_some,Option.bind_some,s1,s2,Option.bind_some,Option.bind_some,putWord_s K _ s (by omega),putWord_i K _ s (by omega)]
   exact ⟨_,rfl,rfl,.inr ⟨by rw [pw_len,l2],h1.1⟩⟩
  ·have e2:(!(decide (0≤b) && decide (b≤18))) = true:=by
    rw [Bool.not_eq_true',Bool.and_eq_false_iff,decide_eq_false_iff_not,decide_eq_false_iff_not]; omega
   rw [e2]
   simp only [br_t,br_some]
   exact ⟨[],by split <;> rfl,by split <;> rfl,.inl rfl⟩
 ·have e1:(!(decide (1≤a) && decide (a≤60000))) = true:=by
   rw [Bool.not_eq_true',Bool.and_eq_false_iff,decide_eq_false_iff_not,decide_eq_false_iff_not]; omega
  rw [e1]
  exact ⟨[],rfl,rfl,.inl rfl⟩
theorem strOf_ne {a b:List Int} (h:a.length≠b.length):strEq (strOf a) (strOf b) = false :=
 strEq_f (fun e=>h (by rw [← strOf_len,e,strOf_len]))
theorem getHead {K:Nat} (hK:maxLen + 2≤K) (x:List Int) (hB:Bytes x) (hl:x.length≤1048576):∃ r:Int × (Int × (Bool × Unit)),Zbk K x = some r∧Zbr K x = some r∧(r.2.2.1 = true→1≤r.1):=by
 obtain ⟨u,u1,u2,_⟩:=getWord K x 0 hB hl (by omega)
 obtain ⟨v,v1,v2,v3⟩:=getWord K x 2 hB hl (by omega)
 obtain ⟨l,l1,l2,l3⟩:=headOf hK u.1 v.1
 have e0:((0:Nat):Int) = 0:=rfl
 have e2:((2:Nat):Int) = 2:=rfl
 rw [e0] at u1 u2
 rw [e2] at v1 v2
 rw [Zbk.eq,Zbr.eq,u1,u2,v1,v2,Option.bind_some,Option.bind_some,Option.bind_some,Option.bind_some,l1,l2]
 simp only [Option.bind_some,Z8p.eq,g_bytes_Equal.eq]
 by_cases h6:x.length = 6
 ·rw [v3.2 (by omega),br_false (c:=!true) rfl,br_false (bne_false (by omega)),br_false (c:=((x.length:Nat):Int) == 0) (beq_false (by omega))]
  rcases l3 with rfl | ⟨h1,h2⟩
  ·rw [strOf_ne (by simp; omega)]
   exact ⟨_,rfl,rfl,fun h=>by cases h⟩
  ·cases strEq (strOf l) (strOf x)
   ·exact ⟨_,rfl,rfl,fun h=>by cases h⟩
   ·exact ⟨_,rfl,rfl,fun h=>h2⟩
 ·rw [br_true (c:=((x.length:Nat):Int) != 6) (bne_true (by omega))]
  refine ⟨(0,(0,(false,()))),by rw [br_some]; split <;> rfl,?_,fun h=>by cases h⟩
  by_cases h0:x.length = 0
  ·rw [br_true (beq_true (by omega))]
  ·rw [br_false (beq_false (by omega)),strOf_ne (by rcases l3 with rfl | ⟨h1,_⟩ <;> simp <;> omega)]
   rfl
end F5
/- Records, put and got. -/
namespace F5
open Go Go.Fil Go.Proofs Go.Fil.Cf
set_option maxRecDepth 100000
set_option linter.unusedVariables false
theorem wordS (K:Nat) (a:Int):Zaj K a = some (decide (0≤a) && decide (a≤65535)):=by
 rw [Zaj.eq,l1In_eq,Option.bind_some]
theorem wordI (K:Nat) (a:Int):Z66 K a = some (decide (0≤a) && decide (a≤65535)):=by
 rw [Z66.eq,isIn_eq,Option.bind_some]
theorem putRec {K:Nat} (hK:maxLen + 2≤K) (a b:Int) (r:Z5u) (hs:r.2.2.2.1.size≤100) (ht:Z2d K r.2.2.2.1 = some true):∃ c l,Z6v K r = some c∧Za1 K r = some c∧Zak K a b r = some l∧Zam K a b r = some l∧(c = false→l = [])∧(l = []∨∃ s8 s,s8.length = 8∧l = pw (pt s8 r.2.2.2.1) s):=by
 obtain ⟨c,c1,c2,_⟩:=recOk hK r hs
 refine ⟨c,?_⟩
 rw [c1,c2,Zak.eq,Zam.eq,c1,c2,Option.bind_some,Option.bind_some]
 cases c with
 | false=>exact ⟨[],by trivial,by trivial,rfl,rfl,fun _=>rfl,.inl rfl⟩
 | true =>
  rw [br_false (c:=!true) rfl,br_false (c:=!true) rfl,wordS,wordI,Option.bind_some,Option.bind_some]
  by_cases h1:0≤a∧a≤65535
  ·by_cases h2:0≤b∧b≤65535
   ·have e1:(!(decide (0≤a) && decide (a≤65535))) = false:=by simp [h1.1,h1.2]
    have e2:(!(decide (0≤b) && decide (b≤65535))) = false:=by simp [h2.1,h2.2]
    rw [e1,br_f,br_f,wordS,wordI,Option.bind_some,Option.bind_some,e2,br_f,br_f]
    have l1:(pw [] a).length = 2:=rfl
    have l2:(pw (pw [] a) b).length = 4:=by rw [pw_len,l1]
    have l3:(pw (pw [] a) b ++ [IntKind.wrap .u8 r.1]).length = 5:=by rw [List.length_append,l2]; rfl
    have l4:(pw (pw (pw [] a) b ++ [IntKind.wrap .u8 r.1]) r.2.1).length = 7:=by rw [pw_len,l3]
    have l5:(pw (pw (pw [] a) b ++ [IntKind.wrap .u8 r.1]) r.2.1 ++ [IntKind.wrap .u8 r.2.2.1]).length = 8:=by rw [List.length_append,l4]; rfl
    have d1:decide (((pw (pw [] a) b).length + [IntKind.wrap .u8 r.1].length) * 1≤140737488355328) = true:=decide_eq_true (by rw [l2]; simp)
    have d2:decide (((pw (pw (pw [] a) b ++ [IntKind.wrap .u8 r.1]) r.2.1).length + [IntKind.wrap .u8 r.2.2.1].length) * 1≤140737488355328) = true:=decide_eq_true (by rw [l4]; simp)
    obtain ⟨t,t1,t2,t3⟩:=putText hK (pw (pw (pw [] a) b ++ [IntKind.wrap .u8 r.1]) r.2.1 ++ [IntKind.wrap .u8 r.2.2.1]) r.2.2.2.1 (by omega) (by omega)
    rw [ht] at t1
    injection t1 with t1
    subst t1
    rw [if_pos rfl] at t2 t3
    have l6:(pt (pw (pw (pw [] a) b ++ [IntKind.wrap .u8 r.1]) r.2.1 ++ [IntKind.wrap .u8 r.2.2.1]) r.2.2.2.1).length≤200:=by
     unfold pt
     rw [List.length_append,List.length_append,l5,bytesOf_len]
     simp
     omega
    obtain ⟨s,s1,s2⟩:=sum hK (pt (pw (pw (pw [] a) b ++ [IntKind.wrap .u8 r.1]) r.2.1 ++ [IntKind.wrap .u8 r.2.2.1]) r.2.2.2.1) (by omega)
    rw [putWord_s K [] a (by simp),putWord_i K [] a (by simp),Option.bind_some,Option.bind_some,putWord_s K _ b (by omega),putWord_i K _ b (by omega),Option.bind_some,Option.bind_some,d1,br_t,br_t,putWord_s K _ r.2.1 (by omega),putWord_i K _ r.2.1 (by omega),Option.bind_some,Option.bind_some,d2,br_t,br_t,t2,t3,Option.bind_some,Option.bind_some,s1,s2,Option.bind_some,Option.bind_some,putWord_s K _ s (by omega),putWord_i K _ s (by omega)]
    exact ⟨_,by trivial,by trivial,rfl,rfl,(fun h=>by cases h),.inr ⟨_,s,l5,rfl⟩⟩
   ·have e2:(!(decide (0≤b) && decide (b≤65535))) = true:=by
     rw [Bool.not_eq_true',Bool.and_eq_false_iff,decide_eq_false_iff_not,decide_eq_false_iff_not]; omega
    by_cases e1:(!(decide (0≤a) && decide (a≤65535))) = true
    ·rw [e1,br_t,br_t]
     exact ⟨[],rfl,rfl,rfl,rfl,fun _=>rfl,.inl rfl⟩
    ·rw [Bool.not_eq_true] at e1
     rw [e1,br_f,br_f,wordS,wordI,Option.bind_some,Option.bind_some,e2,br_t,br_t]
     exact ⟨[],rfl,rfl,rfl,rfl,fun _=>rfl,.inl rfl⟩
  ·have e1:(!(decide (0≤a) && decide (a≤65535))) = true:=by
    rw [Bool.not_eq_true',Bool.and_eq_false_iff,decide_eq_false_iff_not,decide_eq_false_iff_not]; omega
   rw [e1,br_t,br_t]
   exact ⟨[],by trivial,by trivial,rfl,rfl,fun _=>rfl,.inl rfl⟩
abbrev RC:Type:=Int × (Int × (Z5u × (Bool × Unit)))
def norec:RC:=(0,(0,((0,(0,(0,(⟨#[]⟩,())))),(false,()))))
theorem getRec {K:Nat} (hK:maxLen + 2≤K) (x:List Int) (hB:Bytes x) (hl:x.length≤1048576):∃ r:RC,Zcs K x = some r∧Zd3 K x = some r∧r.2.2.1.2.2.2.1.size≤100:=by
 rw [Zcs.eq,Zd3.eq]
 by_cases h9:x.length < 9
 ·rw [br_true (decide_eq_true (by omega)),br_true (decide_eq_true (by omega))]
  exact ⟨norec,rfl,rfl,by show ByteArray.size (⟨#[]⟩:ByteArray)≤100; rw [empty_size]; omega⟩
 obtain ⟨u,u1,u2,_⟩:=getWord K x 0 hB hl (by omega)
 obtain ⟨v,v1,v2,v3⟩:=getWord K x 2 hB hl (by omega)
 obtain ⟨w,w1,w2,w3⟩:=getWord K x 5 hB hl (by omega)
 obtain ⟨t,t1,t2,t3,t4,t5,t6⟩:=getText hK x 8 hB hl (by omega)
 have e0:((0:Nat):Int) = 0:=rfl
 have e2:((2:Nat):Int) = 2:=rfl
 have e5:((5:Nat):Int) = 5:=rfl
 have e8:((8:Nat):Int) = 8:=rfl
 rw [e0] at u1 u2
 rw [e2] at v1 v2
 rw [e5] at w1 w2
 rw [e8] at t1 t2
 have d4:(decide ((0:Int)≤4) && decide ((4:Int) < ((x.length:Nat):Int))) = true:=by simp; omega
 have d7:(decide ((0:Int)≤7) && decide ((7:Int) < ((x.length:Nat):Int))) = true:=by simp; omega
 generalize hrec:((IntKind.wrap .i64 (List.getD x (Int.toNat 4) 0),(w.1,(IntKind.wrap .i64 (List.getD x (Int.toNat 7) 0),(t.1,())))):Z5u) = rec at *
 have hrt:rec.2.2.2.1 = t.1:=by rw [← hrec]
 obtain ⟨c,l,c1,c2,p1,p2,p3,p4⟩:=putRec hK u.1 v.1 rec (by rw [hrt]; exact t4) (by rw [hrt]; exact t3)
 have hlen:l = []∨11≤l.length:=by
  rcases p4 with h | ⟨s8,s,h1,h2⟩
  ·exact .inl h
  ·refine .inr ?_
   rw [h2,pw_len]
   unfold pt
   rw [List.length_append,List.length_append,h1]
   simp
 have hi:(br (decide (((x.length:Nat):Int) < 9)) (some norec) ((Z3o K x 0).bind fun y_1=>(Z3o K x 2).bind fun y_2=>(Z3o K x 5).bind fun y_3=>(Z9p K x 8).bind fun y_4=>br (decide ((0:Int)≤4) && decide ((4:Int) < ((x.length:Nat):Int))) (br (decide ((0:Int)≤7) && decide ((7:Int) < ((x.length:Nat):Int))) ((Zam K y_1.1 y_2.1 (IntKind.wrap .i64 (List.getD x (Int.toNat 4) 0),(y_3.1,(IntKind.wrap .i64 (List.getD x (Int.toNat 7) 0),(y_4.1,()))))).bind fun y_5=>(g_bytes_Equal K y_5 x).bind fun y_6=>br (!y_6) (some norec) (some (y_1.1,(y_2.1,((IntKind.wrap .i64 (List.getD x (Int.toNat 4) 0),(y_3.1,(IntKind.wrap .i64 (List.getD x (Int.toNat 7) 0),(y_4.1,())))),(true,())))))) none) none)) = br (!strEq (strOf l) (strOf x)) (some norec) (some (u.1,(v.1,(rec,(true,()))))):=by
  rw [br_false (decide_eq_false (by omega)),u2,Option.bind_some,v2,Option.bind_some,w2,Option.bind_some,t2,Option.bind_some,d4,br_t,d7,br_t,hrec,p2,Option.bind_some,g_bytes_Equal.eq,Option.bind_some]
 have hsz:rec.2.2.2.1.size≤100:=by rw [hrt]; exact t4
 have hnz:norec.2.2.1.2.2.2.1.size≤100:=by show ByteArray.size (⟨#[]⟩:ByteArray)≤100; rw [empty_size]; omega
 by_cases h11:x.length < 11
 ·refine ⟨norec,by rw [br_true (decide_eq_true (by omega))]; rfl,?_,hnz⟩
  refine Eq.trans ?_ (hi.trans ?_)
  ·rfl
  ·rw [strOf_ne (by rcases hlen with rfl | h <;> simp <;> omega)]; rfl
 have hsp:(br (decide (((x.length:Nat):Int) < 11)) (some norec) ((Z3n K x 0).bind fun y_1=>(Z3n K x 2).bind fun y_2=>(Z3n K x 5).bind fun y_3=>(Z9m K x 8).bind fun y_4=>br (decide ((0:Int)≤4) && decide ((4:Int) < ((x.length:Nat):Int))) (br (decide ((0:Int)≤7) && decide ((7:Int) < ((x.length:Nat):Int))) (br (!y_4.2.2.1) (some norec) ((Z6v K (IntKind.wrap .i64 (List.getD x (Int.toNat 4) 0),(y_3.1,(IntKind.wrap .i64 (List.getD x (Int.toNat 7) 0),(y_4.1,()))))).bind fun y_5=>br (!y_5) (some norec) ((Zak K y_1.1 y_2.1 (IntKind.wrap .i64 (List.getD x (Int.toNat 4) 0),(y_3.1,(IntKind.wrap .i64 (List.getD x (Int.toNat 7) 0),(y_4.1,()))))).bind fun y_6=>(Z8p K y_6 x).bind fun y_7=>br (!y_7) (some norec) (some (y_1.1,(y_2.1,((IntKind.wrap .i64 (List.getD x (Int.toNat 4) 0),(y_3.1,(IntKind.wrap .i64 (List.getD x (Int.toNat 7) 0),(y_4.1,())))),(true,())))))))) none) none)) = br (!t.2.2.1) (some norec) (br (!c) (some norec) (br (!strEq (strOf l) (strOf x)) (some norec) (some (u.1,(v.1,(rec,(true,()))))))):=by
  rw [br_false (decide_eq_false (by omega)),u1,Option.bind_some,v1,Option.bind_some,w1,Option.bind_some,t1,Option.bind_some,d4,br_t,d7,br_t,hrec,c1,Option.bind_some,p1,Option.bind_some,Z8p.eq,Option.bind_some]
 cases he:strEq (strOf l) (strOf x) with
 | false =>
  refine ⟨norec,?_,?_,hnz⟩
  ·refine Eq.trans ?_ (hsp.trans ?_)
   ·rfl
   ·rw [he]; cases t.2.2.1 <;> cases c <;> rfl
  ·refine Eq.trans ?_ (hi.trans ?_)
   ·rfl
   ·rw [he]; rfl
 | true =>
  have hst:=(strEq_iff _ _).1 he
  have hll:l.length = x.length:=by rw [← strOf_len,hst,strOf_len]
  have hc:c = true:=by
   cases hcc:c with
   | true=>rfl
   | false=>rw [p3 hcc] at hll; simp at hll; omega
  have ht:t.2.2.1 = true:=by
   cases htt:t.2.2.1 with
   | true=>rfl
   | false =>
    have hz:=t5 htt
    rw [← htt]
    refine t6 (by omega) ?_
    rcases p4 with rfl | ⟨s8,s,h1,h2⟩
    ·simp at hll; omega
    ·have a1:(tl (strOf l))[8]? = some 0:=by
      rw [tl_strOf,List.getElem?_map,h2]
      unfold pw pt
      rw [hrt,hz,empty_size,List.append_assoc,List.append_assoc,List.getElem?_append_right (by omega),h1]
      rfl
     rw [hst,tl_strOf,List.getElem?_map] at a1
     have h8:8 < x.length:=by omega
     rw [List.getElem?_eq_getElem h8] at a1
     have b1:=hB _ (List.getElem_mem h8)
     rw [List.getD_eq_getElem?_getD,List.getElem?_eq_getElem h8]
     simp only [Option.map_some,Option.some.injEq] at a1
     have a2:=congrArg UInt8.toNat a1
     rw [UInt8.toNat_ofNat'] at a2
     have:(0:UInt8).toNat = 0:=rfl
     simp only [Option.getD_some]
     omega
  refine ⟨(u.1,(v.1,(rec,(true,())))),?_,?_,hsz⟩
  ·refine Eq.trans ?_ (hsp.trans ?_)
   ·rfl
   ·rw [he,hc,ht]; rfl
  ·refine Eq.trans ?_ (hi.trans ?_)
   ·rfl
   ·rw [he]; rfl
end F5
/- What is known: disks, replay, the journal. -/
namespace F5
open Go Go.Fil Go.Proofs Go.Fil.Cf
set_option maxRecDepth 100000
set_option linter.unusedVariables false
def KT (k:Z18):Prop:=k.2.1.size≤100∧k.2.2.2.1.size≤100
theorem genOk {K:Nat} (hK:maxLen + 2≤K) (n:Int) (s:ByteArray) (c:Bool) (h2:Z8s K s = some c):Zbw K n s = some (if n = 0 then strEq s ⟨#[]⟩ else (decide (1≤n) && decide (n≤60000)) && c):=by
 rw [Zbw.eq,isIn_eq,h2]
 simp only [Option.bind_some,br_some]
 by_cases h:n = 0
 ·simp [h]
 ·simp [h]
theorem knownOk {K:Nat} (hK:maxLen + 2≤K) (k:Z18) (hk:KT k):∃ b,Zbm K k = some b∧Zbx K k = some b:=by
 obtain ⟨G,T,N,U,H,W,z⟩:=k
 obtain ⟨c,c1,c2,_⟩:=confT hK T hk.1
 obtain ⟨d,d1,d2,_⟩:=confT hK U hk.2
 have p1:=genOk hK G T c c2
 have p2:=genOk hK N U d d2
 rw [Zbm.eq,Zbx.eq]
 simp only [l1In_eq,isIn_eq,Option.bind_some,br_some,c1,d1,p1,p2]
 refine ⟨_,rfl,?_⟩
 congr 1
 simp only [bne,Bool.not_eq_true',beq_iff_eq,Bool.and_eq_true,decide_eq_true_eq,Bool.and_eq_false_iff,decide_eq_false_iff_not]
 cases c <;> cases d <;> cases strEq T ⟨#[]⟩ <;> cases strEq U ⟨#[]⟩ <;> grind
theorem apply_ {K:Nat} (hK:maxLen + 2≤K) (k:Z18) (hk:KT k) (r:Z5u) (hr:r.2.2.2.1.size≤100):∃ y:Z18 × (Bool × Unit),Zdq K k r = some y∧Zdu K k r = some y∧KT y.1:=by
 obtain ⟨b,b1,b2⟩:=knownOk hK k hk
 obtain ⟨c,c1,c2,c3⟩:=recOk hK r hr
 rw [Zdq.eq,Zdu.eq,b1,b2,c1,c2,Option.bind_some,Option.bind_some,Option.bind_some,Option.bind_some]
 cases b with
 | false=>exact ⟨(k,(false,())),rfl,rfl,hk⟩
 | true =>
  rw [br_false (c:=!true) rfl,br_false (c:=!true) rfl]
  cases c with
  | false=>exact ⟨(k,(false,())),rfl,rfl,hk⟩
  | true =>
   rw [br_false (c:=!true) rfl,br_false (c:=!true) rfl]
   rcases c3 rfl with h | h | h
   ·rw [br_true (c:=(r.1:Int) == 1) (beq_true h),br_true (c:=(r.1:Int) == 1) (beq_true h)]
    by_cases g:r.2.1≤k.1
    ·rw [br_true (decide_eq_true g),br_false (decide_eq_false (by omega)),br_false (beq_false (by omega)),br_false (beq_false (by omega))]
     exact ⟨_,rfl,rfl,hk⟩
    ·rw [br_false (decide_eq_false g),br_true (decide_eq_true (by omega))]
     exact ⟨_,rfl,rfl,hk.1,hr⟩
   ·rw [br_false (c:=(r.1:Int) == 1) (beq_false (by omega)),br_false (c:=(r.1:Int) == 1) (beq_false (by omega)),br_true (c:=(r.1:Int) == 2) (beq_true h),br_true (c:=(r.1:Int) == 2) (beq_true h)]
    by_cases g:r.2.1 = k.2.2.1
    ·rw [br_false (bne_false g),br_true (beq_true g),g]
     exact ⟨_,rfl,rfl,hk.2,by show ByteArray.size (⟨#[]⟩:ByteArray)≤100; rw [empty_size]; omega⟩
    ·rw [br_true (bne_true g),br_false (beq_false g),br_false (beq_false (by omega))]
     exact ⟨_,rfl,rfl,hk⟩
   ·rw [br_false (c:=(r.1:Int) == 1) (beq_false (by omega)),br_false (c:=(r.1:Int) == 1) (beq_false (by omega)),br_false (c:=(r.1:Int) == 2) (beq_false (by omega)),br_false (c:=(r.1:Int) == 2) (beq_false (by omega)),br_true (c:=(r.1:Int) == 3) (beq_true h)]
    by_cases g:r.2.1≤k.2.2.2.2.1
    ·rw [br_true (decide_eq_true g),br_false (decide_eq_false (by omega))]
     exact ⟨_,rfl,rfl,hk⟩
    ·rw [br_false (decide_eq_false g),br_true (decide_eq_true (by omega))]
     exact ⟨_,rfl,rfl,hk⟩
abbrev wrAt (l:List Z22) (j:Nat):Z22:=List.getD l j Za.zero
end F5
/- The disk, the sectors, the replay, what is known. -/
namespace F5
open Go Go.Fil Go.Proofs Go.Fil.Cf
set_option maxRecDepth 100000
set_option linter.unusedVariables false
def SecOk (d:Zm) (i:Nat):Prop:=∀ j,i≤j→j < d.1.length→(List.getD d.1 j []).length≤160
def WrOk (d:Zm) (i:Nat):Prop:=∀ j,i≤j→j < d.2.1.length→(0≤(wrAt d.2.1 j).1∧(wrAt d.2.1 j).1≤(d.1.length:Int) - 1)∧(wrAt d.2.1 j).2.1.length≤160
def DTail (d:Zm):Prop:=(1≤d.1.length∧d.1.length≤40)∧d.2.1.length≤30∧(-1≤d.2.2.1∧d.2.2.1≤1000)
theorem SecOk_next {d:Zm} {i:Nat} (h:i < d.1.length):SecOk d i↔(List.getD d.1 i []).length≤160∧SecOk d (i + 1):=by
 constructor
 ·intro g
  exact ⟨g i (Nat.le_refl _) h,fun j hj hl=>g j (by omega) hl⟩
 ·rintro ⟨g1,g2⟩ j hj hl
  by_cases e:j = i
  ·subst e; exact g1
  ·exact g2 j (by omega) hl
theorem WrOk_next {d:Zm} {i:Nat} (h:i < d.2.1.length):WrOk d i↔((0≤(wrAt d.2.1 i).1∧(wrAt d.2.1 i).1≤(d.1.length:Int) - 1)∧(wrAt d.2.1 i).2.1.length≤160)∧WrOk d (i + 1):=by
 constructor
 ·intro g
  exact ⟨g i (Nat.le_refl _) h,fun j hj hl=>g j (by omega) hl⟩
 ·rintro ⟨g1,g2⟩ j hj hl
  by_cases e:j = i
  ·subst e; exact g1
  ·exact g2 j (by omega) hl
theorem SecOk_end {d:Zm} {i:Nat} (h:d.1.length≤i):SecOk d i:=fun j h1 h2=>absurd h2 (by omega)
theorem WrOk_end {d:Zm} {i:Nat} (h:d.2.1.length≤i):WrOk d i:=fun j h1 h2=>absurd h2 (by omega)
theorem no_iff {P:Prop} (h:¬ P):(false = true↔P):=⟨fun e=>(by cases e),fun e=>absurd e h⟩
theorem in_t {a b c:Int} (h:b≤a∧a≤c):(decide (b≤a) && decide (a≤c)) = true:=by simp [h.1,h.2]
theorem in_f {a b c:Int} (h:¬ (b≤a∧a≤c)):(decide (b≤a) && decide (a≤c)) = false:=by
 rw [Bool.and_eq_false_iff,decide_eq_false_iff_not,decide_eq_false_iff_not]; omega
theorem disk_s7 {K:Nat} (d:Zm) (h1:d.1.length≤1048576) (h2:d.2.1.length≤1048576):∀ (q i k:Nat),i + q = d.2.1.length→q < k→∃ b,Z6r K k (i:Int) d = some b∧(b = true↔WrOk d i∧DTail d)
 | 0,i,k + 1,hi,hk=>by
  rw [Z6r.step,br_false (decide_eq_false (by omega)),l1In_eq,l1In_eq,Option.bind_some,Option.bind_some]
  have hw:=WrOk_end (d:=d) (i:=i) (by omega)
  by_cases a1:1≤(d.1.length:Int)∧(d.1.length:Int)≤40
  ·rw [in_t a1,br_t]
   by_cases a2:(d.2.1.length:Int)≤30
   ·rw [br_true (decide_eq_true a2)]
    refine ⟨_,rfl,?_⟩
    unfold DTail
    simp [hw]
    omega
   ·rw [br_false (decide_eq_false a2)]
    exact ⟨false,rfl,no_iff (fun h=>a2 (by have:=h.2.2.1; omega))⟩
  ·rw [in_f a1,br_f]
   exact ⟨false,rfl,no_iff (fun h=>a1 (by have:=h.2.1; omega))⟩
 | q + 1,i,k + 1,hi,hk=>by
  have hin:(decide (0≤(i:Int)) && decide ((i:Int) < ((d.2.1.length:Nat):Int))) = true:=by simp; omega
  obtain ⟨b,b1,b2⟩:=disk_s7 (K:=K) d h1 h2 q (i + 1) k (by omega) (by omega)
  rw [Z6r.step,br_true (decide_eq_true (by omega)),hin,br_t,br_t,show (i:Int).toNat = i by omega,l1In_eq,Option.bind_some,wrap_id (k:=((d.1.length:Nat):Int) - 1) (by omega) (by omega),wrap_id (k:=(i:Int) + 1) (by omega) (by omega),WrOk_next (by omega)]
  by_cases a1:0≤(wrAt d.2.1 i).1∧(wrAt d.2.1 i).1≤(d.1.length:Int) - 1
  ·rw [in_t a1,br_false (c:=!true) rfl]
   by_cases a2:(wrAt d.2.1 i).2.1.length≤160
   ·rw [br_false]
    rotate_left
    ·exact decide_eq_false (fun h=>absurd (show (((wrAt d.2.1 i).2.1.length:Nat):Int) > 160 from h) (by omega))
    refine ⟨b,b1,b2.trans ?_⟩
    constructor
    ·rintro ⟨g1,g2⟩; exact ⟨⟨⟨a1,a2⟩,g1⟩,g2⟩
    ·rintro ⟨⟨_,g1⟩,g2⟩; exact ⟨g1,g2⟩
   ·rw [br_true]
    rotate_left
    ·exact decide_eq_true (show (((wrAt d.2.1 i).2.1.length:Nat):Int) > 160 by omega)
    exact ⟨false,rfl,no_iff (fun h=>a2 h.1.1.2)⟩
  ·rw [in_f a1,br_true (c:=!false) rfl]
   exact ⟨false,rfl,no_iff (fun h=>a1 h.1.1.1)⟩
 | _,_,0,_,h=>absurd h (Nat.not_lt_zero _)
theorem disk_s2 {K:Nat} (hK:maxLen + 2≤K) (d:Zm) (h1:d.1.length≤1048576) (h2:d.2.1.length≤1048576):∀ (q i k:Nat),i + q = d.1.length→q < k→∃ b,Z6q K k (i:Int) d = some b∧(b = true↔SecOk d i∧WrOk d 0∧DTail d)
 | 0,i,k + 1,hi,hk=>by
  have hm:maxLen = 2 ^ 63 - 1:=rfl
  rw [Z6q.step,br_false (decide_eq_false (by omega))]
  obtain ⟨b,b1,b2⟩:=disk_s7 (K:=K) d h1 h2 d.2.1.length 0 K (by omega) (by omega)
  have hs:=SecOk_end (d:=d) (i:=i) (by omega)
  exact ⟨b,b1,b2.trans ⟨fun h=>⟨hs,h⟩,fun h=>h.2⟩⟩
 | q + 1,i,k + 1,hi,hk=>by
  obtain ⟨b,b1,b2⟩:=disk_s2 hK d h1 h2 q (i + 1) k (by omega) (by omega)
  rw [Z6q.step,br_true (decide_eq_true (by omega)),br_true (by simp; omega),show (i:Int).toNat = i by omega,wrap_id (k:=(i:Int) + 1) (by omega) (by omega),SecOk_next (by omega)]
  by_cases a2:(List.getD d.1 i []).length≤160
  ·rw [br_false (decide_eq_false (by omega))]
   refine ⟨b,b1,b2.trans ?_⟩
   constructor
   ·rintro ⟨g1,g2⟩; exact ⟨⟨a2,g1⟩,g2⟩
   ·rintro ⟨⟨_,g1⟩,g2⟩; exact ⟨g1,g2⟩
  ·rw [br_true (decide_eq_true (by omega))]
   exact ⟨false,rfl,no_iff (fun h=>a2 h.1.1)⟩
 | _,_,0,_,h=>absurd h (Nat.not_lt_zero _)
theorem disk_i10 {K:Nat} (d:Zm) (h1:d.1.length≤1048576) (h2:d.2.1.length≤1048576):∀ (q i k:Nat),i + q = d.2.1.length→q < k→∃ b,Z6c K k (i:Int) d = some b∧(b = true↔WrOk d i)
 | 0,i,k + 1,hi,hk=>by
  rw [Z6c.step,br_false (decide_eq_false (by omega))]
  exact ⟨true,rfl,⟨fun _=>WrOk_end (by omega),fun _=>rfl⟩⟩
 | q + 1,i,k + 1,hi,hk=>by
  obtain ⟨b,b1,b2⟩:=disk_i10 (K:=K) d h1 h2 q (i + 1) k (by omega) (by omega)
  rw [Z6c.step,br_true (decide_eq_true (by omega)),br_true (by simp; omega),show (i:Int).toNat = i by omega,isIn_eq,Option.bind_some,wrap_id (k:=((d.1.length:Nat):Int) - 1) (by omega) (by omega),wrap_id (k:=(i:Int) + 1) (by omega) (by omega),WrOk_next (by omega)]
  by_cases a1:0≤(wrAt d.2.1 i).1∧(wrAt d.2.1 i).1≤(d.1.length:Int) - 1
  ·rw [in_t a1,br_false (c:=!true) rfl]
   by_cases a2:(wrAt d.2.1 i).2.1.length≤160
   ·rw [br_false]
    rotate_left
    ·exact decide_eq_false (fun h=>absurd (show (((wrAt d.2.1 i).2.1.length:Nat):Int) > 160 from h) (by omega))
    refine ⟨b,b1,b2.trans ?_⟩
    constructor
    ·intro g1; exact ⟨⟨a1,a2⟩,g1⟩
    ·rintro ⟨_,g1⟩; exact g1
   ·rw [br_true]
    rotate_left
    ·exact decide_eq_true (show (((wrAt d.2.1 i).2.1.length:Nat):Int) > 160 by omega)
    exact ⟨false,rfl,no_iff (fun h=>a2 h.1.2)⟩
  ·rw [in_f a1,br_true (c:=!false) rfl]
   exact ⟨false,rfl,no_iff (fun h=>a1 h.1.1)⟩
 | _,_,0,_,h=>absurd h (Nat.not_lt_zero _)
theorem disk_i4 {K:Nat} (hK:maxLen + 2≤K) (d:Zm) (h1:d.1.length≤1048576) (h2:d.2.1.length≤1048576):∀ (q i k:Nat),i + q = d.1.length→q < k→∃ b,Z6y K k d (i:Int) d = some b∧(b = true↔SecOk d i∧WrOk d 0)
 | 0,i,k + 1,hi,hk=>by
  have hm:maxLen = 2 ^ 63 - 1:=rfl
  rw [Z6y.step,br_false (decide_eq_false (by omega))]
  obtain ⟨b,b1,b2⟩:=disk_i10 (K:=K) d h1 h2 d.2.1.length 0 K (by omega) (by omega)
  have hs:=SecOk_end (d:=d) (i:=i) (by omega)
  exact ⟨b,b1,b2.trans ⟨fun h=>⟨hs,h⟩,fun h=>h.2⟩⟩
 | q + 1,i,k + 1,hi,hk=>by
  obtain ⟨b,b1,b2⟩:=disk_i4 hK d h1 h2 q (i + 1) k (by omega) (by omega)
  rw [Z6y.step,br_true (decide_eq_true (by omega)),br_true (by simp; omega),show (i:Int).toNat = i by omega,wrap_id (k:=(i:Int) + 1) (by omega) (by omega),SecOk_next (by omega)]
  by_cases a2:(List.getD d.1 i []).length≤160
  ·rw [br_false (decide_eq_false (by omega))]
   refine ⟨b,b1,b2.trans ?_⟩
   constructor
   ·rintro ⟨g1,g2⟩; exact ⟨⟨a2,g1⟩,g2⟩
   ·rintro ⟨⟨_,g1⟩,g2⟩; exact ⟨g1,g2⟩
  ·rw [br_true (decide_eq_true (by omega))]
   exact ⟨false,rfl,no_iff (fun h=>a2 h.1.1)⟩
 | _,_,0,_,h=>absurd h (Nat.not_lt_zero _)
theorem diskOk {K:Nat} (hK:maxLen + 2≤K) (d:Zm) (h1:d.1.length≤1048576) (h2:d.2.1.length≤1048576):∃ b,Zai K d = some b∧Z8r K d = some b∧(b = true↔SecOk d 0∧WrOk d 0∧DTail d):=by
 have hm:maxLen = 2 ^ 63 - 1:=rfl
 obtain ⟨b,b1,b2⟩:=disk_s2 hK d h1 h2 d.1.length 0 K (by omega) (by omega)
 obtain ⟨c,c1,c2⟩:=disk_i4 hK d h1 h2 d.1.length 0 K (by omega) (by omega)
 have hi:∃ c,Z8r K d = some c∧(c = true↔SecOk d 0∧WrOk d 0∧DTail d):=by
  rw [Z8r.eq,isIn_eq,isIn_eq,Option.bind_some,Option.bind_some]
  unfold DTail
  by_cases a1:1≤(d.1.length:Int)∧(d.1.length:Int)≤40
  ·rw [in_t a1,br_false (c:=!true) rfl]
   by_cases a2:(d.2.1.length:Int) > 30
   ·rw [br_true (decide_eq_true a2)]
    exact ⟨false,rfl,no_iff (fun h=>by have:=h.2.2.2.1; omega)⟩
   ·rw [br_false (decide_eq_false a2)]
    by_cases a3:-1≤d.2.2.1∧d.2.2.1≤1000
    ·rw [in_t a3,br_false (c:=!true) rfl]
     refine ⟨c,c1,c2.trans ?_⟩
     constructor
     ·rintro ⟨g1,g2⟩
      exact ⟨g1,g2,by omega,by omega,a3⟩
     ·rintro ⟨g1,g2,_⟩
      exact ⟨g1,g2⟩
    ·rw [in_f a3,br_true (c:=!false) rfl]
     exact ⟨false,rfl,no_iff (fun h=>a3 h.2.2.2.2)⟩
  ·rw [in_f a1,br_true (c:=!false) rfl]
   exact ⟨false,rfl,no_iff (fun h=>a1 (by have:=h.2.2.1; omega))⟩
 obtain ⟨c',d1,d2⟩:=hi
 have e:b = c':=Bool.eq_iff_iff.2 (b2.trans d2.symm)
 subst e
 exact ⟨b,by rw [Zai.eq]; exact b1,d1,b2⟩
def look (x:Int) (l:List Z22) (a:List Int):List Int:=l.foldl (fun a e=>if e.1 = x then e.2.1 else a) a
theorem wrAt_eq {l:List Z22} {i:Nat} (h:i < l.length):wrAt l i = l[i]:=by
 rw [wrAt,List.getD_eq_getElem?_getD,List.getElem?_eq_getElem h]; rfl
theorem read_s {K:Nat} (d:Zm) (hw:WrOk d 0) (h2:d.2.1.length≤1048576) (x:Int):∀ (r:List Z22) (i k:Nat) (a:List Int),d.2.1.drop i = r→i + r.length = d.2.1.length→a.length≤160→r.length < k →
  Z5d K k x a (i:Int) d = some (look x r a)
 | [],i,k + 1,a,h,hi,ha,hk=>by
  rw [Z5d.step,br_false (decide_eq_false (by simp at hi; omega)),br_true (decide_eq_true (by simp; omega))]
  rfl
 | e :: r,i,k + 1,a,h,hi,ha,hk=>by
  have hlt:i < d.2.1.length:=by simp at hi; omega
  have hd:d.2.1.drop i = d.2.1[i] :: d.2.1.drop (i + 1):=List.drop_eq_getElem_cons hlt
  rw [hd] at h
  injection h with hd1 hr
  have hat:List.getD d.2.1 i Za.zero = e:=by rw [← hd1]; exact wrAt_eq hlt
  have hin:(decide (0≤(i:Int)) && decide ((i:Int) < ((d.2.1.length:Nat):Int))) = true:=by simp; omega
  have hel:e.2.1.length≤160:=by
   have:=(hw i (by omega) hlt).2
   rwa [wrAt,hat] at this
  rw [Z5d.step,br_true (decide_eq_true (by omega)),hin,br_t,br_t,show (i:Int).toNat = i by omega,hat,wrap_id (k:=(i:Int) + 1) (by omega) (by omega)]
  by_cases hx:e.1 = x
  ·rw [br_true (beq_true hx)]
   have:=read_s (K:=K) d hw h2 x r (i + 1) k e.2.1 hr (by simp at hi; omega) hel (by simp at hk; omega)
   refine this.trans ?_
   rw [look,look,List.foldl_cons,if_pos hx]
  ·rw [br_false (beq_false hx)]
   have:=read_s (K:=K) d hw h2 x r (i + 1) k a hr (by simp at hi; omega) ha (by simp at hk; omega)
   refine this.trans ?_
   rw [look,look,List.foldl_cons,if_neg hx]
 | _,_,0,_,_,_,_,h=>absurd h (Nat.not_lt_zero _)
theorem read_i {K:Nat} (d:Zm) (hw:WrOk d 0) (hs:SecOk d 0) (h2:d.2.1.length≤1048576) (x:Nat) (hx:x < d.1.length):∀ (i k:Nat),i≤d.2.1.length→i < k →
  Z6d K k (x:Int) ((i:Int) - 1) d = some (look (x:Int) (d.2.1.take i) (List.getD d.1 x []))
 | 0,k + 1,hi,hk=>by
  rw [Z6d.step,br_false (by decide)]
  rw [br_true (by simp; omega),show (x:Int).toNat = x by omega,clone_eq _ _ (by have:=hs x (by omega) hx; omega)]
  rfl
 | i + 1,k + 1,hi,hk=>by
  have hlt:i < d.2.1.length:=by omega
  have e:(((i + 1:Nat):Int) - 1) = (i:Int):=by omega
  have hat:List.getD d.2.1 i Za.zero = d.2.1[i]:=wrAt_eq hlt
  have hin:(decide (0≤(i:Int)) && decide ((i:Int) < ((d.2.1.length:Nat):Int))) = true:=by simp; omega
  have hel:d.2.1[i].2.1.length≤160:=by
   have:=(hw i (by omega) hlt).2
   rwa [wrAt,hat] at this
  rw [e,Z6d.step,br_true (decide_eq_true (by omega)),hin,br_t,br_t,show (i:Int).toNat = i by omega,hat,wrap_id (k:=(i:Int) - 1) (by omega) (by omega)]
  have ht:look (x:Int) (d.2.1.take (i + 1)) (List.getD d.1 x []) = if d.2.1[i].1 = (x:Int) then d.2.1[i].2.1 else look (x:Int) (d.2.1.take i) (List.getD d.1 x []):=by
   rw [look,List.take_add_one,List.getElem?_eq_getElem hlt,List.foldl_append]
   rfl
  rw [ht]
  by_cases hx:d.2.1[i].1 = (x:Int)
  ·rw [br_true (beq_true hx),clone_eq _ _ (by omega),if_pos hx]
   rfl
  ·rw [br_false (beq_false hx),if_neg hx]
   exact read_i (K:=K) d hw hs h2 x ‹_› i k (by omega) (by omega)
 | _,0,_,h=>absurd h (Nat.not_lt_zero _)
structure DB (d:Zm):Prop where
 l1:d.1.length≤1048576
 l2:d.2.1.length≤1048576
 b1:∀ s∈d.1,Bytes s
 b2:∀ e∈d.2.1,Bytes e.2.1
theorem look_p {P:List Int→Prop} (x:Int):∀ (l:List Z22) (a:List Int),P a→(∀ e∈l,P e.2.1)→P (look x l a)
 | [],a,h,_=>h
 | e :: l,a,h,he=>by
  rw [look,List.foldl_cons]
  refine look_p x l _ ?_ (fun e' h'=>he e' (by simp [h']))
  split
  ·exact he e (by simp)
  ·exact h
theorem readSec {K:Nat} (hK:maxLen + 2≤K) (d:Zm) (hd:DB d) (x:Int):∃ r,Z9l K d x = some r∧Z9o K d x = some r∧Bytes r∧r.length≤160:=by
 have hm:maxLen = 2 ^ 63 - 1:=rfl
 have hl1:=hd.l1
 have hl2:=hd.l2
 obtain ⟨b,b1,b2,b3⟩:=diskOk hK d hd.l1 hd.l2
 rw [Z9l.eq,Z9o.eq,b1,b2,Option.bind_some,Option.bind_some]
 cases b with
 | false=>exact ⟨[],rfl,rfl,fun b hb=>absurd hb (by simp),by simp⟩
 | true =>
  obtain ⟨hs,hw,_⟩:=b3.1 rfl
  rw [br_false (c:=!true) rfl,br_false (c:=!true) rfl,l1In_eq,isIn_eq,Option.bind_some,Option.bind_some,wrap_id (k:=((d.1.length:Nat):Int) - 1) (by omega) (by omega)]
  by_cases h:0≤x∧x≤(d.1.length:Int) - 1
  ·rw [in_t h,br_false (c:=!true) rfl,br_false (c:=!true) rfl,br_true (by simp; omega)]
   obtain ⟨n,rfl⟩:=Int.eq_ofNat_of_zero_le h.1
   have hn:n < d.1.length:=by omega
   have hat:List.getD d.1 n [] = d.1[n]:=by rw [List.getD_eq_getElem?_getD,List.getElem?_eq_getElem hn]; rfl
   rw [show ((n:Int)).toNat = n by omega,wrap_id (k:=((d.2.1.length:Nat):Int) - 1) (by omega) (by omega)]
   have r1:=read_s (K:=K) d hw hd.l2 (n:Int) d.2.1 0 K (List.getD d.1 n []) (by simp) (by omega) (hs n (by omega) hn) (by omega)
   have r2:=read_i (K:=K) d hw hs hd.l2 n hn d.2.1.length K (Nat.le_refl _) (by omega)
   rw [List.take_length] at r2
   refine ⟨_,r1,r2,look_p _ _ _ (by rw [hat]; exact hd.b1 _ (List.getElem_mem hn)) hd.b2,look_p (P:=fun r=>r.length≤160) _ _ _ (hs n (by omega) hn) (fun e he=>?_)⟩
   obtain ⟨j,hj,rfl⟩:=List.getElem_of_mem he
   have:=(hw j (by omega) hj).2
   rwa [wrAt_eq hj] at this
  ·rw [in_f h,br_true (c:=!false) rfl,br_true (c:=!false) rfl]
   exact ⟨[],rfl,rfl,fun b hb=>absurd hb (by simp),by simp⟩
def kn0:Z18:=(0,(⟨#[]⟩,(0,(⟨#[]⟩,(0,(0,()))))))
theorem kn0_ok:KT kn0:=by
 constructor
 ·show ByteArray.size (⟨#[]⟩:ByteArray)≤100; rw [empty_size]; omega
 ·show ByteArray.size (⟨#[]⟩:ByteArray)≤100; rw [empty_size]; omega
theorem at_eq (K:Nat) (g v:Int):Zec K g v = some (IntKind.wrap .i64 ((IntKind.wrap .i64 (2 + (IntKind.wrap .i64 (18 * (Int.tmod g 2))))) + v))∧Zay K g v = some (IntKind.wrap .i64 ((IntKind.wrap .i64 (2 + (IntKind.wrap .i64 (18 * (Int.tmod g 2))))) + v)):=by
 rw [Zec.eq,Zay.eq]
 exact ⟨rfl,rfl⟩
theorem replay_loop {K:Nat} (hK:maxLen + 2≤K) (d:Zm) (hd:DB d) (g:Int) (o:Z18):∀ (q i k:Nat) (s:Z18),i + q = 18→q < k→KT s→∃ r:Z18 × (Int × Unit),Z6w K k g (i:Int) d o s = some r∧Z74 K k g (i:Int) d o s = some r∧KT r.1
 | 0,i,k + 1,s,hi,hk,hs=>by
  rw [Z6w.step,Z74.step,br_false (decide_eq_false (by omega)),br_false (decide_eq_false (by omega))]
  exact ⟨(s,(18,())),rfl,rfl,hs⟩
 | q + 1,i,k + 1,s,hi,hk,hs=>by
  obtain ⟨a1,a2⟩:=at_eq K g (i:Int)
  obtain ⟨x,x1,x2,x3,x4⟩:=readSec hK d hd (IntKind.wrap .i64 ((IntKind.wrap .i64 (2 + (IntKind.wrap .i64 (18 * (Int.tmod g 2))))) + (i:Int)))
  obtain ⟨y,y1,y2,y3⟩:=getRec hK x x3 (by omega)
  obtain ⟨z,z1,z2,z3⟩:=apply_ hK s hs y.2.2.1 y3
  obtain ⟨r,r1,r2,r3⟩:=replay_loop hK d hd g o q (i + 1) k z.1 (by omega) (by omega) z3
  have hstop:∃ r:Z18 × (Int × Unit),some (s,((i:Int),())) = some r∧some (s,((i:Int),())) = some r∧KT r.1:=⟨_,rfl,rfl,hs⟩
  rw [Z6w.step,Z74.step,br_true (decide_eq_true (by omega)),br_true (decide_eq_true (by omega)),a1,a2,Option.bind_some,Option.bind_some,x1,x2,Option.bind_some,Option.bind_some,y1,y2,Option.bind_some,Option.bind_some,z1,z2,Option.bind_some,Option.bind_some,wrap_id (k:=(i:Int) + 1) (by omega) (by omega)]
  cases !y.2.2.2.1
  ·rw [br_f,br_f]
   cases (y.1:Int) != g
   ·rw [br_f,br_f]
    cases (y.2.1:Int) != (i:Int)
    ·rw [br_f,br_f]
     cases !z.2.1
     ·rw [br_f,br_f]
      exact ⟨r,r1,r2,r3⟩
     ·exact hstop
    ·exact hstop
   ·exact hstop
  ·exact hstop
 | _,_,0,_,_,h,_=>absurd h (Nat.not_lt_zero _)
theorem replay {K:Nat} (hK:maxLen + 2≤K) (d:Zm) (hd:DB d) (g:Int):∃ r:Z18 × (Int × Unit),Zct K d g = some r∧Zd4 K d g = some r∧KT r.1:=by
 have hm:maxLen = 2 ^ 63 - 1:=rfl
 rw [Zct.eq,Zd4.eq,l1In_eq,isIn_eq,Option.bind_some,Option.bind_some]
 obtain ⟨r,r1,r2,r3⟩:=replay_loop hK d hd g kn0 18 0 K kn0 (by omega) (by omega) kn0_ok
 cases !(decide (1≤g) && decide (g≤60000))
 ·exact ⟨r,r1,r2,r3⟩
 ·exact ⟨(kn0,(0,())),rfl,rfl,kn0_ok⟩
theorem open_loop {K:Nat} (hK:maxLen + 2≤K) (d:Zm) (hd:DB d) (o:Z23):∀ (q i k:Nat) (s:Z23) (f:Bool),i + q = 2→q < k→KT s.1→0≤s.2.1→f = decide (s.2.1 > 0)→∃ r:Z23 × (Bool × Unit),Z2w K k (i:Int) d o s = some r∧Z2g K k f (i:Int) d o s = some r∧KT r.1.1
 | 0,i,k + 1,s,f,hi,hk,hs,h0,hf=>by
  rw [Z2w.step,Z2g.step,br_false (decide_eq_false (by omega)),br_false (decide_eq_false (by omega)),hf]
  exact ⟨_,rfl,rfl,hs⟩
 | q + 1,i,k + 1,s,f,hi,hk,hs,h0,hf=>by
  obtain ⟨x,x1,x2,x3,x4⟩:=readSec hK d hd (i:Int)
  obtain ⟨y,y1,y2,y3⟩:=getHead hK x x3 (by omega)
  obtain ⟨z,z1,z2,z3⟩:=replay hK d hd y.1
  obtain ⟨r,r1,r2,r3⟩:=open_loop hK d hd o q (i + 1) k s f (by omega) (by omega) hs h0 hf
  rw [Z2w.step,Z2g.step,br_true (decide_eq_true (by omega)),br_true (decide_eq_true (by omega)),x1,x2,Option.bind_some,Option.bind_some,y1,y2,Option.bind_some,Option.bind_some,wrap_id (k:=(i:Int) + 1) (by omega) (by omega),z1,z2,Option.bind_some,Option.bind_some]
  cases hy:y.2.2.1 with
  | false=>exact ⟨r,r1,r2,r3⟩
  | true =>
   have hy1:=y3 hy
   rw [br_false (c:=!true) rfl,br_false (c:=!true) rfl,br_false (c:=decide ((2:Nat) = 0)) (by decide),br_false (c:=decide ((2:Nat) = 0)) (by decide)]
   cases ((Int.tmod y.1 2:Int) != (i:Int))
   ·rw [br_f,br_f]
    obtain ⟨t,t1,t2,t3⟩:=open_loop hK d hd o q (i + 1) k (z.1,(y.1,(z.2.1,()))) true (by omega) (by omega) z3 (by show (0:Int)≤y.1; omega) (by symm; exact decide_eq_true (by show y.1 > (0:Int); omega))
    by_cases hg:y.1≤s.2.1
    ·rw [br_true (decide_eq_true hg)]
     have hft:f = true:=by rw [hf]; exact decide_eq_true (by omega)
     refine ⟨r,r1,?_,r3⟩
     by_cases hn:z.2.1 ≥ y.2.1
     ·rw [br_true (decide_eq_true hn),hft,br_false (c:=!true) rfl,br_false (decide_eq_false (by omega)),← hft]
      exact r2
     ·rw [br_false (decide_eq_false hn)]
      exact r2
    ·rw [br_false (decide_eq_false hg)]
     by_cases hn:z.2.1 ≥ y.2.1
     ·rw [br_true (decide_eq_true hn),br_true (decide_eq_true hn)]
      refine ⟨t,t1,?_,t3⟩
      cases f with
      | false=>exact t2
      | true =>
       rw [br_false (c:=!true) rfl,br_true (decide_eq_true (by omega))]
       exact t2
     ·rw [br_false (decide_eq_false hn),br_false (decide_eq_false hn)]
      exact ⟨r,r1,r2,r3⟩
   ·exact ⟨r,r1,r2,r3⟩
 | _,_,0,_,_,_,h,_,_,_=>absurd h (Nat.not_lt_zero _)
def jr0:Z23:=(kn0,(0,(0,())))
theorem openJour {K:Nat} (hK:maxLen + 2≤K) (d:Zm) (hd:DB d):∃ r:Z23 × (Bool × Unit),Zax K d = some r∧Zb1 K d = some r∧KT r.1.1:=by
 have hm:maxLen = 2 ^ 63 - 1:=rfl
 obtain ⟨b,b1,b2,_⟩:=diskOk hK d hd.l1 hd.l2
 obtain ⟨r,r1,r2,r3⟩:=open_loop hK d hd jr0 2 0 K jr0 false (by omega) (by omega) kn0_ok (by show (0:Int)≤0; omega) rfl
 rw [Zax.eq,Zb1.eq,b1,b2,Option.bind_some,Option.bind_some]
 cases b with
 | false=>exact ⟨(jr0,(false,())),rfl,rfl,kn0_ok⟩
 | true =>
  rw [br_false (c:=!true) rfl,br_false (c:=!true) rfl]
  cases (((d.1.length:Nat):Int) != 38)
  ·exact ⟨r,r1,r2,r3⟩
  ·exact ⟨(jr0,(false,())),rfl,rfl,kn0_ok⟩
end F5
