/- Pur5. -/
import Derived.Test.YtofllafpneanoaaGreatDoorFilP
import Derived.Test.YtofllafpneanoaaGreatDoorFunN1
import Derived.Test.YtofllafpneanoaaGreatDoorFunN2
import Derived.Test.YtofllafpneanoaaGreatDoorFunN3
import Derived.Test.YtofllafpneanoaaGreatDoorFunN4
namespace F5
open Go Go.Fil Go.Proofs
set_option maxRecDepth 100000
set_option linter.unusedVariables false
set_option linter.unusedSimpArgs false
def by_ (e:Nat):Nat:=((tabOf tab e).map (·.bytes)).getD 1
theorem by5:by_ 5 = 1:=by kernel_rfl
theorem by90:by_ 90 = 24:=by kernel_rfl
theorem by92:by_ 92 = 96:=by kernel_rfl
theorem by99:by_ 99 = 144:=by kernel_rfl
theorem by102:by_ 102 = 32:=by kernel_rfl
theorem by132:by_ 132 = 72:=by kernel_rfl
theorem by153:by_ 153 = 32:=by kernel_rfl
theorem by188:by_ 188 = 48:=by kernel_rfl
theorem by190:by_ 190 = 80:=by kernel_rfl
theorem by192:by_ 192 = 64:=by kernel_rfl
theorem Zcb {K:Nat} (hK:maxLen + 2≤K) (x0:Zj.T) (h:Bd by_ Zj x0) (l:Int) (h_main_main:0≤l) (h_gosem_cut:l≤1048576):SzOk (wt Zj x0) l (Z4b K x0 l):=by
 have h:_∧_∧_:=h
 rw [Z4b.eq]
 exact (sz_sub2 (F:=fun y=>some y) h_main_main h_gosem_cut (le_by h.1 (by rw [by5]; decide)) (fun m h_gosem_cut_init Z1b=>sz_done h_gosem_cut_init)).mono (Nat.le_of_eq (congrArg (List.length x0 + ·) (sum_zero (f:=fun x=>wt T_u8 x) (fun _=>rfl))))
theorem Znz {K:Nat} (hK:maxLen + 2≤K) (x0:Zx.T) (h:Bd by_ Zx x0) (l:Int) (h_main_main:0≤l) (h_gosem_cut:l≤1048576):SzOk (wt Zx x0) l (Zas K x0 l):=by
 have h:_∧_∧_:=h
 rw [Zas.eq]
 exact sz_fn (L:=fun k l v=>Z79 K k x0 l v) (G:=fun y l=>Z4b K y l) (z:=([])) hK (fun k l v=>Z79.step K k x0 l v) (le_by h.1 (by rw [by90]; decide)) h.2.1 (fun y hy l=>Zcb hK y (h.2.2 y hy) l) h_main_main h_gosem_cut
theorem Zrt {K:Nat} (hK:maxLen + 2≤K) (x0:Za.T) (h:Bd by_ Za x0) (l:Int) (h_main_main:0≤l) (h_gosem_cut:l≤1048576):SzOk (wt Za x0) l (Zda K x0 l):=by
 rw [Zda.eq]
 exact (sz_bind (F:=fun y=>some y) h_gosem_cut (Zcb hK x0.2.1 h.2.1 l h_main_main h_gosem_cut) (fun m h_gosem_cut_init Z1b=>sz_done h_gosem_cut_init)).mono (by simp only [wt]; omega)
theorem Zrj {K:Nat} (hK:maxLen + 2≤K) (x0:Z1u.T) (h:Bd by_ Z1u x0) (l:Int) (h_main_main:0≤l) (h_gosem_cut:l≤1048576):SzOk (wt Z1u x0) l (Zbd K x0 l):=by
 have h:_∧_∧_:=h
 rw [Zbd.eq]
 exact sz_fn (L:=fun k l v=>Z96 K k x0 l v) (G:=fun y l=>Zda K y l) (z:=Za.zero) hK (fun k l v=>Z96.step K k x0 l v) (le_by h.1 (by rw [by153]; decide)) h.2.1 (fun y hy l=>Zrt hK y (h.2.2 y hy) l) h_main_main h_gosem_cut
theorem Zqq {K:Nat} (hK:maxLen + 2≤K) (x0:Z28.T) (h:Bd by_ Z28 x0) (l:Int) (h_main_main:0≤l) (h_gosem_cut:l≤1048576):SzOk (wt Z28 x0) l (Zcl K x0 l):=by
 rw [Zcl.eq]
 exact (sz_bind (F:=fun y=>(Zbd K x0.2.1 y).bind fun z=>br (decide (z < 0)) (some (-1)) ((fun y=>some y) z)) h_gosem_cut (Znz hK x0.1 h.1 l h_main_main h_gosem_cut) (fun m h_gosem_cut_init Z1b=>sz_bind (F:=fun y=>some y) (by omega) (Zrj hK x0.2.1 h.2.1 m h_gosem_cut_init (by omega)) (fun m h_gosem_cut_init Z1b=>sz_done h_gosem_cut_init))).mono (by simp only [wt]; omega)
theorem Zqr {K:Nat} (hK:maxLen + 2≤K) (x0:Z5.T) (h:Bd by_ Z5 x0) (l:Int) (h_main_main:0≤l) (h_gosem_cut:l≤1048576):SzOk (wt Z5 x0) l (Zab K x0 l):=by
 rw [Zab.eq]
 exact (sz_bind (F:=fun y=>(Z4b K x0.2.2.2.2.2.1 y).bind fun z=>br (decide (z < 0)) (some (-1)) ((fun y=>some y) z)) h_gosem_cut (Zcb hK x0.2.2.2.2.1 h.2.2.2.2.1 l h_main_main h_gosem_cut) (fun m h_gosem_cut_init Z1b=>sz_bind (F:=fun y=>some y) (by omega) (Zcb hK x0.2.2.2.2.2.1 h.2.2.2.2.2.1 m h_gosem_cut_init (by omega)) (fun m h_gosem_cut_init Z1b=>sz_done h_gosem_cut_init))).mono (by simp only [wt]; omega)
theorem Zpq {K:Nat} (hK:maxLen + 2≤K) (x0:Z1k.T) (h:Bd by_ Z1k x0) (l:Int) (h_main_main:0≤l) (h_gosem_cut:l≤1048576):SzOk (wt Z1k x0) l (Z97 K x0 l):=by
 have h:_∧_∧_:=h
 rw [Z97.eq]
 exact sz_fn (L:=fun k l v=>Z7p K k x0 l v) (G:=fun y l=>Zab K y l) (z:=Z5.zero) hK (fun k l v=>Z7p.step K k x0 l v) (le_by h.1 (by rw [by92]; decide)) h.2.1 (fun y hy l=>Zqr hK y (h.2.2 y hy) l) h_main_main h_gosem_cut
theorem Zru {K:Nat} (hK:maxLen + 2≤K) (x0:Zl.T) (h:Bd by_ Zl x0) (l:Int) (h_main_main:0≤l) (h_gosem_cut:l≤1048576):SzOk (wt Zl x0) l (Zdb K x0 l):=by
 rw [Zdb.eq]
 exact (sz_sub2 (F:=fun y=>some y) h_main_main h_gosem_cut ((show x0.1.size≤_ from h.1)) (fun m h_gosem_cut_init Z1b=>sz_done h_gosem_cut_init)).mono (by simp only [wt]; omega)
theorem Zrk {K:Nat} (hK:maxLen + 2≤K) (x0:Z1v.T) (h:Bd by_ Z1v x0) (l:Int) (h_main_main:0≤l) (h_gosem_cut:l≤1048576):SzOk (wt Z1v x0) l (Zdm K x0 l):=by
 have h:_∧_∧_:=h
 rw [Zdm.eq]
 exact sz_fn (L:=fun k l v=>Z98 K k x0 l v) (G:=fun y l=>Zdb K y l) (z:=Zl.zero) hK (fun k l v=>Z98.step K k x0 l v) (le_by h.1 (by rw [by188]; decide)) h.2.1 (fun y hy l=>Zru hK y (h.2.2 y hy) l) h_main_main h_gosem_cut
theorem Zpr {K:Nat} (hK:maxLen + 2≤K) (x0:Z4.T) (h:Bd by_ Z4 x0) (l:Int) (h_main_main:0≤l) (h_gosem_cut:l≤1048576):SzOk (wt Z4 x0) l (Z99 K x0 l):=by
 rw [Z99.eq]
 exact (sz_sub2 (F:=fun y=>br (decide (IntKind.wrap .i64 (y - ((ByteArray.size x0.2.2.2.2.2.1:Nat):Int)) < 0)) (some (-1)) (some (IntKind.wrap .i64 (y - ((ByteArray.size x0.2.2.2.2.2.1:Nat):Int))))) h_main_main h_gosem_cut ((show x0.2.1.size≤_ from h.2.1)) (fun m h_gosem_cut_init Z1b=>sz_sub2 (F:=fun y=>some y) h_gosem_cut_init (by omega) ((show x0.2.2.2.2.2.1.size≤_ from h.2.2.2.2.2.1)) (fun m h_gosem_cut_init Z1b=>sz_done h_gosem_cut_init))).mono (by simp only [wt]; omega)
theorem Zo0 {K:Nat} (hK:maxLen + 2≤K) (x0:Z1f.T) (h:Bd by_ Z1f x0) (l:Int) (h_main_main:0≤l) (h_gosem_cut:l≤1048576):SzOk (wt Z1f x0) l (Z8m K x0 l):=by
 have h:_∧_∧_:=h
 rw [Z8m.eq]
 exact sz_fn (L:=fun k l v=>Z7a K k x0 l v) (G:=fun y l=>Z99 K y l) (z:=Z4.zero) hK (fun k l v=>Z7a.step K k x0 l v) (le_by h.1 (by rw [by190]; decide)) h.2.1 (fun y hy l=>Zpr hK y (h.2.2 y hy) l) h_main_main h_gosem_cut
theorem Zqs {K:Nat} (hK:maxLen + 2≤K) (x0:Zb.T) (h:Bd by_ Zb x0) (l:Int) (h_main_main:0≤l) (h_gosem_cut:l≤1048576):SzOk (wt Zb x0) l (Zac K x0 l):=by
 rw [Zac.eq]
 exact (sz_sub2 (F:=fun y=>some y) h_main_main h_gosem_cut ((show x0.2.1.size≤_ from h.2.1)) (fun m h_gosem_cut_init Z1b=>sz_done h_gosem_cut_init)).mono (by simp only [wt]; omega)
theorem Zps {K:Nat} (hK:maxLen + 2≤K) (x0:Z1l.T) (h:Bd by_ Z1l x0) (l:Int) (h_main_main:0≤l) (h_gosem_cut:l≤1048576):SzOk (wt Z1l x0) l (Z7q K x0 l):=by
 have h:_∧_∧_:=h
 rw [Z7q.eq]
 exact sz_fn (L:=fun k l v=>Z7r K k x0 l v) (G:=fun y l=>Zac K y l) (z:=Zb.zero) hK (fun k l v=>Z7r.step K k x0 l v) (le_by h.1 (by rw [by192]; decide)) h.2.1 (fun y hy l=>Zqs hK y (h.2.2 y hy) l) h_main_main h_gosem_cut
theorem Zpt {K:Nat} (hK:maxLen + 2≤K) (x0:Z1i.T) (h:Bd by_ Z1i x0) (l:Int) (h_main_main:0≤l) (h_gosem_cut:l≤1048576):SzOk (wt Z1i x0) l (Z9a K x0 l):=by
 rw [Z9a.eq]
 exact (sz_bind (F:=fun y=>(Z8m K x0.2.2.2.2.2.1 y).bind fun z=>br (decide (z < 0)) (some (-1)) ((fun y=>(Z7q K x0.2.2.2.2.2.2.1 y).bind fun z=>br (decide (z < 0)) (some (-1)) ((fun y=>some y) z)) z)) h_gosem_cut (Zrk hK x0.2.2.2.1 h.2.2.2.1 l h_main_main h_gosem_cut) (fun m h_gosem_cut_init Z1b=>sz_bind (F:=fun y=>(Z7q K x0.2.2.2.2.2.2.1 y).bind fun z=>br (decide (z < 0)) (some (-1)) ((fun y=>some y) z)) (by omega) (Zo0 hK x0.2.2.2.2.2.1 h.2.2.2.2.2.1 m h_gosem_cut_init (by omega)) (fun m h_gosem_cut_init Z1b=>sz_bind (F:=fun y=>some y) (by omega) (Zps hK x0.2.2.2.2.2.2.1 h.2.2.2.2.2.2.1 m h_gosem_cut_init (by omega)) (fun m h_gosem_cut_init Z1b=>sz_done h_gosem_cut_init)))).mono (by simp only [wt]; omega)
theorem Zo1 {K:Nat} (hK:maxLen + 2≤K) (x0:Z1d.T) (h:Bd by_ Z1d x0) (l:Int) (h_main_main:0≤l) (h_gosem_cut:l≤1048576):SzOk (wt Z1d x0) l (Z6o K x0 l):=by
 have h:_∧_∧_:=h
 rw [Z6o.eq]
 exact sz_fn (L:=fun k l v=>Z7b K k x0 l v) (G:=fun y l=>Z9a K y l) (z:=Z1i.zero) hK (fun k l v=>Z7b.step K k x0 l v) (le_by h.1 (by rw [by99]; decide)) h.2.1 (fun y hy l=>Zpt hK y (h.2.2 y hy) l) h_main_main h_gosem_cut
theorem Zqt {K:Nat} (hK:maxLen + 2≤K) (x0:Za.T) (h:Bd by_ Za x0) (l:Int) (h_main_main:0≤l) (h_gosem_cut:l≤1048576):SzOk (wt Za x0) l (Zad K x0 l):=by
 rw [Zad.eq]
 exact (sz_bind (F:=fun y=>some y) h_gosem_cut (Zcb hK x0.2.1 h.2.1 l h_main_main h_gosem_cut) (fun m h_gosem_cut_init Z1b=>sz_done h_gosem_cut_init)).mono (by simp only [wt]; omega)
theorem Zpu {K:Nat} (hK:maxLen + 2≤K) (x0:Z1m.T) (h:Bd by_ Z1m x0) (l:Int) (h_main_main:0≤l) (h_gosem_cut:l≤1048576):SzOk (wt Z1m x0) l (Z6h K x0 l):=by
 have h:_∧_∧_:=h
 rw [Z6h.eq]
 exact sz_fn (L:=fun k l v=>Z7s K k x0 l v) (G:=fun y l=>Zad K y l) (z:=Za.zero) hK (fun k l v=>Z7s.step K k x0 l v) (le_by h.1 (by rw [by102]; decide)) h.2.1 (fun y hy l=>Zqt hK y (h.2.2 y hy) l) h_main_main h_gosem_cut
theorem Zpv {K:Nat} (hK:maxLen + 2≤K) (x0:Z1p.T) (h:Bd by_ Z1p x0) (l:Int) (h_main_main:0≤l) (h_gosem_cut:l≤1048576):SzOk (wt Z1p x0) l (Z5q K x0 l):=by
 have h:_∧_∧_:=h
 rw [Z5q.eq]
 exact (sz_sub2 (F:=fun y=>some y) h_main_main h_gosem_cut (le_by h.1 (by rw [by132]; decide)) (fun m h_gosem_cut_init Z1b=>sz_done h_gosem_cut_init)).mono (Nat.le_of_eq (congrArg (List.length x0 + ·) (sum_zero (f:=fun x=>wt Zeb x) (fun _=>rfl))))
theorem Zpw {K:Nat} (hK:maxLen + 2≤K) (x0:Zq.T) (h:Bd by_ Zq x0) (l:Int) (h_main_main:0≤l) (h_gosem_cut:l≤1048576):SzOk (wt Zq x0) l (Z9b K x0 l):=by
 rw [Z9b.eq]
 exact (sz_bind (F:=fun y=>(Z97 K x0.2.2.1 y).bind fun z=>br (decide (z < 0)) (some (-1)) ((fun y=>(Z6o K x0.2.2.2.1 y).bind fun z=>br (decide (z < 0)) (some (-1)) ((fun y=>(Z6h K x0.2.2.2.2.1 y).bind fun z=>br (decide (z < 0)) (some (-1)) ((fun y=>(Z5q K x0.2.2.2.2.2.1 y).bind fun z=>br (decide (z < 0)) (some (-1)) ((fun y=>some y) z)) z)) z)) z)) h_gosem_cut (Zqq hK x0.2.1 h.2.1 l h_main_main h_gosem_cut) (fun m h_gosem_cut_init Z1b=>sz_bind (F:=fun y=>(Z6o K x0.2.2.2.1 y).bind fun z=>br (decide (z < 0)) (some (-1)) ((fun y=>(Z6h K x0.2.2.2.2.1 y).bind fun z=>br (decide (z < 0)) (some (-1)) ((fun y=>(Z5q K x0.2.2.2.2.2.1 y).bind fun z=>br (decide (z < 0)) (some (-1)) ((fun y=>some y) z)) z)) z)) (by omega) (Zpq hK x0.2.2.1 h.2.2.1 m h_gosem_cut_init (by omega)) (fun m h_gosem_cut_init Z1b=>sz_bind (F:=fun y=>(Z6h K x0.2.2.2.2.1 y).bind fun z=>br (decide (z < 0)) (some (-1)) ((fun y=>(Z5q K x0.2.2.2.2.2.1 y).bind fun z=>br (decide (z < 0)) (some (-1)) ((fun y=>some y) z)) z)) (by omega) (Zo1 hK x0.2.2.2.1 h.2.2.2.1 m h_gosem_cut_init (by omega)) (fun m h_gosem_cut_init Z1b=>sz_bind (F:=fun y=>(Z5q K x0.2.2.2.2.2.1 y).bind fun z=>br (decide (z < 0)) (some (-1)) ((fun y=>some y) z)) (by omega) (Zpu hK x0.2.2.2.2.1 h.2.2.2.2.1 m h_gosem_cut_init (by omega)) (fun m h_gosem_cut_init Z1b=>sz_bind (F:=fun y=>some y) (by omega) (Zpv hK x0.2.2.2.2.2.1 h.2.2.2.2.2.1 m h_gosem_cut_init (by omega)) (fun m h_gosem_cut_init Z1b=>sz_done h_gosem_cut_init)))))).mono (by simp only [wt]; omega)
theorem Zcc {K:Nat} (hK:maxLen + 2≤K) (x0:Zj.T) (h:Bd by_ Zj x0):Z4z K x0 = some x0:=by
 have h:_∧_∧_:=h
 rw [Z4z.eq]
 exact to_fn (L:=fun k v o=>Z7t K k x0 v o) (G:=fun y=>some y) (z:=0) hK (fun k v o=>Z7t.step K k x0 v o) (by have:=h.1; rw [by5] at this; exact this) h.2.1 (fun _ _=>rfl)
theorem Zo2 {K:Nat} (hK:maxLen + 2≤K) (x0:Zx.T) (h:Bd by_ Zx x0):Zat K x0 = some x0:=by
 have h:_∧_∧_:=h
 rw [Zat.eq]
 exact to_fn (L:=fun k v o=>Z7c K k x0 v o) (G:=fun y=>Z4z K y) (z:=([])) hK (fun k v o=>Z7c.step K k x0 v o) (by have:=h.1; rw [by90] at this; exact this) h.2.1 (fun y hy=>Zcc hK y (h.2.2 y hy))
theorem Zrv {K:Nat} (hK:maxLen + 2≤K) (x0:Za.T) (h:Bd by_ Za x0):Zdc K x0 = some x0:=by
 simp only [Zdc.eq,Zcc hK _ h.2.1,Option.bind_some]
theorem Zrl {K:Nat} (hK:maxLen + 2≤K) (x0:Z1u.T) (h:Bd by_ Z1u x0):Zdn K x0 = some x0:=by
 have h:_∧_∧_:=h
 rw [Zdn.eq]
 exact to_fn (L:=fun k v o=>Z9d K k x0 v o) (G:=fun y=>Zdc K y) (z:=Za.zero) hK (fun k v o=>Z9d.step K k x0 v o) (by have:=h.1; rw [by153] at this; exact this) h.2.1 (fun y hy=>Zrv hK y (h.2.2 y hy))
theorem Zqu {K:Nat} (hK:maxLen + 2≤K) (x0:Z28.T) (h:Bd by_ Z28 x0):Zcm K x0 = some x0:=by
 simp only [Zcm.eq,Zo2 hK _ h.1,Zrl hK _ h.2.1,Option.bind_some]
theorem Zqv {K:Nat} (hK:maxLen + 2≤K) (x0:Z5.T) (h:Bd by_ Z5 x0):Zae K x0 = some x0:=by
 simp only [Zae.eq,Zcc hK _ h.2.2.2.2.1,Zcc hK _ h.2.2.2.2.2.1,Option.bind_some]
theorem Zpx {K:Nat} (hK:maxLen + 2≤K) (x0:Z1k.T) (h:Bd by_ Z1k x0):Zbe K x0 = some x0:=by
 have h:_∧_∧_:=h
 rw [Zbe.eq]
 exact to_fn (L:=fun k v o=>Z7u K k x0 v o) (G:=fun y=>Zae K y) (z:=Z5.zero) hK (fun k v o=>Z7u.step K k x0 v o) (by have:=h.1; rw [by92] at this; exact this) h.2.1 (fun y hy=>Zqv hK y (h.2.2 y hy))
theorem Zrw {K:Nat} (hK:maxLen + 2≤K) (x0:Zl.T) (h:Bd by_ Zl x0):Zdd K x0 = some x0:=by
 exact Zdd.eq K x0
theorem Zrm {K:Nat} (hK:maxLen + 2≤K) (x0:Z1v.T) (h:Bd by_ Z1v x0):Zdo K x0 = some x0:=by
 have h:_∧_∧_:=h
 rw [Zdo.eq]
 exact to_fn (L:=fun k v o=>Z9e K k x0 v o) (G:=fun y=>Zdd K y) (z:=Zl.zero) hK (fun k v o=>Z9e.step K k x0 v o) (by have:=h.1; rw [by188] at this; exact this) h.2.1 (fun y hy=>Zrw hK y (h.2.2 y hy))
theorem Zpy {K:Nat} (hK:maxLen + 2≤K) (x0:Z4.T) (h:Bd by_ Z4 x0):Z9f K x0 = some x0:=by
 exact Z9f.eq K x0
theorem Zo3 {K:Nat} (hK:maxLen + 2≤K) (x0:Z1f.T) (h:Bd by_ Z1f x0):Zau K x0 = some x0:=by
 have h:_∧_∧_:=h
 rw [Zau.eq]
 exact to_fn (L:=fun k v o=>Z7d K k x0 v o) (G:=fun y=>Z9f K y) (z:=Z4.zero) hK (fun k v o=>Z7d.step K k x0 v o) (by have:=h.1; rw [by190] at this; exact this) h.2.1 (fun y hy=>Zpy hK y (h.2.2 y hy))
theorem Zqw {K:Nat} (hK:maxLen + 2≤K) (x0:Zb.T) (h:Bd by_ Zb x0):Zaf K x0 = some x0:=by
 exact Zaf.eq K x0
theorem Zpz {K:Nat} (hK:maxLen + 2≤K) (x0:Z1l.T) (h:Bd by_ Z1l x0):Zbf K x0 = some x0:=by
 have h:_∧_∧_:=h
 rw [Zbf.eq]
 exact to_fn (L:=fun k v o=>Z7v K k x0 v o) (G:=fun y=>Zaf K y) (z:=Zb.zero) hK (fun k v o=>Z7v.step K k x0 v o) (by have:=h.1; rw [by192] at this; exact this) h.2.1 (fun y hy=>Zqw hK y (h.2.2 y hy))
theorem Zqx {K:Nat} (hK:maxLen + 2≤K) (x0:Zp.T) (h:Bd by_ Zp x0):Zcn K x0 = some x0:=by
 exact Zcn.eq K x0
theorem Zq0 {K:Nat} (hK:maxLen + 2≤K) (x0:Z1i.T) (h:Bd by_ Z1i x0):Z9g K x0 = some x0:=by
 simp only [Z9g.eq,Zrm hK _ h.2.2.2.1,Zo3 hK _ h.2.2.2.2.2.1,Zpz hK _ h.2.2.2.2.2.2.1,Zqx hK _ h.2.2.2.2.2.2.2.2.1,Option.bind_some]
theorem Zo4 {K:Nat} (hK:maxLen + 2≤K) (x0:Z1d.T) (h:Bd by_ Z1d x0):Zav K x0 = some x0:=by
 have h:_∧_∧_:=h
 rw [Zav.eq]
 exact to_fn (L:=fun k v o=>Z7e K k x0 v o) (G:=fun y=>Z9g K y) (z:=Z1i.zero) hK (fun k v o=>Z7e.step K k x0 v o) (by have:=h.1; rw [by99] at this; exact this) h.2.1 (fun y hy=>Zq0 hK y (h.2.2 y hy))
theorem Zqy {K:Nat} (hK:maxLen + 2≤K) (x0:Za.T) (h:Bd by_ Za x0):Zag K x0 = some x0:=by
 simp only [Zag.eq,Zcc hK _ h.2.1,Option.bind_some]
theorem Zq1 {K:Nat} (hK:maxLen + 2≤K) (x0:Z1m.T) (h:Bd by_ Z1m x0):Zbg K x0 = some x0:=by
 have h:_∧_∧_:=h
 rw [Zbg.eq]
 exact to_fn (L:=fun k v o=>Z7w K k x0 v o) (G:=fun y=>Zag K y) (z:=Za.zero) hK (fun k v o=>Z7w.step K k x0 v o) (by have:=h.1; rw [by102] at this; exact this) h.2.1 (fun y hy=>Zqy hK y (h.2.2 y hy))
theorem Zqz {K:Nat} (hK:maxLen + 2≤K) (x0:Zd.T) (h:Bd by_ Zd x0):Zah K x0 = some x0:=by
 exact Zah.eq K x0
theorem Zq2 {K:Nat} (hK:maxLen + 2≤K) (x0:Z1p.T) (h:Bd by_ Z1p x0):Zbh K x0 = some x0:=by
 have h:_∧_∧_:=h
 rw [Zbh.eq]
 exact to_fn (L:=fun k v o=>Z7x K k x0 v o) (G:=fun y=>Zah K y) (z:=Zd.zero) hK (fun k v o=>Z7x.step K k x0 v o) (by have:=h.1; rw [by132] at this; exact this) h.2.1 (fun y hy=>Zqz hK y (h.2.2 y hy))
theorem Zq3 {K:Nat} (hK:maxLen + 2≤K) (x0:Zq.T) (h:Bd by_ Zq x0):Z3m K x0 = some x0:=by
 simp only [Z3m.eq,Zqu hK _ h.2.1,Zpx hK _ h.2.2.1,Zo4 hK _ h.2.2.2.1,Zq1 hK _ h.2.2.2.2.1,Zq2 hK _ h.2.2.2.2.2.1,Option.bind_some]
theorem Zcd {K:Nat} (hK:maxLen + 2≤K) (x0:Zj.T) (h:Bd by_ Zj x0):Z54 K x0 x0 = some true:=by
 have h:_∧_∧_:=h
 rw [Z54.eq]
 exact eq_fn (L:=fun k v=>Z8c K k x0 x0 v) (G:=fun a b=>some (a == b)) (z:=0) hK (fun k v=>Z8c.step K k x0 x0 v) h.2.1 (fun y _=>by simp)
theorem Zo5 {K:Nat} (hK:maxLen + 2≤K) (x0:Zx.T) (h:Bd by_ Zx x0):Zb6 K x0 x0 = some true:=by
 have h:_∧_∧_:=h
 rw [Zb6.eq]
 exact eq_fn (L:=fun k v=>Z7g K k x0 x0 v) (G:=fun a b=>Z54 K a b) (z:=([])) hK (fun k v=>Z7g.step K k x0 x0 v) h.2.1 (fun y hy=>Zcd hK y (h.2.2 y hy))
theorem Zrx {K:Nat} (hK:maxLen + 2≤K) (x0:Za.T) (h:Bd by_ Za x0):Zdf K x0 x0 = some true:=by
 simp only [Zdf.eq,Zcd hK _ h.2.1,Option.bind_some,ne_self,strEq_self,bne_self_bool,Bool.not_true,br_t,br_f]
theorem Zrn {K:Nat} (hK:maxLen + 2≤K) (x0:Zz.T) (h:Bd by_ Zz x0):Zdy K x0 x0 = some true:=by
 have h:_∧_∧_:=h
 rw [Zdy.eq]
 exact eq_fn (L:=fun k v=>Z9t K k x0 x0 v) (G:=fun a b=>Zdf K a b) (z:=Za.zero) hK (fun k v=>Z9t.step K k x0 x0 v) h.2.1 (fun y hy=>Zrx hK y (h.2.2 y hy))
theorem Zr0 {K:Nat} (hK:maxLen + 2≤K) (x0:Z9.T) (h:Bd by_ Z9 x0):Zd8 K x0 x0 = some true:=by
 simp only [Zd8.eq,Zo5 hK _ h.1,Zrn hK _ h.2.1,Option.bind_some,ne_self,strEq_self,bne_self_bool,Bool.not_true,br_t,br_f]
theorem Zr1 {K:Nat} (hK:maxLen + 2≤K) (x0:Z5.T) (h:Bd by_ Z5 x0):Zao K x0 x0 = some true:=by
 simp only [Zao.eq,Zcd hK _ h.2.2.2.2.1,Zcd hK _ h.2.2.2.2.2.1,Option.bind_some,ne_self,strEq_self,bne_self_bool,Bool.not_true,br_t,br_f]
theorem Zq4 {K:Nat} (hK:maxLen + 2≤K) (x0:Z7.T) (h:Bd by_ Z7 x0):Zc2 K x0 x0 = some true:=by
 have h:_∧_∧_:=h
 rw [Zc2.eq]
 exact eq_fn (L:=fun k v=>Z8d K k x0 x0 v) (G:=fun a b=>Zao K a b) (z:=Z5.zero) hK (fun k v=>Z8d.step K k x0 x0 v) h.2.1 (fun y hy=>Zr1 hK y (h.2.2 y hy))
theorem Zry {K:Nat} (hK:maxLen + 2≤K) (x0:Zl.T) (h:Bd by_ Zl x0):Zdg K x0 x0 = some true:=by
 simp only [Zdg.eq,Option.bind_some,ne_self,strEq_self,bne_self_bool,Bool.not_true,br_t,br_f]
theorem Zro {K:Nat} (hK:maxLen + 2≤K) (x0:Z6.T) (h:Bd by_ Z6 x0):Zdz K x0 x0 = some true:=by
 have h:_∧_∧_:=h
 rw [Zdz.eq]
 exact eq_fn (L:=fun k v=>Z9u K k x0 x0 v) (G:=fun a b=>Zdg K a b) (z:=Zl.zero) hK (fun k v=>Z9u.step K k x0 x0 v) h.2.1 (fun y hy=>Zry hK y (h.2.2 y hy))
theorem Zq5 {K:Nat} (hK:maxLen + 2≤K) (x0:Z4.T) (h:Bd by_ Z4 x0):Z9v K x0 x0 = some true:=by
 simp only [Z9v.eq,Option.bind_some,ne_self,strEq_self,bne_self_bool,Bool.not_true,br_t,br_f]
theorem Zo6 {K:Nat} (hK:maxLen + 2≤K) (x0:Zf.T) (h:Bd by_ Zf x0):Zb7 K x0 x0 = some true:=by
 have h:_∧_∧_:=h
 rw [Zb7.eq]
 exact eq_fn (L:=fun k v=>Z7h K k x0 x0 v) (G:=fun a b=>Z9v K a b) (z:=Z4.zero) hK (fun k v=>Z7h.step K k x0 x0 v) h.2.1 (fun y hy=>Zq5 hK y (h.2.2 y hy))
theorem Zr2 {K:Nat} (hK:maxLen + 2≤K) (x0:Zb.T) (h:Bd by_ Zb x0):Zap K x0 x0 = some true:=by
 simp only [Zap.eq,Option.bind_some,ne_self,strEq_self,bne_self_bool,Bool.not_true,br_t,br_f]
theorem Zq6 {K:Nat} (hK:maxLen + 2≤K) (x0:Zk.T) (h:Bd by_ Zk x0):Zc3 K x0 x0 = some true:=by
 have h:_∧_∧_:=h
 rw [Zc3.eq]
 exact eq_fn (L:=fun k v=>Z8e K k x0 x0 v) (G:=fun a b=>Zap K a b) (z:=Zb.zero) hK (fun k v=>Z8e.step K k x0 x0 v) h.2.1 (fun y hy=>Zr2 hK y (h.2.2 y hy))
theorem Zr3 {K:Nat} (hK:maxLen + 2≤K) (x0:Zp.T) (h:Bd by_ Zp x0):Zd9 K x0 x0 = some true:=by
 simp only [Zd9.eq,Option.bind_some,ne_self,strEq_self,bne_self_bool,Bool.not_true,br_t,br_f]
theorem Zq7 {K:Nat} (hK:maxLen + 2≤K) (x0:Z0.T) (h:Bd by_ Z0 x0):Z9w K x0 x0 = some true:=by
 simp only [Z9w.eq,Zro hK _ h.2.2.2.1,Zo6 hK _ h.2.2.2.2.2.1,Zq6 hK _ h.2.2.2.2.2.2.1,Zr3 hK _ h.2.2.2.2.2.2.2.2.1,Option.bind_some,ne_self,strEq_self,bne_self_bool,Bool.not_true,br_t,br_f]
theorem Zo7 {K:Nat} (hK:maxLen + 2≤K) (x0:Zv.T) (h:Bd by_ Zv x0):Zb8 K x0 x0 = some true:=by
 have h:_∧_∧_:=h
 rw [Zb8.eq]
 exact eq_fn (L:=fun k v=>Z7i K k x0 x0 v) (G:=fun a b=>Z9w K a b) (z:=Z0.zero) hK (fun k v=>Z7i.step K k x0 x0 v) h.2.1 (fun y hy=>Zq7 hK y (h.2.2 y hy))
theorem Zr4 {K:Nat} (hK:maxLen + 2≤K) (x0:Za.T) (h:Bd by_ Za x0):Zaq K x0 x0 = some true:=by
 simp only [Zaq.eq,Zcd hK _ h.2.1,Option.bind_some,ne_self,strEq_self,bne_self_bool,Bool.not_true,br_t,br_f]
theorem Zq8 {K:Nat} (hK:maxLen + 2≤K) (x0:Zg.T) (h:Bd by_ Zg x0):Zc4 K x0 x0 = some true:=by
 have h:_∧_∧_:=h
 rw [Zc4.eq]
 exact eq_fn (L:=fun k v=>Z8f K k x0 x0 v) (G:=fun a b=>Zaq K a b) (z:=Za.zero) hK (fun k v=>Z8f.step K k x0 x0 v) h.2.1 (fun y hy=>Zr4 hK y (h.2.2 y hy))
theorem Zr5 {K:Nat} (hK:maxLen + 2≤K) (x0:Zd.T) (h:Bd by_ Zd x0):Zar K x0 x0 = some true:=by
 simp only [Zar.eq,Option.bind_some,ne_self,strEq_self,bne_self_bool,Bool.not_true,br_t,br_f]
theorem Zq9 {K:Nat} (hK:maxLen + 2≤K) (x0:Zw.T) (h:Bd by_ Zw x0):Zc5 K x0 x0 = some true:=by
 have h:_∧_∧_:=h
 rw [Zc5.eq]
 exact eq_fn (L:=fun k v=>Z8g K k x0 x0 v) (G:=fun a b=>Zar K a b) (z:=Zd.zero) hK (fun k v=>Z8g.step K k x0 x0 v) h.2.1 (fun y hy=>Zr5 hK y (h.2.2 y hy))
theorem Zgi {K:Nat} (hK:maxLen + 2≤K) (x0:Z1.T) (h:Bd by_ Z1 x0):Z3p K x0 x0 = some true:=by
 simp only [Z3p.eq,Zr0 hK _ h.2.1,Zq4 hK _ h.2.2.1,Zo7 hK _ h.2.2.2.1,Zq8 hK _ h.2.2.2.2.1,Zq9 hK _ h.2.2.2.2.2.1,Option.bind_some,ne_self,strEq_self,bne_self_bool,Bool.not_true,br_t,br_f]
end F5
