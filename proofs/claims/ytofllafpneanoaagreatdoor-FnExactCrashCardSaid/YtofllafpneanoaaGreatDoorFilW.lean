/- A change of some of the call's own objects. -/
import Derived.Test.YtofllafpneanoaaGreatDoorFil7
set_option linter.unusedSectionVars false
namespace Go.Fil
open Go.RowKit
set_option linter.unusedVariables false
set_option linter.unusedSimpArgs false
section
variable [Lin] {a a1:Act} {w w1:World} {B:Nat} {okA:Nat→Prop} {w0:World} {β β1:Nat→Value} {st st1:St}
/-- The objects at the sites of Z change, and nothing but their blocks; new blocks come. -/
theorem Sim.change (hs:Sim B okA w0 β st a w) (Z:Nat→Prop) (hf:BelowM (fun k=>∃ s o,Z s∧St.obj st.ob s = some o∧owns (β s) k) w.heap.size w w1)
  (hlen:a1.tmps.size = st1.tm.length) (hdef:a1.defers = [])
  (hob:∀ s,¬ Z s→St.obj st1.ob s = St.obj st.ob s∧β1 s = β s)
  (hrow:∀ s o,Z s→St.obj st.ob s = some o→∀ e t xs,o≠.row e t xs)
  (hrow1:∀ s o,Z s→St.obj st1.ob s = some o→∀ e t xs,o≠.row e t xs)
  (hown:∀ s o k,Z s→St.obj st1.ob s = some o→owns (β1 s) k→w.heap.size≤k∨∃ s' o',Z s'∧St.obj st.ob s' = some o'∧owns (β s') k)
  (hap:∀ s s' o o' k,Z s→Z s'→St.obj st1.ob s = some o→St.obj st1.ob s' = some o'→owns (β1 s) k→owns (β1 s') k→s = s')
  (hnew:Mv w w1 (okD w B okA β st.ob) (okD w1 B okA β1 st1.ob)→∀ s o,Z s→St.obj st1.ob s = some o→RepO w1 B (okD w1 B okA β1 st1.ob) (β1 s) o)
  (htm:Mv w w1 (okD w B okA β st.ob) (okD w1 B okA β1 st1.ob)→∀ i A,st1.tm[i]? = some A→RepA w1 (okD w1 B okA β1 st1.ob) β1 st1.ob A (a1.tmps.getD i undef)∨(RepA w (okD w B okA β st.ob) β st.ob A (a1.tmps.getD i undef)∧∀ s,A.site = some s→¬ Z s))
  (hpn:Lin.rv≠undef→Z 0→∀ bx sh t x,St.obj st1.ob 0 = some (.tr bx sh t x)→∃ L,β1 0 = tupV Lin.rv L) :
  Sim B okA w0 β1 st1 a1 w1:=by
 have hsame:∀ k,k < w.heap.size→¬ Ow β st.ob k→w1.heap[k]? = w.heap[k]?:=fun k hk hn=>hf.block k hk (fun ⟨s,o,_,h1,h2⟩=>hn ⟨s,o,h1,h2⟩)
 have hoth:∀ s o,¬ Z s→St.obj st.ob s = some o→∀ k,owns (β s) k→w1.heap[k]? = w.heap[k]?:=fun s o hz ho k hk=>hf.block k ((hs.ob s o ho).lt hk).2 (fun ⟨s',o',hz',h1,h2⟩=>by
  have:=hs.apart s s' o o' k ho h1 hk h2
  subst this
  exact hz hz')
 have how:∀ k,k < w.heap.size→Ow β1 st1.ob k→Ow β st.ob k:=by
  rintro k hk ⟨s,o,h1,h2⟩
  by_cases hz:Z s
  ·rcases hown s o k hz h1 h2 with h3 | ⟨s',o',_,h4,h5⟩
   ·omega
   ·exact ⟨s',o',h4,h5⟩
  ·obtain ⟨e1,e2⟩:=hob s hz
   rw [e1] at h1
   rw [e2] at h2
   exact ⟨s,o,h1,h2⟩
 have hmv:Mv w w1 (okD w B okA β st.ob) (okD w1 B okA β1 st1.ob):=okD_mv (fun k hk hlt=>hsame k hlt hk) hf.size how
 have hnorow:∀ k,Lin.N k→w1.heap[k]? = w.heap[k]?:=fun k hk=>hsame k (hs.nlt hk) (fun h=>hs.owN h hk)
 refine { len:=hlen,tm:=?_,ob:=?_,apart:=?_,below:=hs.below.transM ⟨hf.os,hf.tape,hf.output,hf.size,?_⟩,mrk:=hs.mrk.keep (fun k hk=>hsame k (hs.mlt hk) (fun h=>hs.owM h hk)),lt:=hs.lt,one:=?_,ltN:=hs.ltN,ltT:=hs.ltT,size:=Nat.le_trans hs.size hf.size,arg:=hs.arg,pin:=?_,defers:=hdef }
 ·intro i A hA
  rcases htm hmv i A hA with h | ⟨h,hz⟩
  ·exact h
  ·refine h.step hmv (fun s hsi=>?_)
   have hz:=hz s hsi
   obtain ⟨e1,e2⟩:=hob s hz
   exact ⟨e2,Same.of_eq e1,fun bx sh t x ho=>hoth s _ hz ho⟩
 ·intro s o ho
  by_cases hz:Z s
  ·exact hnew hmv s o hz ho
  ·obtain ⟨e1,e2⟩:=hob s hz
   rw [e1] at ho
   rw [e2]
   exact (hs.ob s o ho).step hnorow hmv (hoth s o hz ho)
 ·intro s s' o o' k h1 h2 h3 h4
  by_cases hz:Z s <;> by_cases hz':Z s'
  ·exact hap s s' o o' k hz hz' h1 h2 h3 h4
  ·obtain ⟨e1,e2⟩:=hob s' hz'
   rw [e1] at h2
   rw [e2] at h4
   rcases hown s o k hz h1 h3 with h5 | ⟨s2,o2,hz2,h6,h7⟩
   ·have:=((hs.ob s' o' h2).lt h4).2
    omega
   ·have:=hs.apart s2 s' o2 o' k h6 h2 h7 h4
    subst this
    exact absurd hz2 hz'
  ·obtain ⟨e1,e2⟩:=hob s hz
   rw [e1] at h1
   rw [e2] at h3
   rcases hown s' o' k hz' h2 h4 with h5 | ⟨s2,o2,hz2,h6,h7⟩
   ·have:=((hs.ob s o h1).lt h3).2
    omega
   ·have:=hs.apart s2 s o2 o k h6 h1 h7 h3
    subst this
    exact absurd hz2 hz
  ·obtain ⟨e1,e2⟩:=hob s hz
   obtain ⟨e3,e4⟩:=hob s' hz'
   rw [e1] at h1
   rw [e2] at h3
   rw [e3] at h2
   rw [e4] at h4
   exact hs.apart s s' o o' k h1 h2 h3 h4
 ·intro k hk hm
  refine hf.block k (Nat.lt_of_lt_of_le hk hs.size) (fun ⟨s,o,_,h1,h2⟩=>?_)
  rcases ((hs.ob s o h1).lt h2).1 with h3 | h3
  ·omega
  ·exact hm (.inr (.inr h3))
 ·intro s e t xs h
  by_cases hz:Z s
  ·exact absurd rfl (hrow1 s _ hz h e t xs)
  ·rw [(hob s hz).1] at h
   exact hs.one s e t xs h
 ·intro h0 bx sh t x h1
  by_cases hz:Z 0
  ·exact hpn h0 hz bx sh t x h1
  ·rw [(hob 0 hz).1] at h1
   rw [(hob 0 hz).2]
   exact hs.pin h0 bx sh t x h1
end
end Go.Fil
