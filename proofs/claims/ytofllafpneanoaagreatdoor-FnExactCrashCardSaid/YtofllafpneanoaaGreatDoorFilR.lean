/- A law's body in pieces: each is evaluated; between them what the temps hold is told anew. -/
import Derived.Test.YtofllafpneanoaaGreatDoorFil12
set_option linter.unusedSimpArgs false
namespace Go.Fil
open Go.RowKit
set_option linter.unusedVariables false
/-- A temp of the state, as the machine has it. -/
theorem Sim.at [Lin] {B:Nat} {okA:Nat→Prop} {w0 w:World} {β:Nat→Value} {st:St} {a:Act} (hs:Sim B okA w0 β st a w) {i:Nat} {A':A} (h:st.tm[i]? = some A'):RepA w (okD w B okA β st.ob) β st.ob A' (a.tmps.getD i undef):=hs.tm i A' h
end Go.Fil
