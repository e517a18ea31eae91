/- Said's plain law, a part: the program's text and the reference's come to the same. -/
import Derived.Test.YtgcelhejmpcchaaPlainSaidH
namespace F2
set_option linter.unusedVariables false
set_option linter.unusedSimpArgs false
set_option linter.unusedSectionVars false
open Go Go.Fil Go.Proofs
theorem sum_mem {α : Type} (f : α → Nat) : ∀ (l : List α) (a : α), a ∈ l → f a ≤ (l.map f).sum
  | b :: l, a, h => by
    rw [List.map_cons, List.sum_cons]
    rcases List.mem_cons.1 h with rfl | h
    · omega
    · have := sum_mem f l a h; omega
theorem wf_u8 (a : Int) (h : (Lit.int .u8 a).wf = true) : 0 ≤ a ∧ a ≤ 255 := by
  simp [Lit.wf, IntKind.min, IntKind.max, IntKind.signed, IntKind.bits] at h
  omega
theorem socks_ok (x : y36.T) (hB : Bd by_ y36 x) (hwt : wt y36 x ≤ 1048576) : ∀ s ∈ (x.2.2.1 : List y111.T), (∀ a ∈ (s.2.2.2.2.2.1 : List Int), 0 ≤ a ∧ a ≤ 255) ∧ List.length s.2.2.2.2.2.1 ≤ 1048576 := by
  intro s hs
  have hb : Bd by_ y111 s := hB.2.2.1.2.2 s hs
  have ho : ∀ a ∈ (s.2.2.2.2.2.1 : List Int), (Lit.int .u8 a).wf = true := hb.2.2.2.2.2.1.2.2
  refine ⟨fun a ha => wf_u8 a (ho a ha), ?_⟩
  have h1 := sum_mem (fun s => wt y111 s) x.2.2.1 s hs
  have h2 : List.length s.2.2.2.2.2.1 ≤ wt y111 s := by simp only [wt]; omega
  have h3 : ((x.2.2.1 : List y111.T).map (fun s => wt y111 s)).sum ≤ wt y36 x := by simp only [wt]; omega
  omega
end F2
