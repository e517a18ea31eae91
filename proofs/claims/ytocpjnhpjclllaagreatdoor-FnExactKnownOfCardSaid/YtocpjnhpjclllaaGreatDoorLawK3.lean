/- LawK3. -/
import Derived.Test.YtocpjnhpjclllaaGreatDoorLawK
namespace F5
set_option linter.unusedSimpArgs false
open Go Go.Fil Go.Proofs Go.RowKit
set_option maxRecDepth 100000
set_option linter.unusedVariables false
theorem ok3 (K : Nat) (x : T_laws_World.T) : CallOk Tryz.prog 3 (toDts [T_laws_World] (x, ())) ⟨true, T_bool, true, false, g_laws_FnExactKnownOf K x⟩ := by
  have h := (e_laws_FnExactKnownOf K).ok (x, ())
  exact (by kernel_rfl : (CallOk G.P (e_laws_FnExactKnownOf K).f (toDts (e_laws_FnExactKnownOf K).args (x, ())) ⟨(e_laws_FnExactKnownOf K).one, (e_laws_FnExactKnownOf K).t, (e_laws_FnExactKnownOf K).fr, (e_laws_FnExactKnownOf K).ow, (e_laws_FnExactKnownOf K).g (x, ())⟩) = (CallOk Tryz.prog 3 (toDts [T_laws_World] (x, ())) ⟨true, T_bool, true, false, g_laws_FnExactKnownOf K x⟩)) ▸ h
theorem law_true {P : Program} {f : FuncId} {t : Ty} {x : t.T} (h : CallOk P f [⟨t, false, x⟩] ⟨true, .bool, true, false, some true⟩) (w : World) (v : Value) (ok : Nat → Prop) (hok : ∀ k, ok k → k < w.heap.size) (hv : V w ok t x v) :
    Calls P f #[v] w fun e w' => e = .returned (.bool true) ∧ RowKit.Below w.heap.size w w' := by
  refine (h.goes true rfl w ok [v] hok ⟨hv, trivial⟩).mono ?_
  rintro e w' ⟨u, rfl, hr, _, hg⟩
  obtain ⟨cs, h6, h7⟩ : V w' _ .bool true u := hr
  have h8 : cs = [.bool true] := h6
  rw [h7, h8]
  exact ⟨rfl, hg.below⟩
theorem law3 (x : T_laws_World.T) (hB : Bd by_ T_laws_World x) (w : World) (v : Value) (ok : Nat → Prop) (hok : ∀ k, ok k → k < w.heap.size) (hv : V w ok T_laws_World x v) :
    Calls Tryz.prog 3 #[v] w fun e w' => e = .returned (.bool true) ∧ RowKit.Below w.heap.size w w' := by
  obtain ⟨K, hK⟩ : ∃ K, maxLen + 2 ≤ K := ⟨_, Nat.le_refl _⟩
  have h := ok3 K x
  rw [lawKnownOf hK x hB] at h
  exact law_true h w v ok hok hv
end F5
