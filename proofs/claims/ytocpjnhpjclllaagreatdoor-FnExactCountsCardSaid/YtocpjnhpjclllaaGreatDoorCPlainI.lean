/- What is known: disks, replay, the journal. -/
import Derived.Test.YtocpjnhpjclllaaGreatDoorCPlainH
set_option linter.unusedSimpArgs false
namespace F5
open Go Go.Fil Go.Proofs Go.Fil.Cf
set_option maxRecDepth 100000
set_option linter.unusedVariables false
def KT (k : S_impl_Known) : Prop := k.2.1.size ≤ 100 ∧ k.2.2.2.1.size ≤ 100
theorem l4Text_eq {K : Nat} (s : ByteArray) {b : Bool} (h : g_spec_l4Text K s = some b) : (g_spec_l4Text K s).bind (fun y => some y) = some b := by rw [h, Option.bind_some]
theorem genOk {K : Nat} (hK : maxLen + 2 ≤ K) (n : Int) (s : ByteArray) (c : Bool) (h2 : g_impl_confOk K s = some c) : g_impl_genOk K n s = some (if n = 0 then strEq s ⟨#[]⟩ else (decide (1 ≤ n) && decide (n ≤ 60000)) && c) := by
  rw [g_impl_genOk.eq, isIn_eq, h2]
  simp only [Option.bind_some, br_some]
  by_cases h : n = 0
  · simp [h]
  · simp [h]
theorem knownOk {K : Nat} (hK : maxLen + 2 ≤ K) (k : S_impl_Known) (hk : KT k) : ∃ b, g_spec_KnownOk K k = some b ∧ g_impl_KnownOk K k = some b := by
  obtain ⟨G, T, N, U, H, W, z⟩ := k
  obtain ⟨c, c1, c2, _⟩ := confT hK T hk.1
  obtain ⟨d, d1, d2, _⟩ := confT hK U hk.2
  have p1 := genOk hK G T c c2
  have p2 := genOk hK N U d d2
  rw [g_spec_KnownOk.eq, g_impl_KnownOk.eq]
  simp only [l1In_eq, isIn_eq, Option.bind_some, br_some, c1, d1, p1, p2]
  refine ⟨_, rfl, ?_⟩
  congr 1
  simp only [bne, Bool.not_eq_true', beq_iff_eq, Bool.and_eq_true, decide_eq_true_eq, Bool.and_eq_false_iff, decide_eq_false_iff_not]
  cases c <;> cases d <;> cases strEq T ⟨#[]⟩ <;> cases strEq U ⟨#[]⟩ <;> grind
theorem apply_ {K : Nat} (hK : maxLen + 2 ≤ K) (k : S_impl_Known) (hk : KT k) (r : S_impl_Rec) (hr : r.2.2.2.1.size ≤ 100) : ∃ y : S_impl_Known × (Bool × Unit), g_spec_Apply K k r = some y ∧ g_impl_Apply K k r = some y ∧ KT y.1 := by
  obtain ⟨b, b1, b2⟩ := knownOk hK k hk
  obtain ⟨c, c1, c2, c3⟩ := recOk hK r hr
  rw [g_spec_Apply.eq, g_impl_Apply.eq, b1, b2, c1, c2, Option.bind_some, Option.bind_some, Option.bind_some, Option.bind_some]
  cases b with
  | false => exact ⟨(k, (false, ())), rfl, rfl, hk⟩
  | true =>
    rw [br_false (c := !true) rfl, br_false (c := !true) rfl]
    cases c with
    | false => exact ⟨(k, (false, ())), rfl, rfl, hk⟩
    | true =>
      rw [br_false (c := !true) rfl, br_false (c := !true) rfl]
      rcases c3 rfl with h | h | h
      · rw [br_true (c := (r.1 : Int) == 1) (beq_true h), br_true (c := (r.1 : Int) == 1) (beq_true h)]
        by_cases g : r.2.1 ≤ k.1
        · rw [br_true (decide_eq_true g), br_false (decide_eq_false (by omega)), br_false (beq_false (by omega)), br_false (beq_false (by omega))]
          exact ⟨_, rfl, rfl, hk⟩
        · rw [br_false (decide_eq_false g), br_true (decide_eq_true (by omega))]
          exact ⟨_, rfl, rfl, hk.1, hr⟩
      · rw [br_false (c := (r.1 : Int) == 1) (beq_false (by omega)), br_false (c := (r.1 : Int) == 1) (beq_false (by omega)), br_true (c := (r.1 : Int) == 2) (beq_true h), br_true (c := (r.1 : Int) == 2) (beq_true h)]
        by_cases g : r.2.1 = k.2.2.1
        · rw [br_false (bne_false g), br_true (beq_true g), g]
          exact ⟨_, rfl, rfl, hk.2, by show ByteArray.size (⟨#[]⟩ : ByteArray) ≤ 100; rw [empty_size]; omega⟩
        · rw [br_true (bne_true g), br_false (beq_false g), br_false (beq_false (by omega))]
          exact ⟨_, rfl, rfl, hk⟩
      · rw [br_false (c := (r.1 : Int) == 1) (beq_false (by omega)), br_false (c := (r.1 : Int) == 1) (beq_false (by omega)), br_false (c := (r.1 : Int) == 2) (beq_false (by omega)), br_false (c := (r.1 : Int) == 2) (beq_false (by omega)), br_true (c := (r.1 : Int) == 3) (beq_true h)]
        by_cases g : r.2.1 ≤ k.2.2.2.2.1
        · rw [br_true (decide_eq_true g), br_false (decide_eq_false (by omega))]
          exact ⟨_, rfl, rfl, hk⟩
        · rw [br_false (decide_eq_false g), br_true (decide_eq_true (by omega))]
          exact ⟨_, rfl, rfl, hk⟩
/-! ### disks -/
abbrev wrAt (l : List S_impl_Wr) (j : Nat) : S_impl_Wr := List.getD l j T_impl_Pack.zero
def DOk (d : S_impl_Disk) : Prop := (∀ s ∈ d.1, s.length ≤ 160) ∧ (∀ e ∈ d.2.1, (0 ≤ e.1 ∧ e.1 ≤ (d.1.length : Int) - 1) ∧ e.2.1.length ≤ 160) ∧ (1 ≤ d.1.length ∧ d.1.length ≤ 40) ∧ d.2.1.length ≤ 30 ∧ (-1 ≤ d.2.2.1 ∧ d.2.2.1 ≤ 1000)
end F5
