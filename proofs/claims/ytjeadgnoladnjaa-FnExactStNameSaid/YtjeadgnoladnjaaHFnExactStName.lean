/-  StName, walked by hand: an array of five names, indexed where the number is in range. -/
import Derived.Test.YtjeadgnoladnjaaPFnExactStNamex1
import Derived.Lib.Hide
namespace Go.Proofs.Ytjeadgnoladnjaa.PFnExactStName
open Go.RowKit Go.Proofs.YtjeadgnoladnjaaW.PrintWords Go.Proofs.YtjeadgnoladnjaaW.PrintLast Go.Proofs.YtjeadgnoladnjaaW.PrintMore
set_option linter.unusedVariables false
set_option linter.unusedSimpArgs false

theorem isIn_yes (a b c : Int) (w : World) (h1 : b ≤ a) (h2 : a ≤ c) : Calls Try.prog 32 #[.int .i64 a, .int .i64 b, .int .i64 c] w fun e w' => e = .returned (.bool true) ∧ w = w' := by
  go_enter Try.func32, Try.ntmps32
  go_wp2
  go_ret
  exact ⟨by simp [h2], rfl⟩
theorem isIn_no (a b c : Int) (w : World) (h : ¬ (b ≤ a ∧ a ≤ c)) : Calls Try.prog 32 #[.int .i64 a, .int .i64 b, .int .i64 c] w fun e w' => e = .returned (.bool false) ∧ w = w' := by
  by_cases h1 : b ≤ a
  · have h2 : c < a := by omega
    go_enter Try.func32, Try.ntmps32
    go_wp2
    go_ret
    exact ⟨by simp; omega, rfl⟩
  · have h2 : a < b := by omega
    clear h h1
    go_enter Try.func32, Try.ntmps32
    go_wp2
    go_ret
    exact ⟨rfl, rfl⟩
theorem impl_out (a : Int) (w : World) (h : ¬ (0 ≤ a ∧ a ≤ 4)) : Calls Try.prog 10 #[.int .i64 a] w fun e w' => e = .returned (.string ⟨#[]⟩) ∧ Below w.heap.size w w' := by
  go_enter Try.func10, Try.ntmps10
  go_wp2_with (go_at_call 32; refine (isIn_no _ _ _ _ h).mono ?_; rintro e w' ⟨rfl, rfl⟩)
  go_ret
  exact ⟨rfl, (Below.refl _ _).alloc (Nat.le_refl _) _⟩
theorem impl_0 (w : World) : Calls Try.prog 10 #[.int .i64 0] w fun e w' => e = .returned (.string ⟨#[111, 102, 102]⟩) ∧ Below w.heap.size w w' := by
  go_enter Try.func10, Try.ntmps10
  go_wp2_with (go_at_call 32; refine (isIn_yes _ _ _ _ (by decide) (by decide)).mono ?_; rintro e w' ⟨rfl, rfl⟩)
  go_ret
  exact ⟨rfl, (Below.refl _ _).alloc (Nat.le_refl _) _⟩
theorem impl_1 (w : World) : Calls Try.prog 10 #[.int .i64 1] w fun e w' => e = .returned (.string ⟨#[105, 100, 108, 101]⟩) ∧ Below w.heap.size w w' := by
  go_enter Try.func10, Try.ntmps10
  go_wp2_with (go_at_call 32; refine (isIn_yes _ _ _ _ (by decide) (by decide)).mono ?_; rintro e w' ⟨rfl, rfl⟩)
  go_ret
  exact ⟨rfl, (Below.refl _ _).alloc (Nat.le_refl _) _⟩
theorem impl_2 (w : World) : Calls Try.prog 10 #[.int .i64 2] w fun e w' => e = .returned (.string ⟨#[115, 101, 114, 118, 101]⟩) ∧ Below w.heap.size w w' := by
  go_enter Try.func10, Try.ntmps10
  go_wp2_with (go_at_call 32; refine (isIn_yes _ _ _ _ (by decide) (by decide)).mono ?_; rintro e w' ⟨rfl, rfl⟩)
  go_ret
  exact ⟨rfl, (Below.refl _ _).alloc (Nat.le_refl _) _⟩
theorem impl_3 (w : World) : Calls Try.prog 10 #[.int .i64 3] w fun e w' => e = .returned (.string ⟨#[102, 114, 101, 101, 122, 101]⟩) ∧ Below w.heap.size w w' := by
  go_enter Try.func10, Try.ntmps10
  go_wp2_with (go_at_call 32; refine (isIn_yes _ _ _ _ (by decide) (by decide)).mono ?_; rintro e w' ⟨rfl, rfl⟩)
  go_ret
  exact ⟨rfl, (Below.refl _ _).alloc (Nat.le_refl _) _⟩
theorem impl_4 (w : World) : Calls Try.prog 10 #[.int .i64 4] w fun e w' => e = .returned (.string ⟨#[116, 97, 107, 101]⟩) ∧ Below w.heap.size w w' := by
  go_enter Try.func10, Try.ntmps10
  go_wp2_with (go_at_call 32; refine (isIn_yes _ _ _ _ (by decide) (by decide)).mono ?_; rintro e w' ⟨rfl, rfl⟩)
  go_ret
  exact ⟨rfl, (Below.refl _ _).alloc (Nat.le_refl _) _⟩
/-- The name, as the reference gives it. -/
theorem both (a : Int) (w : World) : ∃ s, spec_StName.f a = some s ∧ Calls Try.prog 10 #[.int .i64 a] w fun e w' => e = .returned (.string s) ∧ Below w.heap.size w w' := by
  by_cases h : 0 ≤ a ∧ a ≤ 4
  · obtain rfl | rfl | rfl | rfl | rfl : a = 0 ∨ a = 1 ∨ a = 2 ∨ a = 3 ∨ a = 4 := by omega
    · exact ⟨_, rfl, impl_0 w⟩
    · exact ⟨_, rfl, impl_1 w⟩
    · exact ⟨_, rfl, impl_2 w⟩
    · exact ⟨_, rfl, impl_3 w⟩
    · exact ⟨_, rfl, impl_4 w⟩
  · refine ⟨⟨#[]⟩, ?_, impl_out a w h⟩
    have e : spec_l1In.f a 0 4 = some false := by
      unfold spec_l1In.f
      by_cases h0 : a ≥ 0
      · rw [if_pos h0]; simp; omega
      · rw [if_neg h0]
    unfold spec_StName.f
    rw [e]; rfl
def laws_FnExactStName.f (a0 : Int) : Option Bool := some true
theorem laws_FnExactStName.calls (a0 : Int) (r : Bool) (w : World) (h : laws_FnExactStName.f a0 = some r) :
    Calls Try.prog 3 #[.int .i64 a0] w fun e w' => e = .returned (.bool r) ∧ Below w.heap.size w w' := by
  obtain rfl := Option.some.inj h
  obtain ⟨s, hs, _⟩ := both a0 w
  have himpl : ∀ w, Calls Try.prog 10 #[.int .i64 a0] w fun e w' => e = .returned (.string s) ∧ Below w.heap.size w w' := fun w => by
    obtain ⟨s', hs', h⟩ := both a0 w
    rw [hs] at hs'
    obtain rfl := Option.some.inj hs'
    exact h
  have HI := _root_.Go.Lib.hid himpl
  have HS := _root_.Go.Lib.hid hs
  clear himpl hs h
  go_enter Try.func3, Try.ntmps3
  go_wp2_with (first | (go_at_call 9; refine (spec_StName.calls _ _ _ HS.out).mono ?_; rintro e w1 ⟨rfl, hb1⟩) | (go_at_call 10; refine (HI.out _).mono ?_; rintro e w2 ⟨rfl, hb2⟩))
  go_ret
  exact ⟨rfl, hb1.trans (hb2.mono hb1.size)⟩
end Go.Proofs.Ytjeadgnoladnjaa.PFnExactStName
