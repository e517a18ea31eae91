/- Said's plain law, a part: the program's text and the reference's come to the same. -/
import Derived.Test.YtgcelhejmpcchaaPlainSaidB
namespace F2
set_option linter.unusedSimpArgs false
set_option linter.unusedSectionVars false
open Go Go.Fil Go.Proofs
set_option maxRecDepth 100000
set_option linter.unusedVariables false
theorem foldl_push_size : ∀ (xs : List Int) (r : ByteArray), (xs.foldl (fun r n => r.push (UInt8.ofNat n.toNat)) r).size = r.size + xs.length
  | [], r => rfl
  | x :: xs, r => by
    rw [List.foldl_cons, foldl_push_size xs]
    have : (r.push (UInt8.ofNat x.toNat)).size = r.size + 1 := by
      obtain ⟨d⟩ := r
      exact Array.size_push ..
    rw [this, List.length_cons]; omega
theorem strOf_size (xs : List Int) : (strOf xs).size = xs.length := by
  unfold strOf
  rw [foldl_push_size]
  show 0 + _ = _
  omega
theorem getFrame2 {K : Nat} (hK : maxLen + 2 ≤ K) (a c : Int) (r : List Int) (h0 : 0 ≤ a) (h255 : a ≤ 255) (c0 : 0 ≤ c) (c255 : c ≤ 255) (hl : r.length ≤ 1048576) : GF K (a :: c :: r) := by
  unfold GF
  have hwa : IntKind.wrap .i64 a = a := wrap_id (by omega) (by omega)
  have hwc : IntKind.wrap .i64 c = c := wrap_id (by omega) (by omega)
  have hw2 : IntKind.wrap .i64 (2 + c) = 2 + c := wrap_id (by omega) (by omega)
  have hN : ((List.length (a :: c :: r) : Nat) : Int) = (r.length : Int) + 2 := by simp; omega
  have hwn : IntKind.wrap .i64 ((r.length : Int) + 2 - 2) = (r.length : Int) := by rw [wrap_id (by omega) (by omega)]; omega
  have n0 : (((r.length : Int) + 2) == 0) = false := beq_false_of_ne (by omega)
  have n1 : (((r.length : Int) + 2) == 1) = false := beq_false_of_ne (by omega)
  have n2 : decide (((r.length : Int) + 2) < 2) = false := decide_eq_false (by omega)
  have z0 : decide ((0 : Nat) ≤ 0) = true := rfl
  have z1 : decide ((0 : Nat) ≤ 1) = true := rfl
  have z2 : decide ((0 : Nat) ≤ 2) = true := rfl
  have i0 : decide (0 < (r.length : Int) + 2) = true := decide_eq_true (by omega)
  have i1 : decide (1 < (r.length : Int) + 2) = true := decide_eq_true (by omega)
  obtain ⟨t3, ht3, ht3'⟩ := frameOk_eq hK (a, ((⟨#[]⟩ : ByteArray), (0, ()))) (show (0 : Nat) ≤ 1048576 by decide)
  obtain ⟨t5, ht5, ht5'⟩ := frameOk_eq hK (a, ((⟨#[]⟩ : ByteArray), (c, ()))) (show (0 : Nat) ≤ 1048576 by decide)
  have hsz : (strOf (List.drop (Int.toNat 2) (List.take (Int.toNat (2 + c)) (a :: c :: r)))).size ≤ 1048576 := by
    rw [strOf_size]; simp; omega
  obtain ⟨tt, htt, htt'⟩ := frameOk_eq hK (a, (strOf (List.drop (Int.toNat 2) (List.take (Int.toNat (2 + c)) (a :: c :: r))), (0, ()))) hsz
  rw [g82.eq, g85.eq]
  simp only [show List.getD (a :: c :: r) (Int.toNat 0) 0 = a from rfl, show List.getD (a :: c :: r) (Int.toNat 1) 0 = c from rfl, hwa, hwc, hw2, hN, hwn, in_val, n0, n1, n2, i0, i1, z0, z1, z2, Bool.true_and, br_t, br_f, ht3, ht3', ht5, ht5', htt, htt', Option.bind_some]
  by_cases h3 : a = 3
  · subst h3
    cases t3
    · exact ⟨_, rfl, rfl, fun h => absurd h (by decide)⟩
    · exact ⟨_, rfl, rfl, fun _ => ⟨by decide, by show (1 : Int) ≤ _; omega⟩⟩
  · have e3 : ((a : Int) == 3) = false := beq_false_of_ne h3
    by_cases h5 : a = 5
    · subst h5
      cases t5
      · exact ⟨_, rfl, rfl, fun h => absurd h (by decide)⟩
      · exact ⟨_, rfl, rfl, fun _ => ⟨by show (1 : Int) ≤ 2; decide, by show (2 : Int) ≤ _; omega⟩⟩
    · have e5 : ((a : Int) == 5) = false := beq_false_of_ne h5
      by_cases hr : 1 ≤ a ∧ a ≤ 6
      · have er : (decide (1 ≤ a) && decide (a ≤ 6)) = true := by simp [hr.1, hr.2]
        have text : ∀ z : Option (Ty.pair y106 (Ty.pair y2 (Ty.pair y2 Ty.unit))).T, True := fun _ => trivial
        by_cases hc : c > 100
        · have dc : decide (c > 100) = true := decide_eq_true hc
          have : a = 1 ∨ a = 2 ∨ a = 4 ∨ a = 6 := by omega
          simp only [e3, e5, er, dc, br_f, br_t, Bool.not_true]
          rcases this with rfl | rfl | rfl | rfl <;> exact ⟨_, rfl, rfl, fun h => absurd h (by decide)⟩
        · have dc : decide (c > 100) = false := decide_eq_false hc
          by_cases hw : c > (r.length : Int)
          · have dw : decide (c > (r.length : Int)) = true := decide_eq_true hw
            have dw2 : decide ((r.length : Int) + 2 < 2 + c) = true := decide_eq_true (by omega)
            have : a = 1 ∨ a = 2 ∨ a = 4 ∨ a = 6 := by omega
            simp only [e3, e5, er, dc, dw, dw2, br_f, br_t, Bool.not_true]
            rcases this with rfl | rfl | rfl | rfl <;> exact ⟨_, rfl, rfl, fun h => absurd h (by decide)⟩
          · have dw : decide (c > (r.length : Int)) = false := decide_eq_false hw
            have dw2 : decide ((r.length : Int) + 2 < 2 + c) = false := decide_eq_false (by omega)
            have d1 : (decide (0 ≤ 2 + c) && decide (2 + c ≤ (r.length : Int) + 2)) = true := by simp; omega
            have d2 : decide ((2 : Int) ≤ ((Int.toNat (2 + c) : Nat) : Int)) = true := decide_eq_true (by omega)
            have : a = 1 ∨ a = 2 ∨ a = 4 ∨ a = 6 := by omega
            simp only [e3, e5, er, dc, dw, dw2, d1, d2, br_f, br_t, Bool.not_true]
            cases tt
            · rcases this with rfl | rfl | rfl | rfl <;> exact ⟨_, rfl, rfl, fun h => absurd h (by decide)⟩
            · rcases this with rfl | rfl | rfl | rfl <;> exact ⟨_, rfl, rfl, fun _ => ⟨by show (1 : Int) ≤ 2 + c; omega, by show 2 + c ≤ _; omega⟩⟩
      · have hb := frame_bad (K := K) (a, ((⟨#[]⟩ : ByteArray), (0, ()))) (by show a ≠ 1; omega) (by show a ≠ 2; omega) h3 (by show a ≠ 4; omega) h5 (by show a ≠ 6; omega)
        rw [hb] at ht3'
        obtain rfl : false = t3 := Option.some.inj ht3'
        have e1 : ((a : Int) == 1) = false := beq_false_of_ne (by omega)
        have e2 : ((a : Int) == 2) = false := beq_false_of_ne (by omega)
        have e4 : ((a : Int) == 4) = false := beq_false_of_ne (by omega)
        have e6 : ((a : Int) == 6) = false := beq_false_of_ne (by omega)
        have er : (decide (1 ≤ a) && decide (a ≤ 6)) = false := by
          rw [← Bool.not_eq_true, Bool.and_eq_true, decide_eq_true_eq, decide_eq_true_eq]
          exact hr
        simp only [e1, e2, e3, e4, e5, e6, er, br_f, Bool.not_false, br_t]
        exact ⟨_, rfl, rfl, fun h => absurd h (by decide)⟩
end F2
