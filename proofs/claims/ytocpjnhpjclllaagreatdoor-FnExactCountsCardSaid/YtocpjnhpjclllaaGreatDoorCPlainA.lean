/- Words, texts, sums: what both programs write and read. -/
import Derived.Test.YtocpjnhpjclllaaGreatDoorCFunA
import Derived.Test.YtocpjnhpjclllaaGreatDoorCFunB
import Derived.Test.YtocpjnhpjclllaaGreatDoorFilP
set_option linter.unusedSimpArgs false
namespace F5
open Go Go.Fil Go.Proofs
set_option maxRecDepth 100000
set_option linter.unusedVariables false
theorem br_ite {ρ : Type} (c : Bool) (x y : Option ρ) : br c x y = if c = true then x else y := by cases c <;> rfl
theorem isIn_eq (K : Nat) (a b c : Int) : g_impl_isIn K a b c = some (decide (b ≤ a) && decide (a ≤ c)) := by
  rw [g_impl_isIn.eq]
  by_cases h : b ≤ a
  · simp only [decide_eq_true h, br_t, Bool.true_and]
  · simp only [decide_eq_false h, br_f, Bool.false_and]
theorem l1In_eq (K : Nat) (a b c : Int) : g_spec_l1In K a b c = some (decide (b ≤ a) && decide (a ≤ c)) := by
  rw [g_spec_l1In.eq]
  by_cases h : b ≤ a
  · have h1 : decide ((a : Int) ≥ b) = true := decide_eq_true h
    have h2 : decide (b ≤ a) = true := decide_eq_true h
    simp only [h1, h2, br_t, Bool.true_and]
  · have h1 : decide ((a : Int) ≥ b) = false := decide_eq_false h
    have h2 : decide (b ≤ a) = false := decide_eq_false h
    simp only [h1, h2, br_f, Bool.false_and]
theorem both_self {ρ : Type} (x : Option ρ) : both x x = x := by unfold both; simp
theorem clone_eq (K : Nat) (x : List Int) (h : x.length ≤ 1048576) : g_slices_Clone_S_byte K x = some x := by
  rw [g_slices_Clone_S_byte.eq]
  have d : decide ((List.length ([] : List Int) + List.length x) * 1 ≤ 140737488355328) = true := decide_eq_true (by simp; omega)
  cases x with
  | nil =>
    show both (some []) (br _ (some ([] ++ [])) none) = _
    rw [d, br_t]
    exact both_self _
  | cons a x =>
    show br _ _ _ = _
    rw [d, br_t]; rfl
/-! ### whole numbers of few bits -/
theorem wrap_u8 (x : Int) : IntKind.wrap .u8 x = x % 256 := by
  simp [IntKind.wrap, IntKind.bits, IntKind.signed]
theorem bv_small (x : Int) (h0 : 0 ≤ x) (h1 : x < 18446744073709551616) : (BitVec.ofInt 64 x).toNat = x.toNat := by
  rw [BitVec.toNat_ofInt, Int.emod_eq_of_lt h0 (by simpa using h1)]
theorem and255 (x : Int) : Fil.bits .and .i64 x 255 = x % 256 := by
  show IntKind.wrap .i64 (((BitVec.ofInt 64 x &&& BitVec.ofInt 64 255 : BitVec 64).toNat : Nat) : Int) = _
  rw [BitVec.toNat_and]
  have h : (BitVec.ofInt 64 (255 : Int)).toNat = 2 ^ 8 - 1 := by decide
  rw [h, Nat.and_two_pow_sub_one_eq_mod, BitVec.toNat_ofInt]
  rw [wrap_id (by omega) (by omega)]
  omega
def hi (n : Int) : Int := IntKind.wrap .u8 (Int.fdiv n (2 ^ (min (Int.toNat 8) (IntKind.bits .i64))))
def lo (n : Int) : Int := IntKind.wrap .u8 n
/-- A word's bytes behind others. -/
def pw (b : List Int) (n : Int) : List Int := b ++ [hi n, lo n]
theorem wrap_and255 (x : Int) : IntKind.wrap .u8 (Fil.bits .and .i64 x 255) = IntKind.wrap .u8 x := by
  rw [and255, wrap_u8, wrap_u8]; omega
theorem pw_len (b : List Int) (n : Int) : (pw b n).length = b.length + 2 := by simp [pw]
theorem putWord_i (K : Nat) (b : List Int) (n : Int) (h : b.length ≤ 1000000) : g_impl_PutWord K b n = some (pw b n) := by
  rw [g_impl_PutWord.eq, clone_eq K b (by omega), Option.bind_some, br_false (by decide), br_true (decide_eq_true (by simp; omega))]
  rfl
theorem putWord_s (K : Nat) (b : List Int) (n : Int) (h : b.length ≤ 1000000) : g_spec_PutWord K b n = some (pw b n) := by
  rw [g_spec_PutWord.eq, br_true (decide_eq_true (by simp; omega)), br_false (by decide), br_true (decide_eq_true (by simp; omega)), wrap_and255, wrap_and255]
  rfl
theorem or8 (a b : Int) (h0 : 0 ≤ a) (h1 : a ≤ 255) (g0 : 0 ≤ b) (g1 : b ≤ 255) : Fil.bits .or .i64 (IntKind.wrap .i64 (a * (2 ^ (min (Int.toNat 8) (IntKind.bits .i64))))) b = a * 256 + b := by
  have e : (2 : Int) ^ (min (Int.toNat 8) (IntKind.bits .i64)) = 256 := by decide
  rw [e, wrap_id (by omega) (by omega)]
  show IntKind.wrap .i64 (((BitVec.ofInt 64 (a * 256) ||| BitVec.ofInt 64 b : BitVec 64).toNat : Nat) : Int) = _
  rw [BitVec.toNat_or, bv_small _ (by omega) (by omega), bv_small _ (by omega) (by omega)]
  obtain ⟨p, rfl⟩ := Int.eq_ofNat_of_zero_le h0
  obtain ⟨q, rfl⟩ := Int.eq_ofNat_of_zero_le g0
  have e1 : (((p : Int) * 256).toNat) = 2 ^ 8 * p := by omega
  have e2 : ((q : Int)).toNat = q := by omega
  rw [e1, e2, ← Nat.two_pow_add_eq_or_of_lt (by omega) p]
  rw [wrap_id (by omega) (by omega)]
  omega
/-! ### sums -/
theorem sum_eq (K : Nat) (x : List Int) : ∀ (n : Nat) (v3 v4 : Int), L_impl_Sum_3 K n x v3 v4 = L_spec_Sum_3 K n x v3 v4
  | 0, v3, v4 => by rw [L_impl_Sum_3.zero, L_spec_Sum_3.zero]
  | n + 1, v3, v4 => by
    have inner : ∀ (k : Nat) (v3 v5 : Int), L_impl_Sum_7 K k n x v4 v3 v5 = L_spec_Sum_7 K k n x v4 v3 v5 := by
      intro k
      induction k with
      | zero => intro v3 v5; rw [L_impl_Sum_7.zero, L_spec_Sum_7.zero]
      | succ k ih =>
        intro v3 v5
        have e : (2 : Int) ^ (min (Int.toNat 1) (IntKind.bits .i64)) = 2 := by decide
        rw [L_impl_Sum_7.step, L_spec_Sum_7.step, br_false (c := decide ((1 : Nat) < 0)) (by decide), e, ih, ih, sum_eq K x n]
    have e : (2 : Int) ^ (min (Int.toNat 8) (IntKind.bits .i64)) = 256 := by decide
    rw [L_impl_Sum_3.step, L_spec_Sum_3.step, br_false (c := decide ((8 : Nat) < 0)) (by decide), e, inner, Int.mul_comm 256]
theorem sum_run {K : Nat} (hK : maxLen + 2 ≤ K) (x : List Int) (hl : List.length x ≤ 1048576) : ∀ (q n v : Nat) (s : Int), v + q = List.length x → q < n → ∃ r, L_spec_Sum_3 K n x s (v : Int) = some r
  | 0, n + 1, v, s, hv, _ => by
    rw [L_spec_Sum_3.step, br_false (decide_eq_false (by omega))]
    exact ⟨_, rfl⟩
  | q + 1, n + 1, v, s, hv, hn => by
    have hm : maxLen = 2 ^ 63 - 1 := rfl
    have inner : ∀ (p k t : Nat) (s : Int), t + p = 8 → p < k → ∃ r, L_spec_Sum_7 K k n x (v : Int) s (t : Int) = some r := by
      intro p
      induction p with
      | zero =>
        intro k t s ht hk
        obtain ⟨k, rfl⟩ : ∃ m, k = m + 1 := ⟨k - 1, by omega⟩
        rw [L_spec_Sum_7.step, br_false (decide_eq_false (by omega)), wrap_id (by omega) (by omega)]
        exact sum_run hK x hl q n (v + 1) s (by omega) (by omega)
      | succ p ih =>
        intro k t s ht hk
        obtain ⟨k, rfl⟩ : ∃ m, k = m + 1 := ⟨k - 1, by omega⟩
        rw [L_spec_Sum_7.step, br_true (decide_eq_true (by omega)), br_false (c := decide ((1 : Nat) < 0)) (by decide), wrap_id (k := (t : Int) + 1) (by omega) (by omega)]
        have := fun s => ih k (t + 1) s (by omega) (by omega)
        cases decide (((IntKind.wrap .i64 (s * (2 ^ (min (Int.toNat 1) (IntKind.bits .i64))))) : Int) > 65535)
        · exact this _
        · exact this _
    rw [L_spec_Sum_3.step, br_true (decide_eq_true (by omega)), br_true (in_true (by omega) (by omega)), br_false (c := decide ((8 : Nat) < 0)) (by decide)]
    exact inner 8 K 0 _ (by omega) (by omega)
  | _, 0, _, _, _, h => absurd h (Nat.not_lt_zero _)
theorem sum {K : Nat} (hK : maxLen + 2 ≤ K) (x : List Int) (hl : List.length x ≤ 1048576) : ∃ r, g_spec_Sum K x = some r ∧ g_impl_Sum K x = some r := by
  have hm : maxLen = 2 ^ 63 - 1 := rfl
  obtain ⟨r, h⟩ := sum_run hK x hl (List.length x) K 0 65535 (by omega) (by omega)
  exact ⟨r, by rw [g_spec_Sum.eq]; exact h, by rw [g_impl_Sum.eq, sum_eq]; exact h⟩
/-! ### texts -/
theorem text_loop {K : Nat} (s : ByteArray) (hl : s.size ≤ 1048576) : ∀ (q v k : Nat), v + q = s.size → q < k → ∃ r, L_spec_TextOk_2 K k s (v : Int) = some r ∧ L_impl_TextOk_2 K k s (v : Int) = some r ∧ (100 < s.size → r = false)
  | 0, v, k + 1, hv, hk => by
    have hlt : decide ((v : Int) < ((s.size : Nat) : Int)) = false := decide_eq_false (by omega)
    rw [L_spec_TextOk_2.step, L_impl_TextOk_2.step]
    simp only [hlt, br_f]
    exact ⟨_, rfl, rfl, fun h => decide_eq_false (by omega)⟩
  | q + 1, v, k + 1, hv, hk => by
    have hin : (decide (0 ≤ (v : Int)) && decide ((v : Int) < (s.size : Int))) = true := in_true (by omega) (by omega)
    have hlt : decide ((v : Int) < ((s.size : Nat) : Int)) = true := decide_eq_true (by omega)
    rw [L_spec_TextOk_2.step, L_impl_TextOk_2.step]
    simp only [hin, hlt, br_t]
    rw [wrap_id (by omega) (by omega)]
    obtain ⟨r, h1, h2, h3⟩ := text_loop s hl q (v + 1) k (by omega) (by omega)
    by_cases hv100 : (v : Int) ≤ 100
    · have h100 : decide ((v : Int) ≤ 100) = true := decide_eq_true hv100
      simp only [h100, br_t]
      cases decide (((bt s v) : Int) < 32)
      · cases decide (((bt s v) : Int) > 126)
        · exact ⟨r, h1, h2, h3⟩
        · exact ⟨false, rfl, rfl, fun _ => rfl⟩
      · exact ⟨false, rfl, rfl, fun _ => rfl⟩
    · have h100 : decide ((v : Int) ≤ 100) = false := decide_eq_false hv100
      have hs : decide (((s.size : Nat) : Int) ≤ 100) = false := decide_eq_false (by omega)
      simp only [h100, br_f, hs]
      have hr := h3 (by omega)
      subst hr
      cases decide (((bt s v) : Int) < 32)
      · cases decide (((bt s v) : Int) > 126)
        · exact ⟨false, rfl, h2, fun _ => rfl⟩
        · exact ⟨false, rfl, rfl, fun _ => rfl⟩
      · exact ⟨false, rfl, rfl, fun _ => rfl⟩
  | _, _, 0, _, h => absurd h (Nat.not_lt_zero _)
theorem textOk {K : Nat} (hK : maxLen + 2 ≤ K) (s : ByteArray) (hl : s.size ≤ 1048576) : ∃ r, g_spec_TextOk K s = some r ∧ g_impl_TextOk K s = some r ∧ (r = true → s.size ≤ 100) := by
  have hm : maxLen = 2 ^ 63 - 1 := rfl
  obtain ⟨r, h1, h2, h3⟩ := text_loop (K := K) s hl s.size 0 K (by omega) (by omega)
  exact ⟨r, by rw [g_spec_TextOk.eq]; exact h1, by rw [g_impl_TextOk.eq]; exact h2, fun hr => by
    by_cases h : 100 < s.size
    · rw [h3 h] at hr; cases hr
    · omega⟩
theorem text_empty {K : Nat} (hK : maxLen + 2 ≤ K) : g_spec_TextOk K (⟨#[]⟩ : ByteArray) = some true := by
  obtain ⟨k, rfl⟩ : ∃ m, K = m + 1 := ⟨K - 1, by omega⟩
  rw [g_spec_TextOk.eq, L_spec_TextOk_2.step]
  rfl
theorem bytesOf_len (s : ByteArray) : (bytesOf s).length = s.size := by simp [bytesOf]
/-- A text behind bytes. -/
def pt (b : List Int) (s : ByteArray) : List Int := b ++ [IntKind.wrap .u8 ((s.size : Nat) : Int)] ++ bytesOf s
theorem putText {K : Nat} (hK : maxLen + 2 ≤ K) (b : List Int) (s : ByteArray) (h : b.length ≤ 1000) (hs : s.size ≤ 1000) : ∃ t, g_spec_TextOk K s = some t ∧ g_spec_PutText K b s = some (if t = true then pt b s else b) ∧ g_impl_PutText K b s = some (if t = true then pt b s else b) := by
  obtain ⟨t, h1, h2, _⟩ := textOk hK s (by omega)
  refine ⟨t, h1, ?_, ?_⟩
  · rw [g_spec_PutText.eq, br_true (decide_eq_true (by simp; omega)), h1, Option.bind_some]
    cases t
    · rfl
    · show br false _ _ = _
      rw [br_f, br_true (decide_eq_true (by simp; omega)), br_true (decide_eq_true (by simp; omega))]
      rfl
  · rw [g_impl_PutText.eq, clone_eq K b (by omega), h2, Option.bind_some, Option.bind_some]
    cases t
    · rfl
    · show br false _ _ = _
      rw [br_f, br_true (decide_eq_true (by simp; omega)), br_true (decide_eq_true (by simp; omega))]
      rfl
end F5
