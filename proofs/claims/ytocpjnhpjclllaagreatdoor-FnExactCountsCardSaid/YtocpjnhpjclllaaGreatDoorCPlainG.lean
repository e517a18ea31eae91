/- Records: what both programs read off a sector. -/
import Derived.Test.YtocpjnhpjclllaaGreatDoorCPlainF
set_option linter.unusedSimpArgs false
namespace F5
open Go Go.Fil Go.Proofs Go.Fil.Cf
set_option maxRecDepth 100000
set_option linter.unusedVariables false
theorem br_some {ρ : Type} (c : Bool) (a b : ρ) : br c (some a) (some b) = some (if c = true then a else b) := by cases c <;> rfl
def Bytes (x : List Int) : Prop := ∀ b ∈ x, 0 ≤ b ∧ b ≤ 255
theorem foldl_push (xs : List Int) : ∀ r : ByteArray, tl (xs.foldl (fun r n => r.push (UInt8.ofNat n.toNat)) r) = tl r ++ xs.map (fun n => UInt8.ofNat n.toNat) := by
  induction xs with
  | nil => intro r; simp
  | cons x xs ih =>
    intro r
    rw [List.foldl_cons, ih]
    simp [tl, ByteArray.push]
theorem tl_strOf (xs : List Int) : tl (strOf xs) = xs.map (fun n => UInt8.ofNat n.toNat) := by
  unfold strOf
  rw [foldl_push]
  rfl
theorem strOf_len (xs : List Int) : (strOf xs).size = xs.length := by rw [← tl_len, tl_strOf, List.length_map]
theorem getD_in {x : List Int} (h : Bytes x) {i : Nat} (hi : i < x.length) : 0 ≤ x.getD i 0 ∧ x.getD i 0 ≤ 255 := by
  rw [List.getD_eq_getElem?_getD, List.getElem?_eq_getElem hi]
  exact h _ (List.getElem_mem hi)
theorem getWord (K : Nat) (x : List Int) (i : Nat) (hB : Bytes x) (hl : x.length ≤ 1048576) (hi : i ≤ 1048576) : ∃ r, g_spec_GetWord K x (i : Int) = some r ∧ g_impl_GetWord K x (i : Int) = some r ∧ (r.2.2.1 = true ↔ i + 2 ≤ x.length) := by
  rw [g_spec_GetWord.eq, g_impl_GetWord.eq, isIn_eq, Option.bind_some, br_false (c := decide ((i : Int) < 0)) (decide_eq_false (by omega))]
  by_cases h : i + 2 ≤ x.length
  · have hw : IntKind.wrap .i64 (((x.length : Nat) : Int) - 2) = ((x.length : Nat) : Int) - 2 := wrap_id (by omega) (by omega)
    have hw1 : IntKind.wrap .i64 ((i : Int) + 1) = (i : Int) + 1 := wrap_id (by omega) (by omega)
    have g1 := getD_in hB (i := i) (by omega)
    have g2 := getD_in hB (i := i + 1) (by omega)
    have e1 : (i : Int).toNat = i := by omega
    have e2 : ((i : Int) + 1).toNat = i + 1 := by omega
    rw [hw, hw1, e1, e2]
    rw [br_false (decide_eq_false (by omega)), br_true (by simp; omega), br_true (by simp; omega), br_false (by simp; omega), br_true (by simp; omega), br_false (c := decide ((8 : Nat) < 0)) (by decide), br_true (by simp; omega)]
    rw [wrap_id (k := x.getD i 0) (by omega) (by omega), wrap_id (k := x.getD (i + 1) 0) (by omega) (by omega), or8 _ _ g1.1 g1.2 g2.1 g2.2, wrap_id (k := x.getD i 0 * 256) (by omega) (by omega), wrap_id (k := x.getD i 0 * 256 + x.getD (i + 1) 0) (by omega) (by omega)]
    exact ⟨_, rfl, rfl, by simp; omega⟩
  · have hw : IntKind.wrap .i64 (((x.length : Nat) : Int) - 2) = ((x.length : Nat) : Int) - 2 := wrap_id (by omega) (by omega)
    rw [hw, br_true (decide_eq_true (by omega)), br_true (by simp; omega)]
    exact ⟨_, rfl, rfl, by simp; omega⟩
theorem empty_size : ByteArray.size (⟨#[]⟩ : ByteArray) = 0 := rfl
theorem getText {K : Nat} (hK : maxLen + 2 ≤ K) (x : List Int) (i : Nat) (hB : Bytes x) (hl : x.length ≤ 1048576) (hi : i ≤ 1048576) : ∃ r, g_spec_GetText K x (i : Int) = some r ∧ g_impl_GetText K x (i : Int) = some r ∧ g_spec_TextOk K r.1 = some true ∧ r.1.size ≤ 100 ∧ (r.2.2.1 = false → r.1 = ⟨#[]⟩) ∧ (i < x.length → x.getD i 0 = 0 → r.2.2.1 = true) := by
  rw [g_spec_GetText.eq, g_impl_GetText.eq, isIn_eq, Option.bind_some, br_false (c := decide ((i : Int) < 0)) (decide_eq_false (by omega))]
  have hw : IntKind.wrap .i64 (((x.length : Nat) : Int) - 1) = ((x.length : Nat) : Int) - 1 := wrap_id (by omega) (by omega)
  rw [hw]
  have hno : ∀ P : Prop, ¬ P → ∃ r : ByteArray × (Int × (Bool × Unit)), some ((⟨#[]⟩ : ByteArray), ((0 : Int), (false, ()))) = some r ∧ some ((⟨#[]⟩ : ByteArray), ((0 : Int), (false, ()))) = some r ∧ g_spec_TextOk K r.1 = some true ∧ r.1.size ≤ 100 ∧ (r.2.2.1 = false → r.1 = ⟨#[]⟩) ∧ (P → r.2.2.1 = true) :=
    fun P hP => ⟨_, rfl, rfl, text_empty hK, by rw [empty_size]; omega, fun _ => rfl, fun h => absurd h hP⟩
  by_cases h : i < x.length
  · have g1 := getD_in hB (i := i) h
    have e1 : (i : Int).toNat = i := by omega
    have hw1 : IntKind.wrap .i64 ((i : Int) + 1) = (i : Int) + 1 := wrap_id (by omega) (by omega)
    rw [br_false (decide_eq_false (by omega)), br_true (by simp; omega), br_false (c := !(decide ((0 : Int) ≤ (i : Int)) && decide ((i : Int) ≤ ((x.length : Nat) : Int) - 1))) (by simp; omega), e1, hw1]
    have hin : (decide ((0 : Int) ≤ (i : Int)) && decide ((i : Int) < ((x.length : Nat) : Int))) = true := by simp; omega
    rw [hin, br_t, br_t]
    generalize hn : x.getD i 0 = n at *
    rw [wrap_id (k := n) (by omega) (by omega), wrap_id (k := ((x.length : Nat) : Int) - (i : Int)) (by omega) (by omega), wrap_id (k := ((x.length : Nat) : Int) - (i : Int) - 1) (by omega) (by omega), wrap_id (k := (i : Int) + 1 + n) (by omega) (by omega)]
    by_cases hb : n > ((x.length : Nat) : Int) - (i : Int) - 1
    · rw [br_true (decide_eq_true hb), br_true (decide_eq_true hb)]
      obtain ⟨r, r1, r2, r3, r4, r5, r6⟩ := hno (n = 0) (by omega)
      exact ⟨r, r1, r2, r3, r4, r5, fun _ => r6⟩
    · have hin2 : (decide ((0 : Int) ≤ (i : Int) + 1 + n) && decide ((i : Int) + 1 + n ≤ ((x.length : Nat) : Int))) = true := by simp; omega
      have hin3 : (decide ((0 : Int) ≤ (i : Int) + 1) && decide ((i : Int) + 1 ≤ (((((i : Int) + 1 + n).toNat : Nat)) : Int))) = true := by simp; omega
      rw [br_false (decide_eq_false hb), br_false (decide_eq_false hb), hin2, hin3]
      simp only [br_t]
      have hs : (strOf (List.drop (((i : Int) + 1).toNat) (List.take (((i : Int) + 1 + n).toNat) x))).size = n.toNat := by
        rw [strOf_len, List.length_drop, List.length_take]; omega
      generalize strOf (List.drop (((i : Int) + 1).toNat) (List.take (((i : Int) + 1 + n).toNat) x)) = s at *
      obtain ⟨t, t1, t2, t3⟩ := textOk hK s (by omega)
      rw [t1, t2, Option.bind_some]
      cases t with
      | true =>
        rw [br_false (c := !true) rfl]
        exact ⟨_, rfl, rfl, t1, t3 rfl, (fun h => by cases h), fun _ _ => rfl⟩
      | false =>
        rw [br_true (c := !false) rfl]
        obtain ⟨r, r1, r2, r3, r4, r5, r6⟩ := hno (n = 0) (fun h0 => by
          have hz : s = ⟨#[]⟩ := tl_inj (List.eq_nil_of_length_eq_zero (by rw [tl_len]; omega))
          rw [hz, text_empty hK] at t1
          cases t1)
        exact ⟨r, r1, r2, r3, r4, r5, fun _ => r6⟩
  · rw [br_true (decide_eq_true (by omega)), br_true (by simp; omega)]
    obtain ⟨r, r1, r2, r3, r4, r5, r6⟩ := hno (i < x.length) h
    exact ⟨r, r1, r2, r3, r4, r5, fun h => absurd h (by omega)⟩
theorem recOk {K : Nat} (hK : maxLen + 2 ≤ K) (r : S_impl_Rec) (hs : r.2.2.2.1.size ≤ 100) : ∃ b, g_spec_RecOk K r = some b ∧ g_impl_RecOk K r = some b ∧ (b = true → r.1 = 1 ∨ r.1 = 2 ∨ r.1 = 3) := by
  obtain ⟨c, h1, h2, _⟩ := confT hK r.2.2.2.1 hs
  rw [g_spec_RecOk.eq, g_impl_RecOk.eq]
  simp only [l1In_eq, isIn_eq, h1, h2, Option.bind_some, br_some]
  refine ⟨_, rfl, rfl, ?_⟩
  intro h
  simp only [beq_iff_eq] at h
  by_cases k1 : r.1 = 1
  · exact .inl k1
  by_cases k2 : r.1 = 2
  · exact .inr (.inl k2)
  by_cases k3 : r.1 = 3
  · exact .inr (.inr k3)
  rw [if_neg k1, if_neg k2, if_neg k3] at h
  split at h <;> cases h
theorem headOf {K : Nat} (hK : maxLen + 2 ≤ K) (a b : Int) : ∃ l, g_spec_HeadOf K a b = some l ∧ g_impl_HeadOf K a b = some l ∧ (l = [] ∨ (l.length = 6 ∧ 1 ≤ a)) := by
  rw [g_spec_HeadOf.eq, g_impl_HeadOf.eq]
  simp only [l1In_eq, isIn_eq, Option.bind_some]
  by_cases h1 : 1 ≤ a ∧ a ≤ 60000
  · by_cases h2 : 0 ≤ b ∧ b ≤ 18
    · have l1 : (pw [] a).length = 2 := rfl
      have l2 : (pw (pw [] a) b).length = 4 := by rw [pw_len, l1]
      obtain ⟨s, s1, s2⟩ := sum hK (pw (pw [] a) b) (by omega)
      have e1 : (!(decide (1 ≤ a) && decide (a ≤ 60000))) = false := by simp [h1.1, h1.2]
      have e2 : (!(decide (0 ≤ b) && decide (b ≤ 18))) = false := by simp [h2.1, h2.2]
      rw [e1, e2]
      simp only [br_f]
      rw [putWord_s K [] a (by simp), putWord_i K [] a (by simp), Option.bind_some, Option.bind_some, putWord_s K _ b (by omega), putWord_i K _ b (by omega), Option.bind_some, Option.bind_some, s1, s2, Option.bind_some, Option.bind_some, putWord_s K _ s (by omega), putWord_i K _ s (by omega)]
      exact ⟨_, rfl, rfl, .inr ⟨by rw [pw_len, l2], h1.1⟩⟩
    · have e2 : (!(decide (0 ≤ b) && decide (b ≤ 18))) = true := by
        rw [Bool.not_eq_true', Bool.and_eq_false_iff, decide_eq_false_iff_not, decide_eq_false_iff_not]; omega
      rw [e2]
      simp only [br_t, br_some]
      exact ⟨[], by split <;> rfl, by split <;> rfl, .inl rfl⟩
  · have e1 : (!(decide (1 ≤ a) && decide (a ≤ 60000))) = true := by
      rw [Bool.not_eq_true', Bool.and_eq_false_iff, decide_eq_false_iff_not, decide_eq_false_iff_not]; omega
    rw [e1]
    exact ⟨[], rfl, rfl, .inl rfl⟩
theorem strOf_ne {a b : List Int} (h : a.length ≠ b.length) : strEq (strOf a) (strOf b) = false :=
  strEq_f (fun e => h (by rw [← strOf_len, e, strOf_len]))
theorem getHead {K : Nat} (hK : maxLen + 2 ≤ K) (x : List Int) (hB : Bytes x) (hl : x.length ≤ 1048576) : ∃ r : Int × (Int × (Bool × Unit)), g_spec_GetHead K x = some r ∧ g_impl_GetHead K x = some r ∧ (r.2.2.1 = true → 1 ≤ r.1) := by
  obtain ⟨u, u1, u2, _⟩ := getWord K x 0 hB hl (by omega)
  obtain ⟨v, v1, v2, v3⟩ := getWord K x 2 hB hl (by omega)
  obtain ⟨l, l1, l2, l3⟩ := headOf hK u.1 v.1
  have e0 : ((0 : Nat) : Int) = 0 := rfl
  have e2 : ((2 : Nat) : Int) = 2 := rfl
  rw [e0] at u1 u2
  rw [e2] at v1 v2
  rw [g_spec_GetHead.eq, g_impl_GetHead.eq, u1, u2, v1, v2, Option.bind_some, Option.bind_some, Option.bind_some, Option.bind_some, l1, l2]
  simp only [Option.bind_some, g_spec_l1Same.eq, g_bytes_Equal.eq]
  by_cases h6 : x.length = 6
  · rw [v3.2 (by omega), br_false (c := !true) rfl, br_false (bne_false (by omega)), br_false (c := ((x.length : Nat) : Int) == 0) (beq_false (by omega))]
    rcases l3 with rfl | ⟨h1, h2⟩
    · rw [strOf_ne (by simp; omega)]
      exact ⟨_, rfl, rfl, fun h => by cases h⟩
    · cases strEq (strOf l) (strOf x)
      · exact ⟨_, rfl, rfl, fun h => by cases h⟩
      · exact ⟨_, rfl, rfl, fun h => h2⟩
  · rw [br_true (c := ((x.length : Nat) : Int) != 6) (bne_true (by omega))]
    refine ⟨(0, (0, (false, ()))), by rw [br_some]; split <;> rfl, ?_, fun h => by cases h⟩
    by_cases h0 : x.length = 0
    · rw [br_true (beq_true (by omega))]
    · rw [br_false (beq_false (by omega)), strOf_ne (by rcases l3 with rfl | ⟨h1, _⟩ <;> simp <;> omega)]
      rfl
end F5
