/- Numerals, names, and what a configuration must keep. -/
import Derived.Test.YtocpjnhpjclllaaGreatDoorCPlainB
set_option linter.unusedSimpArgs false
namespace F5
open Go Go.Fil Go.Proofs Go.Fil.Cf
set_option maxRecDepth 100000
set_option linter.unusedVariables false
def dig : Int → List UInt8 → Option Int
  | v, [] => some v
  | v, b :: r => if 48 ≤ b.toNat ∧ b.toNat ≤ 57 then dig (10 * v + ((b.toNat : Int) - 48)) r else none
def enc : Option Int → Int × (Bool × Unit)
  | none => (0, (false, ()))
  | some n => (n, (true, ()))
def upto (mx : Int) : Option Int → Option Int
  | none => none
  | some n => if n > mx then none else some n
def pnum (mx : Int) (l : List UInt8) : Option Int :=
  if l.length = 0 then none else if 5 < l.length then none else if 1 < l.length ∧ l.head? = some 48 then none else upto mx (dig 0 l)
theorem drop_parts {s : List UInt8} {i : Nat} {b : UInt8} {r : List UInt8} (h : s.drop i = b :: r) : ∃ hi : i < s.length, s[i] = b ∧ s.drop (i + 1) = r := by
  have hi : i < s.length := by
    by_cases hi : i < s.length
    · exact hi
    · rw [List.drop_eq_nil_of_le (by omega)] at h; cases h
  rw [List.drop_eq_getElem_cons hi] at h
  injection h with h1 h2
  exact ⟨hi, h1, h2⟩
theorem pow_le (i : Nat) (h : i ≤ 5) : (10 : Int) ^ i ≤ 100000 := by
  have : ∀ i : Fin 6, (10 : Int) ^ i.1 ≤ 100000 := by decide
  exact this ⟨i, by omega⟩
theorem num_s {K : Nat} (s : ByteArray) (mx : Int) (hs : s.size ≤ 5) : ∀ (r : List UInt8) (i k : Nat) (v : Int), (tl s).drop i = r → i + r.length = s.size → 0 ≤ v → v < 10 ^ i → r.length < k → L_spec_ParseNum_5 K k s mx v (i : Int) = some (enc (upto mx (dig v r)))
  | [], i, k + 1, v, h, hi, h0, h1, hk => by
    rw [L_spec_ParseNum_5.step, br_false (decide_eq_false (by simp at hi; omega)), dig, upto]
    by_cases hm : v > mx
    · rw [br_true (decide_eq_true hm), if_pos hm]; rfl
    · rw [br_false (decide_eq_false hm), if_neg hm]; rfl
  | b :: r, i, k + 1, v, h, hi, h0, h1, hk => by
    obtain ⟨hlt, hb, hr⟩ := drop_parts h
    have hlt' : i < s.size := hlt
    have hb2 : b.toNat < 256 := b.toNat_lt
    have hin : (decide (0 ≤ (i : Int)) && decide ((i : Int) < ((s.size : Nat) : Int))) = true := by simp; omega
    have hp := pow_le i (by omega)
    rw [L_spec_ParseNum_5.step, br_true (decide_eq_true (by omega)), br_true hin, bt_eq s i hlt, hb, wrap_id (k := ((b.toNat : Nat) : Int)) (by omega) (by omega), l1In_eq, Option.bind_some, br_true hin, dig]
    by_cases h48 : 48 ≤ b.toNat ∧ b.toNat ≤ 57
    · have h1' : (decide ((48 : Int) ≤ ((b.toNat : Nat) : Int)) && decide (((b.toNat : Nat) : Int) ≤ 57)) = true := by simp; omega
      have e : IntKind.wrap .u8 (((b.toNat : Nat) : Int) - 48) = ((b.toNat : Nat) : Int) - 48 := by rw [wrap_u8]; omega
      rw [h1', br_false (c := !true) rfl, if_pos h48, e, wrap_id (k := ((b.toNat : Nat) : Int) - 48) (by omega) (by omega), wrap_id (k := 10 * v) (by omega) (by omega), wrap_id (k := 10 * v + (((b.toNat : Nat) : Int) - 48)) (by omega) (by omega), wrap_id (k := (i : Int) + 1) (by omega) (by omega)]
      have := num_s (K := K) s mx hs r (i + 1) k (10 * v + (((b.toNat : Nat) : Int) - 48)) hr (by simp at hi; omega) (by omega) (by rw [Int.pow_succ]; omega) (by simp at hk; omega)
      rw [Int.natCast_add] at this
      exact this
    · have h1' : (decide ((48 : Int) ≤ ((b.toNat : Nat) : Int)) && decide (((b.toNat : Nat) : Int) ≤ 57)) = false := by
        rw [Bool.and_eq_false_iff, decide_eq_false_iff_not, decide_eq_false_iff_not]; omega
      rw [h1', br_true (c := !false) rfl, if_neg h48]; rfl
  | _, _, 0, _, _, _, _, _, h => absurd h (Nat.not_lt_zero _)
theorem num_i {K : Nat} (s : ByteArray) (mx : Int) (hs : s.size ≤ 5) : ∀ (r : List UInt8) (i k : Nat) (v : Int), (tl s).drop i = r → i + r.length = s.size → 0 ≤ v → v < 10 ^ i → r.length < k → L_impl_ParseNum_5 K k s mx v (i : Int) = some (enc (upto mx (dig v r)))
  | [], i, k + 1, v, h, hi, h0, h1, hk => by
    rw [L_impl_ParseNum_5.step, br_false (decide_eq_false (by simp at hi; omega)), dig, upto]
    by_cases hm : v > mx
    · rw [br_true (decide_eq_true hm), if_pos hm]; rfl
    · rw [br_false (decide_eq_false hm), if_neg hm]; rfl
  | b :: r, i, k + 1, v, h, hi, h0, h1, hk => by
    obtain ⟨hlt, hb, hr⟩ := drop_parts h
    have hlt' : i < s.size := hlt
    have hb2 : b.toNat < 256 := b.toNat_lt
    have hin : (decide (0 ≤ (i : Int)) && decide ((i : Int) < ((s.size : Nat) : Int))) = true := by simp; omega
    have hp := pow_le i (by omega)
    rw [L_impl_ParseNum_5.step, br_true (decide_eq_true (by omega)), br_true hin, br_true hin, br_true hin, bt_eq s i hlt, hb, dig]
    by_cases h48 : 48 ≤ b.toNat ∧ b.toNat ≤ 57
    · have e : IntKind.wrap .u8 (((b.toNat : Nat) : Int) - 48) = ((b.toNat : Nat) : Int) - 48 := by rw [wrap_u8]; omega
      rw [br_false (decide_eq_false (by omega)), br_false (decide_eq_false (by omega)), if_pos h48, e, wrap_id (k := ((b.toNat : Nat) : Int) - 48) (by omega) (by omega), wrap_id (k := 10 * v) (by omega) (by omega), wrap_id (k := 10 * v + (((b.toNat : Nat) : Int) - 48)) (by omega) (by omega), wrap_id (k := (i : Int) + 1) (by omega) (by omega)]
      have := num_i (K := K) s mx hs r (i + 1) k (10 * v + (((b.toNat : Nat) : Int) - 48)) hr (by simp at hi; omega) (by omega) (by rw [Int.pow_succ]; omega) (by simp at hk; omega)
      rw [Int.natCast_add] at this
      exact this
    · rw [if_neg h48]
      by_cases h2 : b.toNat < 48
      · rw [br_true (decide_eq_true (by omega))]; rfl
      · rw [br_false (decide_eq_false (by omega)), br_true (decide_eq_true (by omega))]; rfl
  | _, _, 0, _, _, _, _, _, h => absurd h (Nat.not_lt_zero _)
theorem head_bt (s : ByteArray) (h : 0 < (tl s).length) : (bt s 0 == 48) = true ↔ (tl s).head? = some 48 := by
  have e : bt s 0 = (((tl s)[0].toNat : Nat) : Int) := bt_eq s 0 h
  rw [e]
  match hs : tl s, h with
  | b :: r, _ =>
    simp only [List.getElem_cons_zero, List.head?_cons, beq_iff_eq, Option.some.injEq]
    constructor
    · intro h2
      exact UInt8.toNat_inj.1 (by have : (48 : UInt8).toNat = 48 := rfl; omega)
    · rintro rfl; rfl
theorem head_nb (s : ByteArray) (h : 0 < (tl s).length) (h48 : (tl s).head? ≠ some 48) : (bt s 0 == 48) = false := by
  cases e : bt s 0 == 48
  · rfl
  · exact absurd ((head_bt s h).1 e) h48
theorem parseNum_s {K : Nat} (hK : maxLen + 2 ≤ K) (s : ByteArray) (mx : Int) (hm : mx ≤ 65535) : g_spec_ParseNum K s mx = some (enc (pnum mx (tl s))) := by
  have hml : maxLen = 2 ^ 63 - 1 := rfl
  rw [g_spec_ParseNum.eq, pnum]
  by_cases h0 : (tl s).length = 0
  · have h0' : s.size = 0 := h0
    rw [br_true (beq_true (by omega)), if_pos h0]; rfl
  · have h0' : s.size ≠ 0 := h0
    rw [br_false (beq_false (by omega)), if_neg h0]
    by_cases h5 : 5 < (tl s).length
    · have h5' : 5 < s.size := h5
      rw [br_true (decide_eq_true (by omega)), if_pos h5]; rfl
    · have h5' : ¬ 5 < s.size := h5
      have hrun := num_s (K := K) s mx (by omega) (tl s) 0 K 0 (by simp) (by rw [tl_len]; omega) (by omega) (by omega) (by rw [tl_len]; omega)
      rw [br_false (decide_eq_false (by omega)), if_neg h5]
      by_cases h1 : 1 < (tl s).length
      · have h1' : 1 < s.size := h1
        rw [br_true (decide_eq_true (by omega)), br_true (by simp; omega)]
        by_cases h48 : (tl s).head? = some 48
        · rw [br_true ((head_bt s (by omega)).2 h48), if_pos ⟨h1, h48⟩]; rfl
        · rw [br_false (head_nb s (by omega) h48), if_neg (fun h => h48 h.2), br_false (decide_eq_false (by omega))]
          exact hrun
      · have h1' : ¬ 1 < s.size := h1
        rw [br_false (decide_eq_false (by omega)), if_neg (fun h => h1 h.1), br_false (decide_eq_false (by omega))]
        exact hrun
theorem parseNum_i {K : Nat} (hK : maxLen + 2 ≤ K) (s : ByteArray) (mx : Int) (hm : mx ≤ 65535) : g_impl_ParseNum K s mx = some (enc (pnum mx (tl s))) := by
  have hml : maxLen = 2 ^ 63 - 1 := rfl
  rw [g_impl_ParseNum.eq, pnum, br_false (decide_eq_false (by omega)), isIn_eq, Option.bind_some]
  by_cases h0 : (tl s).length = 0
  · have h0' : s.size = 0 := h0
    rw [br_true (by simp; omega), if_pos h0]; rfl
  · have h0' : s.size ≠ 0 := h0
    rw [if_neg h0]
    by_cases h5 : 5 < (tl s).length
    · have h5' : 5 < s.size := h5
      rw [br_true (by simp; omega), if_pos h5]; rfl
    · have h5' : ¬ 5 < s.size := h5
      have hrun := num_i (K := K) s mx (by omega) (tl s) 0 K 0 (by simp) (by rw [tl_len]; omega) (by omega) (by omega) (by rw [tl_len]; omega)
      rw [br_false (by simp; omega), if_neg h5]
      by_cases h1 : 1 < (tl s).length
      · have h1' : 1 < s.size := h1
        rw [br_true (decide_eq_true (by omega)), br_true (by simp; omega)]
        by_cases h48 : (tl s).head? = some 48
        · rw [br_true ((head_bt s (by omega)).2 h48), if_pos ⟨h1, h48⟩]; rfl
        · rw [br_false (head_nb s (by omega) h48), if_neg (fun h => h48 h.2)]
          exact hrun
      · have h1' : ¬ 1 < s.size := h1
        rw [br_false (decide_eq_false (by omega)), if_neg (fun h => h1 h.1)]
        exact hrun
theorem pnum_num (mx : Int) (n : Nat) (h : n < 100) (hm : (n : Int) ≤ mx) : pnum mx (num n) = some (n : Int) := by
  have key : ∀ n : Fin 100, (num n.1).length ≠ 0 ∧ ¬ 5 < (num n.1).length ∧ ¬ (1 < (num n.1).length ∧ (num n.1).head? = some 48) ∧ dig 0 (num n.1) = some (n.1 : Int) := by decide +kernel
  obtain ⟨a, b, c, d⟩ := key ⟨n, h⟩
  unfold pnum
  simp only [] at a b c d
  rw [if_neg a, if_neg b, if_neg c, d, upto, if_neg (by omega)]
theorem dig_ge : ∀ (l : List UInt8) (v w : Int), 0 ≤ v → dig v l = some w → v ≤ w
  | [], v, w, _, h => by rw [dig] at h; injection h with h; omega
  | b :: r, v, w, h0, h => by
    rw [dig] at h
    split at h
    · rename_i hb
      have := dig_ge r _ w (by omega) h
      omega
    · cases h
theorem num_of (mx : Int) (l : List UInt8) (v : Int) (hm : mx ≤ 99) (h : pnum mx l = some v) : ∃ n : Nat, n < 100 ∧ (n : Int) ≤ mx ∧ v = n ∧ l = num n := by
  unfold pnum at h
  split at h
  · cases h
  split at h
  · cases h
  split at h
  · cases h
  rename_i h0 h5 h1
  cases hd : dig 0 l with
  | none => rw [hd] at h; cases h
  | some w =>
    rw [hd, upto] at h
    split at h
    · cases h
    rename_i hw
    injection h with h
    subst h
    match l, h0, h1, hd with
    | [a], _, _, hd =>
      rw [dig] at hd
      split at hd
      · rename_i ha
        rw [dig] at hd
        injection hd with hd
        refine ⟨a.toNat - 48, by omega, by omega, by omega, ?_⟩
        unfold num
        rw [if_pos (by omega), show 48 + (a.toNat - 48) = a.toNat by omega, UInt8.ofNat_toNat]
      · cases hd
    | [a, b], _, h1, hd =>
      rw [dig] at hd
      split at hd
      · rename_i ha
        rw [dig] at hd
        split at hd
        · rename_i hb
          rw [dig] at hd
          injection hd with hd
          have ha0 : a.toNat ≠ 48 := fun e => h1 ⟨by simp, by
            have : a = 48 := UInt8.toNat_inj.1 e
            simp [this]⟩
          refine ⟨10 * (a.toNat - 48) + (b.toNat - 48), by omega, by omega, by omega, ?_⟩
          unfold num
          rw [if_neg (by omega), show 48 + (10 * (a.toNat - 48) + (b.toNat - 48)) / 10 = a.toNat by omega, show 48 + (10 * (a.toNat - 48) + (b.toNat - 48)) % 10 = b.toNat by omega, UInt8.ofNat_toNat, UInt8.ofNat_toNat]
        · cases hd
      · cases hd
    | a :: b :: c :: r, _, h1, hd =>
      exfalso
      rw [dig] at hd
      split at hd
      · rename_i ha
        rw [dig] at hd
        split at hd
        · rename_i hb
          rw [dig] at hd
          split at hd
          · rename_i hc
            have ha0 : a.toNat ≠ 48 := fun e => h1 ⟨by simp, by
              have : a = 48 := UInt8.toNat_inj.1 e
              simp [this]⟩
            have := dig_ge r _ w (by omega) hd
            omega
          · cases hd
        · cases hd
      · cases hd
theorem num_chars (n : Nat) (h : n < 100) : ∀ x ∈ num n, 48 ≤ x.toNat ∧ x.toNat ≤ 57 := by
  have key : ∀ n : Fin 100, ∀ x ∈ num n.1, 48 ≤ x.toNat ∧ x.toNat ≤ 57 := by decide +kernel
  exact key ⟨n, h⟩
theorem num_len (n : Nat) : (num n).length ≤ 2 := by unfold num; split <;> simp
/-! ### names -/
def Nm (l : List UInt8) : Prop := (1 ≤ l.length ∧ l.length ≤ 8) ∧ ∀ x ∈ l, 97 ≤ x.toNat ∧ x.toNat ≤ 122
theorem name_loop {K : Nat} (s : ByteArray) (hs : s.size ≤ 1048576) : ∀ (r : List UInt8) (i k : Nat), (tl s).drop i = r → i + r.length = s.size → r.length < k →
    ∃ b, L_spec_l1Name_2 K k s (i : Int) = some b ∧ L_impl_nameOk_2 K k s (i : Int) = some b ∧ (b = true ↔ (1 ≤ s.size ∧ s.size ≤ 8) ∧ ∀ x ∈ r, 97 ≤ x.toNat ∧ x.toNat ≤ 122)
  | [], i, k + 1, h, hi, hk => by
    rw [L_spec_l1Name_2.step, L_impl_nameOk_2.step, br_false (decide_eq_false (by simp at hi; omega)), l1In_eq, isIn_eq, Option.bind_some, br_false (decide_eq_false (by simp at hi; omega))]
    refine ⟨_, rfl, rfl, ?_⟩
    simp
    omega
  | b :: r, i, k + 1, h, hi, hk => by
    obtain ⟨hlt, hb, hr⟩ := drop_parts h
    have hlt' : i < s.size := hlt
    have hin : (decide (0 ≤ (i : Int)) && decide ((i : Int) < ((s.size : Nat) : Int))) = true := by simp; omega
    have hlt2 : decide ((i : Int) < ((s.size : Nat) : Int)) = true := decide_eq_true (by omega)
    rw [L_spec_l1Name_2.step, L_impl_nameOk_2.step]
    simp only [hlt2, br_t, hin, bt_eq s i hlt, hb]
    rw [wrap_id (k := (i : Int) + 1) (by omega) (by omega)]
    by_cases h1 : b.toNat < 97
    · simp only [show decide (((b.toNat : Nat) : Int) < 97) = true from decide_eq_true (by omega), br_t]
      exact ⟨false, rfl, rfl, by simp; omega⟩
    · by_cases h2 : b.toNat > 122
      · simp only [show decide (((b.toNat : Nat) : Int) < 97) = false from decide_eq_false (by omega), show decide (((b.toNat : Nat) : Int) > 122) = true from decide_eq_true (by omega), br_t, br_f]
        exact ⟨false, rfl, rfl, by simp; omega⟩
      · simp only [show decide (((b.toNat : Nat) : Int) < 97) = false from decide_eq_false (by omega), show decide (((b.toNat : Nat) : Int) > 122) = false from decide_eq_false (by omega), br_f]
        obtain ⟨c, c1, c2, c3⟩ := name_loop (K := K) s hs r (i + 1) k hr (by simp at hi; omega) (by simp at hk; omega)
        rw [Int.natCast_add] at c1 c2
        refine ⟨c, c1, c2, c3.trans ?_⟩
        simp
        omega
  | _, _, 0, _, _, h => absurd h (Nat.not_lt_zero _)
theorem name {K : Nat} (hK : maxLen + 2 ≤ K) (s : ByteArray) (hs : s.size ≤ 1048576) : ∃ b, g_spec_l1Name K s = some b ∧ g_impl_nameOk K s = some b ∧ (b = true ↔ Nm (tl s)) := by
  have hml : maxLen = 2 ^ 63 - 1 := rfl
  obtain ⟨b, h1, h2, h3⟩ := name_loop (K := K) s hs (tl s) 0 K (by simp) (by rw [tl_len]; omega) (by rw [tl_len]; omega)
  exact ⟨b, by rw [g_spec_l1Name.eq]; exact h1, by rw [g_impl_nameOk.eq]; exact h2, h3⟩
/-! ### databases -/
def DbOk (d : S_impl_Db) : Prop := Nm (tl d.1) ∧ (1 ≤ d.2.1 ∧ d.2.1 ≤ 3) ∧ (0 ≤ d.2.2.1 ∧ d.2.2.1 ≤ 4) ∧ (1 ≤ d.2.2.2.1 ∧ d.2.2.2.1 ≤ 20) ∧ (1 ≤ d.2.2.2.2.1 ∧ d.2.2.2.2.1 ≤ 20)
theorem l3Db {K : Nat} (hK : maxLen + 2 ≤ K) (d : S_impl_Db) (hs : d.1.size ≤ 1048576) : ∃ b, g_spec_l3Db K d = some b ∧ (b = true ↔ DbOk d) := by
  obtain ⟨b, h1, _, h3⟩ := name hK d.1 hs
  rw [g_spec_l3Db.eq, h1, Option.bind_some]
  simp only [l1In_eq, Option.bind_some]
  unfold DbOk
  rw [← h3]
  cases b
  · exact ⟨false, rfl, by simp⟩
  · rw [br_t]
    by_cases a1 : 1 ≤ d.2.1 ∧ d.2.1 ≤ 3
    · rw [br_true (by simp; omega)]
      by_cases a2 : 0 ≤ d.2.2.1 ∧ d.2.2.1 ≤ 4
      · rw [br_true (by simp; omega)]
        by_cases a3 : 1 ≤ d.2.2.2.1 ∧ d.2.2.2.1 ≤ 20
        · rw [br_true (by simp; omega)]
          exact ⟨_, rfl, by simp; omega⟩
        · rw [br_false (by rw [Bool.and_eq_false_iff, decide_eq_false_iff_not, decide_eq_false_iff_not]; omega)]
          exact ⟨false, rfl, by simp; omega⟩
      · rw [br_false (by rw [Bool.and_eq_false_iff, decide_eq_false_iff_not, decide_eq_false_iff_not]; omega)]
        exact ⟨false, rfl, by simp; omega⟩
    · rw [br_false (by rw [Bool.and_eq_false_iff, decide_eq_false_iff_not, decide_eq_false_iff_not]; omega)]
      exact ⟨false, rfl, by simp; omega⟩
end F5
