/- The disk, the sectors, the replay, what is known. -/
import Derived.Test.YtocpjnhpjclllaaGreatDoorCPlainI
set_option linter.unusedSimpArgs false
namespace F5
open Go Go.Fil Go.Proofs Go.Fil.Cf
set_option maxRecDepth 100000
set_option linter.unusedVariables false
def SecOk (d : S_impl_Disk) (i : Nat) : Prop := ∀ j, i ≤ j → j < d.1.length → (List.getD d.1 j []).length ≤ 160
def WrOk (d : S_impl_Disk) (i : Nat) : Prop := ∀ j, i ≤ j → j < d.2.1.length → (0 ≤ (wrAt d.2.1 j).1 ∧ (wrAt d.2.1 j).1 ≤ (d.1.length : Int) - 1) ∧ (wrAt d.2.1 j).2.1.length ≤ 160
def DTail (d : S_impl_Disk) : Prop := (1 ≤ d.1.length ∧ d.1.length ≤ 40) ∧ d.2.1.length ≤ 30 ∧ (-1 ≤ d.2.2.1 ∧ d.2.2.1 ≤ 1000)
theorem SecOk_next {d : S_impl_Disk} {i : Nat} (h : i < d.1.length) : SecOk d i ↔ (List.getD d.1 i []).length ≤ 160 ∧ SecOk d (i + 1) := by
  constructor
  · intro g
    exact ⟨g i (Nat.le_refl _) h, fun j hj hl => g j (by omega) hl⟩
  · rintro ⟨g1, g2⟩ j hj hl
    by_cases e : j = i
    · subst e; exact g1
    · exact g2 j (by omega) hl
theorem WrOk_next {d : S_impl_Disk} {i : Nat} (h : i < d.2.1.length) : WrOk d i ↔ ((0 ≤ (wrAt d.2.1 i).1 ∧ (wrAt d.2.1 i).1 ≤ (d.1.length : Int) - 1) ∧ (wrAt d.2.1 i).2.1.length ≤ 160) ∧ WrOk d (i + 1) := by
  constructor
  · intro g
    exact ⟨g i (Nat.le_refl _) h, fun j hj hl => g j (by omega) hl⟩
  · rintro ⟨g1, g2⟩ j hj hl
    by_cases e : j = i
    · subst e; exact g1
    · exact g2 j (by omega) hl
theorem SecOk_end {d : S_impl_Disk} {i : Nat} (h : d.1.length ≤ i) : SecOk d i := fun j h1 h2 => absurd h2 (by omega)
theorem WrOk_end {d : S_impl_Disk} {i : Nat} (h : d.2.1.length ≤ i) : WrOk d i := fun j h1 h2 => absurd h2 (by omega)
theorem no_iff {P : Prop} (h : ¬ P) : (false = true ↔ P) := ⟨fun e => (by cases e), fun e => absurd e h⟩
theorem in_t {a b c : Int} (h : b ≤ a ∧ a ≤ c) : (decide (b ≤ a) && decide (a ≤ c)) = true := by simp [h.1, h.2]
theorem in_f {a b c : Int} (h : ¬ (b ≤ a ∧ a ≤ c)) : (decide (b ≤ a) && decide (a ≤ c)) = false := by
  rw [Bool.and_eq_false_iff, decide_eq_false_iff_not, decide_eq_false_iff_not]; omega
theorem disk_s7 {K : Nat} (d : S_impl_Disk) (h1 : d.1.length ≤ 1048576) (h2 : d.2.1.length ≤ 1048576) : ∀ (q i k : Nat), i + q = d.2.1.length → q < k → ∃ b, L_spec_DiskOk_7 K k (i : Int) d = some b ∧ (b = true ↔ WrOk d i ∧ DTail d)
  | 0, i, k + 1, hi, hk => by
    rw [L_spec_DiskOk_7.step, br_false (decide_eq_false (by omega)), l1In_eq, l1In_eq, Option.bind_some, Option.bind_some]
    have hw := WrOk_end (d := d) (i := i) (by omega)
    by_cases a1 : 1 ≤ (d.1.length : Int) ∧ (d.1.length : Int) ≤ 40
    · rw [in_t a1, br_t]
      by_cases a2 : (d.2.1.length : Int) ≤ 30
      · rw [br_true (decide_eq_true a2)]
        refine ⟨_, rfl, ?_⟩
        unfold DTail
        simp [hw]
        omega
      · rw [br_false (decide_eq_false a2)]
        exact ⟨false, rfl, no_iff (fun h => a2 (by have := h.2.2.1; omega))⟩
    · rw [in_f a1, br_f]
      exact ⟨false, rfl, no_iff (fun h => a1 (by have := h.2.1; omega))⟩
  | q + 1, i, k + 1, hi, hk => by
    have hin : (decide (0 ≤ (i : Int)) && decide ((i : Int) < ((d.2.1.length : Nat) : Int))) = true := by simp; omega
    obtain ⟨b, b1, b2⟩ := disk_s7 (K := K) d h1 h2 q (i + 1) k (by omega) (by omega)
    rw [L_spec_DiskOk_7.step, br_true (decide_eq_true (by omega)), hin, br_t, br_t, show (i : Int).toNat = i by omega, l1In_eq, Option.bind_some, wrap_id (k := ((d.1.length : Nat) : Int) - 1) (by omega) (by omega), wrap_id (k := (i : Int) + 1) (by omega) (by omega), WrOk_next (by omega)]
    by_cases a1 : 0 ≤ (wrAt d.2.1 i).1 ∧ (wrAt d.2.1 i).1 ≤ (d.1.length : Int) - 1
    · rw [in_t a1, br_false (c := !true) rfl]
      by_cases a2 : (wrAt d.2.1 i).2.1.length ≤ 160
      · rw [br_false]
        rotate_left
        · exact decide_eq_false (fun h => absurd (show (((wrAt d.2.1 i).2.1.length : Nat) : Int) > 160 from h) (by omega))
        refine ⟨b, b1, b2.trans ?_⟩
        constructor
        · rintro ⟨g1, g2⟩; exact ⟨⟨⟨a1, a2⟩, g1⟩, g2⟩
        · rintro ⟨⟨_, g1⟩, g2⟩; exact ⟨g1, g2⟩
      · rw [br_true]
        rotate_left
        · exact decide_eq_true (show (((wrAt d.2.1 i).2.1.length : Nat) : Int) > 160 by omega)
        exact ⟨false, rfl, no_iff (fun h => a2 h.1.1.2)⟩
    · rw [in_f a1, br_true (c := !false) rfl]
      exact ⟨false, rfl, no_iff (fun h => a1 h.1.1.1)⟩
  | _, _, 0, _, h => absurd h (Nat.not_lt_zero _)
theorem disk_s2 {K : Nat} (hK : maxLen + 2 ≤ K) (d : S_impl_Disk) (h1 : d.1.length ≤ 1048576) (h2 : d.2.1.length ≤ 1048576) : ∀ (q i k : Nat), i + q = d.1.length → q < k → ∃ b, L_spec_DiskOk_2 K k (i : Int) d = some b ∧ (b = true ↔ SecOk d i ∧ WrOk d 0 ∧ DTail d)
  | 0, i, k + 1, hi, hk => by
    have hm : maxLen = 2 ^ 63 - 1 := rfl
    rw [L_spec_DiskOk_2.step, br_false (decide_eq_false (by omega))]
    obtain ⟨b, b1, b2⟩ := disk_s7 (K := K) d h1 h2 d.2.1.length 0 K (by omega) (by omega)
    have hs := SecOk_end (d := d) (i := i) (by omega)
    exact ⟨b, b1, b2.trans ⟨fun h => ⟨hs, h⟩, fun h => h.2⟩⟩
  | q + 1, i, k + 1, hi, hk => by
    obtain ⟨b, b1, b2⟩ := disk_s2 hK d h1 h2 q (i + 1) k (by omega) (by omega)
    rw [L_spec_DiskOk_2.step, br_true (decide_eq_true (by omega)), br_true (by simp; omega), show (i : Int).toNat = i by omega, wrap_id (k := (i : Int) + 1) (by omega) (by omega), SecOk_next (by omega)]
    by_cases a2 : (List.getD d.1 i []).length ≤ 160
    · rw [br_false (decide_eq_false (by omega))]
      refine ⟨b, b1, b2.trans ?_⟩
      constructor
      · rintro ⟨g1, g2⟩; exact ⟨⟨a2, g1⟩, g2⟩
      · rintro ⟨⟨_, g1⟩, g2⟩; exact ⟨g1, g2⟩
    · rw [br_true (decide_eq_true (by omega))]
      exact ⟨false, rfl, no_iff (fun h => a2 h.1.1)⟩
  | _, _, 0, _, h => absurd h (Nat.not_lt_zero _)
theorem disk_i10 {K : Nat} (d : S_impl_Disk) (h1 : d.1.length ≤ 1048576) (h2 : d.2.1.length ≤ 1048576) : ∀ (q i k : Nat), i + q = d.2.1.length → q < k → ∃ b, L_impl_DiskOk_10 K k (i : Int) d = some b ∧ (b = true ↔ WrOk d i)
  | 0, i, k + 1, hi, hk => by
    rw [L_impl_DiskOk_10.step, br_false (decide_eq_false (by omega))]
    exact ⟨true, rfl, ⟨fun _ => WrOk_end (by omega), fun _ => rfl⟩⟩
  | q + 1, i, k + 1, hi, hk => by
    obtain ⟨b, b1, b2⟩ := disk_i10 (K := K) d h1 h2 q (i + 1) k (by omega) (by omega)
    rw [L_impl_DiskOk_10.step, br_true (decide_eq_true (by omega)), br_true (by simp; omega), show (i : Int).toNat = i by omega, isIn_eq, Option.bind_some, wrap_id (k := ((d.1.length : Nat) : Int) - 1) (by omega) (by omega), wrap_id (k := (i : Int) + 1) (by omega) (by omega), WrOk_next (by omega)]
    by_cases a1 : 0 ≤ (wrAt d.2.1 i).1 ∧ (wrAt d.2.1 i).1 ≤ (d.1.length : Int) - 1
    · rw [in_t a1, br_false (c := !true) rfl]
      by_cases a2 : (wrAt d.2.1 i).2.1.length ≤ 160
      · rw [br_false]
        rotate_left
        · exact decide_eq_false (fun h => absurd (show (((wrAt d.2.1 i).2.1.length : Nat) : Int) > 160 from h) (by omega))
        refine ⟨b, b1, b2.trans ?_⟩
        constructor
        · intro g1; exact ⟨⟨a1, a2⟩, g1⟩
        · rintro ⟨_, g1⟩; exact g1
      · rw [br_true]
        rotate_left
        · exact decide_eq_true (show (((wrAt d.2.1 i).2.1.length : Nat) : Int) > 160 by omega)
        exact ⟨false, rfl, no_iff (fun h => a2 h.1.2)⟩
    · rw [in_f a1, br_true (c := !false) rfl]
      exact ⟨false, rfl, no_iff (fun h => a1 h.1.1)⟩
  | _, _, 0, _, h => absurd h (Nat.not_lt_zero _)
theorem disk_i4 {K : Nat} (hK : maxLen + 2 ≤ K) (d : S_impl_Disk) (h1 : d.1.length ≤ 1048576) (h2 : d.2.1.length ≤ 1048576) : ∀ (q i k : Nat), i + q = d.1.length → q < k → ∃ b, L_impl_DiskOk_4 K k d (i : Int) d = some b ∧ (b = true ↔ SecOk d i ∧ WrOk d 0)
  | 0, i, k + 1, hi, hk => by
    have hm : maxLen = 2 ^ 63 - 1 := rfl
    rw [L_impl_DiskOk_4.step, br_false (decide_eq_false (by omega))]
    obtain ⟨b, b1, b2⟩ := disk_i10 (K := K) d h1 h2 d.2.1.length 0 K (by omega) (by omega)
    have hs := SecOk_end (d := d) (i := i) (by omega)
    exact ⟨b, b1, b2.trans ⟨fun h => ⟨hs, h⟩, fun h => h.2⟩⟩
  | q + 1, i, k + 1, hi, hk => by
    obtain ⟨b, b1, b2⟩ := disk_i4 hK d h1 h2 q (i + 1) k (by omega) (by omega)
    rw [L_impl_DiskOk_4.step, br_true (decide_eq_true (by omega)), br_true (by simp; omega), show (i : Int).toNat = i by omega, wrap_id (k := (i : Int) + 1) (by omega) (by omega), SecOk_next (by omega)]
    by_cases a2 : (List.getD d.1 i []).length ≤ 160
    · rw [br_false (decide_eq_false (by omega))]
      refine ⟨b, b1, b2.trans ?_⟩
      constructor
      · rintro ⟨g1, g2⟩; exact ⟨⟨a2, g1⟩, g2⟩
      · rintro ⟨⟨_, g1⟩, g2⟩; exact ⟨g1, g2⟩
    · rw [br_true (decide_eq_true (by omega))]
      exact ⟨false, rfl, no_iff (fun h => a2 h.1.1)⟩
  | _, _, 0, _, h => absurd h (Nat.not_lt_zero _)
theorem diskOk {K : Nat} (hK : maxLen + 2 ≤ K) (d : S_impl_Disk) (h1 : d.1.length ≤ 1048576) (h2 : d.2.1.length ≤ 1048576) : ∃ b, g_spec_DiskOk K d = some b ∧ g_impl_DiskOk K d = some b ∧ (b = true ↔ SecOk d 0 ∧ WrOk d 0 ∧ DTail d) := by
  have hm : maxLen = 2 ^ 63 - 1 := rfl
  obtain ⟨b, b1, b2⟩ := disk_s2 hK d h1 h2 d.1.length 0 K (by omega) (by omega)
  obtain ⟨c, c1, c2⟩ := disk_i4 hK d h1 h2 d.1.length 0 K (by omega) (by omega)
  have hi : ∃ c, g_impl_DiskOk K d = some c ∧ (c = true ↔ SecOk d 0 ∧ WrOk d 0 ∧ DTail d) := by
    rw [g_impl_DiskOk.eq, isIn_eq, isIn_eq, Option.bind_some, Option.bind_some]
    unfold DTail
    by_cases a1 : 1 ≤ (d.1.length : Int) ∧ (d.1.length : Int) ≤ 40
    · rw [in_t a1, br_false (c := !true) rfl]
      by_cases a2 : (d.2.1.length : Int) > 30
      · rw [br_true (decide_eq_true a2)]
        exact ⟨false, rfl, no_iff (fun h => by have := h.2.2.2.1; omega)⟩
      · rw [br_false (decide_eq_false a2)]
        by_cases a3 : -1 ≤ d.2.2.1 ∧ d.2.2.1 ≤ 1000
        · rw [in_t a3, br_false (c := !true) rfl]
          refine ⟨c, c1, c2.trans ?_⟩
          constructor
          · rintro ⟨g1, g2⟩
            exact ⟨g1, g2, by omega, by omega, a3⟩
          · rintro ⟨g1, g2, _⟩
            exact ⟨g1, g2⟩
        · rw [in_f a3, br_true (c := !false) rfl]
          exact ⟨false, rfl, no_iff (fun h => a3 h.2.2.2.2)⟩
    · rw [in_f a1, br_true (c := !false) rfl]
      exact ⟨false, rfl, no_iff (fun h => a1 (by have := h.2.2.1; omega))⟩
  obtain ⟨c', d1, d2⟩ := hi
  have e : b = c' := Bool.eq_iff_iff.2 (b2.trans d2.symm)
  subst e
  exact ⟨b, by rw [g_spec_DiskOk.eq]; exact b1, d1, b2⟩
/-! ### sectors -/
def look (x : Int) (l : List S_impl_Wr) (a : List Int) : List Int := l.foldl (fun a e => if e.1 = x then e.2.1 else a) a
theorem wrAt_eq {l : List S_impl_Wr} {i : Nat} (h : i < l.length) : wrAt l i = l[i] := by
  rw [wrAt, List.getD_eq_getElem?_getD, List.getElem?_eq_getElem h]; rfl
theorem read_s {K : Nat} (d : S_impl_Disk) (hw : WrOk d 0) (h2 : d.2.1.length ≤ 1048576) (x : Int) : ∀ (r : List S_impl_Wr) (i k : Nat) (a : List Int), d.2.1.drop i = r → i + r.length = d.2.1.length → a.length ≤ 160 → r.length < k →
    L_spec_ReadSec_5 K k x a (i : Int) d = some (look x r a)
  | [], i, k + 1, a, h, hi, ha, hk => by
    rw [L_spec_ReadSec_5.step, br_false (decide_eq_false (by simp at hi; omega)), br_true (decide_eq_true (by simp; omega))]
    rfl
  | e :: r, i, k + 1, a, h, hi, ha, hk => by
    have hlt : i < d.2.1.length := by simp at hi; omega
    have hd : d.2.1.drop i = d.2.1[i] :: d.2.1.drop (i + 1) := List.drop_eq_getElem_cons hlt
    rw [hd] at h
    injection h with hd1 hr
    have hat : List.getD d.2.1 i T_impl_Pack.zero = e := by rw [← hd1]; exact wrAt_eq hlt
    have hin : (decide (0 ≤ (i : Int)) && decide ((i : Int) < ((d.2.1.length : Nat) : Int))) = true := by simp; omega
    have hel : e.2.1.length ≤ 160 := by
      have := (hw i (by omega) hlt).2
      rwa [wrAt, hat] at this
    rw [L_spec_ReadSec_5.step, br_true (decide_eq_true (by omega)), hin, br_t, br_t, show (i : Int).toNat = i by omega, hat, wrap_id (k := (i : Int) + 1) (by omega) (by omega)]
    by_cases hx : e.1 = x
    · rw [br_true (beq_true hx)]
      have := read_s (K := K) d hw h2 x r (i + 1) k e.2.1 hr (by simp at hi; omega) hel (by simp at hk; omega)
      refine this.trans ?_
      rw [look, look, List.foldl_cons, if_pos hx]
    · rw [br_false (beq_false hx)]
      have := read_s (K := K) d hw h2 x r (i + 1) k a hr (by simp at hi; omega) ha (by simp at hk; omega)
      refine this.trans ?_
      rw [look, look, List.foldl_cons, if_neg hx]
  | _, _, 0, _, _, _, _, h => absurd h (Nat.not_lt_zero _)
theorem read_i {K : Nat} (d : S_impl_Disk) (hw : WrOk d 0) (hs : SecOk d 0) (h2 : d.2.1.length ≤ 1048576) (x : Nat) (hx : x < d.1.length) : ∀ (i k : Nat), i ≤ d.2.1.length → i < k →
    L_impl_ReadSec_4 K k (x : Int) ((i : Int) - 1) d = some (look (x : Int) (d.2.1.take i) (List.getD d.1 x []))
  | 0, k + 1, hi, hk => by
    rw [L_impl_ReadSec_4.step, br_false (by decide)]
    rw [br_true (by simp; omega), show (x : Int).toNat = x by omega, clone_eq _ _ (by have := hs x (by omega) hx; omega)]
    rfl
  | i + 1, k + 1, hi, hk => by
    have hlt : i < d.2.1.length := by omega
    have e : (((i + 1 : Nat) : Int) - 1) = (i : Int) := by omega
    have hat : List.getD d.2.1 i T_impl_Pack.zero = d.2.1[i] := wrAt_eq hlt
    have hin : (decide (0 ≤ (i : Int)) && decide ((i : Int) < ((d.2.1.length : Nat) : Int))) = true := by simp; omega
    have hel : d.2.1[i].2.1.length ≤ 160 := by
      have := (hw i (by omega) hlt).2
      rwa [wrAt, hat] at this
    rw [e, L_impl_ReadSec_4.step, br_true (decide_eq_true (by omega)), hin, br_t, br_t, show (i : Int).toNat = i by omega, hat, wrap_id (k := (i : Int) - 1) (by omega) (by omega)]
    have ht : look (x : Int) (d.2.1.take (i + 1)) (List.getD d.1 x []) = if d.2.1[i].1 = (x : Int) then d.2.1[i].2.1 else look (x : Int) (d.2.1.take i) (List.getD d.1 x []) := by
      rw [look, List.take_add_one, List.getElem?_eq_getElem hlt, List.foldl_append]
      rfl
    rw [ht]
    by_cases hx : d.2.1[i].1 = (x : Int)
    · rw [br_true (beq_true hx), clone_eq _ _ (by omega), if_pos hx]
      rfl
    · rw [br_false (beq_false hx), if_neg hx]
      exact read_i (K := K) d hw hs h2 x ‹_› i k (by omega) (by omega)
  | _, 0, _, h => absurd h (Nat.not_lt_zero _)
structure DB (d : S_impl_Disk) : Prop where
  l1 : d.1.length ≤ 1048576
  l2 : d.2.1.length ≤ 1048576
  b1 : ∀ s ∈ d.1, Bytes s
  b2 : ∀ e ∈ d.2.1, Bytes e.2.1
theorem look_p {P : List Int → Prop} (x : Int) : ∀ (l : List S_impl_Wr) (a : List Int), P a → (∀ e ∈ l, P e.2.1) → P (look x l a)
  | [], a, h, _ => h
  | e :: l, a, h, he => by
    rw [look, List.foldl_cons]
    refine look_p x l _ ?_ (fun e' h' => he e' (by simp [h']))
    split
    · exact he e (by simp)
    · exact h
theorem readSec {K : Nat} (hK : maxLen + 2 ≤ K) (d : S_impl_Disk) (hd : DB d) (x : Int) : ∃ r, g_spec_ReadSec K d x = some r ∧ g_impl_ReadSec K d x = some r ∧ Bytes r ∧ r.length ≤ 160 := by
  have hm : maxLen = 2 ^ 63 - 1 := rfl
  have hl1 := hd.l1
  have hl2 := hd.l2
  obtain ⟨b, b1, b2, b3⟩ := diskOk hK d hd.l1 hd.l2
  rw [g_spec_ReadSec.eq, g_impl_ReadSec.eq, b1, b2, Option.bind_some, Option.bind_some]
  cases b with
  | false => exact ⟨[], rfl, rfl, fun b hb => absurd hb (by simp), by simp⟩
  | true =>
    obtain ⟨hs, hw, _⟩ := b3.1 rfl
    rw [br_false (c := !true) rfl, br_false (c := !true) rfl, l1In_eq, isIn_eq, Option.bind_some, Option.bind_some, wrap_id (k := ((d.1.length : Nat) : Int) - 1) (by omega) (by omega)]
    by_cases h : 0 ≤ x ∧ x ≤ (d.1.length : Int) - 1
    · rw [in_t h, br_false (c := !true) rfl, br_false (c := !true) rfl, br_true (by simp; omega)]
      obtain ⟨n, rfl⟩ := Int.eq_ofNat_of_zero_le h.1
      have hn : n < d.1.length := by omega
      have hat : List.getD d.1 n [] = d.1[n] := by rw [List.getD_eq_getElem?_getD, List.getElem?_eq_getElem hn]; rfl
      rw [show ((n : Int)).toNat = n by omega, wrap_id (k := ((d.2.1.length : Nat) : Int) - 1) (by omega) (by omega)]
      have r1 := read_s (K := K) d hw hd.l2 (n : Int) d.2.1 0 K (List.getD d.1 n []) (by simp) (by omega) (hs n (by omega) hn) (by omega)
      have r2 := read_i (K := K) d hw hs hd.l2 n hn d.2.1.length K (Nat.le_refl _) (by omega)
      rw [List.take_length] at r2
      refine ⟨_, r1, r2, look_p _ _ _ (by rw [hat]; exact hd.b1 _ (List.getElem_mem hn)) hd.b2, look_p (P := fun r => r.length ≤ 160) _ _ _ (hs n (by omega) hn) (fun e he => ?_)⟩
      obtain ⟨j, hj, rfl⟩ := List.getElem_of_mem he
      have := (hw j (by omega) hj).2
      rwa [wrAt_eq hj] at this
    · rw [in_f h, br_true (c := !false) rfl, br_true (c := !false) rfl]
      exact ⟨[], rfl, rfl, fun b hb => absurd hb (by simp), by simp⟩
/-! ### the replay -/
def kn0 : S_impl_Known := (0, (⟨#[]⟩, (0, (⟨#[]⟩, (0, (0, ()))))))
theorem kn0_ok : KT kn0 := by
  constructor
  · show ByteArray.size (⟨#[]⟩ : ByteArray) ≤ 100; rw [empty_size]; omega
  · show ByteArray.size (⟨#[]⟩ : ByteArray) ≤ 100; rw [empty_size]; omega
theorem at_eq (K : Nat) (g v : Int) : g_spec_l5At K g v = some (IntKind.wrap .i64 ((IntKind.wrap .i64 (2 + (IntKind.wrap .i64 (18 * (Int.tmod g 2))))) + v)) ∧ g_impl_sectorOf K g v = some (IntKind.wrap .i64 ((IntKind.wrap .i64 (2 + (IntKind.wrap .i64 (18 * (Int.tmod g 2))))) + v)) := by
  rw [g_spec_l5At.eq, g_impl_sectorOf.eq]
  exact ⟨rfl, rfl⟩
theorem replay_loop {K : Nat} (hK : maxLen + 2 ≤ K) (d : S_impl_Disk) (hd : DB d) (g : Int) (o : S_impl_Known) : ∀ (q i k : Nat) (s : S_impl_Known), i + q = 18 → q < k → KT s → ∃ r : S_impl_Known × (Int × Unit), L_spec_Replay_5 K k g (i : Int) d o s = some r ∧ L_impl_Replay_5 K k g (i : Int) d o s = some r ∧ KT r.1
  | 0, i, k + 1, s, hi, hk, hs => by
    rw [L_spec_Replay_5.step, L_impl_Replay_5.step, br_false (decide_eq_false (by omega)), br_false (decide_eq_false (by omega))]
    exact ⟨(s, (18, ())), rfl, rfl, hs⟩
  | q + 1, i, k + 1, s, hi, hk, hs => by
    obtain ⟨a1, a2⟩ := at_eq K g (i : Int)
    obtain ⟨x, x1, x2, x3, x4⟩ := readSec hK d hd (IntKind.wrap .i64 ((IntKind.wrap .i64 (2 + (IntKind.wrap .i64 (18 * (Int.tmod g 2))))) + (i : Int)))
    obtain ⟨y, y1, y2, y3⟩ := getRec hK x x3 (by omega)
    obtain ⟨z, z1, z2, z3⟩ := apply_ hK s hs y.2.2.1 y3
    obtain ⟨r, r1, r2, r3⟩ := replay_loop hK d hd g o q (i + 1) k z.1 (by omega) (by omega) z3
    have hstop : ∃ r : S_impl_Known × (Int × Unit), some (s, ((i : Int), ())) = some r ∧ some (s, ((i : Int), ())) = some r ∧ KT r.1 := ⟨_, rfl, rfl, hs⟩
    rw [L_spec_Replay_5.step, L_impl_Replay_5.step, br_true (decide_eq_true (by omega)), br_true (decide_eq_true (by omega)), a1, a2, Option.bind_some, Option.bind_some, x1, x2, Option.bind_some, Option.bind_some, y1, y2, Option.bind_some, Option.bind_some, z1, z2, Option.bind_some, Option.bind_some, wrap_id (k := (i : Int) + 1) (by omega) (by omega)]
    cases !y.2.2.2.1
    · rw [br_f, br_f]
      cases (y.1 : Int) != g
      · rw [br_f, br_f]
        cases (y.2.1 : Int) != (i : Int)
        · rw [br_f, br_f]
          cases !z.2.1
          · rw [br_f, br_f]
            exact ⟨r, r1, r2, r3⟩
          · exact hstop
        · exact hstop
      · exact hstop
    · exact hstop
  | _, _, 0, _, _, h, _ => absurd h (Nat.not_lt_zero _)
theorem replay {K : Nat} (hK : maxLen + 2 ≤ K) (d : S_impl_Disk) (hd : DB d) (g : Int) : ∃ r : S_impl_Known × (Int × Unit), g_spec_Replay K d g = some r ∧ g_impl_Replay K d g = some r ∧ KT r.1 := by
  have hm : maxLen = 2 ^ 63 - 1 := rfl
  rw [g_spec_Replay.eq, g_impl_Replay.eq, l1In_eq, isIn_eq, Option.bind_some, Option.bind_some]
  obtain ⟨r, r1, r2, r3⟩ := replay_loop hK d hd g kn0 18 0 K kn0 (by omega) (by omega) kn0_ok
  cases !(decide (1 ≤ g) && decide (g ≤ 60000))
  · exact ⟨r, r1, r2, r3⟩
  · exact ⟨(kn0, (0, ())), rfl, rfl, kn0_ok⟩
theorem open_loop {K : Nat} (hK : maxLen + 2 ≤ K) (d : S_impl_Disk) (hd : DB d) (o : S_impl_Jour) : ∀ (q i k : Nat) (s : S_impl_Jour) (f : Bool), i + q = 2 → q < k → KT s.1 → 0 ≤ s.2.1 → f = decide (s.2.1 > 0) → ∃ r : S_impl_Jour × (Bool × Unit), L_spec_OpenJour_5 K k (i : Int) d o s = some r ∧ L_impl_OpenJour_5 K k f (i : Int) d o s = some r ∧ KT r.1.1
  | 0, i, k + 1, s, f, hi, hk, hs, h0, hf => by
    rw [L_spec_OpenJour_5.step, L_impl_OpenJour_5.step, br_false (decide_eq_false (by omega)), br_false (decide_eq_false (by omega)), hf]
    exact ⟨_, rfl, rfl, hs⟩
  | q + 1, i, k + 1, s, f, hi, hk, hs, h0, hf => by
    obtain ⟨x, x1, x2, x3, x4⟩ := readSec hK d hd (i : Int)
    obtain ⟨y, y1, y2, y3⟩ := getHead hK x x3 (by omega)
    obtain ⟨z, z1, z2, z3⟩ := replay hK d hd y.1
    obtain ⟨r, r1, r2, r3⟩ := open_loop hK d hd o q (i + 1) k s f (by omega) (by omega) hs h0 hf
    rw [L_spec_OpenJour_5.step, L_impl_OpenJour_5.step, br_true (decide_eq_true (by omega)), br_true (decide_eq_true (by omega)), x1, x2, Option.bind_some, Option.bind_some, y1, y2, Option.bind_some, Option.bind_some, wrap_id (k := (i : Int) + 1) (by omega) (by omega), z1, z2, Option.bind_some, Option.bind_some]
    cases hy : y.2.2.1 with
    | false => exact ⟨r, r1, r2, r3⟩
    | true =>
      have hy1 := y3 hy
      rw [br_false (c := !true) rfl, br_false (c := !true) rfl, br_false (c := decide ((2 : Nat) = 0)) (by decide), br_false (c := decide ((2 : Nat) = 0)) (by decide)]
      cases ((Int.tmod y.1 2 : Int) != (i : Int))
      · rw [br_f, br_f]
        obtain ⟨t, t1, t2, t3⟩ := open_loop hK d hd o q (i + 1) k (z.1, (y.1, (z.2.1, ()))) true (by omega) (by omega) z3 (by show (0 : Int) ≤ y.1; omega) (by symm; exact decide_eq_true (by show y.1 > (0 : Int); omega))
        by_cases hg : y.1 ≤ s.2.1
        · rw [br_true (decide_eq_true hg)]
          have hft : f = true := by rw [hf]; exact decide_eq_true (by omega)
          refine ⟨r, r1, ?_, r3⟩
          by_cases hn : z.2.1 ≥ y.2.1
          · rw [br_true (decide_eq_true hn), hft, br_false (c := !true) rfl, br_false (decide_eq_false (by omega)), ← hft]
            exact r2
          · rw [br_false (decide_eq_false hn)]
            exact r2
        · rw [br_false (decide_eq_false hg)]
          by_cases hn : z.2.1 ≥ y.2.1
          · rw [br_true (decide_eq_true hn), br_true (decide_eq_true hn)]
            refine ⟨t, t1, ?_, t3⟩
            cases f with
            | false => exact t2
            | true =>
              rw [br_false (c := !true) rfl, br_true (decide_eq_true (by omega))]
              exact t2
          · rw [br_false (decide_eq_false hn), br_false (decide_eq_false hn)]
            exact ⟨r, r1, r2, r3⟩
      · exact ⟨r, r1, r2, r3⟩
  | _, _, 0, _, _, _, h, _, _, _ => absurd h (Nat.not_lt_zero _)
def jr0 : S_impl_Jour := (kn0, (0, (0, ())))
theorem openJour {K : Nat} (hK : maxLen + 2 ≤ K) (d : S_impl_Disk) (hd : DB d) : ∃ r : S_impl_Jour × (Bool × Unit), g_spec_OpenJour K d = some r ∧ g_impl_OpenJour K d = some r ∧ KT r.1.1 := by
  have hm : maxLen = 2 ^ 63 - 1 := rfl
  obtain ⟨b, b1, b2, _⟩ := diskOk hK d hd.l1 hd.l2
  obtain ⟨r, r1, r2, r3⟩ := open_loop hK d hd jr0 2 0 K jr0 false (by omega) (by omega) kn0_ok (by show (0 : Int) ≤ 0; omega) rfl
  rw [g_spec_OpenJour.eq, g_impl_OpenJour.eq, b1, b2, Option.bind_some, Option.bind_some]
  cases b with
  | false => exact ⟨(jr0, (false, ())), rfl, rfl, kn0_ok⟩
  | true =>
    rw [br_false (c := !true) rfl, br_false (c := !true) rfl]
    cases (((d.1.length : Nat) : Int) != 38)
    · exact ⟨r, r1, r2, r3⟩
    · exact ⟨(jr0, (false, ())), rfl, rfl, kn0_ok⟩
theorem knownOf {K : Nat} (hK : maxLen + 2 ≤ K) (x : S_impl_World) (hd : DB x.2.1) : ∃ r : S_impl_Known, g_spec_KnownOf K x = some r ∧ g_impl_KnownOf K x = some r ∧ KT r := by
  obtain ⟨r, r1, r2, r3⟩ := openJour hK x.2.1 hd
  rw [g_spec_KnownOf.eq, g_impl_KnownOf.eq, r1, r2, Option.bind_some]
  cases !r.2.1
  · exact ⟨_, rfl, rfl, r3⟩
  · exact ⟨kn0, rfl, rfl, kn0_ok⟩
end F5
