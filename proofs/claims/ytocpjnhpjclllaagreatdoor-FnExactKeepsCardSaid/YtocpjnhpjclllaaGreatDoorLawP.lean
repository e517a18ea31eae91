/- The law of Keeps: it says true. -/
import Derived.Test.YtocpjnhpjclllaaGreatDoorLawW
namespace F5
set_option linter.unusedSimpArgs false
open Go Go.Fil Go.Proofs Go.Fil.Cf
set_option maxRecDepth 100000
set_option linter.unusedVariables false
abbrev wN (n : S_impl_Note) : Int := n.2.2.2.2.2.2.2.2.1
def pick (c : Int) (l : List S_impl_Note) : List S_impl_Note := l.filter fun n => n.1 == c
theorem nt_drop {l : List S_impl_Note} {i : Nat} {n : S_impl_Note} {r : List S_impl_Note} (h : l.drop i = n :: r) : i < l.length ∧ noteAt l i = n ∧ l.drop (i + 1) = r := by
  have hi : i < l.length := by
    by_cases hi : i < l.length
    · exact hi
    · rw [List.drop_eq_nil_of_le (by omega)] at h; cases h
  rw [List.drop_eq_getElem_cons hi] at h
  injection h with h1 h2
  refine ⟨hi, ?_, h2⟩
  rw [noteAt, List.getD_eq_getElem?_getD, List.getElem?_eq_getElem hi]
  exact h1
theorem pick_run_s {K : Nat} (l : List S_impl_Note) (hl : l.length ≤ 1048576) (c : Int) : ∀ (r : List S_impl_Note) (i k : Nat) (o : List S_impl_Note), l.drop i = r → i + r.length = l.length → o.length ≤ i → r.length < k → L_spec_Pick_3 K k l c (i : Int) o = some (o ++ pick c r)
  | [], i, k + 1, o, h, hi, ho, hk => by
    rw [L_spec_Pick_3.step, br_false (decide_eq_false (by simp at hi; omega))]
    simp [pick]
  | n :: r, i, k + 1, o, h, hi, ho, hk => by
    obtain ⟨hlt, hat, hr⟩ := nt_drop h
    have hin : (decide (0 ≤ (i : Int)) && decide ((i : Int) < ((l.length : Nat) : Int))) = true := in_true (by omega) (by omega)
    have hat' : List.getD l i T_impl_Note.zero = n := hat
    rw [L_spec_Pick_3.step, br_true (decide_eq_true (by omega)), hin, br_t, br_t, show (i : Int).toNat = i by omega, hat', wrap_id (k := (i : Int) + 1) (by omega) (by omega)]
    by_cases e : n.1 = c
    · rw [br_true (beq_true e), br_true (decide_eq_true (by simp; omega))]
      have := pick_run_s (K := K) l hl c r (i + 1) k (o ++ [n]) hr (by simp at hi; omega) (by simp; omega) (by simp at hk; omega)
      refine this.trans ?_
      simp [pick, e]
    · rw [br_false (beq_false e)]
      have := pick_run_s (K := K) l hl c r (i + 1) k o hr (by simp at hi; omega) (by omega) (by simp at hk; omega)
      refine this.trans ?_
      simp [pick, e]
  | _, _, 0, _, _, _, _, h => absurd h (Nat.not_lt_zero _)
theorem pick_same (K : Nat) (l : List S_impl_Note) (c : Int) : ∀ (k : Nat) (v : Int) (o : List S_impl_Note), L_impl_Pick_3 K k l c v o = L_spec_Pick_3 K k l c v o
  | 0, v, o => by rw [L_impl_Pick_3.zero, L_spec_Pick_3.zero]
  | k + 1, v, o => by
    rw [L_impl_Pick_3.step, L_spec_Pick_3.step, pick_same K l c k, pick_same K l c k]
    cases hin : (decide (0 ≤ v) && decide (v < ((l.length : Nat) : Int)))
    · rfl
    · rfl
theorem pick_s {K : Nat} (hK : maxLen + 2 ≤ K) (l : List S_impl_Note) (hl : l.length ≤ 1048576) (c : Int) : g_spec_Pick K l c = some (pick c l) := by
  have hm : maxLen = 2 ^ 63 - 1 := rfl
  rw [g_spec_Pick.eq]
  exact pick_run_s (K := K) l hl c l 0 K [] (by simp) (by omega) (by simp) (by omega)
theorem pick_i {K : Nat} (hK : maxLen + 2 ≤ K) (l : List S_impl_Note) (hl : l.length ≤ 1048576) (c : Int) : g_impl_Pick K l c = some (pick c l) := by
  have := pick_s hK l hl c
  rw [g_spec_Pick.eq] at this
  rw [g_impl_Pick.eq, pick_same]
  exact this
def top : Int → List S_impl_Note → Int
  | v, [] => v
  | v, n :: r => top (if wN n > v then wN n else v) r
def rise_ : Int → List S_impl_Note → Bool
  | _, [] => true
  | v, n :: r => if wN n ≤ v then false else rise_ (wN n) r
theorem told_run_s {K : Nat} (l : List S_impl_Note) (hl : l.length ≤ 1048576) : ∀ (r : List S_impl_Note) (i k : Nat) (v : Int), l.drop i = r → i + r.length = l.length → r.length < k → L_spec_Told_3 K k l v (i : Int) = some (top v (pick 7 r))
  | [], i, k + 1, v, h, hi, hk => by
    rw [L_spec_Told_3.step, br_false (decide_eq_false (by simp at hi; omega))]
    rfl
  | n :: r, i, k + 1, v, h, hi, hk => by
    obtain ⟨hlt, hat, hr⟩ := nt_drop h
    have hin : (decide (0 ≤ (i : Int)) && decide ((i : Int) < ((l.length : Nat) : Int))) = true := in_true (by omega) (by omega)
    have hat' : List.getD l i T_impl_Note.zero = n := hat
    have ih := fun v => told_run_s (K := K) l hl r (i + 1) k v hr (by simp at hi; omega) (by simp at hk; omega)
    rw [Int.natCast_add] at ih
    rw [L_spec_Told_3.step, br_true (decide_eq_true (by omega)), hin]
    simp only [br_t]
    rw [show (i : Int).toNat = i by omega, hat', wrap_id (k := (i : Int) + 1) (by omega) (by omega)]
    by_cases e : n.1 = 7
    · rw [br_true (beq_true e)]
      have hp : pick 7 (n :: r) = n :: pick 7 r := by simp [pick, e]
      rw [hp, top]
      by_cases g : wN n > v
      · rw [br_true (decide_eq_true g), if_pos g]
        exact ih _
      · rw [br_false (decide_eq_false g), if_neg g]
        exact ih _
    · rw [br_false (beq_false e)]
      have hp : pick 7 (n :: r) = pick 7 r := by simp [pick, e]
      rw [hp]
      exact ih _
  | _, _, 0, _, _, _, h => absurd h (Nat.not_lt_zero _)
theorem told_run_i {K : Nat} (l : List S_impl_Note) (hl : l.length ≤ 1048576) : ∀ (r : List S_impl_Note) (i k : Nat) (v : Int), l.drop i = r → i + r.length = l.length → r.length < k → L_impl_Told_3 K k l v (i : Int) l = some (top v r)
  | [], i, k + 1, v, h, hi, hk => by
    rw [L_impl_Told_3.step, br_false (decide_eq_false (by simp at hi; omega))]
    rfl
  | n :: r, i, k + 1, v, h, hi, hk => by
    obtain ⟨hlt, hat, hr⟩ := nt_drop h
    have hat' : List.getD l i T_impl_Note.zero = n := hat
    have ih := fun v => told_run_i (K := K) l hl r (i + 1) k v hr (by simp at hi; omega) (by simp at hk; omega)
    rw [Int.natCast_add] at ih
    rw [L_impl_Told_3.step, br_true (decide_eq_true (by omega)), br_true (in_true (by omega) (by omega)), show (i : Int).toNat = i by omega, hat', wrap_id (k := (i : Int) + 1) (by omega) (by omega), top]
    exact ih _
  | _, _, 0, _, _, _, h => absurd h (Nat.not_lt_zero _)
theorem pick_len (c : Int) (l : List S_impl_Note) : (pick c l).length ≤ l.length := List.length_filter_le _ _
theorem told {K : Nat} (hK : maxLen + 2 ≤ K) (l : List S_impl_Note) (hl : l.length ≤ 1048576) : g_spec_Told K l = some (top 0 (pick 7 l)) ∧ g_impl_Told K l = some (top 0 (pick 7 l)) := by
  have hm : maxLen = 2 ^ 63 - 1 := rfl
  have hp := pick_len 7 l
  constructor
  · rw [g_spec_Told.eq]
    exact told_run_s (K := K) l hl l 0 K 0 (by simp) (by omega) (by omega)
  · rw [g_impl_Told.eq, pick_i hK l hl 7, Option.bind_some]
    exact told_run_i (K := K) (pick 7 l) (by omega) (pick 7 l) 0 K 0 (by simp) (by omega) (by omega)
def lastN (p : List S_impl_Note) : S_impl_Note := noteAt p (p.length - 1)
theorem keeps_s {K : Nat} (x : S_impl_World) (hl : x.2.2.2.2.2.1.length ≤ 1048576) (kn : S_impl_Known) : ∀ (r : List S_impl_Note) (i k : Nat) (v : Int), x.2.2.2.2.2.1.drop i = r → i + r.length = x.2.2.2.2.2.1.length → r.length < k → L_spec_Keeps_6 K k v (i : Int) x kn = if rise_ v (pick 7 r) = true then L_spec_Keeps_6 K 1 0 (x.2.2.2.2.2.1.length : Int) x kn else some false
  | [], i, k + 1, v, h, hi, hk => by
    rw [L_spec_Keeps_6.step, br_false (decide_eq_false (by simp at hi; omega)), if_pos (by rfl), L_spec_Keeps_6.step, br_false (decide_eq_false (by omega))]
  | n :: r, i, k + 1, v, h, hi, hk => by
    obtain ⟨hlt, hat, hr⟩ := nt_drop h
    have hat' : List.getD x.2.2.2.2.2.1 i T_impl_Note.zero = n := hat
    have ih := fun v => keeps_s (K := K) x hl kn r (i + 1) k v hr (by simp at hi; omega) (by simp at hk; omega)
    rw [Int.natCast_add] at ih
    rw [L_spec_Keeps_6.step, br_true (decide_eq_true (by omega)), br_true (in_true (by omega) (by omega)), show (i : Int).toNat = i by omega, hat', wrap_id (k := (i : Int) + 1) (by omega) (by omega)]
    by_cases e : n.1 = 7
    · have hp : pick 7 (n :: r) = n :: pick 7 r := by simp [pick, e]
      rw [br_true (beq_true e), hp, rise_]
      by_cases g : wN n ≤ v
      · rw [br_true (decide_eq_true g), if_pos g, if_neg (by simp)]
      · rw [br_false (decide_eq_false g), if_neg g]
        exact ih _
    · have hp : pick 7 (n :: r) = pick 7 r := by simp [pick, e]
      rw [br_false (beq_false e), hp]
      exact ih _
  | _, _, 0, _, _, _, h => absurd h (Nat.not_lt_zero _)
theorem keeps_i {K : Nat} (x : S_impl_World) (p : List S_impl_Note) (hl : p.length ≤ 1048576) (kn : S_impl_Known) : ∀ (r : List S_impl_Note) (i k : Nat) (v : Int), p.drop i = r → i + r.length = p.length → r.length < k → L_impl_Keeps_6 K k p v (i : Int) x kn p = if rise_ v r = true then L_impl_Keeps_6 K 1 p 0 (p.length : Int) x kn p else some false
  | [], i, k + 1, v, h, hi, hk => by
    rw [L_impl_Keeps_6.step, br_false (decide_eq_false (by simp at hi; omega)), if_pos (by rfl), L_impl_Keeps_6.step, br_false (decide_eq_false (by omega))]
  | n :: r, i, k + 1, v, h, hi, hk => by
    obtain ⟨hlt, hat, hr⟩ := nt_drop h
    have hat' : List.getD p i T_impl_Note.zero = n := hat
    have ih := fun v => keeps_i (K := K) x p hl kn r (i + 1) k v hr (by simp at hi; omega) (by simp at hk; omega)
    rw [Int.natCast_add] at ih
    rw [L_impl_Keeps_6.step, br_true (decide_eq_true (by omega)), br_true (in_true (by omega) (by omega)), show (i : Int).toNat = i by omega, hat', wrap_id (k := (i : Int) + 1) (by omega) (by omega), rise_]
    by_cases g : wN n ≤ v
    · rw [br_true (decide_eq_true g), if_pos g, if_neg (by simp)]
    · rw [br_false (decide_eq_false g), if_neg g]
      exact ih _
  | _, _, 0, _, _, _, h => absurd h (Nat.not_lt_zero _)
theorem end0 (G t : Int) : some (if decide (G < t) = true then false else true) = some (decide (G ≥ t)) := by
  by_cases h : G < t
  · simp [h]
  · simp [h]; omega
theorem end1 (G t H w N W : Int) : some (if decide (G < t) = true then false else if decide (H > w) = true then true else if (H == w) = true then (N == W) else false) = some (if decide (H < w) = true then false else if (H == w) = true then (if (N != W) = true then false else decide (G ≥ t)) else decide (G ≥ t)) := by
  refine congrArg some ?_
  rw [Bool.eq_iff_iff]
  simp only [ite_t, beq_iff_eq, bne_iff_ne, decide_eq_true_eq, Bool.false_eq_true]
  grind
theorem lawKeeps {K : Nat} (hK : maxLen + 2 ≤ K) (x : T_laws_World.T) (hB : Bd by_ T_laws_World x) : g_laws_FnExactKeeps K x = some true := by
  have hm : maxLen = 2 ^ 63 - 1 := rfl
  rw [g_laws_FnExactKeeps.eq]
  refine law_bool hK x hB (g_spec_Keeps K) (g_impl_Keeps K) (fun hx => ?_)
  obtain ⟨b, b1, b2, _⟩ := worldOk hK x hx
  obtain ⟨kn, k1, k2, _⟩ := knownOf hK x hx.db
  have hln : (List.length x.2.2.2.2.2.1 : Nat) ≤ 1048576 := hx.ln
  rw [g_spec_Keeps.eq, g_impl_Keeps.eq, b1, b2, k1, k2, Option.bind_some, Option.bind_some, Option.bind_some]
  cases b with
  | false => exact ⟨false, rfl, rfl⟩
  | true =>
    obtain ⟨t1, t2⟩ := told hK x.2.2.2.2.2.1 hln
    have hp7 := pick_len 7 x.2.2.2.2.2.1
    have hp8 := pick_len 8 x.2.2.2.2.2.1
    have s1 := keeps_s (K := K) x hln kn x.2.2.2.2.2.1 0 K 0 (by simp) (Nat.zero_add _) (by omega)
    have i1 := keeps_i (K := K) x (pick 7 x.2.2.2.2.2.1) (by omega) kn (pick 7 x.2.2.2.2.2.1) 0 K 0 (by simp) (Nat.zero_add _) (by omega)
    have s1 : L_spec_Keeps_6 K K 0 0 x kn = _ := s1
    have i1 : L_impl_Keeps_6 K K (pick 7 x.2.2.2.2.2.1) 0 0 x kn (pick 7 x.2.2.2.2.2.1) = _ := i1
    rw [br_false (c := !true) rfl, Option.bind_some, br_false (c := !true) rfl, t2, Option.bind_some, pick_i hK _ hln 7, Option.bind_some, s1, i1, L_spec_Keeps_6.step, L_impl_Keeps_6.step, br_false (c := decide (((List.length x.2.2.2.2.2.1 : Nat) : Int) < ((List.length x.2.2.2.2.2.1 : Nat) : Int))) (decide_eq_false (by omega)), br_false (c := decide ((((pick 7 x.2.2.2.2.2.1).length : Nat) : Int) < (((pick 7 x.2.2.2.2.2.1).length : Nat) : Int))) (decide_eq_false (by omega)), pick_s hK _ hln 8, pick_i hK _ hln 8, t1]
    simp only [Option.bind_some]
    generalize rise_ 0 (pick 7 x.2.2.2.2.2.1) = ri
    generalize top 0 (pick 7 x.2.2.2.2.2.1) = t
    generalize pick 8 x.2.2.2.2.2.1 = p at *
    cases ri with
    | false =>
      rw [if_neg (by simp), if_neg (by simp)]
      exact ⟨false, rfl, by rw [br_some]; split <;> rfl⟩
    | true =>
      rw [if_pos rfl, if_pos rfl]
      by_cases h0 : p.length = 0
      · rw [br_false (decide_eq_false (by omega)), br_true (beq_true (by omega)), br_some]
        exact ⟨_, rfl, end0 _ _⟩
      · have hw : IntKind.wrap .i64 (((p.length : Nat) : Int) - 1) = ((p.length : Nat) : Int) - 1 := wrap_id (by omega) (by omega)
        have hin : (decide ((0 : Int) ≤ ((p.length : Nat) : Int) - 1) && decide (((p.length : Nat) : Int) - 1 < ((p.length : Nat) : Int))) = true := by simp; omega
        rw [br_true (c := decide (((p.length : Nat) : Int) > 0)) (decide_eq_true (by omega)), br_false (c := (((p.length : Nat) : Int) == 0)) (beq_false (by omega)), hw, hin]
        simp only [br_t, br_some]
        exact ⟨_, rfl, end1 _ _ _ _ _ _⟩
#print axioms lawKeeps
end F5
