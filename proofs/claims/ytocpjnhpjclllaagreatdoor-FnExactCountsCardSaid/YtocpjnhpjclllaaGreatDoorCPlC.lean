/- Counts: the plain law. -/
import Derived.Test.YtocpjnhpjclllaaGreatDoorCPlainJ
import Derived.Test.YtocpjnhpjclllaaGreatDoorCPur
import Derived.Test.YtocpjnhpjclllaaGreatDoorCFunC
set_option linter.unusedSimpArgs false
namespace F5
open Go Go.Fil Go.Proofs Go.Fil.Cf
set_option maxRecDepth 100000
set_option linter.unusedVariables false
theorem counts {K : Nat} (hK : maxLen + 2 ≤ K) (x : S_impl_World) (hd : DB x.2.1) : ∃ l : List S_impl_Db, g_spec_Counts K x = some l ∧ g_impl_Counts K x = some l ∧ l.length ≤ 1048576 := by
  obtain ⟨r, r1, r2, r3⟩ := knownOf hK x hd
  obtain ⟨c, c1, c2, c3, c4⟩ := parseConf hK r.2.1 r3.1
  refine ⟨c.1, ?_, ?_, ?_⟩
  · rw [g_spec_Counts.eq, r1, Option.bind_some, g_spec_l14Conf.eq, c1]; rfl
  · rw [g_impl_Counts.eq, r2, Option.bind_some, c2]; rfl
  · cases h : c.2.1
    · rw [c4 h]; exact Nat.zero_le _
    · have := (c3 h).1.2.2; omega
theorem eqDbs {K : Nat} (hK : maxLen + 2 ≤ K) (r : List S_impl_Db) (h : r.length ≤ 1048576) : g_laws_eqDbS K r r = some true := by
  have hm : maxLen = 2 ^ 63 - 1 := rfl
  rw [g_laws_eqDbS.eq]
  exact eq_fn (L := fun k v => L_laws_eqDbS_4 K k r r v) (G := fun a b => g_laws_eqDb K a b) (z := T_impl_Db.zero) hK (fun k v => L_laws_eqDbS_4.step K k r r v) (by omega) (fun y _ => by simp only [g_laws_eqDb.eq, ne_self, strEq_self, Bool.not_true, br_f])
theorem getD_set {α : Type} (o : List α) (i : Nat) (a z : α) (h : i < o.length) : (o.set i a).getD i z = a := by
  rw [List.getD_eq_getElem?_getD, List.getElem?_set, if_pos rfl, if_pos h]; rfl
theorem set_set {α : Type} (o : List α) (i : Nat) (a b : α) : (o.set i a).set i b = o.set i b := by
  apply List.ext_getElem?
  intro j
  simp only [List.getElem?_set, List.length_set]
  by_cases e : i = j
  · subst e; simp
  · simp [e]
/-- What stands in a marked row of databases. -/
def Dm (K : Nat) (N : Nat) (ys : List S_impl_Db) : Prop := ys.length = N ∧ ∀ j, j < N → ∃ s, g_laws_markText K (1 + 5 * (j : Int)) = some s ∧ ys[j]? = some (s, (1 + 5 * (j : Int) + 1, (1 + 5 * (j : Int) + 1 + 1, (1 + 5 * (j : Int) + 1 + 1 + 1, (1 + 5 * (j : Int) + 1 + 1 + 1 + 1, ())))))
theorem markD_loop {K : Nat} (hK : maxLen + 2 ≤ K) (N : Nat) (hN : N ≤ 1048576) : ∀ (n v k : Nat) (o : List S_impl_Db), v + n = N → n < k → o.length = N → (∀ j, j < v → ∃ s, g_laws_markText K (1 + 5 * (j : Int)) = some s ∧ o[j]? = some (s, (1 + 5 * (j : Int) + 1, (1 + 5 * (j : Int) + 1 + 1, (1 + 5 * (j : Int) + 1 + 1 + 1, (1 + 5 * (j : Int) + 1 + 1 + 1 + 1, ())))))) → ∃ ys, X_laws_markDbS_2 K k (1 + 5 * (v : Int)) (v : Int) o = some (1 + 5 * (N : Int), ys) ∧ Dm K N ys
  | 0, v, k + 1, o, hv, _, ho, hj => by
    have hv : v = N := by omega
    subst hv
    have d : decide ((v : Int) < ((List.length o : Nat) : Int)) = false := decide_eq_false (by omega)
    rw [X_laws_markDbS_2.step, d, br_f]
    exact ⟨o, rfl, ho, hj⟩
  | n + 1, v, k + 1, o, hv, hk, ho, hj => by
    have hlt : v < o.length := by omega
    obtain ⟨s, hs⟩ := m_laws_markText hK (1 + 5 * (v : Int)) (by omega) (by omega)
    have d : decide ((v : Int) < ((List.length o : Nat) : Int)) = true := decide_eq_true (by omega)
    have d0 : decide (0 ≤ (v : Int)) = true := decide_eq_true (by omega)
    rw [X_laws_markDbS_2.step, wrap_id (k := 1 + 5 * (v : Int) + 1) (by omega) (by omega), wrap_id (k := 1 + 5 * (v : Int) + 1 + 1) (by omega) (by omega), wrap_id (k := 1 + 5 * (v : Int) + 1 + 1 + 1) (by omega) (by omega), wrap_id (k := 1 + 5 * (v : Int) + 1 + 1 + 1 + 1) (by omega) (by omega), wrap_id (k := 1 + 5 * (v : Int) + 1 + 1 + 1 + 1 + 1) (by omega) (by omega), wrap_id (k := (v : Int) + 1) (by omega) (by omega), hs]
    simp only [Int.toNat_natCast, List.length_set, d, d0, Bool.and_self, br_t, Option.bind_some, set_set, getD_set o v _ T_impl_Db.zero hlt]
    obtain ⟨ys, h1, h2⟩ := markD_loop hK N hN n (v + 1) k (o.set v (s, (1 + 5 * (v : Int) + 1, (1 + 5 * (v : Int) + 1 + 1, (1 + 5 * (v : Int) + 1 + 1 + 1, (1 + 5 * (v : Int) + 1 + 1 + 1 + 1, ())))))) (by omega) (by omega) (by simpa using ho) (by
      intro j hjv
      rw [List.getElem?_set]
      by_cases e : v = j
      · subst e; rw [if_pos rfl, if_pos hlt]; exact ⟨s, hs, rfl⟩
      · rw [if_neg e]; exact hj j (by omega))
    refine ⟨ys, ?_, h2⟩
    rw [← h1]
    have e1 : 1 + 5 * ((v + 1 : Nat) : Int) = 1 + 5 * (v : Int) + 1 + 1 + 1 + 1 + 1 := by omega
    rw [e1]
    rfl
  | _, _, 0, _, _, h, _, _ => absurd h (Nat.not_lt_zero _)
theorem heldD_loop {K : Nat} (N : Nat) (hN : N ≤ 1048576) (ys : List S_impl_Db) (hy : Dm K N ys) : ∀ (n v k : Nat), v + n = N → n < k → L_laws_heldDbS_2 K k ys (1 + 5 * (v : Int)) (v : Int) = some (1 + 5 * (N : Int))
  | 0, v, k + 1, hv, _ => by
    have hv : v = N := by omega
    subst hv
    have d : decide ((v : Int) < ((List.length ys : Nat) : Int)) = false := decide_eq_false (by rw [hy.1]; omega)
    rw [L_laws_heldDbS_2.step, d, br_f]
  | n + 1, v, k + 1, hv, hk => by
    obtain ⟨s, hs, hg⟩ := hy.2 v (by omega)
    have hget : List.getD ys (Int.toNat (v : Int)) T_impl_Db.zero = (s, (1 + 5 * (v : Int) + 1, (1 + 5 * (v : Int) + 1 + 1, (1 + 5 * (v : Int) + 1 + 1 + 1, (1 + 5 * (v : Int) + 1 + 1 + 1 + 1, ()))))) := by
      rw [Int.toNat_natCast, List.getD_eq_getElem?_getD, hg]; rfl
    have d : decide ((v : Int) < ((List.length ys : Nat) : Int)) = true := decide_eq_true (by rw [hy.1]; omega)
    have d0 : decide (0 ≤ (v : Int)) = true := decide_eq_true (by omega)
    rw [L_laws_heldDbS_2.step, wrap_id (k := 1 + 5 * (v : Int) + 1) (by omega) (by omega), wrap_id (k := 1 + 5 * (v : Int) + 1 + 1) (by omega) (by omega), wrap_id (k := 1 + 5 * (v : Int) + 1 + 1 + 1) (by omega) (by omega), wrap_id (k := 1 + 5 * (v : Int) + 1 + 1 + 1 + 1) (by omega) (by omega), wrap_id (k := 1 + 5 * (v : Int) + 1 + 1 + 1 + 1 + 1) (by omega) (by omega), wrap_id (k := (v : Int) + 1) (by omega) (by omega), hs, hget]
    simp only [d, d0, Bool.and_self, br_t, Option.bind_some, ne_self, strEq_self, Bool.not_true, br_f]
    have := heldD_loop (K := K) N hN ys hy n (v + 1) k (by omega) (by omega)
    have e1 : 1 + 5 * ((v + 1 : Nat) : Int) = 1 + 5 * (v : Int) + 1 + 1 + 1 + 1 + 1 := by omega
    rw [e1] at this
    exact this
  | _, _, 0, _, h => absurd h (Nat.not_lt_zero _)
theorem markDbs {K : Nat} (hK : maxLen + 2 ≤ K) (r : List S_impl_Db) (h : r.length ≤ 1048576) : ∃ ys, h_laws_markDbS K r 1 = some (1 + 5 * (r.length : Int), ys) ∧ g_laws_heldDbS K ys 1 = some (1 + 5 * (r.length : Int)) := by
  have hm : maxLen = 2 ^ 63 - 1 := rfl
  obtain ⟨ys, h1, h2⟩ := markD_loop hK r.length h r.length 0 K r (by omega) (by omega) rfl (fun j hj => absurd hj (Nat.not_lt_zero _))
  refine ⟨ys, ?_, ?_⟩
  · rw [h_laws_markDbS.eq]; exact h1
  · rw [g_laws_heldDbS.eq]; exact heldD_loop r.length h ys h2 r.length 0 K (by omega) (by omega)
end F5
