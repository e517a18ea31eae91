/- The world: sockets and lists; what the reference asks of a house in it. -/
import Derived.Test.YtocpjnhpjclllaaGreatDoorHouseG
namespace F5
set_option linter.unusedSimpArgs false
open Go Go.Fil Go.Proofs Go.Fil.Cf
set_option maxRecDepth 100000
set_option linter.unusedVariables false
/-! ### rows without twins -/
theorem nodup_le {α : Type} : ∀ (l m : List α), l.Nodup → (∀ x ∈ l, x ∈ m) → l.length ≤ m.length
  | [], m, _, _ => by simp
  | a :: l, m, hn, hs => by
    obtain ⟨s, t, rfl⟩ := List.append_of_mem (hs a (by simp))
    rw [List.nodup_cons] at hn
    have := nodup_le l (s ++ t) hn.2 (fun x hx => by
      have h1 := hs x (by simp [hx])
      rcases List.mem_append.1 h1 with h | h
      · exact List.mem_append.2 (.inl h)
      · rcases List.mem_cons.1 h with h | h
        · exact absurd (h ▸ hx) hn.1
        · exact List.mem_append.2 (.inr h))
    simp at this ⊢
    omega
theorem nodup_all {α : Type} {l m : List α} (hn : l.Nodup) (hs : ∀ x ∈ l, x ∈ m) (hl : m.length ≤ l.length) : ∀ x ∈ m, x ∈ l := by
  intro b hb
  by_cases h : b ∈ l
  · exact h
  · have := nodup_le (b :: l) m (List.nodup_cons.2 ⟨h, hn⟩) (fun x hx => by
      rcases List.mem_cons.1 hx with rfl | hx
      · exact hb
      · exact hs x hx)
    simp at this
    omega
theorem two_rows {A L B1 B2 : List Int} (nA : A.Nodup) (nL : L.Nodup) (n1 : B1.Nodup) (n2 : B2.Nodup) (hd : ∀ x, x ∈ B1 → x ∈ B2 → False) :
    ((∀ x ∈ A, x ∈ B1) ∧ (∀ x ∈ L, x ∈ B2) ∧ (∀ x, x ∈ B1 ∨ x ∈ B2 → x ∈ A ∨ x ∈ L)) ↔ ((∀ x ∈ B1, x ∈ A) ∧ (∀ x ∈ B2, x ∈ L) ∧ B1.length + B2.length = A.length + L.length) := by
  constructor
  · rintro ⟨a, b, c⟩
    have h1 : ∀ x ∈ B1, x ∈ A := fun x hx => (c x (.inl hx)).elim id (fun h => (hd x hx (b x h)).elim)
    have h2 : ∀ x ∈ B2, x ∈ L := fun x hx => (c x (.inr hx)).elim (fun h => (hd x (a x h) hx).elim) id
    have e1 := nodup_le A B1 nA a
    have e2 := nodup_le L B2 nL b
    have e3 := nodup_le B1 A n1 h1
    have e4 := nodup_le B2 L n2 h2
    exact ⟨h1, h2, by omega⟩
  · rintro ⟨a, b, c⟩
    have e3 := nodup_le B1 A n1 a
    have e4 := nodup_le B2 L n2 b
    exact ⟨nodup_all n1 a (by omega), nodup_all n2 b (by omega), fun x hx => hx.elim (fun h => .inl (a x h)) (fun h => .inr (b x h))⟩
/-! ### rising numbers -/
theorem rise {id : Nat → Int} {m : Nat} (h : ∀ j, j < m → 0 < j → id (j - 1) < id j) : ∀ (d i : Nat), i + d + 1 < m → id i < id (i + d + 1)
  | 0, i, hi => by have := h (i + 1) (by omega) (by omega); simpa using this
  | d + 1, i, hi => by
    have h1 := rise h d i (by omega)
    have h2 := h (i + d + 2) (by omega) (by omega)
    have e : i + d + 2 - 1 = i + d + 1 := by omega
    rw [e] at h2
    show id i < id (i + (d + 1) + 1)
    have e2 : i + (d + 1) + 1 = i + d + 2 := by omega
    rw [e2]
    omega
theorem rise_lt {id : Nat → Int} {m : Nat} (h : ∀ j, j < m → 0 < j → id (j - 1) < id j) {i j : Nat} (hij : i < j) (hj : j < m) : id i < id j := by
  have := rise h (j - i - 1) i (by omega)
  have e : i + (j - i - 1) + 1 = j := by omega
  rwa [e] at this
theorem rise_inj {id : Nat → Int} {m : Nat} (h : ∀ j, j < m → 0 < j → id (j - 1) < id j) {i j : Nat} (hi : i < m) (hj : j < m) (e : id i = id j) : i = j := by
  rcases Nat.lt_trichotomy i j with g | g | g
  · have := rise_lt h g hj; omega
  · exact g
  · have := rise_lt h g hi; omega
theorem rise_nodup {α : Type} (l : List α) (f : α → Int) (z : α) (p : α → Bool) (h : ∀ j, j < l.length → 0 < j → f (l.getD (j - 1) z) < f (l.getD j z)) : ((l.filter p).map f).Nodup := by
  have hp : l.Pairwise (fun a b => f a < f b) := by
    rw [List.pairwise_iff_getElem]
    intro i j hi hj hij
    have := rise_lt (id := fun j => f (l.getD j z)) (m := l.length) h hij hj
    simpa [List.getD_eq_getElem?_getD, List.getElem?_eq_getElem hi, List.getElem?_eq_getElem hj] using this
  have h2 := hp.filter p
  rw [List.Nodup, List.pairwise_map]
  exact h2.imp (fun g => by omega)
/-! ### sockets -/
abbrev bitv (m n : Int) : Int := Fil.bits .and .i64 (Int.fdiv m (2 ^ (min (Int.toNat n) (IntKind.bits .i64)))) 1
theorem bitv_01 {m n : Int} (h0 : 1 ≤ m) (h1 : m ≤ 3) (hn : n = 0 ∨ n = 1) : bitv m n = 0 ∨ bitv m n = 1 := by
  have hm : m = 1 ∨ m = 2 ∨ m = 3 := by omega
  rcases hm with rfl | rfl | rfl <;> rcases hn with rfl | rfl <;> decide +kernel
theorem sockAt_mem {l : List S_impl_Sock} {i : Nat} (hi : i < l.length) : sockAt l i ∈ l := by
  rw [sockAt, List.getD_eq_getElem?_getD, List.getElem?_eq_getElem hi]
  exact List.getElem_mem hi
theorem sockAt_run {K : Nat} (l : List S_impl_Sock) (hl : l.length ≤ 1048576) (n : Int) : ∀ (q i k : Nat), i + q = l.length → q < k → (∀ j, j < i → (sockAt l j).1 ≠ n) → ∃ r : Int, L_spec_SockAt_2 K k l n (i : Int) = some r ∧ Found l.length (fun j => (sockAt l j).1) n r
  | 0, i, k + 1, hi, hk, hb => by
    rw [L_spec_SockAt_2.step, br_false (decide_eq_false (by omega))]
    exact ⟨-1, rfl, .inl ⟨by omega, fun j hj => hb j (by omega)⟩⟩
  | q + 1, i, k + 1, hi, hk, hb => by
    rw [L_spec_SockAt_2.step, br_true (decide_eq_true (by omega)), br_true (by simp; omega), show (i : Int).toNat = i by omega, wrap_id (k := (i : Int) + 1) (by omega) (by omega)]
    by_cases e : (sockAt l i).1 = n
    · rw [br_true (beq_true e)]
      exact ⟨_, rfl, .inr ⟨i, by omega, rfl, e⟩⟩
    · rw [br_false (beq_false e)]
      have := sockAt_run (K := K) l hl n q (i + 1) k (by omega) (by omega) (fun j hj => by
        by_cases ej : j = i
        · subst ej; exact e
        · exact hb j (by omega))
      rwa [Int.natCast_add] at this
  | _, _, 0, _, h, _ => absurd h (Nat.not_lt_zero _)
theorem sockAt_s {K : Nat} (hK : maxLen + 2 ≤ K) (l : List S_impl_Sock) (hl : l.length ≤ 1048576) (n : Int) : ∃ r : Int, g_spec_SockAt K l n = some r ∧ Found l.length (fun j => (sockAt l j).1) n r := by
  have hm : maxLen = 2 ^ 63 - 1 := rfl
  obtain ⟨r, r1, r2⟩ := sockAt_run (K := K) l hl n l.length 0 K (by omega) (by omega) (fun j hj => absurd hj (by omega))
  exact ⟨r, by rw [g_spec_SockAt.eq]; exact r1, r2⟩
/-- The world's sizes. -/
structure WS (x : S_impl_World) : Prop where
  ls : x.2.2.1.length ≤ 1048576
  lh : x.2.2.2.1.length ≤ 1048576
  lw : x.2.2.2.2.1.length ≤ 1048576
  ln : x.2.2.2.2.2.1.length ≤ 1048576
  hs : ∀ h ∈ x.2.2.2.1, HS h
  db : DB x.2.1
/-- A socket of kind c, with the number id, held by n. -/
def Held (x : S_impl_World) (n c id : Int) : Prop := ∃ i, i < x.2.2.1.length ∧ (sockAt x.2.2.1 i).1 = id ∧ (sockAt x.2.2.1 i).2.1 = c ∧ bitv (sockAt x.2.2.1 i).2.2.1 n ≠ 0
theorem found_held {x : S_impl_World} {n c id r : Int} (hp : SocksP x.2.2.1) (hf : Found x.2.2.1.length (fun j => (sockAt x.2.2.1 j).1) id r) : Held x n c id ↔ 0 ≤ r ∧ (sockAt x.2.2.1 r.toNat).2.1 = c ∧ bitv (sockAt x.2.2.1 r.toNat).2.2.1 n ≠ 0 := by
  constructor
  · rintro ⟨i, i1, i2, i3, i4⟩
    rcases hf with ⟨_, g⟩ | ⟨j, j1, rfl, j3⟩
    · exact absurd i2 (g i i1)
    · have e : i = j := rise_inj (id := fun j => (sockAt x.2.2.1 j).1) (m := x.2.2.1.length) (fun j hj h0 => (hp.1 j hj).2 h0) i1 j1 (i2.trans j3.symm)
      subst e
      exact ⟨by omega, i3, i4⟩
  · rintro ⟨r0, r1, r2⟩
    rcases hf with ⟨g, _⟩ | ⟨j, j1, rfl, j3⟩
    · omega
    · exact ⟨j, j1, j3, r1, r2⟩
end F5
