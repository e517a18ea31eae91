/- Rows of bytes cut at a byte, and put together again; decimal numerals of two digits. -/
set_option linter.unusedVariables false
set_option linter.unusedSimpArgs false
namespace Go.Fil.Cf
/-- What comes ahead of the first piece. -/
def cont (pre : List UInt8) : List (List UInt8) → List (List UInt8)
  | [] => [pre]
  | p :: ps => (pre ++ p) :: ps
def splitBy (c : UInt8) : List UInt8 → List (List UInt8)
  | [] => [[]]
  | b :: r => if b = c then [] :: splitBy c r else cont [b] (splitBy c r)
def joinBy (c : UInt8) : List (List UInt8) → List UInt8
  | [] => []
  | [p] => p
  | p :: q :: ps => p ++ c :: joinBy c (q :: ps)
theorem cont_ne (pre : List UInt8) (ps : List (List UInt8)) : cont pre ps ≠ [] := by cases ps <;> simp [cont]
theorem splitBy_ne (c : UInt8) : ∀ l, splitBy c l ≠ []
  | [] => by simp [splitBy]
  | b :: r => by
    unfold splitBy
    split
    · simp
    · exact cont_ne _ _
theorem cont_cont (a b : List UInt8) {ps : List (List UInt8)} (h : ps ≠ []) : cont a (cont b ps) = cont (a ++ b) ps := by
  cases ps with
  | nil => exact absurd rfl h
  | cons p ps => simp [cont]
theorem cont_nil {ps : List (List UInt8)} (h : ps ≠ []) : cont [] ps = ps := by
  cases ps with
  | nil => exact absurd rfl h
  | cons p ps => simp [cont]
theorem join_cont (c : UInt8) (pre : List UInt8) {ps : List (List UInt8)} (h : ps ≠ []) : joinBy c (cont pre ps) = pre ++ joinBy c ps := by
  match ps, h with
  | [p], _ => simp [cont, joinBy]
  | p :: q :: ps, _ => simp [cont, joinBy]
theorem join_split (c : UInt8) : ∀ l, joinBy c (splitBy c l) = l
  | [] => rfl
  | b :: r => by
    have ih := join_split c r
    have hn := splitBy_ne c r
    unfold splitBy
    split
    · rename_i e
      subst e
      match hs : splitBy b r, hn with
      | q :: ps, _ => rw [hs] at ih; simp [joinBy, ih]
    · rw [join_cont c _ hn, ih]; rfl
theorem split_plain (c : UInt8) : ∀ p : List UInt8, c ∉ p → splitBy c p = [p]
  | [], _ => rfl
  | b :: r, h => by
    have hb : b ≠ c := fun e => h (by simp [e])
    rw [splitBy, if_neg hb, split_plain c r (fun e => h (by simp [e]))]
    rfl
theorem split_app (c : UInt8) (r : List UInt8) : ∀ p : List UInt8, c ∉ p → splitBy c (p ++ c :: r) = p :: splitBy c r
  | [], _ => by simp [splitBy]
  | b :: p, h => by
    have hb : b ≠ c := fun e => h (by simp [e])
    rw [List.cons_append, splitBy, if_neg hb, split_app c r p (fun e => h (by simp [e]))]
    rfl
theorem split_join (c : UInt8) : ∀ ps : List (List UInt8), ps ≠ [] → (∀ p ∈ ps, c ∉ p) → splitBy c (joinBy c ps) = ps
  | [], h, _ => absurd rfl h
  | [p], _, h => split_plain c p (h p (by simp))
  | p :: q :: ps, _, h => by
    rw [joinBy, split_app c _ p (h p (by simp)), split_join c (q :: ps) (by simp) (fun x hx => h x (by simp [hx]))]
theorem splitBy_len (c : UInt8) : ∀ l, (splitBy c l).length ≤ l.length + 1
  | [] => by simp [splitBy]
  | b :: r => by
    have ih := splitBy_len c r
    unfold splitBy
    split
    · simp; omega
    · cases hs : splitBy c r with
      | nil => simp [cont]
      | cons p ps => rw [hs] at ih; simp [cont] at ih ⊢; omega
theorem split_piece (c : UInt8) : ∀ l, ∀ p ∈ splitBy c l, p.length ≤ l.length ∧ c ∉ p
  | [], p, h => by simp [splitBy] at h; subst h; simp
  | b :: r, p, h => by
    have ih := split_piece c r
    unfold splitBy at h
    split at h
    · rcases List.mem_cons.1 h with rfl | h
      · simp
      · have := ih p h; exact ⟨by simp; omega, this.2⟩
    · rename_i hb
      cases hs : splitBy c r with
      | nil => exact absurd hs (splitBy_ne c r)
      | cons q ps =>
        rw [hs] at h ih
        simp only [cont] at h
        rcases List.mem_cons.1 h with rfl | h
        · have := ih q (by simp)
          exact ⟨by simp; omega, by
            intro hc
            rcases List.mem_cons.1 hc with e | hc
            · exact hb e.symm
            · exact this.2 hc⟩
        · have := ih p (by simp [h]); exact ⟨by simp; omega, this.2⟩
/-- At the first place of c: what is ahead, what is behind. -/
def cutAt (c : UInt8) : List UInt8 → Option (List UInt8 × List UInt8)
  | [] => none
  | b :: r => if b = c then some ([], r) else (cutAt c r).map fun x => (b :: x.1, x.2)
theorem cut_none (c : UInt8) : ∀ l, cutAt c l = none ↔ c ∉ l
  | [] => by simp [cutAt]
  | b :: r => by
    unfold cutAt
    split
    · rename_i e; subst e; simp
    · rename_i e
      rw [Option.map_eq_none_iff, cut_none c r]
      simp [Ne.symm e]
theorem cut_some (c : UInt8) : ∀ l p r, cutAt c l = some (p, r) → l = p ++ c :: r ∧ c ∉ p
  | [], p, r, h => by simp [cutAt] at h
  | b :: l, p, r, h => by
    unfold cutAt at h
    split at h
    · rename_i e
      simp only [Option.some.injEq, Prod.mk.injEq] at h
      obtain ⟨rfl, rfl⟩ := h
      subst e
      simp
    · rename_i e
      obtain ⟨x, hx, h⟩ := Option.map_eq_some_iff.1 h
      simp only [Prod.mk.injEq] at h
      obtain ⟨rfl, rfl⟩ := h
      obtain ⟨h1, h2⟩ := cut_some c l x.1 x.2 hx
      refine ⟨by rw [h1]; rfl, ?_⟩
      intro hc
      rcases List.mem_cons.1 hc with e' | hc
      · exact e e'.symm
      · exact h2 hc
theorem cut_app (c : UInt8) (r : List UInt8) : ∀ p, c ∉ p → cutAt c (p ++ c :: r) = some (p, r)
  | [], _ => by simp [cutAt]
  | b :: p, h => by
    have hb : b ≠ c := fun e => h (by simp [e])
    rw [List.cons_append, cutAt, if_neg hb, cut_app c r p (fun e => h (by simp [e]))]
    rfl
/-- At most n pieces, the last one uncut. -/
def splitN (c : UInt8) : Nat → List UInt8 → List (List UInt8)
  | 0, l => [l]
  | n + 1, l => match cutAt c l with
    | none => [l]
    | some (p, r) => p :: splitN c n r
theorem splitN_len (c : UInt8) : ∀ n l, (splitN c n l).length ≤ n + 1
  | 0, l => by simp [splitN]
  | n + 1, l => by
    unfold splitN
    split
    · simp
    · have := splitN_len c n
      simp; exact this _
theorem splitN_join (c : UInt8) : ∀ (n : Nat) (ps : List (List UInt8)), ps ≠ [] → ps.length ≤ n + 1 → (∀ p ∈ ps, c ∉ p) → splitN c n (joinBy c ps) = ps
  | _, [], h, _, _ => absurd rfl h
  | 0, [p], _, _, _ => rfl
  | n + 1, [p], _, _, h => by
    rw [splitN, joinBy, (cut_none c p).2 (h p (by simp))]
  | 0, _ :: _ :: _, _, h, _ => by simp at h
  | n + 1, p :: q :: ps, _, hl, h => by
    rw [splitN, joinBy, cut_app c _ p (h p (by simp))]
    simp only
    rw [splitN_join c n (q :: ps) (by simp) (by simpa using hl) (fun x hx => h x (by simp [hx]))]
theorem splitN_all (c : UInt8) : ∀ (n : Nat) (l : List UInt8), l.length ≤ n → splitN c n l = splitBy c l
  | 0, [], _ => rfl
  | 0, _ :: _, h => by simp at h
  | n + 1, l, h => by
    unfold splitN
    split
    · rename_i hc
      rw [split_plain c l ((cut_none c l).1 hc)]
    · rename_i p r hc
      obtain ⟨h1, h2⟩ := cut_some c l p r hc
      rw [h1, split_app c r p h2, splitN_all c n r (by rw [h1] at h; simp at h; omega)]
/-! ### numerals -/
def num (n : Nat) : List UInt8 := if n < 10 then [UInt8.ofNat (48 + n)] else [UInt8.ofNat (48 + n / 10), UInt8.ofNat (48 + n % 10)]
end Go.Fil.Cf
