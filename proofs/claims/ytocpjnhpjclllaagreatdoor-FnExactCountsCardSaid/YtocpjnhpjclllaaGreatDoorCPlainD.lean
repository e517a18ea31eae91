/- Configurations: kept or not; their text. -/
import Derived.Test.YtocpjnhpjclllaaGreatDoorCPlainC
import Derived.Lib.Join
set_option linter.unusedSimpArgs false
namespace F5
open Go Go.Fil Go.Proofs Go.Fil.Cf
set_option maxRecDepth 100000
set_option linter.unusedVariables false
abbrev dbAt (l : List S_impl_Db) (j : Nat) : S_impl_Db := List.getD l j T_impl_Db.zero
def Cf0 (l : List S_impl_Db) (i : Nat) : Prop := ∀ j, i ≤ j → j < l.length → DbOk (dbAt l j) ∧ ∀ j', j' < j → (dbAt l j').1 ≠ (dbAt l j).1
def CfOk (l : List S_impl_Db) : Prop := Cf0 l 0 ∧ 1 ≤ l.length ∧ l.length ≤ 3
theorem Cf0_next {l : List S_impl_Db} {i : Nat} (hi : i < l.length) : Cf0 l i ↔ (DbOk (dbAt l i) ∧ ∀ j', j' < i → (dbAt l j').1 ≠ (dbAt l i).1) ∧ Cf0 l (i + 1) := by
  constructor
  · intro h
    exact ⟨h i (Nat.le_refl _) hi, fun j hj hl => h j (by omega) hl⟩
  · rintro ⟨h1, h2⟩ j hj hl
    by_cases e : j = i
    · subst e; exact h1
    · exact h2 j (by omega) hl
theorem dbAt_mem {l : List S_impl_Db} {i : Nat} (hi : i < l.length) : dbAt l i ∈ l := by
  rw [dbAt, List.getD_eq_getElem?_getD, List.getElem?_eq_getElem hi]
  exact List.getElem_mem hi
theorem conf_s {K : Nat} (hK : maxLen + 2 ≤ K) (l : List S_impl_Db) (hl : l.length ≤ 1048577) (hn : ∀ d ∈ l, d.1.size ≤ 1048576) : ∀ (q i k : Nat), i + q = l.length → q < k →
    ∃ b, L_spec_ConfOk_2 K k l (i : Int) = some b ∧ (b = true ↔ Cf0 l i ∧ 1 ≤ l.length ∧ l.length ≤ 3)
  | 0, i, k + 1, hi, hk => by
    rw [L_spec_ConfOk_2.step, br_false (decide_eq_false (by omega)), l1In_eq, Option.bind_some]
    refine ⟨_, rfl, ?_⟩
    have : Cf0 l i := fun j hj hl => absurd hl (by omega)
    simp [this]
    omega
  | q + 1, i, k + 1, hi, hk => by
    have hm : maxLen = 2 ^ 63 - 1 := rfl
    have hlt : i < l.length := by omega
    have hin : (decide (0 ≤ (i : Int)) && decide ((i : Int) < ((l.length : Nat) : Int))) = true := by simp; omega
    obtain ⟨b1, h1, h2⟩ := l3Db hK (dbAt l i) (hn _ (dbAt_mem hlt))
    have inner : ∀ (p j k' : Nat), j + p = i → p < k' → ∃ b, L_spec_ConfOk_7 K k' k l (i : Int) (j : Int) = some b ∧ (b = true ↔ (∀ j', j ≤ j' → j' < i → (dbAt l j').1 ≠ (dbAt l i).1) ∧ Cf0 l (i + 1) ∧ 1 ≤ l.length ∧ l.length ≤ 3) := by
      intro p
      induction p with
      | zero =>
        intro j k' hj hk'
        obtain ⟨k', rfl⟩ : ∃ m, k' = m + 1 := ⟨k' - 1, by omega⟩
        rw [L_spec_ConfOk_7.step, br_false (decide_eq_false (by omega)), wrap_id (by omega) (by omega)]
        obtain ⟨b, c1, c2⟩ := conf_s hK l hl hn q (i + 1) k (by omega) (by omega)
        refine ⟨b, c1, c2.trans ?_⟩
        constructor
        · intro h
          exact ⟨fun j' g1 g2 => absurd g2 (by omega), h⟩
        · intro h
          exact h.2
      | succ p ih =>
        intro j k' hj hk'
        obtain ⟨k', rfl⟩ : ∃ m, k' = m + 1 := ⟨k' - 1, by omega⟩
        rw [L_spec_ConfOk_7.step, br_true (decide_eq_true (by omega)), br_true (by simp; omega), br_true hin, show (j : Int).toNat = j by omega, show (i : Int).toNat = i by omega, wrap_id (by omega) (by omega)]
        obtain ⟨b, c1, c2⟩ := ih (j + 1) k' (by omega) (by omega)
        by_cases e : (dbAt l j).1 = (dbAt l i).1
        · rw [br_true ((strEq_iff _ _).2 e)]
          refine ⟨false, rfl, ?_⟩
          constructor
          · intro h; cases h
          · intro h; exact absurd e (h.1 j (Nat.le_refl _) (by omega))
        · rw [br_false (strEq_f e)]
          refine ⟨b, c1, c2.trans ?_⟩
          constructor
          · rintro ⟨g1, g2⟩
            refine ⟨fun j' h1 h2 => ?_, g2⟩
            by_cases e' : j' = j
            · subst e'; exact e
            · exact g1 j' (by omega) h2
          · rintro ⟨g1, g2⟩
            exact ⟨fun j' h1 h2 => g1 j' (by omega) h2, g2⟩
    obtain ⟨b, c1, c2⟩ := inner i 0 K (by omega) (by omega)
    rw [L_spec_ConfOk_2.step, br_true (decide_eq_true (by omega)), br_true hin, show (i : Int).toNat = i by omega, h1, Option.bind_some]
    cases b1 with
    | false =>
      refine ⟨false, rfl, ?_⟩
      rw [Cf0_next hlt]
      constructor
      · intro h; cases h
      · intro h; exact absurd (h2.2 h.1.1.1) (by simp)
    | true =>
      rw [br_false (c := !true) rfl]
      refine ⟨b, c1, c2.trans ?_⟩
      rw [Cf0_next hlt]
      have hd := h2.1 rfl
      constructor
      · rintro ⟨g1, g2, g3⟩
        exact ⟨⟨⟨hd, fun j' h => g1 j' (by omega) h⟩, g2⟩, g3⟩
      · rintro ⟨⟨⟨_, g1⟩, g2⟩, g3⟩
        exact ⟨fun j' _ h => g1 j' h, g2, g3⟩
  | _, _, 0, _, h => absurd h (Nat.not_lt_zero _)
theorem place_loop {K : Nat} (l : List S_impl_Db) (hl : l.length ≤ 1048577) (i : Nat) (hi : i < l.length) : ∀ (p j k : Nat), j + p = i → p < k →
    ∃ r : Int, L_slices_IndexFunc_S_impl_Db_2 K k l (dbAt l i).1 (j : Int) = some r ∧ (r = (i : Int) ↔ ∀ j', j ≤ j' → j' < i → (dbAt l j').1 ≠ (dbAt l i).1)
  | p, j, k + 1, hj, hk => by
    rw [L_slices_IndexFunc_S_impl_Db_2.step, br_true (decide_eq_true (by omega)), br_true (by simp; omega), show (j : Int).toNat = j by omega, g_impl_dbPlace_1.eq, Option.bind_some, wrap_id (by omega) (by omega)]
    by_cases e : (dbAt l j).1 = (dbAt l i).1
    · rw [br_true ((strEq_iff _ _).2 e)]
      refine ⟨_, rfl, ?_⟩
      constructor
      · intro h j' g1 g2; omega
      · intro h
        by_cases g : j < i
        · exact absurd e (h j (Nat.le_refl _) g)
        · omega
    · rw [br_false (strEq_f e)]
      match p, hj, hk with
      | 0, hj, hk =>
        have : j = i := by omega
        subst this
        exact absurd rfl e
      | p + 1, hj, hk =>
        obtain ⟨r, r1, r2⟩ := place_loop (K := K) l hl i hi p (j + 1) k (by omega) (by omega)
        refine ⟨r, r1, r2.trans ?_⟩
        constructor
        · intro g j' h1 h2
          by_cases e' : j' = j
          · subst e'; exact e
          · exact g j' (by omega) h2
        · intro g j' h1 h2
          exact g j' (by omega) h2
  | _, _, 0, _, h => absurd h (Nat.not_lt_zero _)
theorem place {K : Nat} (hK : maxLen + 2 ≤ K) (l : List S_impl_Db) (hl : l.length ≤ 1048577) (i : Nat) (hi : i < l.length) : ∃ r : Int, g_impl_dbPlace K l (dbAt l i).1 = some r ∧ (r = (i : Int) ↔ ∀ j', j' < i → (dbAt l j').1 ≠ (dbAt l i).1) := by
  have hm : maxLen = 2 ^ 63 - 1 := rfl
  obtain ⟨r, r1, r2⟩ := place_loop (K := K) l hl i hi i 0 K (by omega) (by omega)
  refine ⟨r, ?_, r2.trans ⟨fun h j' g => h j' (by omega) g, fun h j' _ g => h j' g⟩⟩
  rw [g_impl_dbPlace.eq, g_slices_IndexFunc_S_impl_Db.eq]
  exact congrArg (fun o => Option.bind o fun y => some y) r1
theorem conf_i {K : Nat} (hK : maxLen + 2 ≤ K) (l : List S_impl_Db) (hl : l.length ≤ 1048577) (hn : ∀ d ∈ l, d.1.size ≤ 1048576) : ∀ (q i k : Nat), i + q = l.length → q < k →
    ∃ b, L_impl_ConfOk_2 K k l (i : Int) = some b ∧ (b = true ↔ Cf0 l i ∧ 1 ≤ l.length ∧ l.length ≤ 3)
  | 0, i, k + 1, hi, hk => by
    rw [L_impl_ConfOk_2.step, br_false (decide_eq_false (by omega)), isIn_eq, Option.bind_some]
    refine ⟨_, rfl, ?_⟩
    have : Cf0 l i := fun j hj hl => absurd hl (by omega)
    simp [this]
    omega
  | q + 1, i, k + 1, hi, hk => by
    have hlt : i < l.length := by omega
    obtain ⟨b1, _, h1, h2⟩ := name hK (dbAt l i).1 (hn _ (dbAt_mem hlt))
    obtain ⟨r, r1, r2⟩ := place hK l hl i hlt
    obtain ⟨b, c1, c2⟩ := conf_i hK l hl hn q (i + 1) k (by omega) (by omega)
    rw [L_impl_ConfOk_2.step, br_true (decide_eq_true (by omega)), br_true (by simp; omega), show (i : Int).toNat = i by omega, h1, Option.bind_some, wrap_id (by omega) (by omega)]
    have no : ∀ (P : Prop), ¬ P → (false = true ↔ P) := fun P hP => ⟨fun h => (by cases h), fun h => absurd h hP⟩
    rw [Cf0_next hlt]
    unfold DbOk
    rw [← h2]
    have nn : ∀ {a b c : Int}, ¬ (b ≤ a ∧ a ≤ c) → (!(decide (b ≤ a) && decide (a ≤ c))) = true := fun h => by
      rw [Bool.not_eq_true', Bool.and_eq_false_iff, decide_eq_false_iff_not, decide_eq_false_iff_not]; omega
    have yy : ∀ {a b c : Int}, (b ≤ a ∧ a ≤ c) → (!(decide (b ≤ a) && decide (a ≤ c))) = false := fun h => by simp [h.1, h.2]
    cases b1 with
    | false => exact ⟨false, rfl, no _ (by simp)⟩
    | true =>
      rw [br_false (c := !true) rfl, r1, Option.bind_some]
      by_cases hr : r = (i : Int)
      · rw [br_false (bne_false hr)]
        simp only [isIn_eq, Option.bind_some]
        by_cases a1 : 1 ≤ (dbAt l i).2.1 ∧ (dbAt l i).2.1 ≤ 3
        · rw [br_false (yy a1)]
          by_cases a2 : 0 ≤ (dbAt l i).2.2.1 ∧ (dbAt l i).2.2.1 ≤ 4
          · rw [br_false (yy a2)]
            by_cases a3 : 1 ≤ (dbAt l i).2.2.2.1 ∧ (dbAt l i).2.2.2.1 ≤ 20
            · rw [br_false (yy a3)]
              by_cases a4 : 1 ≤ (dbAt l i).2.2.2.2.1 ∧ (dbAt l i).2.2.2.2.1 ≤ 20
              · rw [br_false (yy a4)]
                refine ⟨b, c1, c2.trans ?_⟩
                constructor
                · rintro ⟨g1, g2⟩
                  exact ⟨⟨⟨⟨trivial, a1, a2, a3, a4⟩, r2.1 hr⟩, g1⟩, g2⟩
                · rintro ⟨⟨_, g1⟩, g2⟩
                  exact ⟨g1, g2⟩
              · rw [br_true (nn a4)]
                exact ⟨false, rfl, no _ (fun h => a4 h.1.1.1.2.2.2.2)⟩
            · rw [br_true (nn a3)]
              exact ⟨false, rfl, no _ (fun h => a3 h.1.1.1.2.2.2.1)⟩
          · rw [br_true (nn a2)]
            exact ⟨false, rfl, no _ (fun h => a2 h.1.1.1.2.2.1)⟩
        · rw [br_true (nn a1)]
          exact ⟨false, rfl, no _ (fun h => a1 h.1.1.1.2.1)⟩
      · rw [br_true (bne_true hr)]
        exact ⟨false, rfl, no _ (fun h => hr (r2.2 h.1.1.2))⟩
  | _, _, 0, _, h => absurd h (Nat.not_lt_zero _)
theorem confOk {K : Nat} (hK : maxLen + 2 ≤ K) (l : List S_impl_Db) (hl : l.length ≤ 1048577) (hn : ∀ d ∈ l, d.1.size ≤ 1048576) : ∃ b, g_spec_ConfOk K l = some b ∧ g_impl_ConfOk K l = some b ∧ (b = true ↔ CfOk l) := by
  have hm : maxLen = 2 ^ 63 - 1 := rfl
  obtain ⟨b, h1, h2⟩ := conf_s hK l hl hn l.length 0 K (by omega) (by omega)
  obtain ⟨c, h3, h4⟩ := conf_i hK l hl hn l.length 0 K (by omega) (by omega)
  have e : b = c := Bool.eq_iff_iff.2 (h2.trans h4.symm)
  subst e
  exact ⟨b, by rw [g_spec_ConfOk.eq]; exact h1, by rw [g_impl_ConfOk.eq]; exact h3, h2⟩
theorem CfOk.db {l : List S_impl_Db} (h : CfOk l) : ∀ d ∈ l, DbOk d := by
  intro d hd
  obtain ⟨i, hi, rfl⟩ := List.getElem_of_mem hd
  have := (h.1 i (by omega) hi).1
  rwa [dbAt, List.getD_eq_getElem?_getD, List.getElem?_eq_getElem hi] at this
/-! ### texts -/
def nums (d : S_impl_Db) : List (List UInt8) := [num d.2.1.toNat, num d.2.2.1.toNat, num d.2.2.2.1.toNat, num d.2.2.2.2.1.toNat]
def ent (d : S_impl_Db) : List UInt8 := tl d.1 ++ 58 :: joinBy 47 (nums d)
def txt (l : List S_impl_Db) : List UInt8 := joinBy 59 (l.map ent)
theorem numText (K : Nat) (n : Int) (h0 : 0 ≤ n) (h1 : n ≤ 20) : g_impl_NumText K n = some (fl (num n.toNat)) := by
  have key : ∀ n : Fin 21, g_internal_strconv_small K (n.1 : Int) = some (fl (num n.1)) := by
    intro n
    rw [g_internal_strconv_small.eq]
    revert n
    decide +kernel
  have e := key ⟨n.toNat, by omega⟩
  rw [show (((⟨n.toNat, by omega⟩ : Fin 21).1 : Nat) : Int) = n by simp; omega] at e
  rw [g_impl_NumText.eq, g_strconv_Itoa.eq, g_internal_strconv_Itoa.eq, g_internal_strconv_FormatInt.eq, br_true (by decide), br_true (decide_eq_true (by omega)), br_true (decide_eq_true (by omega)), e]
  rfl
theorem join_by (c : UInt8) : ∀ xs, Lib.join xs [c] = joinBy c xs
  | [] => rfl
  | [x] => Lib.join_one x [c]
  | x :: y :: r => by
    rw [joinBy, Lib.join_cons, ← join_by c (y :: r), Lib.join_cons]
    simp [Lib.joinTail]
theorem joinBy_len (c : UInt8) (m : Nat) : ∀ ps : List (List UInt8), (∀ p ∈ ps, p.length ≤ m) → (joinBy c ps).length ≤ (m + 1) * ps.length
  | [], _ => by simp [joinBy]
  | [p], h => by
    have := h p (by simp)
    simp [joinBy]
    omega
  | p :: q :: ps, h => by
    have h1 := h p (by simp)
    have h2 := joinBy_len c m (q :: ps) (fun x hx => h x (by simp [hx]))
    rw [joinBy, List.length_append, List.length_cons, List.length_cons, Nat.mul_succ]
    omega
theorem ent_len (d : S_impl_Db) (h : DbOk d) : (ent d).length ≤ 30 := by
  have h1 := h.1.1.2
  have h2 := joinBy_len 47 2 (nums d) (fun p hp => by
    simp only [nums, List.mem_cons, List.not_mem_nil, or_false] at hp
    rcases hp with rfl | rfl | rfl | rfl <;> exact num_len _)
  have h3 : (nums d).length = 4 := rfl
  rw [h3] at h2
  rw [ent, List.length_append, List.length_cons]
  omega
theorem text_loop2 {K : Nat} (l : List S_impl_Db) (hl : CfOk l) : ∀ (r : List S_impl_Db) (i k : Nat) (o : List ByteArray), l.drop i = r → i + r.length = l.length → o.length = i → (∀ x ∈ o, (tl x).length ≤ 30) → r.length < k →
    L_impl_ConfText_5 K k l (i : Int) o = some (fl (joinBy 59 (o.map tl ++ r.map ent)))
  | [], i, k + 1, o, h, hi, ho, hx, hk => by
    have h3 := hl.2.2
    have hj : Lib.join (o.map (·.data.toList)) (ByteArray.data ⟨#[59]⟩).toList = joinBy 59 (o.map tl) := join_by 59 _
    have hb := joinBy_len 59 30 (o.map tl) (fun p hp => by
      obtain ⟨x, h1, rfl⟩ := List.mem_map.1 hp
      exact hx x h1)
    rw [List.length_map] at hb
    rw [L_impl_ConfText_5.step, br_false (decide_eq_false (by simp at hi; omega)), g_strings_Join.eq]
    unfold joinS
    rw [hj, if_pos ⟨by simp at hi; omega, by simp at hi; omega⟩, List.map_nil, List.append_nil]
    rfl
  | d :: r, i, k + 1, o, h, hi, ho, hx, hk => by
    have h3 := hl.2.2
    have hlt : i < l.length := by simp at hi; omega
    have hd : l.drop i = l[i] :: l.drop (i + 1) := List.drop_eq_getElem_cons hlt
    rw [hd] at h
    injection h with hd1 hr
    have hat : dbAt l i = d := by rw [dbAt, List.getD_eq_getElem?_getD, List.getElem?_eq_getElem hlt]; exact hd1
    have hok : DbOk d := hl.db d (by rw [← hd1]; exact List.getElem_mem hlt)
    obtain ⟨⟨⟨_, n1⟩, _⟩, a1, a2, a3, a4⟩ := hok
    have n1 : d.1.size ≤ 8 := n1
    have l1 := num_len d.2.1.toNat
    have l2 := num_len d.2.2.1.toNat
    have l3 := num_len d.2.2.2.1.toNat
    have l4 := num_len d.2.2.2.2.1.toNat
    have s58 : ByteArray.size (⟨#[58]⟩ : ByteArray) = 1 := rfl
    have s47 : ByteArray.size (⟨#[47]⟩ : ByteArray) = 1 := rfl
    have hat' : List.getD l i T_impl_Db.zero = d := hat
    rw [L_impl_ConfText_5.step, br_true (decide_eq_true (by omega)), br_true (by simp; omega), show (i : Int).toNat = i by omega, hat']
    rw [br_true (decide_eq_true (by omega)), numText K d.2.1 (by omega) (by omega), Option.bind_some]
    rw [br_true (decide_eq_true (by simp only [ByteArray.size_append, fl_size]; omega)), br_true (decide_eq_true (by simp only [ByteArray.size_append, fl_size]; omega)), numText K d.2.2.1 (by omega) (by omega), Option.bind_some]
    rw [br_true (decide_eq_true (by simp only [ByteArray.size_append, fl_size]; omega)), br_true (decide_eq_true (by simp only [ByteArray.size_append, fl_size]; omega)), numText K d.2.2.2.1 (by omega) (by omega), Option.bind_some]
    rw [br_true (decide_eq_true (by simp only [ByteArray.size_append, fl_size]; omega)), br_true (decide_eq_true (by simp only [ByteArray.size_append, fl_size]; omega)), numText K d.2.2.2.2.1 (by omega) (by omega), Option.bind_some]
    rw [br_true (decide_eq_true (by simp only [ByteArray.size_append, fl_size]; omega)), br_true (decide_eq_true (by simp; omega)), wrap_id (by omega) (by omega)]
    have e : ((((((((d.1 ++ (⟨#[58]⟩ : ByteArray)) ++ fl (num d.2.1.toNat)) ++ (⟨#[47]⟩ : ByteArray)) ++ fl (num d.2.2.1.toNat)) ++ (⟨#[47]⟩ : ByteArray)) ++ fl (num d.2.2.2.1.toNat)) ++ (⟨#[47]⟩ : ByteArray)) ++ fl (num d.2.2.2.2.1.toNat)) = fl (ent d) := by
      apply tl_inj
      simp only [tl_append, tl_fl, ent, nums, joinBy]
      simp [tl]
    rw [e]
    have := text_loop2 (K := K) l hl r (i + 1) k (o ++ [fl (ent d)]) hr (by simp at hi; omega) (by simp; omega) (fun x hx' => by
      rcases List.mem_append.1 hx' with h' | h'
      · exact hx x h'
      · rw [List.mem_singleton.1 h', tl_fl]; exact ent_len d ⟨⟨⟨‹_›, n1⟩, ‹_›⟩, a1, a2, a3, a4⟩) (by simp at hk; omega)
    refine this.trans ?_
    simp [tl_fl]
  | _, _, 0, _, _, _, _, _, h => absurd h (Nat.not_lt_zero _)
theorem confText {K : Nat} (hK : maxLen + 2 ≤ K) (l : List S_impl_Db) (hl : l.length ≤ 1048577) (hn : ∀ d ∈ l, d.1.size ≤ 1048576) : (CfOk l → g_impl_ConfText K l = some (fl (txt l))) ∧ (¬ CfOk l → g_impl_ConfText K l = some ⟨#[]⟩) := by
  have hm : maxLen = 2 ^ 63 - 1 := rfl
  obtain ⟨b, _, h2, h3⟩ := confOk hK l hl hn
  rw [g_impl_ConfText.eq, h2, Option.bind_some]
  constructor
  · intro h
    rw [h3.2 h, br_false (c := !true) rfl]
    exact text_loop2 (K := K) l h l 0 K [] (by simp) (by omega) rfl (by simp) (by omega)
  · intro h
    cases b with
    | false => rfl
    | true => exact absurd (h3.1 rfl) h
end F5
