/- One configuration, read by both. -/
import Derived.Test.YtocpjnhpjclllaaGreatDoorCPlainE
set_option linter.unusedSimpArgs false
namespace F5
open Go Go.Fil Go.Proofs Go.Fil.Cf
set_option maxRecDepth 100000
set_option linter.unusedVariables false
theorem sNums_ent {b : List UInt8} {q : Q4} (h : sNums b = some q) : b = joinBy 47 [num q.1.toNat, num q.2.1.toNat, num q.2.2.1.toNat, num q.2.2.2.1.toNat] := by
  unfold sNums at h
  split at h
  · rename_i w x y z hb
    split at h
    · rename_i w' x' y' z' hw hx hy hz
      injection h with h
      subst h
      obtain ⟨n1, _, _, rfl, rfl⟩ := num_of 99 w _ (by omega) hw
      obtain ⟨n2, _, _, rfl, rfl⟩ := num_of 99 x _ (by omega) hx
      obtain ⟨n3, _, _, rfl, rfl⟩ := num_of 99 y _ (by omega) hy
      obtain ⟨n4, _, _, rfl, rfl⟩ := num_of 99 z _ (by omega) hz
      have := join_split 47 b
      rw [hb] at this
      simpa using this.symm
    · cases h
  · cases h
theorem sEnt_ent {p : List UInt8} {d : S_impl_Db} (h : sEnt p = some d) : p = ent d := by
  unfold sEnt at h
  split at h
  · rename_i a b hp
    obtain ⟨q, hq, rfl⟩ := Option.map_eq_some_iff.1 h
    have e := sNums_ent hq
    have := join_split 58 p
    rw [hp] at this
    rw [ent, nums, tl_fl, ← this, joinBy, joinBy, e]
  · cases h
theorem sAll_ent : ∀ {ps : List (List UInt8)} {l : List S_impl_Db}, sAll ps = some l → ps = l.map ent
  | [], l, h => by rw [sAll] at h; injection h with h; subst h; rfl
  | p :: r, l, h => by
    rw [sAll] at h
    split at h
    · cases h
    · rename_i d hd
      split at h
      · cases h
      · rename_i l' hl
        injection h with h
        subst h
        rw [List.map_cons, ← sEnt_ent hd, ← sAll_ent hl]
theorem nums_ok {d : S_impl_Db} (h : DbOk d) : ∀ x ∈ nums d, ∃ n : Nat, n ≤ 20 ∧ x = num n := by
  intro x hx
  obtain ⟨_, a1, a2, a3, a4⟩ := h
  simp only [nums, List.mem_cons, List.not_mem_nil, or_false] at hx
  rcases hx with rfl | rfl | rfl | rfl
  · exact ⟨_, by omega, rfl⟩
  · exact ⟨_, by omega, rfl⟩
  · exact ⟨_, by omega, rfl⟩
  · exact ⟨_, by omega, rfl⟩
theorem not_num {c : UInt8} (hc : c.toNat < 48 ∨ 57 < c.toNat) {n : Nat} (h : n ≤ 20) : c ∉ num n := fun hm => by
  have := num_chars n (by omega) c hm
  omega
theorem not_name {c : UInt8} (hc : c.toNat < 97) {l : List UInt8} (h : Nm l) : c ∉ l := fun hm => by
  have := h.2 c hm
  omega
theorem joinBy_mem (c : UInt8) : ∀ {ps : List (List UInt8)} {x : UInt8}, x ∈ joinBy c ps → x = c ∨ ∃ p ∈ ps, x ∈ p
  | [], x, h => by simp [joinBy] at h
  | [p], x, h => .inr ⟨p, by simp, by simpa [joinBy] using h⟩
  | p :: q :: ps, x, h => by
    rw [joinBy] at h
    rcases List.mem_append.1 h with h | h
    · exact .inr ⟨p, by simp, h⟩
    · rcases List.mem_cons.1 h with h | h
      · exact .inl h
      · rcases joinBy_mem c h with h | ⟨r, h1, h2⟩
        · exact .inl h
        · exact .inr ⟨r, by simp [h1], h2⟩
theorem tail_not {c : UInt8} (hc : c.toNat < 48 ∨ 57 < c.toNat) (h47 : c ≠ 47) {d : S_impl_Db} (h : DbOk d) : c ∉ joinBy 47 (nums d) := fun hm => by
  rcases joinBy_mem 47 hm with e | ⟨p, h1, h2⟩
  · exact h47 e
  · obtain ⟨n, hn, rfl⟩ := nums_ok h p h1
    exact not_num hc hn h2
theorem split47 {d : S_impl_Db} (h : DbOk d) : splitBy 47 (joinBy 47 (nums d)) = nums d :=
  split_join 47 (nums d) (by simp [nums]) (fun p hp => by
    obtain ⟨n, hn, rfl⟩ := nums_ok h p hp
    exact not_num (by decide) hn)
theorem pnum_ok (mx : Int) {n : Int} (h0 : 0 ≤ n) (h1 : n ≤ 20) (hm : 20 ≤ mx) : pnum mx (num n.toNat) = some n := by
  have := pnum_num mx n.toNat (by omega) (by omega)
  rw [this]
  congr 1
  omega
theorem ent_sEnt {d : S_impl_Db} (h : DbOk d) : sEnt (ent d) = some d := by
  have h1 : splitBy 58 (ent d) = [tl d.1, joinBy 47 (nums d)] := by
    rw [ent, split_app 58 _ _ (not_name (by decide) h.1), split_plain 58 _ (tail_not (by decide) (by decide) h)]
  have h2 : sNums (joinBy 47 (nums d)) = some d.2 := by
    unfold sNums
    rw [split47 h]
    obtain ⟨_, a1, a2, a3, a4⟩ := h
    simp only [nums]
    rw [pnum_ok 99 (by omega) (by omega) (by omega), pnum_ok 99 (by omega) (by omega) (by omega), pnum_ok 99 (by omega) (by omega) (by omega), pnum_ok 99 (by omega) (by omega) (by omega)]
  unfold sEnt
  rw [h1]
  simp only
  rw [h2, fl_tl]
  rfl
theorem ent_iEnt {d : S_impl_Db} (h : DbOk d) : iEnt (ent d) = d := by
  have h1 : cutAt 58 (ent d) = some (tl d.1, joinBy 47 (nums d)) := by
    rw [ent, cut_app 58 _ _ (not_name (by decide) h.1)]
  have h2 : splitN 47 3 (joinBy 47 (nums d)) = nums d :=
    splitN_join 47 3 (nums d) (by simp [nums]) (by simp [nums]) (fun p hp => by
      obtain ⟨n, hn, rfl⟩ := nums_ok h p hp
      exact not_num (by decide) hn)
  unfold iEnt
  rw [h1]
  simp only
  rw [h2, fl_tl]
  obtain ⟨_, a1, a2, a3, a4⟩ := h
  simp only [nums, comps]
  rw [pnum_ok 20 (by omega) (by omega) (by omega), pnum_ok 20 (by omega) (by omega) (by omega), pnum_ok 20 (by omega) (by omega) (by omega), pnum_ok 20 (by omega) (by omega) (by omega)]
  rfl
theorem all_sAll : ∀ {l : List S_impl_Db}, (∀ d ∈ l, DbOk d) → sAll (l.map ent) = some l
  | [], _ => rfl
  | d :: l, h => by
    rw [List.map_cons, sAll, ent_sEnt (h d (by simp))]
    simp only
    rw [all_sAll (fun x hx => h x (by simp [hx]))]
theorem all_iEnt : ∀ {l : List S_impl_Db}, (∀ d ∈ l, DbOk d) → (l.map ent).map iEnt = l
  | [], _ => rfl
  | d :: l, h => by
    rw [List.map_cons, List.map_cons, ent_iEnt (h d (by simp)), all_iEnt (fun x hx => h x (by simp [hx]))]
theorem ent59 {d : S_impl_Db} (h : DbOk d) : (59 : UInt8) ∉ ent d := fun hm => by
  rw [ent] at hm
  rcases List.mem_append.1 hm with h' | h'
  · exact not_name (by decide) h.1 h'
  · rcases List.mem_cons.1 h' with h' | h'
    · exact absurd h' (by decide)
    · exact tail_not (by decide) (by decide) h h'
theorem split_txt {l : List S_impl_Db} (h : CfOk l) : splitBy 59 (txt l) = l.map ent :=
  split_join 59 _ (fun e => by
    have h2 : (l.map ent).length = 0 := by rw [e]; rfl
    rw [List.length_map] at h2
    have := h.2.1
    omega) (fun p hp => by
    obtain ⟨d, hd, rfl⟩ := List.mem_map.1 hp
    exact ent59 (h.db d hd))
theorem txt_ne {l : List S_impl_Db} (h : CfOk l) : txt l ≠ [] := by
  have h1 := h.2.1
  match l, h1 with
  | [d], _ => simp [txt, joinBy, ent]
  | d :: e :: l, _ => simp [txt, joinBy, ent]
theorem parseConf {K : Nat} (hK : maxLen + 2 ≤ K) (s : ByteArray) (hs : s.size ≤ 100) : ∃ r : PC, g_spec_ParseConf K s = some r ∧ g_impl_ParseConf K s = some r ∧ (r.2.1 = true → CfOk r.1 ∧ txt r.1 = tl s) ∧ (r.2.1 = false → r = refuse) := by
  obtain ⟨i1, i2⟩ := parse_i hK s hs
  have hp := splitBy_len 59 (tl s)
  rw [tl_len] at hp
  have hq := split_piece 59 (tl s)
  rw [parse_s hK s hs]
  by_cases hI : CfOk (lI s) ∧ txt (lI s) = tl s ∧ s ≠ ⟨#[]⟩
  · refine ⟨(lI s, (true, ())), ?_, i1 hI, fun _ => ⟨hI.1, hI.2.1⟩, fun h => by cases h⟩
    have hsp : splitBy 59 (tl s) = (lI s).map ent := by rw [← hI.2.1, split_txt hI.1]
    rw [hsp, all_sAll hI.1.db, fin_s]
    obtain ⟨b, b1, _, b2⟩ := confOk hK (lI s) (by have := hI.1.2.2; omega) (fun d hd => by have : d.1.size ≤ 8 := (hI.1.db d hd).1.1.2; omega)
    rw [b1, Option.bind_some, b2.2 hI.1]
    rfl
  · refine ⟨refuse, ?_, i2 hI, (fun h => by cases h), fun _ => rfl⟩
    cases hA : sAll (splitBy 59 (tl s)) with
    | none => rfl
    | some l =>
      have hsp := sAll_ent hA
      have hll : l.length ≤ 101 := by
        have := congrArg List.length hsp
        rw [List.length_map] at this
        omega
      have htx : txt l = tl s := by rw [txt, ← hsp, join_split]
      obtain ⟨b, b1, _, b2⟩ := confOk hK l (by omega) (fun d hd => by
        have h1 : ent d ∈ splitBy 59 (tl s) := by rw [hsp]; exact List.mem_map.2 ⟨d, hd, rfl⟩
        have h2 := (hq _ h1).1
        rw [ent, List.length_append, tl_len, tl_len] at h2
        omega)
      rw [fin_s, b1, Option.bind_some]
      cases b with
      | false => rfl
      | true =>
        exfalso
        have hc := b2.1 rfl
        have hl : lI s = l := by rw [lI, hsp, all_iEnt hc.db]
        refine hI ⟨hl ▸ hc, hl ▸ htx, fun e => ?_⟩
        subst e
        exact txt_ne hc htx
/-- Whether a text is a configuration: both say the same. -/
theorem confT {K : Nat} (hK : maxLen + 2 ≤ K) (s : ByteArray) (hs : s.size ≤ 100) : ∃ b, g_spec_l4Text K s = some b ∧ g_impl_confOk K s = some b ∧ (s = ⟨#[]⟩ → b = false) := by
  obtain ⟨r, h1, h2, h3, _⟩ := parseConf hK s hs
  refine ⟨r.2.1, by rw [g_spec_l4Text.eq, h1]; rfl, by rw [g_impl_confOk.eq, h2]; rfl, ?_⟩
  rintro rfl
  cases h : r.2.1 with
  | false => rfl
  | true => exact absurd (h3 h).2 (txt_ne (h3 h).1)
end F5
