/- Strings as rows of bytes; cutting and putting together. -/
import Derived.Test.YtocpjnhpjclllaaGreatDoorCPlainA
import Derived.Test.YtocpjnhpjclllaaGreatDoorCCut
import Derived.Lib.Bytealg
set_option linter.unusedSimpArgs false
namespace F5
open Go Go.Fil Go.Proofs Go.Fil.Cf
set_option maxRecDepth 100000
set_option linter.unusedVariables false
abbrev tl (s : ByteArray) : List UInt8 := s.data.toList
def fl (l : List UInt8) : ByteArray := ⟨l.toArray⟩
theorem tl_fl (l : List UInt8) : tl (fl l) = l := by simp [tl, fl]
theorem fl_tl (s : ByteArray) : fl (tl s) = s := by cases s; simp [tl, fl]
theorem tl_len (s : ByteArray) : (tl s).length = s.size := rfl
theorem fl_size (l : List UInt8) : (fl l).size = l.length := by rw [← tl_len, tl_fl]
theorem tl_inj {a b : ByteArray} (h : tl a = tl b) : a = b := by rw [← fl_tl a, h, fl_tl]
theorem fl_inj {a b : List UInt8} (h : fl a = fl b) : a = b := by rw [← tl_fl a, h, tl_fl]
theorem tl_append (a b : ByteArray) : tl (a ++ b) = tl a ++ tl b := by simp [tl]
theorem fl_append (a b : List UInt8) : fl a ++ fl b = fl (a ++ b) := tl_inj (by rw [tl_append, tl_fl, tl_fl, tl_fl])
theorem tl_extract (s : ByteArray) (a b : Nat) : tl (s.extract a b) = ((tl s).drop a).take (b - a) := by
  simp [tl, ByteArray.data_extract, List.extract_eq_take_drop]
theorem ext_eq (s : ByteArray) (a b : Nat) : s.extract a b = fl (((tl s).drop a).take (b - a)) := tl_inj (by rw [tl_extract, tl_fl])
theorem bt_eq (s : ByteArray) (i : Nat) (h : i < (tl s).length) : bt s (i : Int) = (((tl s)[i].toNat : Nat) : Int) := by
  have h' : i < s.data.size := h
  unfold bt
  rw [show (i : Int).toNat = i by omega, Array.getElem?_eq_getElem h']
  rfl
theorem beqB_iff (a b : ByteArray) : (a == b) = true ↔ a = b := by
  obtain ⟨a⟩ := a
  obtain ⟨b⟩ := b
  constructor
  · intro h
    have : (a == b) = true := h
    rw [beq_iff_eq.1 this]
  · intro h
    injection h with h
    subst h
    show (a == a) = true
    exact beq_self_eq_true a
theorem strEq_iff (a b : ByteArray) : strEq a b = true ↔ a = b := by
  unfold strEq
  rw [ByteArray.toList_eq, ByteArray.toList_eq, beq_iff_eq]
  constructor
  · intro h
    obtain ⟨a⟩ := a
    obtain ⟨b⟩ := b
    congr 1
    exact Array.toList_inj.1 h
  · rintro rfl; rfl
theorem strEq_f {a b : ByteArray} (h : a ≠ b) : strEq a b = false := by
  cases e : strEq a b
  · rfl
  · exact absurd ((strEq_iff a b).1 e) h
theorem strEq_t (a : ByteArray) : strEq a a = true := (strEq_iff a a).2 rfl
theorem beq_true {a b : Int} (h : a = b) : (a == b) = true := by simp [h]
theorem beq_false {a b : Int} (h : a ≠ b) : (a == b) = false := by simp [h]
theorem bne_true {a b : Int} (h : a ≠ b) : (a != b) = true := by simp [h]
theorem bne_false {a b : Int} (h : a = b) : (a != b) = false := by simp [h]
/-! ### the reference's split -/
theorem split_loop {K : Nat} (s : ByteArray) (hl : s.size ≤ 1048576) (c : UInt8) : ∀ (q a b k : Nat) (o : List ByteArray), b + q = (tl s).length → a ≤ b → q + 1 < k → o.length ≤ b →
    L_spec_l3Split_4 K k s ((c.toNat : Nat) : Int) (a : Int) (b : Int) o = some (o ++ (cont (((tl s).drop a).take (b - a)) (splitBy c ((tl s).drop b))).map fl)
  | 0, a, b, k + 2, o, hb, hab, hk, ho => by
    have e : s.size = b := by rw [← tl_len]; omega
    have hd : (tl s).drop b = [] := List.drop_eq_nil_of_le (by omega)
    rw [L_spec_l3Split_4.step, br_true (decide_eq_true (by omega)), br_true (beq_true (by omega)), br_true (by simp; omega), br_true (by simp; omega), br_true (decide_eq_true (by simp; omega))]
    rw [wrap_id (by omega) (by omega), L_spec_l3Split_4.step, br_false (decide_eq_false (by omega)), hd]
    simp only [splitBy, cont, List.append_nil, List.map_cons, List.map_nil]
    rw [ext_eq]
    rfl
  | q + 1, a, b, k + 1, o, hb, hab, hk, ho => by
    have e : s.size = b + q + 1 := by rw [← tl_len]; omega
    have hlt : b < (tl s).length := by omega
    have hd : (tl s).drop b = (tl s)[b] :: (tl s).drop (b + 1) := List.drop_eq_getElem_cons hlt
    rw [L_spec_l3Split_4.step, br_true (decide_eq_true (by omega)), br_false (beq_false (by omega)), br_true (by simp; omega), bt_eq s b hlt, hd, wrap_id (by omega) (by omega)]
    by_cases hc : (tl s)[b] = c
    · rw [br_true (beq_true (by rw [hc])), br_true (by simp; omega), br_true (by simp; omega), br_true (decide_eq_true (by simp; omega))]
      have := split_loop (K := K) s hl c q (b + 1) (b + 1) k (o ++ [s.extract a b]) (by omega) (by omega) (by omega) (by simp; omega)
      rw [Int.natCast_add] at this
      refine this.trans ?_
      rw [splitBy, if_pos hc, show b + 1 - (b + 1) = 0 by omega, List.take_zero, cont_nil (splitBy_ne c _), ext_eq]
      simp [cont]
    · rw [br_false (beq_false (fun h => hc (UInt8.toNat_inj.1 (Int.ofNat_inj.1 h))))]
      have := split_loop (K := K) s hl c q a (b + 1) k o (by omega) (by omega) (by omega) (by omega)
      rw [Int.natCast_add] at this
      refine this.trans ?_
      rw [splitBy, if_neg hc, cont_cont _ _ (splitBy_ne c _)]
      have : ((tl s).drop a).take (b + 1 - a) = ((tl s).drop a).take (b - a) ++ [(tl s)[b]] := by
        rw [show b + 1 - a = (b - a) + 1 by omega, List.take_add_one, List.getElem?_drop, show a + (b - a) = b by omega, List.getElem?_eq_getElem hlt]
        rfl
      rw [this]
  | 0, _, _, 0, _, _, _, h, _ => absurd h (by omega)
  | 0, _, _, 1, _, _, _, h, _ => absurd h (by omega)
  | _ + 1, _, _, 0, _, _, _, h, _ => absurd h (by omega)
/-- The pieces of a string. -/
def sp (c : UInt8) (s : ByteArray) : List ByteArray := (splitBy c (tl s)).map fl
theorem split_s {K : Nat} (hK : maxLen + 2 ≤ K) (s : ByteArray) (hl : s.size ≤ 1048576) (c : UInt8) : g_spec_l3Split K s ((c.toNat : Nat) : Int) = some (sp c s) := by
  have hm : maxLen = 2 ^ 63 - 1 := rfl
  rw [g_spec_l3Split.eq]
  refine (split_loop (K := K) s hl c (tl s).length 0 0 K [] (by omega) (by omega) (by rw [tl_len]; omega) (by simp)).trans ?_
  rw [List.drop_zero, Nat.sub_zero, List.take_zero, cont_nil (splitBy_ne c _)]
  rfl
/-! ### the library's -/
theorem idx_none (c : UInt8) : ∀ l, cutAt c l = none → Lib.indexByte l c = -1
  | [], _ => rfl
  | b :: r, h => by
    unfold cutAt at h
    split at h
    · cases h
    · rename_i hb
      rw [Option.map_eq_none_iff] at h
      have ih := idx_none c r h
      unfold Lib.indexByte
      rw [if_neg (by simpa using hb), ih]
      rfl
theorem idx_some (c : UInt8) : ∀ l p r, cutAt c l = some (p, r) → Lib.indexByte l c = (p.length : Int)
  | [], p, r, h => by simp [cutAt] at h
  | b :: l, p, r, h => by
    unfold cutAt at h
    split at h
    · rename_i hb
      simp only [Option.some.injEq, Prod.mk.injEq] at h
      obtain ⟨rfl, rfl⟩ := h
      unfold Lib.indexByte
      rw [if_pos (by simpa using hb)]
      rfl
    · rename_i hb
      obtain ⟨x, hx, h⟩ := Option.map_eq_some_iff.1 h
      simp only [Prod.mk.injEq] at h
      obtain ⟨rfl, rfl⟩ := h
      have ih := idx_some c l x.1 x.2 hx
      unfold Lib.indexByte
      rw [if_neg (by simpa using hb), ih, if_neg (by simp)]
      simp
theorem index_eq (K : Nat) (s : ByteArray) (c : UInt8) : g_strings_Index K s (fl [c]) = some (Lib.indexByte (tl s) c) := by
  rw [g_strings_Index.eq, g_internal_stringslite_Index.eq, br_false (beq_false (by rw [fl_size]; simp))]
  by_cases h : fl [c] = s
  · subst h
    rw [br_true (strEq_t _), Option.bind_some, tl_fl]
    simp [Lib.indexByte]
  · rw [br_false (strEq_f h), br_true (beq_true (by rw [fl_size]; simp)), br_true (by rw [fl_size]; rfl)]
    have e : bt (fl [c]) 0 = ((c.toNat : Nat) : Int) := by
      have := bt_eq (fl [c]) 0 (by rw [tl_fl]; simp)
      simpa [fl] using this
    rw [e, g_internal_stringslite_IndexByte.eq, Option.bind_some, Option.bind_some]
    congr 2
    simp
theorem index_lite (K : Nat) (s : ByteArray) (c : UInt8) : g_internal_stringslite_Index K s (fl [c]) = some (Lib.indexByte (tl s) c) := by
  have := index_eq K s c
  rw [g_strings_Index.eq] at this
  cases h : g_internal_stringslite_Index K s (fl [c]) with
  | none => rw [h] at this; cases this
  | some y => rw [h] at this; exact this
theorem cut_eq (K : Nat) (s : ByteArray) (hl : s.size ≤ 1048576) (c : UInt8) : g_strings_Cut K s (fl [c]) = some (match cutAt c (tl s) with | none => (s, (fl [], (false, ()))) | some (p, r) => (fl p, (fl r, (true, ())))) := by
  rw [g_strings_Cut.eq, g_internal_stringslite_Cut.eq, index_lite, Option.bind_some]
  cases h : cutAt c (tl s) with
  | none =>
    rw [idx_none c _ h, br_false (by decide)]
    rfl
  | some x =>
    obtain ⟨p, r⟩ := x
    obtain ⟨h1, h2⟩ := cut_some c _ p r h
    have hs : s.size = p.length + (r.length + 1) := by rw [← tl_len, h1, List.length_append, List.length_cons]
    rw [idx_some c _ p r h, br_true (decide_eq_true (by omega)), br_true (by simp; omega), fl_size, wrap_id (by simp; omega) (by simp; omega), br_true (by simp; omega), Option.bind_some]
    have e1 : s.extract 0 ((p.length : Int)).toNat = fl p := by
      rw [ext_eq, h1]; simp
    have e2 : s.extract ((p.length : Int) + (([c].length : Nat) : Int)).toNat s.size = fl r := by
      rw [ext_eq, h1, show ((p.length : Int) + (([c].length : Nat) : Int)).toNat = p.length + 1 by simp, hs, show p.length + (r.length + 1) - (p.length + 1) = r.length by omega]
      have : (p ++ c :: r).drop (p.length + 1) = r := by
        rw [show p ++ c :: r = (p ++ [c]) ++ r by simp, List.drop_left' (by simp)]
      rw [this, List.take_length]
    rw [e1, e2]
theorem take_set {α : Type} (o : List α) (i : Nat) (x : α) (h : i < o.length) : (o.set i x).take (i + 1) = o.take i ++ [x] := by
  apply List.ext_getElem?
  intro j
  rw [List.getElem?_append, List.length_take, Nat.min_eq_left (by omega), List.getElem?_take, List.getElem?_take, List.getElem?_set]
  by_cases h1 : j < i
  · rw [if_pos (by omega), if_pos h1, if_pos h1, if_neg (by omega)]
  · rw [if_neg h1]
    by_cases h2 : j = i
    · subst h2; rw [if_pos (by omega), if_pos rfl, if_pos h]; simp
    · rw [if_neg (by omega)]
      rw [List.getElem?_eq_none (by simp; omega)]
theorem gen_loop {K : Nat} (c : UInt8) : ∀ (m i k : Nat) (s : ByteArray) (o : List ByteArray), i + m < o.length → o.length ≤ 2000000 → s.size ≤ 1048576 → m < k →
    L_strings_genSplit_11 K k (fl [c]) 0 s ((i + m : Nat) : Int) (i : Int) o = some (o.take i ++ (splitN c m (tl s)).map fl)
  | 0, i, k + 1, s, o, h, h2, h3, hk => by
    rw [L_strings_genSplit_11.step, br_false (decide_eq_false (by omega)), br_true (by simp; omega), wrap_id (by omega) (by omega), br_true (by simp; omega)]
    rw [show ((i : Int) + 1).toNat = i + 1 by omega, show (i : Int).toNat = i by omega, List.drop_zero, take_set o i s (by omega), splitN, List.map_cons, List.map_nil, fl_tl]
  | m + 1, i, k + 1, s, o, h, h2, h3, hk => by
    rw [L_strings_genSplit_11.step, br_true (decide_eq_true (by omega)), index_eq, Option.bind_some, splitN]
    cases hc : cutAt c (tl s) with
    | none =>
      rw [idx_none c _ hc, br_true (by decide), br_true (by simp; omega), wrap_id (k := (i : Int) + 1) (by omega) (by omega), br_true (by simp; omega)]
      rw [show ((i : Int) + 1).toNat = i + 1 by omega, show (i : Int).toNat = i by omega, List.drop_zero, take_set o i s (by omega), List.map_cons, List.map_nil, fl_tl]
    | some x =>
      obtain ⟨p, r⟩ := x
      obtain ⟨g1, g2⟩ := cut_some c _ p r hc
      have hs : s.size = p.length + (r.length + 1) := by rw [← tl_len, g1, List.length_append, List.length_cons]
      rw [idx_some c _ p r hc, br_false (decide_eq_false (by omega)), fl_size, wrap_id (k := (p.length : Int) + 0) (by omega) (by omega), br_true (by simp; omega), br_true (by simp; omega), wrap_id (k := (p.length : Int) + (([c].length : Nat) : Int)) (by simp; omega) (by simp; omega), br_true (by simp; omega), wrap_id (k := (i : Int) + 1) (by omega) (by omega)]
      have e1 : s.extract 0 ((p.length : Int) + 0).toNat = fl p := by
        rw [ext_eq, g1]; simp
      have e2 : s.extract ((p.length : Int) + (([c].length : Nat) : Int)).toNat s.size = fl r := by
        rw [ext_eq, g1, show ((p.length : Int) + (([c].length : Nat) : Int)).toNat = p.length + 1 by simp, hs, show p.length + (r.length + 1) - (p.length + 1) = r.length by omega]
        have : (p ++ c :: r).drop (p.length + 1) = r := by
          rw [show p ++ c :: r = (p ++ [c]) ++ r by simp, List.drop_left' (by simp)]
        rw [this, List.take_length]
      rw [e1, e2, show (i : Int).toNat = i by omega]
      have := gen_loop (K := K) c m (i + 1) k (fl r) (o.set i (fl p)) (by simp; omega) (by simpa using h2) (by rw [fl_size]; omega) (by omega)
      rw [show i + 1 + m = i + (m + 1) by omega, Int.natCast_add i 1] at this
      refine this.trans ?_
      rw [take_set o i _ (by omega), tl_fl]
      simp
  | _, _, 0, _, _, _, _, _, h => absurd h (Nat.not_lt_zero _)
theorem splitN_count (c : UInt8) : ∀ (n : Nat) (l : List UInt8), l.count c ≤ n → splitN c n l = splitBy c l
  | 0, l, h => by
    have : c ∉ l := by
      intro hc
      have := List.count_pos_iff.2 hc
      omega
    rw [splitN, split_plain c l this]
  | n + 1, l, h => by
    unfold splitN
    split
    · rename_i hc
      rw [split_plain c l ((cut_none c l).1 hc)]
    · rename_i p r hc
      obtain ⟨h1, h2⟩ := cut_some c l p r hc
      rw [h1, split_app c r p h2, splitN_count c n r (by
        rw [h1, List.count_append, List.count_cons_self, List.count_eq_zero.2 h2] at h; omega)]
theorem split_i {K : Nat} (hK : maxLen + 2 ≤ K) (s : ByteArray) (hl : s.size ≤ 1048576) (c : UInt8) : g_strings_Split K s (fl [c]) = some (sp c s) := by
  have hm : maxLen = 2 ^ 63 - 1 := rfl
  have hne : fl [c] ≠ ⟨#[]⟩ := by intro h; have := congrArg ByteArray.size h; rw [fl_size] at this; cases this
  have hcn : (tl s).count c ≤ s.size := by rw [← tl_len]; exact List.count_le_length
  rw [g_strings_Split.eq, g_strings_genSplit.eq, br_false (by decide), br_false (strEq_f hne), br_true (by decide), g_strings_Count.eq]
  have hc1 : count1 s (fl [c]) = some (((tl s).count c : Nat) : Int) := rfl
  have hfin : ∀ n, n = (tl s).count c → splitN c n (tl s) = splitBy c (tl s) := fun n h => splitN_count c n _ (by omega)
  rw [hc1, Option.bind_some]
  generalize (tl s).count c = n at *
  rw [wrap_id (k := ((s.size : Nat) : Int) + 1) (by omega) (by omega), wrap_id (k := ((n : Nat) : Int) + 1) (by omega) (by omega)]
  rw [if_neg (by omega), br_true (by simp; omega), wrap_id (by omega) (by omega)]
  have := gen_loop (K := K) c n 0 K s (List.replicate (((n : Nat) : Int) + 1).toNat ⟨#[]⟩) (by simp <;> omega) (by simp <;> omega) hl (by omega)
  rw [show (((n : Nat) : Int) + 1 - 1) = ((0 + n : Nat) : Int) by omega]
  rw [show (0 : Int) = ((0 : Nat) : Int) from rfl] at *
  rw [this, Option.bind_some, List.take_zero, List.nil_append, hfin n rfl]
  rfl
theorem split4_i {K : Nat} (hK : maxLen + 2 ≤ K) (s : ByteArray) (hl : s.size ≤ 1048576) (c : UInt8) : g_strings_SplitN K s (fl [c]) 4 = some ((splitN c 3 (tl s)).map fl) := by
  have hm : maxLen = 2 ^ 63 - 1 := rfl
  have hne : fl [c] ≠ ⟨#[]⟩ := by intro h; have := congrArg ByteArray.size h; rw [fl_size] at this; cases this
  rw [g_strings_SplitN.eq, g_strings_genSplit.eq, br_false (by decide), br_false (strEq_f hne), br_false (by decide), wrap_id (k := ((s.size : Nat) : Int) + 1) (by omega) (by omega)]
  by_cases h4 : ((s.size : Nat) : Int) + 1 < 4
  · rw [if_pos h4, br_true (by simp; omega), wrap_id (by omega) (by omega)]
    have := gen_loop (K := K) c s.size 0 K s (List.replicate (((s.size : Nat) : Int) + 1).toNat ⟨#[]⟩) (by simp <;> omega) (by simp <;> omega) hl (by omega)
    rw [show ((s.size : Nat) : Int) + 1 - 1 = ((0 + s.size : Nat) : Int) by omega]
    rw [show (0 : Int) = ((0 : Nat) : Int) from rfl] at *
    rw [this, Option.bind_some, List.take_zero, List.nil_append, splitN_all c _ _ (by rw [tl_len]; omega), splitN_all c 3 _ (by rw [tl_len]; omega)]
  · rw [if_neg h4, br_true (by decide), wrap_id (by omega) (by omega)]
    have := gen_loop (K := K) c 3 0 K s (List.replicate (4 : Int).toNat ⟨#[]⟩) (by decide) (by decide) hl (by omega)
    rw [show (4 : Int) - 1 = ((0 + 3 : Nat) : Int) by decide]
    rw [show (0 : Int) = ((0 : Nat) : Int) from rfl] at *
    rw [this, Option.bind_some, List.take_zero, List.nil_append]
end F5
