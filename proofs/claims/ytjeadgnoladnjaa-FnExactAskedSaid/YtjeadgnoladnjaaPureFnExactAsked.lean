/-  Asked: the program's answer is the reference's, and the list that came in is as it was. -/
import Derived.Test.YtjeadgnoladnjaaSpecFnExactAsked
import Derived.Test.YtjeadgnoladnjaaLoops
namespace Go.Proofs.Ytjeadgnoladnjaa.Pure
open Go.RowKit Go.Proofs.YtjeadgnoladnjaaW.PrintWords Go.Proofs.YtjeadgnoladnjaaW.PrintLast Go.Proofs.YtjeadgnoladnjaaW.PrintMore Go.Proofs.Ytjeadgnoladnjaa.PFnExactAsked Go.Proofs.Ytjeadgnoladnjaa.Lp
set_option linter.unusedSimpArgs false
set_option linter.unusedVariables false

namespace HAsked

theorem rd50 (xs : List S50) (i : Nat) (h : i < xs.length) : rd_T50 xs (i : Int) = xs[i] := getD_eq xs z50 i h
theorem rd51 (xs : List S51) (i : Nat) (h : i < xs.length) : rd_T51 xs (i : Int) = xs[i] := getD_eq xs z51 i h

def cv (x : S50) : S51 := ⟨x.f0, x.f1, x.f2⟩
theorem sz_ok (xs : List S50) (hn : xs.length ≤ 9223372036854775806) (left : Int) (k : Nat) (hk : xs.length < k) : ∃ r, laws_szFrameS.f k xs left = some r := by
  unfold laws_szFrameS.f
  split
  · exact ⟨_, rfl⟩
  · obtain ⟨r, h, _⟩ := idx_loop (fun k s i => laws_szFrameS.l0 k xs s i) xs.length 0 (fun _ _ => True) (fun _ => True)
      (fun k i s hk hi _ => by
        show (∃ s', True ∧ laws_szFrameS.l0 (k + 1) xs s (i : Int) = laws_szFrameS.l0 k xs s' ((i + 1 : Nat) : Int)) ∨ ∃ r, laws_szFrameS.l0 (k + 1) xs s (i : Int) = some r ∧ True
        simp only [laws_szFrameS.l0, laws_szFrame.f]
        rw [if_pos (by omega), if_pos (by omega)]
        have e : wrap64 ((i : Int) + 1) = ((i + 1 : Nat) : Int) := wrap_nat hi (by omega)
        by_cases c : wrap64 (s - ((rd_T50 xs (i : Int)).f1.size : Int)) < 0
        · right; rw [if_pos c]; simp
        · left; rw [if_neg c]; simp only [Option.bind_some]; rw [if_neg c, e]; exact ⟨_, trivial, rfl⟩)
      (fun k s hk _ => by
        show ∃ r, laws_szFrameS.l0 (k + 1) xs s (xs.length : Int) = some r ∧ True
        simp only [laws_szFrameS.l0]; rw [if_neg (by omega)]; exact ⟨_, rfl, trivial⟩)
      xs.length 0 (wrap64 (left - (xs.length : Int))) k (by omega) (by omega) trivial (by omega)
    exact ⟨r, h⟩
theorem to_ok (xs : List S50) (hn : xs.length ≤ 4398046511104) (k : Nat) (hk : xs.length < k) : laws_toFrameS.f k xs = some (xs.map cv) := by
  unfold laws_toFrameS.f
  rw [if_pos (by omega), if_pos (by omega)]
  refine fill_loop (fun k s i => laws_toFrameS.l0 k xs s i) xs z51 cv 0 (fun k i s hi hk hs => ?_) (fun k s hk => ?_) k (by omega)
  · show laws_toFrameS.l0 (k + 1) xs s (i : Int) = _
    simp only [laws_toFrameS.l0, laws_toFrame.f, Option.bind_some]
    rw [if_pos (by omega), if_pos (by omega), if_pos (by omega), wrap_nat hi (by omega), rd50 xs i hi]; rfl
  · show laws_toFrameS.l0 (k + 1) xs s (xs.length : Int) = _
    simp only [laws_toFrameS.l0]; rw [if_neg (by omega)]
theorem eqFrame_ok (a b : S51) : laws_eqFrame.f a.f0 a.f1 a.f2 b.f0 b.f1 b.f2 = some true ↔ a = b := by
  obtain ⟨a0, a1, a2⟩ := a; obtain ⟨b0, b1, b2⟩ := b
  simp only [laws_eqFrame.f, toList_inj, S51.mk.injEq]
  by_cases h0 : a0 = b0 <;> by_cases h1 : a1 = b1 <;> by_cases h2 : a2 = b2 <;> simp [h0, h1, h2]
theorem eq_refl_ok (xs : List S51) (hn : xs.length ≤ 9223372036854775806) (k : Nat) (hk : xs.length < k) : laws_eqFrameS.f k xs xs = some true := by
  unfold laws_eqFrameS.f
  rw [if_pos rfl]
  obtain ⟨r, h, rfl⟩ := idx_loop (fun k (_ : Unit) i => laws_eqFrameS.l0 k xs xs i) xs.length 0 (fun _ _ => True) (fun r => r = true)
    (fun k i s hk hi _ => by
      refine .inl ⟨(), trivial, ?_⟩
      show laws_eqFrameS.l0 (k + 1) xs xs (i : Int) = laws_eqFrameS.l0 k xs xs ((i + 1 : Nat) : Int)
      simp only [laws_eqFrameS.l0]
      rw [if_pos (by omega), if_pos (by omega), if_pos (by omega), (eqFrame_ok _ _).2 rfl, wrap_nat hi (by omega)]; rfl)
    (fun k s hk _ => ⟨true, by show laws_eqFrameS.l0 (k + 1) xs xs (xs.length : Int) = _; simp only [laws_eqFrameS.l0]; rw [if_neg (by omega)], rfl⟩)
    xs.length 0 () k (by omega) (by omega) trivial (by omega)
  exact h
theorem rdS (xs : List ByteArray) (i : Nat) (h : i < xs.length) : rdOf ByteArray.empty xs (i : Int) = xs[i] := getD_eq xs _ i h
theorem mark_go : ∀ (d : Nat) (x : Int) (s : ByteArray), 0 ≤ x → x < (10 ^ d : Nat) → s.size + d + 1 ≤ 9223372036854775807 → x ≤ 9223372036854775807 → ∃ r, Ev (fun k => laws_markText.l0 k x s) r := by
  intro d
  induction d with
  | zero =>
    intro x s h0 h1 hs _
    have e : x = 0 := by simp at h1; omega
    subst e
    refine ⟨(⟨#[109]⟩ : ByteArray) ++ s, Ev.succ ?_⟩
    simp only [laws_markText.l0]
    exact Ev.ite_neg (by omega) (Ev.ite_pos (by omega) (Ev.now _))
  | succ d ih =>
    intro x s h0 h1 hs hx
    by_cases hp : x > 0
    · have hq : Int.tdiv x 10 = x / 10 := Int.tdiv_eq_ediv_of_nonneg h0
      have hsz : ∀ v : Int, (strOfNums [v]).size = 1 := fun v => rfl
      have hlt : x / 10 < (10 ^ d : Nat) := by
        have : (10 ^ (d + 1) : Nat) = 10 ^ d * 10 := Nat.pow_succ 10 d
        have h2 : x < ((10 ^ d * 10 : Nat) : Int) := by rw [← this]; exact h1
        have h3 : x < ((10 ^ d : Nat) : Int) * 10 := by simpa using h2
        omega
      have hw : wrap64 (Int.tdiv x 10) = x / 10 := by rw [hq]; exact wrap_id (by omega) (by omega)
      obtain ⟨r, hr⟩ := ih (x / 10) (strOfNums [(wrap64 (48 + (Int.tmod x 10))) % 256] ++ s) (by omega) hlt (by rw [ByteArray.size_append, hsz]; omega) (by omega)
      refine ⟨r, Ev.succ ?_⟩
      simp only [laws_markText.l0, Option.bind_some, hw]
      exact Ev.ite_pos hp (Ev.ite_pos (by rw [hsz]; omega) hr)
    · refine ⟨(⟨#[109]⟩ : ByteArray) ++ s, Ev.succ ?_⟩
      simp only [laws_markText.l0]
      exact Ev.ite_neg hp (Ev.ite_pos (by omega) (Ev.now _))
theorem mark_ex (x : Int) (hx : x ≤ 1000000000000000000) : ∃ r, Ev (fun k => laws_markText.f k x) r := by
  unfold laws_markText.f
  by_cases h : x ≤ 0
  · exact ⟨_, Ev.ite_pos h (Ev.now _)⟩
  · obtain ⟨r, hr⟩ := mark_go 19 x ⟨#[]⟩ (by omega) (by omega) (by show (0 : Nat) + 19 + 1 ≤ _; omega) (by omega)
    exact ⟨r, Ev.ite_neg h hr⟩
theorem mark_all (n : Nat) : ∃ f : Int → ByteArray, ∀ x, x ≤ 1000000000000000000 → Ev (fun k => laws_markText.f k x) (f x) := by
  classical
  refine ⟨fun x => if h : x ≤ 1000000000000000000 then Classical.choose (mark_ex x h) else ⟨#[]⟩, fun x h => ?_⟩
  simp only [h, dif_pos]
  exact Classical.choose_spec (mark_ex x h)
theorem markF_ok (xs : List S51) (hn : xs.length ≤ 4398046511104) : ∃ r : Int × List S51, 0 ≤ r.1 ∧ Ev (fun k => laws_markFrameS.f k xs 1) r := by
  obtain ⟨mt, hmt⟩ := mark_all 0
  unfold laws_markFrameS.f
  have key : ∀ (d i : Nat) (ys : List S51) (c : Int), xs.length - i = d → i ≤ xs.length → ys.length = xs.length → c = 1 + 3 * i → EvP (fun k => laws_markFrameS.l0 k ys c (i : Int)) (fun r => 0 ≤ r.1) := by
    intro d
    induction d with
    | zero =>
      intro i ys c hd hi hl hc
      refine EvP.succ ?_
      simp only [laws_markFrameS.l0]
      exact EvP.ite_neg (by omega) (EvP.now (show 0 ≤ c by omega))
    | succ d ih =>
      intro i ys c hd hi hl hc
      have w1 : wrap64 (c + 1) = c + 1 := wrap_id (by omega) (by omega)
      have w2 : wrap64 (c + 1 + 1) = c + 1 + 1 := wrap_id (by omega) (by omega)
      have w3 : wrap64 (c + 1 + 1 + 1) = c + 1 + 1 + 1 := wrap_id (by omega) (by omega)
      have w4 : wrap64 ((i : Int) + 1) = ((i + 1 : Nat) : Int) := wrap_nat (n := xs.length) (by omega) (by omega)
      refine EvP.succ ?_
      simp only [laws_markFrameS.l0, Option.bind_some, w1, w2, w3, w4, Int.toNat_natCast]
      refine EvP.ite_pos (by omega) (EvP.ite_pos (by omega) (EvP.bind (hmt _ (by omega)) ?_))
      exact ih (i + 1) _ (c + 1 + 1 + 1) (by omega) (by omega) (by simpa using hl) (by omega)
  exact key xs.length 0 xs 1 (by omega) (by omega) rfl (by omega)
/-- What marking leaves is what holding expects. -/
theorem markS_ok (xs : List ByteArray) (hn : xs.length ≤ 4398046511104) : ∃ r : Int × List ByteArray, 0 ≤ r.1 ∧ Ev (fun k => laws_markStringS.f k xs 1) r ∧ Ev (fun k => laws_heldStringS.f k r.2 1) r.1 := by
  obtain ⟨mt, hmt⟩ := mark_all 0
  have m1 : Ev (fun k => laws_markStringS.f k xs 1) (1 + (xs.length : Int), (List.range xs.length).map fun (i : Nat) => mt (1 + (i : Int))) := by
    unfold laws_markStringS.f
    have key : ∀ (d i : Nat) (ys : List ByteArray), xs.length - i = d → i ≤ xs.length → ys.length = xs.length → ys.take i = (List.range i).map (fun (i : Nat) => mt (1 + (i : Int))) → Ev (fun k => laws_markStringS.l0 k ys (1 + (i : Int)) (i : Int)) (1 + (xs.length : Int), (List.range xs.length).map fun (i : Nat) => mt (1 + (i : Int))) := by
      intro d
      induction d with
      | zero =>
        intro i ys hd hi hl ht
        obtain rfl : i = xs.length := by omega
        rw [← ht, List.take_of_length_le (by omega)]
        refine Ev.succ ?_
        simp only [laws_markStringS.l0]
        exact Ev.ite_neg (by omega) (Ev.now _)
      | succ d ih =>
        intro i ys hd hi hl ht
        have w1 : wrap64 (1 + (i : Int) + 1) = 1 + ((i + 1 : Nat) : Int) := by rw [wrap_id (by omega) (by omega)]; omega
        have w4 : wrap64 ((i : Int) + 1) = ((i + 1 : Nat) : Int) := wrap_nat (n := xs.length) (by omega) (by omega)
        refine Ev.succ ?_
        simp only [laws_markStringS.l0, w1, w4, Int.toNat_natCast]
        refine Ev.ite_pos (by omega) (Ev.bind (hmt _ (by omega)) (Ev.ite_pos (by omega) ?_))
        refine ih (i + 1) _ (by omega) (by omega) (by simpa using hl) ?_
        rw [take_succ' _ _ (by simp; omega), List.take_set_of_le (Nat.le_refl _), ht, List.range_succ, List.map_append]
        simp
    have := key xs.length 0 xs (by omega) (by omega) rfl (by simp)
    simpa using this
  refine ⟨_, ?_, m1, ?_⟩
  · show (0 : Int) ≤ 1 + (xs.length : Int)
    omega
  · generalize hys : (List.range xs.length).map (fun (i : Nat) => mt (1 + (i : Int))) = ys
    have hl : ys.length = xs.length := by rw [← hys]; simp
    have hg : ∀ i : Nat, i < ys.length → rdOf ByteArray.empty ys (i : Int) = mt (1 + (i : Int)) := fun i hi => by
      rw [rdS ys i hi]; subst hys; simp
    show Ev (fun k => laws_heldStringS.l0 k ys 1 0) (1 + (xs.length : Int))
    have key : ∀ (d i : Nat), ys.length - i = d → i ≤ ys.length → Ev (fun k => laws_heldStringS.l0 k ys (1 + (i : Int)) (i : Int)) (1 + (xs.length : Int)) := by
      intro d
      induction d with
      | zero =>
        intro i hd hi
        obtain rfl : i = ys.length := by omega
        refine Ev.succ ?_
        simp only [laws_heldStringS.l0]
        exact Ev.ite_neg (by omega) (by rw [hl]; exact Ev.now _)
      | succ d ih =>
        intro i hd hi
        have w1 : wrap64 (1 + (i : Int) + 1) = 1 + ((i + 1 : Nat) : Int) := by rw [wrap_id (by omega) (by omega)]; omega
        have w4 : wrap64 ((i : Int) + 1) = ((i + 1 : Nat) : Int) := wrap_nat (n := xs.length) (by omega) (by omega)
        refine Ev.succ ?_
        simp only [laws_heldStringS.l0, w1, w4]
        refine Ev.ite_pos (by omega) (Ev.ite_pos (by omega) (Ev.bind (hmt _ (by omega)) (Ev.ite_pos (by rw [hg i (by omega)]) ?_)))
        exact ih (i + 1) (by omega) (by omega)
    have := key ys.length 0 (by omega) (by omega)
    simpa using this
def asked : List S51 → List ByteArray
  | [] => []
  | n :: r => if n.f0 = 2 then n.f1 :: asked r else asked r
theorem asked_len : ∀ xs, (asked xs).length ≤ xs.length
  | [] => Nat.le_refl _
  | n :: r => by
    have := asked_len r
    unfold asked
    split <;> simp <;> omega
theorem spec_ok (xs : List S51) (hn : xs.length ≤ 4398046511104) : Ev (fun k => spec_Asked.f k xs) (asked xs) := by
  unfold spec_Asked.f
  have := ev_list (rd_T51 xs) (fun k s i => spec_Asked.l0 k xs s i) xs (fun r s => s ++ asked r) (fun i s => s.length ≤ i) (rd51 xs) (by omega)
    (fun i n rest s hi hlt h0 hrd hw hs ih => by
      show Ev (fun k => spec_Asked.l0 k xs s (i : Int)) (s ++ asked (n :: rest))
      refine Ev.succ ?_
      simp only [spec_Asked.l0, hrd, hw, hlt, h0, if_true]
      refine Ev.ite (fun h => Ev.ite_pos (by omega) (Ev.cast (ih _ (by simp; omega)) (by simp [asked, h]))) (fun h => Ev.cast (ih _ (by omega)) (by simp [asked, h])))
    (fun s _ => by
      refine Ev.succ ?_
      simp only [spec_Asked.l0, Int.lt_irrefl, if_false, asked, List.append_nil]; exact Ev.now _)
    [] (by simp)
  simpa using this
theorem impl_ok (xs : List S51) (hn : xs.length ≤ 4398046511104) : Ev (fun k => impl_Asked.f k xs) (asked xs) := by
  unfold impl_Asked.f
  have := ev_list (rd_T51 xs) (fun k s i => impl_Asked.l0 k s xs (xs.length : Int) i) xs (fun r s => s ++ asked r) (fun i s => s.length ≤ i) (rd51 xs) (by omega)
    (fun i n rest s hi hlt h0 hrd hw hs ih => by
      show Ev (fun k => impl_Asked.l0 k s xs (xs.length : Int) (i : Int)) (s ++ asked (n :: rest))
      refine Ev.succ ?_
      simp only [impl_Asked.l0, hrd, hw, hlt, h0, if_true]
      refine Ev.ite (fun h => Ev.ite_pos (by omega) (Ev.cast (ih _ (by simp; omega)) (by simp [asked, h]))) (fun h => Ev.cast (ih _ (by omega)) (by simp [asked, h])))
    (fun s _ => by
      refine Ev.succ ?_
      simp only [impl_Asked.l0, Int.lt_irrefl, if_false, asked, List.append_nil]; exact Ev.now _)
    [] (by simp)
  simpa using this
theorem eqS_refl (xs : List ByteArray) (hn : xs.length ≤ 4398046511104) : Ev (fun k => laws_eqStringS.f k xs xs) true := by
  unfold laws_eqStringS.f
  simp only [if_true]
  exact ev_list (rdOf ByteArray.empty xs) (fun k (_ : Unit) i => laws_eqStringS.l0 k xs xs i) xs (fun _ _ => true) (fun _ _ => True) (rdS xs) (by omega)
    (fun i n rest s hi hlt h0 hrd hw hs ih => by
      show Ev (fun k => laws_eqStringS.l0 k xs xs (i : Int)) true
      refine Ev.succ ?_
      simp only [laws_eqStringS.l0, hrd, hw, hlt, h0, if_true]
      exact ih () trivial)
    (fun s _ => by
      show Ev (fun k => laws_eqStringS.l0 k xs xs (xs.length : Int)) true
      refine Ev.succ ?_
      simp only [laws_eqStringS.l0, Int.lt_irrefl, if_false]; exact Ev.now _)
    () trivial
end HAsked
open HAsked in
theorem FnExactAsked : SFnExactAsked.Pure := by
  intro xs ⟨hb, _, _⟩
  have hl : xs.length ≤ 4398046511104 := by omega
  have hm : (xs.map cv).length = xs.length := by simp
  have ha := asked_len (xs.map cv)
  refine Ev.rounds (r := true) ?_
  unfold laws_FnExactAsked.f
  have hto : Ev (fun k => laws_toFrameS.f k xs) (xs.map cv) := Ev.at_ (fun k hk => to_ok xs hl k hk)
  have hsz : ∃ t, Ev (fun k => laws_szFrameS.f k xs 1048576) t := by
    obtain ⟨r, hr⟩ := sz_ok xs (by omega) 1048576 (xs.length + 1) (by omega)
    exact ⟨r, Ev.of (fun k => laws_szFrameS.mono _ _ k) hr⟩
  obtain ⟨t, ht⟩ := hsz
  refine Ev.bind ht (Ev.ite (fun _ => Ev.now _) (fun _ => ?_))
  refine Ev.bind hto (Ev.bind (spec_ok _ (by omega)) (Ev.bind hto (Ev.bind (impl_ok _ (by omega)) (Ev.bind (eqS_refl _ (by omega)) ?_))))
  simp only [if_true]
  refine Ev.bind hto (Ev.bind (Ev.at_ (fun k hk => eq_refl_ok _ (by omega) k hk)) ?_)
  simp only [if_true]
  obtain ⟨m, hm0, hm1⟩ := markF_ok (xs.map cv) (by omega)
  refine Ev.bind hm1 (Ev.ite_neg (by omega) (Ev.bind (eqS_refl _ (by omega)) ?_))
  refine Ev.succ ?_
  simp only [laws_FnExactAsked.j0, Bool.not_true, Bool.false_eq_true, if_false]
  obtain ⟨q, hq0, hq1, hq2⟩ := markS_ok (asked (xs.map cv)) (by omega)
  refine Ev.bind hq1 (Ev.bind hq2 (Ev.ite_neg (by omega) ?_))
  simp only [if_true]
  refine Ev.bind hto (Ev.bind (impl_ok _ (by omega)) (Ev.bind (eqS_refl _ (by omega)) ?_))
  simp only [if_true]
  refine Ev.bind hq2 (Ev.ite_neg (by omega) (Ev.ite_pos rfl (Ev.now _)))

end Go.Proofs.Ytjeadgnoladnjaa.Pure
