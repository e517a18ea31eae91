/-  Ready: the program's answer is the reference's, and the list that came in is as it was. -/
import Derived.Test.YtjeadgnoladnjaaSpecFnExactReady
import Derived.Test.YtjeadgnoladnjaaLoops
namespace Go.Proofs.Ytjeadgnoladnjaa.Pure
open Go.RowKit Go.Proofs.YtjeadgnoladnjaaW.PrintWords Go.Proofs.YtjeadgnoladnjaaW.PrintLast Go.Proofs.YtjeadgnoladnjaaW.PrintMore Go.Proofs.Ytjeadgnoladnjaa.PFnExactReady Go.Proofs.Ytjeadgnoladnjaa.Lp

theorem rd50 (xs : List S50) (i : Nat) (h : i < xs.length) : rd_T50 xs (i : Int) = xs[i] := getD_eq xs z50 i h
theorem rd51 (xs : List S51) (i : Nat) (h : i < xs.length) : rd_T51 xs (i : Int) = xs[i] := getD_eq xs z51 i h

def cv (x : S50) : S51 := ⟨x.f0, x.f1, x.f2⟩
theorem sz_ok (xs : List S50) (hn : xs.length ≤ 9223372036854775806) (left : Int) (k : Nat) (hk : xs.length < k) : ∃ r, laws_szFrameS.f k xs left = some r := by
  unfold laws_szFrameS.f
  split
  · exact ⟨_, rfl⟩
  · obtain ⟨r, h, _⟩ := idx_loop (fun k s i => laws_szFrameS.l0 k xs s i) xs.length 0 (fun _ _ => True) (fun _ => True)
      (fun k i s hk hi _ => by
        show (∃ s', True ∧ laws_szFrameS.l0 (k + 1) xs s (i : Int) = laws_szFrameS.l0 k xs s' ((i + 1 : Nat) : Int)) ∨ ∃ r, laws_szFrameS.l0 (k + 1) xs s (i : Int) = some r ∧ True
        simp only [laws_szFrameS.l0, laws_szFrame.f]
        rw [if_pos (by omega), if_pos (by omega)]
        have e : wrap64 ((i : Int) + 1) = ((i + 1 : Nat) : Int) := wrap_nat hi (by omega)
        by_cases c : wrap64 (s - ((rd_T50 xs (i : Int)).f1.size : Int)) < 0
        · right; rw [if_pos c]; simp
        · left; rw [if_neg c]; simp only [Option.bind_some]; rw [if_neg c, e]; exact ⟨_, trivial, rfl⟩)
      (fun k s hk _ => by
        show ∃ r, laws_szFrameS.l0 (k + 1) xs s (xs.length : Int) = some r ∧ True
        simp only [laws_szFrameS.l0]; rw [if_neg (by omega)]; exact ⟨_, rfl, trivial⟩)
      xs.length 0 (wrap64 (left - (xs.length : Int))) k (by omega) (by omega) trivial (by omega)
    exact ⟨r, h⟩
theorem to_ok (xs : List S50) (hn : xs.length ≤ 4398046511104) (k : Nat) (hk : xs.length < k) : laws_toFrameS.f k xs = some (xs.map cv) := by
  unfold laws_toFrameS.f
  rw [if_pos (by omega), if_pos (by omega)]
  refine fill_loop (fun k s i => laws_toFrameS.l0 k xs s i) xs z51 cv 0 (fun k i s hi hk hs => ?_) (fun k s hk => ?_) k (by omega)
  · show laws_toFrameS.l0 (k + 1) xs s (i : Int) = _
    simp only [laws_toFrameS.l0, laws_toFrame.f, Option.bind_some]
    rw [if_pos (by omega), if_pos (by omega), if_pos (by omega), wrap_nat hi (by omega), rd50 xs i hi]; rfl
  · show laws_toFrameS.l0 (k + 1) xs s (xs.length : Int) = _
    simp only [laws_toFrameS.l0]; rw [if_neg (by omega)]
theorem eqFrame_ok (a b : S51) : laws_eqFrame.f a.f0 a.f1 a.f2 b.f0 b.f1 b.f2 = some true ↔ a = b := by
  obtain ⟨a0, a1, a2⟩ := a; obtain ⟨b0, b1, b2⟩ := b
  simp only [laws_eqFrame.f, toList_inj, S51.mk.injEq]
  by_cases h0 : a0 = b0 <;> by_cases h1 : a1 = b1 <;> by_cases h2 : a2 = b2 <;> simp [h0, h1, h2]
theorem eq_refl_ok (xs : List S51) (hn : xs.length ≤ 9223372036854775806) (k : Nat) (hk : xs.length < k) : laws_eqFrameS.f k xs xs = some true := by
  unfold laws_eqFrameS.f
  rw [if_pos rfl]
  obtain ⟨r, h, rfl⟩ := idx_loop (fun k (_ : Unit) i => laws_eqFrameS.l0 k xs xs i) xs.length 0 (fun _ _ => True) (fun r => r = true)
    (fun k i s hk hi _ => by
      refine .inl ⟨(), trivial, ?_⟩
      show laws_eqFrameS.l0 (k + 1) xs xs (i : Int) = laws_eqFrameS.l0 k xs xs ((i + 1 : Nat) : Int)
      simp only [laws_eqFrameS.l0]
      rw [if_pos (by omega), if_pos (by omega), if_pos (by omega), (eqFrame_ok _ _).2 rfl, wrap_nat hi (by omega)]; rfl)
    (fun k s hk _ => ⟨true, by show laws_eqFrameS.l0 (k + 1) xs xs (xs.length : Int) = _; simp only [laws_eqFrameS.l0]; rw [if_neg (by omega)], rfl⟩)
    xs.length 0 () k (by omega) (by omega) trivial (by omega)
  exact h
def step (xs : List S51) (i : Nat) (s : Int) : Int := if (rd_T51 xs (i : Int)).f0 = 5 then (rd_T51 xs (i : Int)).f2 else s
theorem spec_ok (xs : List S51) (hn : xs.length ≤ 9223372036854775806) (k : Nat) (hk : xs.length < k) : spec_Ready.f k xs = some ((List.range xs.length).foldl (fun s i => step xs i s) (-1)) := by
  unfold spec_Ready.f
  refine idx_fold (fun k s i => spec_Ready.l0 k xs s i) xs.length 0 (step xs) (fun s => s) (fun _ _ => True) (fun k i s hk hi _ => ⟨trivial, ?_⟩) (fun k s hk _ => ?_) (-1) trivial k (by omega)
  · show spec_Ready.l0 (k + 1) xs s (i : Int) = spec_Ready.l0 k xs _ _
    simp only [spec_Ready.l0, step]
    rw [if_pos (by omega), if_pos (by omega), wrap_nat hi (by omega)]
    split <;> rfl
  · show spec_Ready.l0 (k + 1) xs s (xs.length : Int) = _
    simp only [spec_Ready.l0]; rw [if_neg (by omega)]
theorem impl_ok (xs : List S51) (hn : xs.length ≤ 9223372036854775806) (k : Nat) (hk : xs.length < k) : impl_Ready.f k xs = some ((List.range xs.length).foldl (fun s i => step xs i s) (-1)) := by
  unfold impl_Ready.f
  refine idx_fold (fun k s i => impl_Ready.l0 k s xs (xs.length : Int) i) xs.length 0 (step xs) (fun s => s) (fun _ _ => True) (fun k i s hk hi _ => ⟨trivial, ?_⟩) (fun k s hk _ => ?_) (-1) trivial k (by omega)
  · show impl_Ready.l0 (k + 1) s xs _ (i : Int) = impl_Ready.l0 k _ xs _ _
    simp only [impl_Ready.l0, step]
    rw [if_pos (by omega), if_pos (by omega), if_pos (by omega), wrap_nat hi (by omega)]
    split <;> rfl
  · show impl_Ready.l0 (k + 1) s xs _ (xs.length : Int) = _
    simp only [impl_Ready.l0]; rw [if_neg (by omega)]

theorem FnExactReady : SFnExactReady.Pure := by
  intro xs ⟨hb, _, _⟩
  have hl : xs.length ≤ 4398046511104 := by omega
  have hm : (xs.map cv).length = xs.length := by simp
  refine ⟨xs.length + 1, ?_⟩
  obtain ⟨r, hr⟩ := sz_ok xs (by omega) 1048576 (xs.length + 1) (by omega)
  unfold laws_FnExactReady.f
  rw [hr]; simp only [Option.bind_some]
  split
  · rfl
  · rw [to_ok xs hl _ (by omega)]; simp only [Option.bind_some]
    rw [spec_ok _ (by omega) _ (by omega), impl_ok _ (by omega) _ (by omega)]; simp only [Option.bind_some, if_true]
    rw [eq_refl_ok _ (by omega) _ (by omega)]; rfl

end Go.Proofs.Ytjeadgnoladnjaa.Pure
