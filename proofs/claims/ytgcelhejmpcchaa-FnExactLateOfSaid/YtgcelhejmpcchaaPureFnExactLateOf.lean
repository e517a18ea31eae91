/-  LateOf: the program comes to what the reference comes to, and the state that came in is as it was. -/
import Derived.Test.YtgcelhejmpcchaaSpecFnExactLateOf
import Derived.Test.YtgcelhejmpcchaaWdFnExactLateOf
namespace Go.Proofs.Ytgcelhejmpcchaa.Pure
open Go.RowKit Go.Proofs.YtgcelhejmpcchaaW.PrintWords Go.Proofs.YtgcelhejmpcchaaW.PrintLast Go.Proofs.YtgcelhejmpcchaaW.PrintMore Go.Proofs.Ytgcelhejmpcchaa.PFnExactLateOf Go.Proofs.Ytgcelhejmpcchaa.SFnExactLateOf Go.Proofs.Ytgcelhejmpcchaa.Lp
set_option linter.unusedSimpArgs false
set_option linter.unusedVariables false

namespace HLateOf
def dbat : List S83 → ByteArray → ByteArray × Int × Int × Int × Int × Bool
  | [], _ => (⟨#[]⟩, 0, 0, 0, 0, false)
  | x :: r, a => if x.f0.toList = a.toList then (x.f0, x.f1, x.f2, x.f3, x.f4, true) else dbat r a
theorem spec_dbat (l : List S83) (hl : l.length ≤ 1048576) (a : ByteArray) : Ev (fun k => spec_DbAt.f k l a) (dbat l a) := by
  unfold spec_DbAt.f
  refine ev_list (rd_T83 l) (fun k (_ : Unit) i => spec_DbAt.l0 k l a i) l (fun rest _ => dbat rest a) (fun _ _ => True) (Wd.rd83 l) (by omega) (fun i n rest s hi hlt h0 hrd hw _ ih => ?_) (fun s _ => ?_) () trivial
  · refine Ev.succ ?_
    simp only [spec_DbAt.l0, hlt, h0, hrd, hw, if_true, dbat]
    refine Ev.ite (fun c => ?_) (fun c => ?_)
    · exact Ev.now' (by rw [if_pos c])
    · exact Ev.cast (ih () trivial) (by rw [if_neg c])
  · refine Ev.succ ?_
    simp only [spec_DbAt.l0]
    exact Ev.ite_neg (by omega) (Ev.now _)
def lateGo (now : Int) (cf : List S83) : List S81 → Int → Int
  | [], n => n
  | a :: r, n => if a.f2 = 2 ∧ wrap64 (now - a.f4) > (dbat cf a.f1).2.2.2.1 then lateGo now cf r (wrap64 (n + 1)) else lateGo now cf r n
def late (now : Int) (hs : List S79) (i : Int) : Int := if 0 ≤ i ∧ i ≤ 1 ∧ i < hs.length then lateGo now (rd_T79 hs i).f3 (rd_T79 hs i).f5 0 else 0
def Fit (hs : List S79) : Prop := hs.length ≤ 1048576 ∧ ∀ h ∈ hs, h.f3.length ≤ 1048576 ∧ h.f5.length ≤ 1048576
theorem rd_mem {hs : List S79} {i : Int} (h0 : 0 ≤ i) (h1 : i < hs.length) : rd_T79 hs i ∈ hs := by
  obtain ⟨j, rfl⟩ : ∃ j : Nat, i = j := ⟨i.toNat, by omega⟩
  rw [Wd.rd79 hs j (by omega)]
  exact List.getElem_mem _
theorem spec_late (now : Int) (l1 : List (List Int)) (l2 : List S150) (a3 : Int) (a4 : Bool) (l5 : List S101) (hs : List S79) (l7 : List S126) (l8 : List S63) (a9 a10 i : Int) (hf : Fit hs) :
    Ev (fun k => spec_LateOf.f k now l1 l2 a3 a4 l5 hs l7 l8 a9 a10 i) (late now hs i) := by
  unfold spec_LateOf.f spec_l1In.f
  have main : 0 ≤ i → i ≤ 1 → i < hs.length → Ev (fun k => spec_LateOf.l0 k i 0 0 now l1 l2 a3 a4 l5 hs l7 l8 a9 a10) (late now hs i) := by
    intro h0 h1 h2
    have hm := hf.2 _ (rd_mem h0 h2)
    rw [late, if_pos ⟨h0, h1, h2⟩]
    refine ev_list (rd_T81 (rd_T79 hs i).f5) (fun k s j => spec_LateOf.l0 k i s j now l1 l2 a3 a4 l5 hs l7 l8 a9 a10) (rd_T79 hs i).f5 (fun rest s => lateGo now (rd_T79 hs i).f3 rest s) (fun _ _ => True) (Wd.rd81 _) (by omega) (fun j n rest s hj hlt h0j hrd hw _ ih => ?_) (fun s _ => ?_) 0 trivial
    · refine Ev.succ ?_
      simp only [spec_LateOf.l0, hlt, h0j, hrd, hw, h0, h2, if_true, lateGo]
      refine Ev.bind (spec_dbat _ hm.1 _) ?_
      refine Ev.ite (fun c => Ev.ite (fun d => ?_) (fun d => ?_)) (fun c => ?_)
      · exact Ev.cast (ih _ trivial) (by rw [if_pos ⟨c, d⟩])
      · exact Ev.cast (ih _ trivial) (by rw [if_neg (fun h => d h.2)])
      · exact Ev.cast (ih _ trivial) (by rw [if_neg (fun h => c h.1)])
    · refine Ev.succ ?_
      simp only [spec_LateOf.l0, h0, h2, if_true]
      exact Ev.ite_neg (by omega) (Ev.now _)
  have out : ¬ (0 ≤ i ∧ i ≤ 1 ∧ i < hs.length) → Ev (fun k => spec_LateOf.j0 k i 0 true now l1 l2 a3 a4 l5 hs l7 l8 a9 a10) (late now hs i) := by
    intro h
    refine Ev.succ ?_
    simp only [spec_LateOf.j0, if_true]
    exact Ev.now' (by rw [late, if_neg h])
  by_cases h0 : i ≥ 0
  · rw [if_pos h0]
    simp only [Option.bind_some]
    by_cases h1 : i ≤ 1
    · simp only [h1, decide_true, if_true]
      by_cases h2 : i ≥ hs.length
      · simp only [h2, decide_true]
        exact out (by omega)
      · simp only [h2, decide_false]
        refine Ev.succ ?_
        simp only [spec_LateOf.j0, Bool.false_eq_true, if_false]
        exact main h0 h1 (by omega)
    · simp only [h1, decide_false, Bool.false_eq_true, if_false]
      exact out (by omega)
  · rw [if_neg h0]
    simp only [Option.bind_some, Bool.false_eq_true, if_false]
    exact out (by omega)
theorem plc_db (a : ByteArray) : ∀ (l pre : List S83), (impl_dbPlace.plc (fun x : S83 => x.f0.toList == a.toList) l pre.length = -1 ∧ dbat l a = (⟨#[]⟩, 0, 0, 0, 0, false)) ∨
    ∃ j : Nat, impl_dbPlace.plc (fun x : S83 => x.f0.toList == a.toList) l pre.length = j ∧ j < (pre ++ l).length ∧ dbat l a = ((rd_T83 (pre ++ l) j).f0, (rd_T83 (pre ++ l) j).f1, (rd_T83 (pre ++ l) j).f2, (rd_T83 (pre ++ l) j).f3, (rd_T83 (pre ++ l) j).f4, true)
  | [], pre => .inl ⟨rfl, rfl⟩
  | x :: r, pre => by
    by_cases c : x.f0.toList = a.toList
    · refine .inr ⟨pre.length, ?_, by simp, ?_⟩
      · rw [impl_dbPlace.plc, if_pos (by simpa using c)]
      · have e : rd_T83 (pre ++ x :: r) (pre.length : Int) = x := by simp [rd_T83, List.getD]
        rw [dbat, if_pos c, e]
    · have := plc_db a r (pre ++ [x])
      rw [impl_dbPlace.plc, if_neg (by simpa using c), dbat, if_neg c]
      have e : ((pre ++ [x]).length : Int) = (pre.length : Int) + 1 := by simp
      rw [e] at this
      simpa [List.append_assoc] using this
theorem impl_dbat (l : List S83) (hl : l.length ≤ 1048576) (a : ByteArray) : impl_DbAt.f l a = some (dbat l a) := by
  unfold impl_DbAt.f impl_dbPlace.f
  rw [if_pos (by omega), Option.bind_some]
  rcases plc_db a l [] with ⟨e, h⟩ | ⟨j, e, hj, h⟩
  · simp only [List.length_nil, Int.natCast_zero] at e
    rw [e, h, if_pos (by omega)]
  · simp only [List.length_nil, Int.natCast_zero, List.nil_append] at e hj h
    rw [e, h, if_neg (by omega), if_pos (by omega), if_pos (by omega)]
theorem impl_late (now : Int) (l1 : List (List Int)) (l2 : List S150) (a3 : Int) (a4 : Bool) (l5 : List S101) (hs : List S79) (l7 : List S126) (l8 : List S63) (a9 a10 i : Int) (hf : Fit hs) :
    Ev (fun k => impl_LateOf.f k now l1 l2 a3 a4 l5 hs l7 l8 a9 a10 i) (late now hs i) := by
  have hl := hf.1
  unfold impl_LateOf.f impl_isIn.f
  have hw : wrap64 ((hs.length : Int) - 1) = hs.length - 1 := wrap_id (by omega) (by omega)
  have hmn : ∀ i : Int, i ≤ mn 1 (wrap64 ((hs.length : Int) - 1)) ↔ i ≤ 1 ∧ i < hs.length := by
    intro i; rw [hw]; unfold mn; split <;> omega
  by_cases h0 : 0 ≤ i
  · rw [if_pos h0]
    simp only [Option.bind_some]
    by_cases h1 : i ≤ mn 1 (wrap64 ((hs.length : Int) - 1))
    · obtain ⟨h1', h2⟩ := (hmn i).1 h1
      have hm := hf.2 _ (rd_mem h0 h2)
      simp only [h1, decide_true, h0, h2, if_true]
      rw [late, if_pos ⟨h0, h1', h2⟩]
      refine ev_list (rd_T81 (rd_T79 hs i).f5) (fun k s j => impl_LateOf.l0 k i s (rd_T79 hs i).f5 ((rd_T79 hs i).f5.length : Int) j now l1 l2 a3 a4 l5 hs l7 l8 a9 a10) (rd_T79 hs i).f5 (fun rest s => lateGo now (rd_T79 hs i).f3 rest s) (fun _ _ => True) (Wd.rd81 _) (by omega) (fun j n rest s hj hlt h0j hrd hw _ ih => ?_) (fun s _ => ?_) 0 trivial
      · refine Ev.succ ?_
        simp only [impl_LateOf.l0, hlt, h0j, hrd, hw, h0, h2, if_true, lateGo, impl_dbat _ hm.1, Option.bind_some]
        refine Ev.ite (fun c => Ev.ite (fun d => ?_) (fun d => ?_)) (fun c => ?_)
        · exact Ev.cast (ih _ trivial) (by rw [if_pos ⟨c, d⟩])
        · exact Ev.cast (ih _ trivial) (by rw [if_neg (fun h => d h.2)])
        · exact Ev.cast (ih _ trivial) (by rw [if_neg (fun h => c h.1)])
      · refine Ev.succ ?_
        simp only [impl_LateOf.l0]
        exact Ev.ite_neg (by omega) (Ev.now _)
    · simp only [h1, decide_false, Bool.false_eq_true, if_false]
      exact Ev.now' (by rw [late, if_neg (fun h => h1 ((hmn i).2 h.2))])
  · rw [if_neg h0]
    simp only [Option.bind_some, Bool.false_eq_true, if_false]
    exact Ev.now' (by rw [late, if_neg (fun h => h0 h.1)])
theorem nb145 (x : S145) (h : b145 x) : Wd.nWr x := by
  obtain ⟨_, h1⟩ := h
  have := h1.1
  show x.f1.length ≤ _
  omega
theorem nb111 (x : S111) (h : b111 x) : Wd.nSock x := by
  obtain ⟨_, _, _, _, h4, h5, _, _⟩ := h
  have := h4.1
  have := h5.1
  exact ⟨show x.f4.length ≤ _ by omega, show x.f5.length ≤ _ by omega⟩
theorem nb168 (x : S168) (h : b168 x) : Wd.nDb x := h.1
theorem nb170 (x : S170) (h : b170 x) : Wd.nAsker x := ⟨h.2.1, h.2.2.2.2.2.1⟩
theorem nb172 (x : S172) (h : b172 x) : Wd.nLine x := h.2.1
theorem nb118 (x : S118) (h : b118 x) : Wd.nHouse x := by
  obtain ⟨_, _, _, h3, _, h5, h6, _, _⟩ := h
  have := h3.1
  have := h5.1
  have := h6.1
  exact ⟨⟨show x.f3.length ≤ _ by omega, fun y hy => nb168 y (h3.2.2 y hy)⟩, ⟨show x.f5.length ≤ _ by omega, fun y hy => nb170 y (h5.2.2 y hy)⟩, ⟨show x.f6.length ≤ _ by omega, fun y hy => nb172 y (h6.2.2 y hy)⟩⟩
theorem nb121 (x : S121) (h : b121 x) : Wd.nPack x := by
  obtain ⟨_, h1⟩ := h
  have := h1.1
  show x.f1.length ≤ _
  omega
theorem nb37 (x : S37) (h : b37 x) : Wd.nWorld x := by
  obtain ⟨_, ⟨s0, s1, _, _⟩, h2, h3, h4, h5, _, _⟩ := h
  have := s0.1
  have := s1.1
  have := h2.1
  have := h3.1
  have := h4.1
  have := h5.1
  exact ⟨⟨show x.f1.f0.length ≤ _ by omega, fun y hy => by have := (s0.2.2 y hy).1; show y.length ≤ _; omega⟩, ⟨show x.f1.f1.length ≤ _ by omega, fun y hy => nb145 y (s1.2.2 y hy)⟩, ⟨show x.f2.length ≤ _ by omega, fun y hy => nb111 y (h2.2.2 y hy)⟩,
    ⟨show x.f3.length ≤ _ by omega, fun y hy => nb118 y (h3.2.2 y hy)⟩, ⟨show x.f4.length ≤ _ by omega, fun y hy => nb121 y (h4.2.2 y hy)⟩, show x.f5.length ≤ _ by omega⟩
theorem fit_map (hs : List S118) (hl : Wd.C hs.length) (hc : ∀ h ∈ hs, Wd.cHouse h) : Fit (hs.map Wd.vHouse) := by
  refine ⟨by rw [List.length_map]; exact hl, fun h hm => ?_⟩
  obtain ⟨g, hg, rfl⟩ := List.mem_map.1 hm
  obtain ⟨c0, c1, _⟩ := hc g hg
  exact ⟨by show (g.f3.map Wd.vDb).length ≤ _; rw [List.length_map]; exact c0, by show (g.f5.map Wd.vAsker).length ≤ _; rw [List.length_map]; exact c1⟩
end HLateOf
open HLateOf in
theorem FnExactLateOf : SFnExactLateOf.Pure := by
  intro x i hb _
  obtain ⟨r, hr, hz⟩ := Wd.sz_World x (nb37 x hb) 1048576 (by omega) (by omega)
  suffices h : Ev (fun k => laws_FnExactLateOf.f k x.f0 x.f1.f0 x.f1.f1 x.f1.f2 x.f1.f3 x.f2 x.f3 x.f4 x.f5 x.f6 x.f7 i) true by
    obtain ⟨K, h⟩ := h
    exact ⟨K, h K (Nat.le_refl _)⟩
  unfold laws_FnExactLateOf.f
  refine Ev.bind hz (Ev.ite (fun _ => Ev.now _) (fun c => ?_))
  have hc := hr (by omega)
  have hf := fit_map x.f3 hc.2.2.2.1.1 hc.2.2.2.1.2
  refine Ev.bind (Wd.to_World x hc) ?_
  refine Ev.bind (spec_late _ _ _ _ _ _ _ _ _ _ _ _ hf) ?_
  refine Ev.bind (Wd.to_World x hc) ?_
  refine Ev.bind (impl_late _ _ _ _ _ _ _ _ _ _ _ _ hf) (Ev.ite_pos rfl ?_)
  refine Ev.bind (Wd.to_World x hc) ?_
  exact Ev.bind (Wd.eq_World x hc) (Ev.ite_pos rfl (Ev.now _))

end Go.Proofs.Ytgcelhejmpcchaa.Pure
