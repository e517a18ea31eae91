/- The law of Counts, piece by piece. -/
import Derived.Test.YtocpjnhpjclllaaGreatDoorCPlC
import Derived.Test.YtocpjnhpjclllaaGreatDoorFilR
set_option linter.unusedSimpArgs false
namespace F5
open Go Go.Fil Go.Proofs Go.RowKit
set_option maxRecDepth 100000
set_option linter.unusedVariables false
def HasD (w : World) (O : Nat → Prop) (a : Act) (i : Nat) (t : Ty) (x : t.T) : Prop := V w O t x (a.tmps.getD i undef)
def HasP (w : World) (O g : Nat → Prop) (a : Act) (i : Nat) (t : Ty) (x : t.T) : Prop := ∃ ad cs, a.tmps.getD i undef = .pointer (some ad) ∧ K w O t x cs ∧ At w ad cs ∧ g ad.block ∧ ad.block < w.heap.size
noncomputable def body4 : Code := Tryz.f4.body.getD .skip
theorem dA : dropC 5 (dropC 0 body4) = dropC 5 body4 := by kernel_rfl
theorem dB : dropC 1 (dropC 5 body4) = dropC 6 body4 := by kernel_rfl
theorem dC : dropC 3 (dropC 6 body4) = dropC 9 body4 := by kernel_rfl
theorem dD : dropC 3 (dropC 9 body4) = dropC 12 body4 := by kernel_rfl
theorem dE : dropC 2 (dropC 12 body4) = dropC 14 body4 := by kernel_rfl
theorem hmix : Tryz.prog.follows .mixedOrders = true := G.mixed
theorem V_cls {w : World} {ok ok' : Nat → Prop} {t : Ty} {x : t.T} {v : Value} (h : ∀ k, ok k → k < w.heap.size → ok' k) (hv : V w ok t x v) : V w ok' t x v := V_step (fun k hk hlt => ⟨h k hk hlt, hlt, rfl⟩) hv
theorem okN {w : World} {n k : Nat} {okA : Nat → Prop} (h : okA k) : okD w w.heap.size okA (fun _ => undef) (List.replicate n none) false k := ⟨.inl h, ow_none, fun h => by cases h⟩
theorem ptr_inj {g g' : Nat} (h : Value.pointer (some ⟨g, 0, none⟩) = Value.pointer (some ⟨g', 0, none⟩)) : g = g' := by
  injection h with h; injection h with h; injection h
theorem pair_some {α β : Type} {a a' : α} {b b' : β} (h : some (a, b) = some (a', b')) : a = a' ∧ b = b' := by
  injection h with h; injection h with h1 h2; exact ⟨h1, h2⟩
section
variable {Q : Exit → Act → World → Prop} {a : Act} {w : World}
theorem phA {K : Nat} (hK : maxLen + 2 ≤ K) (x : T_laws_World.T) (s : List S_impl_Db) (hs : g_spec_Counts K x = some s) (hB : Bd by_ T_laws_World x) {l : Int} (hsz : g_laws_szWorld K x 1048576 = some l) (hl0 : 0 ≤ l) {okA : Nat → Prop} (hok : ∀ k, okA k → k < w.heap.size) (h0 : HasD w okA a 0 T_laws_World x) (hl : a.tmps.size = 69) (hd : a.defers = [])
    (next : ∀ a' w', HasP w' (fun _ => True) (fun _ => True) a' 1 T_laws_World x → HasD w' (fun _ => True) a' 4 T_S_impl_Db s → a'.tmps.size = 69 → a'.defers = [] → Below w.heap.size w w' → (dropC 5 body4).wp Tryz.prog Q a' w') : (dropC 0 body4).wp Tryz.prog Q a w := by
  letI : Lin := ⟨w, fun _ => False, fun _ => False, undef, fun _ _ => False⟩
  have hS : Sim w.heap.size okA w (fun _ => undef) (S_laws_FnExactCounts_A x) a w := by
    refine rebase _ hok hl hd (fun k hk => hk.elim) (fun k hk => hk.elim) (fun k hk => hk) ?_
    intro p hp
    simp only [List.mem_cons, List.not_mem_nil, or_false] at hp
    subst hp
    exact V_cls (fun k hk _ => okN hk) h0
  have hP := P_laws_FnExactCounts_A K x
  rw [hsz, Option.bind_some, br_false (by simp; omega), t_laws_toWorld hK x hB, Option.bind_some, hs, Option.bind_some] at hP
  refine piece_sound (E_laws_FnExactCounts_A.ok K) hmix 5 (dropC 0 body4) (by kernel_rfl) hS hP ?_ ?_
  · intro β' st' a' w' hs' hk
    obtain ⟨_, rfl⟩ := pair_some hk
    rw [dA]
    have r1 := hs'.at (i := 1) (A' := .ptr 1 0 T_laws_World) (by kernel_rfl)
    have r4 := hs'.at (i := 4) (A' := .d T_S_impl_Db true s) (by kernel_rfl)
    obtain ⟨g, e1, e2, _⟩ := r1
    obtain ⟨g', cs, e, e3, e4, e5, e6⟩ := hs'.ob 1 (.box T_laws_World false x) (by kernel_rfl)
    rw [e1] at e3
    have hgg := ptr_inj e3
    subst hgg
    refine next a' w' ⟨⟨g, 0, none⟩, cs.toList, e2, K_mono (fun _ _ _ => trivial) e6, ?_, trivial, (Array.getElem?_eq_some_iff.1 e5).1⟩ (V_cls (fun _ _ _ => trivial) r4) (by rw [hs'.len, mkSt_len]) hs'.defers (hs'.below.below (fun k hk => hk.elim id id))
    simpa using at_row e5 0
  · intro ex β' st' a' w' hex hs' hk
    exact absurd (pair_some hk).1 hex
theorem phA_neg {K : Nat} (x : T_laws_World.T) (hsz : g_laws_szWorld K x 1048576 = some (-1)) {okA : Nat → Prop} (hok : ∀ k, okA k → k < w.heap.size) (h0 : HasD w okA a 0 T_laws_World x) (hl : a.tmps.size = 69) (hd : a.defers = []) :
    (dropC 0 body4).wp Tryz.prog (bodyPost Tryz.prog Tryz.f4 (fun e w' => e = .returned (.bool true) ∧ Below w.heap.size w w')) a w := by
  letI : Lin := ⟨w, fun _ => False, fun _ => False, undef, fun _ _ => False⟩
  have hS : Sim w.heap.size okA w (fun _ => undef) (S_laws_FnExactCounts_A x) a w := by
    refine rebase _ hok hl hd (fun k hk => hk.elim) (fun k hk => hk.elim) (fun k hk => hk) ?_
    intro p hp
    simp only [List.mem_cons, List.not_mem_nil, or_false] at hp
    subst hp
    exact V_cls (fun k hk _ => okN hk) h0
  have hP := P_laws_FnExactCounts_A K x
  rw [hsz, Option.bind_some, br_true (by decide)] at hP
  refine piece_sound (E_laws_FnExactCounts_A.ok K) hmix 5 (dropC 0 body4) (by kernel_rfl) hS hP ?_ ?_
  · intro β' st' a' w' hs' hk
    exact absurd (pair_some hk).1 (by simp)
  · intro ex β' st' a' w' hex hs' hk
    obtain ⟨rfl, rfl⟩ := pair_some hk
    exact end_bool (E_laws_FnExactCounts_A.ok K) hs' (by kernel_rfl) (hs'.below.below (fun k hk => hk.elim id id))
theorem phB {K : Nat} (hK : maxLen + 2 ≤ K) (x : T_laws_World.T) (hB : Bd by_ T_laws_World x) (s : List S_impl_Db) (h1 : HasP w (fun _ => True) (fun _ => True) a 1 T_laws_World x) (h4 : HasD w (fun _ => True) a 4 T_S_impl_Db s) (hl : a.tmps.size = 69) (hd : a.defers = [])
    (next : ∀ a' w' g5, HasP w' (· < w.heap.size) (· < w.heap.size) a' 1 T_laws_World x → HasD w' (· < w.heap.size) a' 4 T_S_impl_Db s → HasP w' (fun k => w.heap.size ≤ k ∧ Plain w' k ∧ k ≠ g5) (· = g5) a' 5 T_impl_World x → w.heap.size ≤ g5 → a'.tmps.size = 69 → a'.defers = [] → Below w.heap.size w w' → (dropC 6 body4).wp Tryz.prog Q a' w') : (dropC 5 body4).wp Tryz.prog Q a w := by
  letI : Lin := ⟨w, fun _ => False, fun _ => False, undef, fun _ k => k < w.heap.size⟩
  have hS : Sim w.heap.size (· < w.heap.size) w (fun _ => undef) (S_laws_FnExactCounts_B x s) a w := by
    refine rebase _ (fun k hk => hk) hl hd (fun k hk => hk.elim) (fun k hk => hk.elim) (fun k hk => hk) ?_
    intro p hp
    simp only [List.mem_cons, List.not_mem_nil, or_false] at hp
    rcases hp with rfl | rfl
    · obtain ⟨ad, cs, e1, e2, e3, _, e4⟩ := h1
      exact ⟨ad, cs, e1, K_mono (fun k _ hlt => ⟨hlt, okN hlt⟩) e2, e3, ⟨e4, okN e4⟩, e4⟩
    · exact V_cls (fun k _ hlt => ⟨hlt, okN hlt⟩) h4
  have hP := P_laws_FnExactCounts_B K x s
  rw [t_laws_toWorld hK x hB, Option.bind_some] at hP
  refine piece_sound (E_laws_FnExactCounts_B.ok K) hmix 1 (dropC 5 body4) (by kernel_rfl) hS hP ?_ ?_
  · intro β' st' a' w' hs' hk
    obtain ⟨_, rfl⟩ := pair_some hk
    rw [dB]
    have r1 := hs'.at (i := 1) (A' := .orp 0 T_laws_World x) (by kernel_rfl)
    have r4 := hs'.at (i := 4) (A' := .od 0 T_S_impl_Db s) (by kernel_rfl)
    have r5 := hs'.at (i := 5) (A' := .ptr 5 0 T_impl_World) (by kernel_rfl)
    obtain ⟨g, e1, e2, _⟩ := r5
    obtain ⟨g', cs, e, e3, e4, e5, e6⟩ := hs'.ob 5 (.box T_impl_World true x) (by kernel_rfl)
    have hb : β' 5 = .pointer (some ⟨g, 0, none⟩) := e1
    rw [e1] at e3
    have hgg := ptr_inj e3
    subst hgg
    obtain ⟨ad1, cs1, f1, f2, f3, f4, f5⟩ := r1
    refine next a' w' g ⟨ad1, cs1, f1, K_mono (fun k hk _ => hk.1) f2, f3, f4.1, f5⟩ (V_cls (fun k hk _ => hk.1) r4) ⟨⟨g, 0, none⟩, cs.toList, e2, K_mono (fun k hk _ => ⟨(hk.2.2 rfl).1, (hk.2.2 rfl).2, fun e => hk.2.1 ⟨5, _, (by kernel_rfl : St.obj _ 5 = some (Ob.box T_impl_World true x)), by rw [hb, e]; rfl⟩⟩) e6, by simpa using at_row e5 0, rfl, (Array.getElem?_eq_some_iff.1 e5).1⟩ e4 (by rw [hs'.len, mkSt_len]) hs'.defers (hs'.below.below (fun k hk => hk.elim id id))
  · intro ex β' st' a' w' hex hs' hk
    exact absurd (pair_some hk).1 hex
theorem phC {K : Nat} (hK : maxLen + 2 ≤ K) (x : T_laws_World.T) (hB : Bd by_ T_laws_World x) (s : List S_impl_Db) (hs : g_impl_Counts K x = some s) (hs2 : s.length ≤ 1048576) {B1 g5 : Nat} (hB1 : B1 ≤ g5) (h1 : HasP w (· < B1) (· < B1) a 1 T_laws_World x) (h4 : HasD w (· < B1) a 4 T_S_impl_Db s) (h5 : HasP w (fun k => B1 ≤ k ∧ Plain w k ∧ k ≠ g5) (· = g5) a 5 T_impl_World x) (hl : a.tmps.size = 69) (hd : a.defers = [])
    (next : ∀ a' w', HasP w' (· < B1) (· < B1) a' 1 T_laws_World x → HasD w' (· < B1) a' 4 T_S_impl_Db s → HasP w' (fun k => B1 ≤ k ∧ k < w.heap.size ∧ Plain w' k ∧ k ≠ g5) (· = g5) a' 5 T_impl_World x → HasD w' (fun k => w.heap.size ≤ k ∧ Plain w' k) a' 6 T_S_impl_Db s → a'.tmps.size = 69 → a'.defers = [] → Below w.heap.size w w' → (dropC 9 body4).wp Tryz.prog Q a' w') : (dropC 6 body4).wp Tryz.prog Q a w := by
  letI : Lin := ⟨w, fun _ => False, fun _ => False, undef, fun c k => if c = 1 then B1 ≤ k ∧ k < w.heap.size ∧ Plain w k ∧ k ≠ g5 else if c = 101 then k = g5 else k < B1⟩
  have hS : Sim w.heap.size (· < w.heap.size) w (fun _ => undef) (S_laws_FnExactCounts_C x s x) a w := by
    refine rebase _ (fun k hk => hk) hl hd (fun k hk => hk.elim) (fun k hk => hk.elim) (fun k hk => hk) ?_
    intro p hp
    simp only [List.mem_cons, List.not_mem_nil, or_false] at hp
    rcases hp with rfl | rfl | rfl
    · obtain ⟨ad, cs, e1, e2, e3, e5, e4⟩ := h1
      exact ⟨ad, cs, e1, K_mono (fun k hk hlt => ⟨hk, okN hlt⟩) e2, e3, ⟨e5, okN e4⟩, e4⟩
    · exact V_cls (fun k hk hlt => ⟨hk, okN hlt⟩) h4
    · obtain ⟨ad, cs, e1, e2, e3, e5, e4⟩ := h5
      exact ⟨ad, cs, e1, K_mono (fun k hk hlt => ⟨⟨hk.1, hlt, hk.2.1, hk.2.2⟩, okN hlt⟩) e2, e3, ⟨e5, okN e4⟩, e4⟩
  have hP := P_laws_FnExactCounts_C K x s x
  rw [hs, Option.bind_some, eqDbs hK s hs2, Option.bind_some, br_false (c := !true) rfl, t_laws_toWorld hK x hB, Option.bind_some, q_laws_eqWorld hK x hB, Option.bind_some, br_false (c := !true) rfl] at hP
  refine piece_sound (E_laws_FnExactCounts_C.ok K) hmix 3 (dropC 6 body4) (by kernel_rfl) hS hP ?_ ?_
  · intro β' st' a' w' hs' hk
    obtain ⟨_, rfl⟩ := pair_some hk
    rw [dC]
    have r1 := hs'.at (i := 1) (A' := .orp 0 T_laws_World x) (by kernel_rfl)
    have r4 := hs'.at (i := 4) (A' := .od 0 T_S_impl_Db s) (by kernel_rfl)
    have r5 := hs'.at (i := 5) (A' := .orp 1 T_impl_World x) (by kernel_rfl)
    have r6 := hs'.at (i := 6) (A' := .d T_S_impl_Db true s) (by kernel_rfl)
    have hbel := hs'.below.below (fun k hk => hk.elim id id)
    obtain ⟨ad1, cs1, f1, f2, f3, f4, f5⟩ := r1
    obtain ⟨ad5, cs5, k1, k2, k3, k4, k5⟩ := r5
    refine next a' w' ⟨ad1, cs1, f1, K_mono (fun k hk _ => hk.1) f2, f3, f4.1, f5⟩ (V_cls (fun k hk _ => hk.1) r4) ⟨ad5, cs5, k1, K_mono (fun k hk _ => ?_) k2, k3, k4.1, k5⟩ (V_cls (fun k hk _ => hk.2.2 rfl) r6) (by rw [hs'.len, mkSt_len]) hs'.defers hbel
    have h : B1 ≤ k ∧ k < w.heap.size ∧ Plain w k ∧ k ≠ g5 := hk.1
    exact ⟨h.1, h.2.1, h.2.2.1.step (hbel.block k h.2.1), h.2.2.2⟩
  · intro ex β' st' a' w' hex hs' hk
    exact absurd (pair_some hk).1 hex
theorem phD {K : Nat} (hK : maxLen + 2 ≤ K) (x : T_laws_World.T) (hB : Bd by_ T_impl_World x) (hwt : wt T_impl_World x ≤ 1048576) (s : List S_impl_Db) (hs2 : s.length ≤ 1048576) {B1 B2 g5 : Nat} (hB1 : B1 ≤ g5) (hB12 : B1 ≤ B2) (hg5 : g5 < B2) (hB2 : B2 ≤ w.heap.size) (h1 : HasP w (· < B1) (· < B1) a 1 T_laws_World x) (h4 : HasD w (· < B1) a 4 T_S_impl_Db s) (h5 : HasP w (fun k => B1 ≤ k ∧ k < B2 ∧ Plain w k ∧ k ≠ g5) (· = g5) a 5 T_impl_World x) (h6 : HasD w (fun k => B2 ≤ k ∧ Plain w k) a 6 T_S_impl_Db s) (hl : a.tmps.size = 69) (hd : a.defers = [])
    (next : ∀ a' w', HasP w' (· < B1) (· < B1) a' 1 T_laws_World x → HasD w' (· < B1) a' 4 T_S_impl_Db s → HasD w' (fun k => B2 ≤ k ∧ Plain w' k) a' 6 T_S_impl_Db s → a'.tmps.size = 69 → a'.defers = [] → Below B1 w w' → (dropC 12 body4).wp Tryz.prog Q a' w') : (dropC 9 body4).wp Tryz.prog Q a w := by
  letI : Lin := ⟨w, fun k => B1 ≤ k ∧ k < B2 ∧ Plain w k ∧ k ≠ g5, fun _ => False, undef, fun c k => if c = 2 then B2 ≤ k ∧ k < w.heap.size ∧ Plain w k else k < B1⟩
  have hS : Sim w.heap.size (fun k => k < w.heap.size ∧ ¬ (B1 ≤ k ∧ k < B2 ∧ Plain w k ∧ k ≠ g5)) w (fun _ => undef) (S_laws_FnExactCounts_D x s x s) a w := by
    refine rebase _ (fun k hk => hk.1) hl hd (fun k hk => ?_) (fun k hk h => h.2 hk) (fun k hk => hk) ?_
    · obtain ⟨cs, e, hc⟩ := hk.2.2.1
      exact ⟨cs, cs, e, hc, hc, rfl, fun j u hu => ⟨u, hu, Sc.refl u⟩⟩
    · intro p hp
      simp only [List.mem_cons, List.not_mem_nil, or_false] at hp
      have low : ∀ k, k < B1 → k < w.heap.size ∧ ¬ (B1 ≤ k ∧ k < B2 ∧ Plain w k ∧ k ≠ g5) := fun k hk => ⟨by omega, fun h => by omega⟩
      rcases hp with rfl | rfl | rfl | rfl
      · obtain ⟨ad, cs, e1, e2, e3, e5, e4⟩ := h1
        exact ⟨ad, cs, e1, K_mono (fun k hk hlt => ⟨hk, okN (low k hk)⟩) e2, e3, ⟨e5, okN (low _ e5)⟩, e4⟩
      · exact V_cls (fun k hk hlt => ⟨hk, okN (low k hk)⟩) h4
      · obtain ⟨ad, cs, e1, e2, e3, e5, e4⟩ := h5
        exact ⟨ad, cs, e1, KL_of e2, e3, okN ⟨e4, fun h => h.2.2.2 e5⟩, e4⟩
      · exact V_cls (fun k hk hlt => ⟨⟨hk.1, hlt, hk.2⟩, okN ⟨hlt, fun h => by have := hk.1; have := h.2.1; omega⟩⟩) h6
  obtain ⟨m, hm1, hm2, hm3⟩ := m_laws_markWorld hK x hB 1 (by omega) (by omega)
  have hP := P_laws_FnExactCounts_D K x s x s
  rw [hm1, Option.bind_some, br_false (by simp; omega), eqDbs hK s hs2, Option.bind_some, br_false (c := !true) rfl] at hP
  refine piece_sound (E_laws_FnExactCounts_D.ok K) hmix 3 (dropC 9 body4) (by kernel_rfl) hS hP ?_ ?_
  · intro β' st' a' w' hs' hk
    obtain ⟨_, rfl⟩ := pair_some hk
    rw [dD]
    have r1 := hs'.at (i := 1) (A' := .orp 0 T_laws_World x) (by kernel_rfl)
    have r4 := hs'.at (i := 4) (A' := .od 0 T_S_impl_Db s) (by kernel_rfl)
    have r6 := hs'.at (i := 6) (A' := .od 2 T_S_impl_Db s) (by kernel_rfl)
    have hbel := hs'.below
    obtain ⟨ad1, cs1, f1, f2, f3, f4, f5⟩ := r1
    refine next a' w' ⟨ad1, cs1, f1, K_mono (fun k hk _ => hk.1) f2, f3, f4.1, f5⟩ (V_cls (fun k hk _ => hk.1) r4) (V_cls (fun k hk _ => ?_) r6) (by rw [hs'.len, mkSt_len]) hs'.defers ⟨hbel.os, hbel.tape, hbel.output, hbel.size, fun k hk => hbel.block k (by omega) (fun h => ?_)⟩
    · have h : B2 ≤ k ∧ k < w.heap.size ∧ Plain w k := hk.1
      refine ⟨h.1, h.2.2.step (hbel.block k h.2.1 (fun h' => ?_))⟩
      rcases h' with h' | h'
      · have : B1 ≤ k ∧ k < B2 ∧ Plain w k ∧ k ≠ g5 := h'
        omega
      · exact h'
    · rcases h with h' | h'
      · have : B1 ≤ k ∧ k < B2 ∧ Plain w k ∧ k ≠ g5 := h'
        omega
      · exact h'
  · intro ex β' st' a' w' hex hs' hk
    exact absurd (pair_some hk).1 hex
theorem phE {K : Nat} (hK : maxLen + 2 ≤ K) (x : T_laws_World.T) (s : List S_impl_Db) (hs2 : s.length ≤ 1048576) (ys : List S_impl_Db) (hmk : h_laws_markDbS K s 1 = some (1 + 5 * (s.length : Int), ys)) {B1 B2 : Nat} (hB12 : B1 ≤ B2) (hB2 : B2 ≤ w.heap.size) (h1 : HasP w (· < B1) (· < B1) a 1 T_laws_World x) (h4 : HasD w (· < B1) a 4 T_S_impl_Db s) (h6 : HasD w (fun k => B2 ≤ k ∧ Plain w k) a 6 T_S_impl_Db s) (hl : a.tmps.size = 69) (hd : a.defers = [])
    (next : ∀ a' w', HasP w' (· < B1) (· < B1) a' 1 T_laws_World x → HasD w' (· < B1) a' 4 T_S_impl_Db s → HasD w' (fun k => B2 ≤ k) a' 6 T_S_impl_Db (ys) → HasD w' (fun _ => True) a' 8 T_int (1 + 5 * (s.length : Int)) → a'.tmps.size = 69 → a'.defers = [] → Below B1 w w' → (dropC 14 body4).wp Tryz.prog Q a' w') : (dropC 12 body4).wp Tryz.prog Q a w := by
  letI : Lin := ⟨w, fun _ => False, fun k => B2 ≤ k ∧ k < w.heap.size ∧ Plain w k, a.tmps.getD 6 undef, fun _ k => k < B1⟩
  have hS : Sim w.heap.size (· < B1) w (fun _ => undef) (S_laws_FnExactCounts_E x s s) a w := by
    have hno : ∀ k, ¬ Ow (fun _ => undef) (some (Ob.row 81 T_impl_Db s) :: List.replicate 68 none) k := by
      rintro k ⟨s', o, h1, h2⟩
      simp [blk, undef] at h2
    refine rebaseX (n := 68) _ (fun k hk => by omega) hl hd (fun k hk => hk) (fun k hk => ⟨hk.2.1, fun h => by have := hk.1; omega⟩) ?_ ?_
    · obtain ⟨A, c, css, e1, e2, e3, e4, e5⟩ := slice_of_V h6
      refine ⟨rfl, A, c, css, e1, ⟨e2, e3⟩, e4.imp (fun x r hx => K_flat rfl hx), fun hp => ?_⟩
      obtain ⟨ad, z1, z2, z3, z4⟩ := e5 hp
      exact ⟨ad, z1, ⟨z2.1, z3, z2.2⟩, z2.2, z4⟩
    · intro p hp
      simp only [List.mem_cons, List.not_mem_nil, or_false] at hp
      have okn : ∀ k, k < B1 → okD w w.heap.size (· < B1) (fun _ => undef) (some (Ob.row 81 T_impl_Db s) :: List.replicate 68 none) false k := fun k hk => ⟨.inl hk, hno k, fun h => by cases h⟩
      rcases hp with rfl | rfl | rfl
      · obtain ⟨ad, cs, e1, e2, e3, e5, e4⟩ := h1
        exact ⟨ad, cs, e1, K_mono (fun k hk hlt => ⟨hk, okn k hk⟩) e2, e3, ⟨e5, okn _ e5⟩, e4⟩
      · exact V_cls (fun k hk hlt => ⟨hk, okn k hk⟩) h4
      · exact ⟨rfl, 81, T_impl_Db, s, rfl⟩
  have hP := P_laws_FnExactCounts_E K x s s
  rw [hmk, Option.bind_some] at hP
  refine piece_sound (E_laws_FnExactCounts_E.ok K) hmix 2 (dropC 12 body4) (by kernel_rfl) hS hP ?_ ?_
  · intro β' st' a' w' hs' hk
    obtain ⟨_, rfl⟩ := pair_some hk
    rw [dE]
    have r1 := hs'.at (i := 1) (A' := .orp 0 T_laws_World x) (by kernel_rfl)
    have r4 := hs'.at (i := 4) (A' := .od 0 T_S_impl_Db s) (by kernel_rfl)
    have r6 := hs'.at (i := 6) (A' := .xr) (by kernel_rfl)
    have r8 := hs'.at (i := 8) (A' := .d T_int true (1 + 5 * (s.length : Int))) (by kernel_rfl)
    have hbel := hs'.below
    obtain ⟨_, A, c, css, e1, e2, e4, e5⟩ := hs'.ob 0 (.row 81 T_impl_Db (ys)) (by kernel_rfl)
    obtain ⟨ad1, cs1, f1, f2, f3, f4, f5⟩ := r1
    refine next a' w' ⟨ad1, cs1, f1, K_mono (fun k hk _ => hk.1) f2, f3, f4.1, f5⟩ (V_cls (fun k hk _ => hk.1) r4) ?_ (V_cls (fun _ _ _ => trivial) r8) (by rw [hs'.len, mkSt_len]) hs'.defers ⟨hbel.os, hbel.tape, hbel.output, hbel.size, fun k hk => hbel.block k (by omega) (fun h => ?_)⟩
    · have hr : a'.tmps.getD 6 undef = .slice A ys.length c := r6.1.trans e1
      unfold HasD
      rw [hr]
      exact ⟨_, ⟨A, c, css, rfl, e2.1, e2.2, e4.imp (fun x r hx => K_flat rfl hx), fun hp => by
        obtain ⟨ad, z1, z2, z3, z4⟩ := e5 hp
        obtain ⟨q1, q2, q3⟩ := z3
        exact ⟨ad, z1, z2.1, (Array.getElem?_eq_some_iff.1 q3).1, z4⟩⟩, rfl⟩
    · rcases h with h' | h'
      · exact h'
      · have : B2 ≤ k ∧ k < w.heap.size ∧ Plain w k := h'
        omega
  · intro ex β' st' a' w' hex hs' hk
    exact absurd (pair_some hk).1 (fun h => hex h)
theorem phF {K : Nat} (hK : maxLen + 2 ≤ K) (x : T_laws_World.T) (hB : Bd by_ T_laws_World x) (s : List S_impl_Db) (hs : g_impl_Counts K x = some s) (hs2 : s.length ≤ 1048576) (ys : List S_impl_Db) (hhd : g_laws_heldDbS K ys 1 = some (1 + 5 * (s.length : Int))) {B1 B2 : Nat} {wS : World} (hB1 : wS.heap.size ≤ B1) (hB12 : B1 ≤ w.heap.size) (hw : Below wS.heap.size wS w) (h1 : HasP w (· < B1) (· < B1) a 1 T_laws_World x) (h4 : HasD w (· < B1) a 4 T_S_impl_Db s) (h6 : HasD w (fun k => B2 ≤ k) a 6 T_S_impl_Db (ys)) (h8 : HasD w (fun _ => True) a 8 T_int (1 + 5 * (s.length : Int))) (hl : a.tmps.size = 69) (hd : a.defers = []) :
    (dropC 14 body4).wp Tryz.prog (bodyPost Tryz.prog Tryz.f4 (fun e w' => e = .returned (.bool true) ∧ Below wS.heap.size wS w')) a w := by
  letI : Lin := ⟨w, fun _ => False, fun _ => False, undef, fun c k => if c = 2 then B2 ≤ k else k < B1⟩
  have hS : Sim w.heap.size (· < w.heap.size) w (fun _ => undef) (S_laws_FnExactCounts_F x s (ys) (1 + 5 * (s.length : Int))) a w := by
    refine rebase _ (fun k hk => hk) hl hd (fun k hk => hk.elim) (fun k hk => hk.elim) (fun k hk => hk) ?_
    intro p hp
    simp only [List.mem_cons, List.not_mem_nil, or_false] at hp
    rcases hp with rfl | rfl | rfl | rfl
    · obtain ⟨ad, cs, e1, e2, e3, e5, e4⟩ := h1
      exact ⟨ad, cs, e1, K_mono (fun k hk hlt => ⟨hk, okN hlt⟩) e2, e3, ⟨e5, okN e4⟩, e4⟩
    · exact V_cls (fun k hk hlt => ⟨hk, okN hlt⟩) h4
    · exact V_cls (fun k hk hlt => ⟨hk, okN hlt⟩) h6
    · obtain ⟨cs, e1, e2⟩ := h8
      exact ⟨cs, e1, e2⟩
  have hP := P_laws_FnExactCounts_F K x s (ys) (1 + 5 * (s.length : Int))
  rw [hhd, Option.bind_some, br_false (by simp; omega), br_false (by simp), t_laws_toWorld hK x hB, Option.bind_some, hs, Option.bind_some, eqDbs hK s hs2, Option.bind_some, br_false (c := !true) rfl, Option.bind_some, br_false (by simp; omega), br_false (by simp)] at hP
  refine code_sound (E_laws_FnExactCounts_F.ok K) hmix (dropC 14 body4) hS hP ?_
  intro ex β' st' a' w' hs' hk
  exact end_bool (E_laws_FnExactCounts_F.ok K) hs' hk (hw.trans ((hs'.below.below (fun k hk => hk.elim id id)).mono (by omega)))
end
theorem bd46 (x : T_laws_World.T) (h : Bd by_ T_laws_World x) : Bd by_ T_impl_World x := (by kernel_rfl : Bd by_ T_laws_World x = Bd by_ T_impl_World x) ▸ h
theorem wt46 (x : T_laws_World.T) : wt T_impl_World x = wt T_laws_World x := by kernel_rfl
theorem Below.down {B B' : Nat} {w w' : World} (h : Below B w w') (hb : B' ≤ B) : Below B' w w' := h.mono hb
theorem byte_wf {n : Int} (h : (Lit.int .u8 n).wf = true) : 0 ≤ n ∧ n ≤ 255 := by
  simp [Lit.wf, IntKind.min, IntKind.max, IntKind.signed, IntKind.bits] at h
  omega
theorem len_wt {e : Nat} {t : Ty} (xs : List t.T) : xs.length ≤ wt (.slice e t) xs := by
  show xs.length ≤ xs.length + _
  omega
theorem disk_db (d : T_laws_Disk.T) (hB : Bd by_ T_laws_Disk d) (hw : wt T_laws_Disk d ≤ 1048576) : DB d := by
  have hw' : wt T_S_S_u8 d.1 + (wt T_S_laws_Wr d.2.1 + wt (.pair T_int_3 (.pair T_bool .unit)) d.2.2) ≤ 1048576 := hw
  have l1 : List.length d.1 ≤ wt T_S_S_u8 d.1 := len_wt (t := T_S_u8) d.1
  have l2 : List.length d.2.1 ≤ wt T_S_laws_Wr d.2.1 := len_wt (t := T_laws_Wr) d.2.1
  exact ⟨by show List.length d.1 ≤ 1048576; omega, by show List.length d.2.1 ≤ 1048576; omega, fun s hs b hb => byte_wf ((hB.1.2.2 s hs).2.2 b hb), fun e he b hb => byte_wf ((hB.2.1.2.2 e he).2.1.2.2 b hb)⟩
theorem bdW (x : T_laws_World.T) (h : Bd by_ T_laws_World x) : Bd by_ T_impl_World x := (by kernel_rfl : Bd by_ T_laws_World x = Bd by_ T_impl_World x) ▸ h
theorem lawCounts (x : T_laws_World.T) (hB : Bd by_ T_laws_World x) (w : World) (v : Value) (ok : Nat → Prop) (hok : ∀ k, ok k → k < w.heap.size) (hv : V w ok T_laws_World x v) :
    Calls Tryz.prog 4 #[v] w fun e w' => e = .returned (.bool true) ∧ Below w.heap.size w w' := by
  obtain ⟨K, hK⟩ : ∃ K, maxLen + 2 ≤ K := ⟨_, Nat.le_refl _⟩
  refine calls_of_wp Tryz.func4 (show Tryz.f4.body = some body4 by kernel_rfl) ?_
  have hl : (#[v] ++ Array.replicate (Tryz.f4.ntmps - #[v].size) undef).size = 69 := by
    rw [Array.size_append, Array.size_replicate]; rfl
  have h0 : HasD w ok { tmps := #[v] ++ Array.replicate (Tryz.f4.ntmps - #[v].size) undef, defers := [] } 0 T_laws_World x := by
    show V w ok T_laws_World x ((#[v] ++ Array.replicate (Tryz.f4.ntmps - #[v].size) undef).getD 0 undef)
    rw [Array.getD_eq_getD_getElem?, Array.getElem?_append_left (by simp)]
    exact hv
  show (dropC 0 body4).wp _ _ _ _
  rcases s_laws_szWorld hK x hB 1048576 (by omega) (by omega) with hneg | ⟨l, hsz, hl0, hwt⟩
  · exact phA_neg x hneg hok h0 hl rfl
  have hwd : wt T_laws_Disk x.2.1 ≤ 1048576 := by
    have : wt T_laws_World x = wt T_int_3 x.1 + (wt T_laws_Disk x.2.1 + wt (.pair T_S_laws_Sock (.pair T_S_laws_House (.pair T_S_laws_Pack (.pair T_S_laws_Note (.pair T_int_3 (.pair T_int_3 .unit)))))) x.2.2) := rfl
    omega
  obtain ⟨s, hs1, hs2, hs3⟩ := counts hK x (disk_db x.2.1 hB.2.1 hwd)
  obtain ⟨ys, hmk, hhd⟩ := markDbs hK s hs3
  refine phA hK x s hs1 hB hsz hl0 hok h0 hl rfl ?_
  intro a1 w1 p1 p4 pl pd b1
  refine phB hK x hB s p1 p4 pl pd ?_
  intro a2 w2 g5 p1 p4 p5 hg pl pd b2
  have hg5 : g5 < w2.heap.size := by
    obtain ⟨ad, cs, _, _, _, e1, e2⟩ := p5
    rw [← e1]; exact e2
  refine phC hK x hB s hs2 hs3 hg p1 p4 p5 pl pd ?_
  intro a3 w3 p1 p4 p5 p6 pl pd b3
  refine phD hK x (bd46 x hB) (by rw [wt46]; omega) s hs3 hg b2.size hg5 b3.size p1 p4 p5 p6 pl pd ?_
  intro a4 w4 p1 p4 p6 pl pd b4
  refine phE hK x s hs3 ys hmk b2.size (Nat.le_trans b3.size b4.size) p1 p4 p6 pl pd ?_
  intro a5 w5 p1 p4 p6 p8 pl pd b5
  have s1 := b1.size
  have s2 := b2.size
  have s3 := b3.size
  have s4 := b4.size
  have s5 := b5.size
  exact phF hK x hB s hs2 hs3 ys hhd s1 (by omega) ((((b1.trans (b2.mono (by omega))).trans (b3.mono (by omega))).trans (b4.mono s1)).trans (b5.mono s1)) p1 p4 p6 p8 pl pd
#print axioms lawCounts
end F5
