/- Said: what the law's own functions come to, by plain lemmas. -/
import Derived.Test.YtgcelhejmpcchaaFunSaid
import Derived.Test.YtgcelhejmpcchaaFilP
namespace F2
set_option linter.unusedSectionVars false
open Go Go.Fil Go.Proofs
set_option maxRecDepth 100000
set_option linter.unusedVariables false
/-! ### what the law's helpers come to; written by pure.py -/
set_option linter.unusedSimpArgs false
def by_ (e : Nat) : Nat := ((tabOf tab e).map (·.bytes)).getD 1
theorem by5 : by_ 5 = 1 := by kernel_rfl
theorem by65 : by_ 65 = 72 := by kernel_rfl
theorem by99 : by_ 99 = 24 := by kernel_rfl
theorem by111 : by_ 111 = 96 := by kernel_rfl
theorem by118 : by_ 118 = 144 := by kernel_rfl
theorem by121 : by_ 121 = 32 := by kernel_rfl
theorem by145 : by_ 145 = 32 := by kernel_rfl
theorem by168 : by_ 168 = 48 := by kernel_rfl
theorem by170 : by_ 170 = 80 := by kernel_rfl
theorem by172 : by_ 172 = 64 := by kernel_rfl
theorem s86 {K : Nat} (hK : maxLen + 2 ≤ K) (x0 : y99.T) (h : Bd by_ y99 x0) (l : Int) (h0 : 0 ≤ l) (h1 : l ≤ 1048576) : SzOk (wt y99 x0) l (g86 K x0 l) := by
  have h : _ ∧ _ ∧ _ := h
  rw [g86.eq]
  exact (sz_sub2 (F := fun y => some y) h0 h1 (le_by h.1 (by rw [by5]; decide)) (fun m h2 h3 => sz_done h2)).mono (Nat.le_of_eq (congrArg (List.length x0 + ·) (sum_zero (f := fun x => wt y5 x) (fun _ => rfl))))
theorem s60 {K : Nat} (hK : maxLen + 2 ≤ K) (x0 : y29.T) (h : Bd by_ y29 x0) (l : Int) (h0 : 0 ≤ l) (h1 : l ≤ 1048576) : SzOk (wt y29 x0) l (g60 K x0 l) := by
  have h : _ ∧ _ ∧ _ := h
  rw [g60.eq]
  exact sz_fn (L := fun k l v => L60_5 K k x0 l v) (G := fun y l => g86 K y l) (z := ([])) hK (fun k l v => L60_5.step K k x0 l v) (le_by h.1 (by rw [by99]; decide)) h.2.1 (fun y hy l => s86 hK y (h.2.2 y hy) l) h0 h1
theorem s87 {K : Nat} (hK : maxLen + 2 ≤ K) (x0 : y145.T) (h : Bd by_ y145 x0) (l : Int) (h0 : 0 ≤ l) (h1 : l ≤ 1048576) : SzOk (wt y145 x0) l (g87 K x0 l) := by
  rw [g87.eq]
  exact (sz_bind (F := fun y => some y) h1 (s86 hK x0.2.1 h.2.1 l h0 h1) (fun m h2 h3 => sz_done h2)).mono (by simp only [wt]; omega)
theorem s61 {K : Nat} (hK : maxLen + 2 ≤ K) (x0 : y30.T) (h : Bd by_ y30 x0) (l : Int) (h0 : 0 ≤ l) (h1 : l ≤ 1048576) : SzOk (wt y30 x0) l (g61 K x0 l) := by
  have h : _ ∧ _ ∧ _ := h
  rw [g61.eq]
  exact sz_fn (L := fun k l v => L61_5 K k x0 l v) (G := fun y l => g87 K y l) (z := y145.zero) hK (fun k l v => L61_5.step K k x0 l v) (le_by h.1 (by rw [by145]; decide)) h.2.1 (fun y hy l => s87 hK y (h.2.2 y hy) l) h0 h1
theorem s33 {K : Nat} (hK : maxLen + 2 ≤ K) (x0 : y31.T) (h : Bd by_ y31 x0) (l : Int) (h0 : 0 ≤ l) (h1 : l ≤ 1048576) : SzOk (wt y31 x0) l (g33 K x0 l) := by
  rw [g33.eq]
  exact (sz_bind (F := fun y => (g61 K x0.2.1 y).bind fun z => br (decide (z < 0)) (some (-1)) ((fun y => some y) z)) h1 (s60 hK x0.1 h.1 l h0 h1) (fun m h2 h3 => sz_bind (F := fun y => some y) (by omega) (s61 hK x0.2.1 h.2.1 m h2 (by omega)) (fun m h2 h3 => sz_done h2))).mono (by simp only [wt]; omega)
theorem s62 {K : Nat} (hK : maxLen + 2 ≤ K) (x0 : y111.T) (h : Bd by_ y111 x0) (l : Int) (h0 : 0 ≤ l) (h1 : l ≤ 1048576) : SzOk (wt y111 x0) l (g62 K x0 l) := by
  rw [g62.eq]
  exact (sz_bind (F := fun y => (g86 K x0.2.2.2.2.2.1 y).bind fun z => br (decide (z < 0)) (some (-1)) ((fun y => some y) z)) h1 (s86 hK x0.2.2.2.2.1 h.2.2.2.2.1 l h0 h1) (fun m h2 h3 => sz_bind (F := fun y => some y) (by omega) (s86 hK x0.2.2.2.2.2.1 h.2.2.2.2.2.1 m h2 (by omega)) (fun m h2 h3 => sz_done h2))).mono (by simp only [wt]; omega)
theorem s34 {K : Nat} (hK : maxLen + 2 ≤ K) (x0 : y33.T) (h : Bd by_ y33 x0) (l : Int) (h0 : 0 ≤ l) (h1 : l ≤ 1048576) : SzOk (wt y33 x0) l (g34 K x0 l) := by
  have h : _ ∧ _ ∧ _ := h
  rw [g34.eq]
  exact sz_fn (L := fun k l v => L34_5 K k x0 l v) (G := fun y l => g62 K y l) (z := y111.zero) hK (fun k l v => L34_5.step K k x0 l v) (le_by h.1 (by rw [by111]; decide)) h.2.1 (fun y hy l => s62 hK y (h.2.2 y hy) l) h0 h1
theorem s107 {K : Nat} (hK : maxLen + 2 ≤ K) (x0 : y168.T) (h : Bd by_ y168 x0) (l : Int) (h0 : 0 ≤ l) (h1 : l ≤ 1048576) : SzOk (wt y168 x0) l (g107 K x0 l) := by
  rw [g107.eq]
  exact (sz_sub2 (F := fun y => some y) h0 h1 ((show x0.1.size ≤ _ from h.1)) (fun m h2 h3 => sz_done h2)).mono (by simp only [wt]; omega)
theorem s88 {K : Nat} (hK : maxLen + 2 ≤ K) (x0 : y113.T) (h : Bd by_ y113 x0) (l : Int) (h0 : 0 ≤ l) (h1 : l ≤ 1048576) : SzOk (wt y113 x0) l (g88 K x0 l) := by
  have h : _ ∧ _ ∧ _ := h
  rw [g88.eq]
  exact sz_fn (L := fun k l v => L88_5 K k x0 l v) (G := fun y l => g107 K y l) (z := y168.zero) hK (fun k l v => L88_5.step K k x0 l v) (le_by h.1 (by rw [by168]; decide)) h.2.1 (fun y hy l => s107 hK y (h.2.2 y hy) l) h0 h1
theorem s108 {K : Nat} (hK : maxLen + 2 ≤ K) (x0 : y170.T) (h : Bd by_ y170 x0) (l : Int) (h0 : 0 ≤ l) (h1 : l ≤ 1048576) : SzOk (wt y170 x0) l (g108 K x0 l) := by
  rw [g108.eq]
  exact (sz_sub2 (F := fun y => br (decide (IntKind.wrap .i64 (y - ((ByteArray.size x0.2.2.2.2.2.1 : Nat) : Int)) < 0)) (some (-1)) (some (IntKind.wrap .i64 (y - ((ByteArray.size x0.2.2.2.2.2.1 : Nat) : Int))))) h0 h1 ((show x0.2.1.size ≤ _ from h.2.1)) (fun m h2 h3 => sz_sub2 (F := fun y => some y) h2 (by omega) ((show x0.2.2.2.2.2.1.size ≤ _ from h.2.2.2.2.2.1)) (fun m h2 h3 => sz_done h2))).mono (by simp only [wt]; omega)
theorem s89 {K : Nat} (hK : maxLen + 2 ≤ K) (x0 : y114.T) (h : Bd by_ y114 x0) (l : Int) (h0 : 0 ≤ l) (h1 : l ≤ 1048576) : SzOk (wt y114 x0) l (g89 K x0 l) := by
  have h : _ ∧ _ ∧ _ := h
  rw [g89.eq]
  exact sz_fn (L := fun k l v => L89_5 K k x0 l v) (G := fun y l => g108 K y l) (z := y170.zero) hK (fun k l v => L89_5.step K k x0 l v) (le_by h.1 (by rw [by170]; decide)) h.2.1 (fun y hy l => s108 hK y (h.2.2 y hy) l) h0 h1
theorem s109 {K : Nat} (hK : maxLen + 2 ≤ K) (x0 : y172.T) (h : Bd by_ y172 x0) (l : Int) (h0 : 0 ≤ l) (h1 : l ≤ 1048576) : SzOk (wt y172 x0) l (g109 K x0 l) := by
  rw [g109.eq]
  exact (sz_sub2 (F := fun y => some y) h0 h1 ((show x0.2.1.size ≤ _ from h.2.1)) (fun m h2 h3 => sz_done h2)).mono (by simp only [wt]; omega)
theorem s90 {K : Nat} (hK : maxLen + 2 ≤ K) (x0 : y115.T) (h : Bd by_ y115 x0) (l : Int) (h0 : 0 ≤ l) (h1 : l ≤ 1048576) : SzOk (wt y115 x0) l (g90 K x0 l) := by
  have h : _ ∧ _ ∧ _ := h
  rw [g90.eq]
  exact sz_fn (L := fun k l v => L90_5 K k x0 l v) (G := fun y l => g109 K y l) (z := y172.zero) hK (fun k l v => L90_5.step K k x0 l v) (le_by h.1 (by rw [by172]; decide)) h.2.1 (fun y hy l => s109 hK y (h.2.2 y hy) l) h0 h1
theorem s63 {K : Nat} (hK : maxLen + 2 ≤ K) (x0 : y118.T) (h : Bd by_ y118 x0) (l : Int) (h0 : 0 ≤ l) (h1 : l ≤ 1048576) : SzOk (wt y118 x0) l (g63 K x0 l) := by
  rw [g63.eq]
  exact (sz_bind (F := fun y => (g89 K x0.2.2.2.2.2.1 y).bind fun z => br (decide (z < 0)) (some (-1)) ((fun y => (g90 K x0.2.2.2.2.2.2.1 y).bind fun z => br (decide (z < 0)) (some (-1)) ((fun y => some y) z)) z)) h1 (s88 hK x0.2.2.2.1 h.2.2.2.1 l h0 h1) (fun m h2 h3 => sz_bind (F := fun y => (g90 K x0.2.2.2.2.2.2.1 y).bind fun z => br (decide (z < 0)) (some (-1)) ((fun y => some y) z)) (by omega) (s89 hK x0.2.2.2.2.2.1 h.2.2.2.2.2.1 m h2 (by omega)) (fun m h2 h3 => sz_bind (F := fun y => some y) (by omega) (s90 hK x0.2.2.2.2.2.2.1 h.2.2.2.2.2.2.1 m h2 (by omega)) (fun m h2 h3 => sz_done h2)))).mono (by simp only [wt]; omega)
theorem s35 {K : Nat} (hK : maxLen + 2 ≤ K) (x0 : y34.T) (h : Bd by_ y34 x0) (l : Int) (h0 : 0 ≤ l) (h1 : l ≤ 1048576) : SzOk (wt y34 x0) l (g35 K x0 l) := by
  have h : _ ∧ _ ∧ _ := h
  rw [g35.eq]
  exact sz_fn (L := fun k l v => L35_5 K k x0 l v) (G := fun y l => g63 K y l) (z := y118.zero) hK (fun k l v => L35_5.step K k x0 l v) (le_by h.1 (by rw [by118]; decide)) h.2.1 (fun y hy l => s63 hK y (h.2.2 y hy) l) h0 h1
theorem s64 {K : Nat} (hK : maxLen + 2 ≤ K) (x0 : y145.T) (h : Bd by_ y145 x0) (l : Int) (h0 : 0 ≤ l) (h1 : l ≤ 1048576) : SzOk (wt y145 x0) l (g64 K x0 l) := by
  rw [g64.eq]
  exact (sz_bind (F := fun y => some y) h1 (s86 hK x0.2.1 h.2.1 l h0 h1) (fun m h2 h3 => sz_done h2)).mono (by simp only [wt]; omega)
theorem s36 {K : Nat} (hK : maxLen + 2 ≤ K) (x0 : y35.T) (h : Bd by_ y35 x0) (l : Int) (h0 : 0 ≤ l) (h1 : l ≤ 1048576) : SzOk (wt y35 x0) l (g36 K x0 l) := by
  have h : _ ∧ _ ∧ _ := h
  rw [g36.eq]
  exact sz_fn (L := fun k l v => L36_5 K k x0 l v) (G := fun y l => g64 K y l) (z := y145.zero) hK (fun k l v => L36_5.step K k x0 l v) (le_by h.1 (by rw [by121]; decide)) h.2.1 (fun y hy l => s64 hK y (h.2.2 y hy) l) h0 h1
theorem s8 {K : Nat} (hK : maxLen + 2 ≤ K) (x0 : y22.T) (h : Bd by_ y22 x0) (l : Int) (h0 : 0 ≤ l) (h1 : l ≤ 1048576) : SzOk (wt y22 x0) l (g8 K x0 l) := by
  have h : _ ∧ _ ∧ _ := h
  rw [g8.eq]
  exact (sz_sub2 (F := fun y => some y) h0 h1 (le_by h.1 (by rw [by65]; decide)) (fun m h2 h3 => sz_done h2)).mono (Nat.le_of_eq (congrArg (List.length x0 + ·) (sum_zero (f := fun x => wt y65 x) (fun _ => rfl))))
theorem s13 {K : Nat} (hK : maxLen + 2 ≤ K) (x0 : y36.T) (h : Bd by_ y36 x0) (l : Int) (h0 : 0 ≤ l) (h1 : l ≤ 1048576) : SzOk (wt y36 x0) l (g13 K x0 l) := by
  rw [g13.eq]
  exact (sz_bind (F := fun y => (g34 K x0.2.2.1 y).bind fun z => br (decide (z < 0)) (some (-1)) ((fun y => (g35 K x0.2.2.2.1 y).bind fun z => br (decide (z < 0)) (some (-1)) ((fun y => (g36 K x0.2.2.2.2.1 y).bind fun z => br (decide (z < 0)) (some (-1)) ((fun y => (g8 K x0.2.2.2.2.2.1 y).bind fun z => br (decide (z < 0)) (some (-1)) ((fun y => some y) z)) z)) z)) z)) h1 (s33 hK x0.2.1 h.2.1 l h0 h1) (fun m h2 h3 => sz_bind (F := fun y => (g35 K x0.2.2.2.1 y).bind fun z => br (decide (z < 0)) (some (-1)) ((fun y => (g36 K x0.2.2.2.2.1 y).bind fun z => br (decide (z < 0)) (some (-1)) ((fun y => (g8 K x0.2.2.2.2.2.1 y).bind fun z => br (decide (z < 0)) (some (-1)) ((fun y => some y) z)) z)) z)) (by omega) (s34 hK x0.2.2.1 h.2.2.1 m h2 (by omega)) (fun m h2 h3 => sz_bind (F := fun y => (g36 K x0.2.2.2.2.1 y).bind fun z => br (decide (z < 0)) (some (-1)) ((fun y => (g8 K x0.2.2.2.2.2.1 y).bind fun z => br (decide (z < 0)) (some (-1)) ((fun y => some y) z)) z)) (by omega) (s35 hK x0.2.2.2.1 h.2.2.2.1 m h2 (by omega)) (fun m h2 h3 => sz_bind (F := fun y => (g8 K x0.2.2.2.2.2.1 y).bind fun z => br (decide (z < 0)) (some (-1)) ((fun y => some y) z)) (by omega) (s36 hK x0.2.2.2.2.1 h.2.2.2.2.1 m h2 (by omega)) (fun m h2 h3 => sz_bind (F := fun y => some y) (by omega) (s8 hK x0.2.2.2.2.2.1 h.2.2.2.2.2.1 m h2 (by omega)) (fun m h2 h3 => sz_done h2)))))).mono (by simp only [wt]; omega)
theorem t91 {K : Nat} (hK : maxLen + 2 ≤ K) (x0 : y99.T) (h : Bd by_ y99 x0) : g91 K x0 = some x0 := by
  have h : _ ∧ _ ∧ _ := h
  rw [g91.eq]
  exact to_fn (L := fun k v o => L91_3 K k x0 v o) (G := fun y => some y) (z := 0) hK (fun k v o => L91_3.step K k x0 v o) (by have := h.1; rw [by5] at this; exact this) h.2.1 (fun _ _ => rfl)
theorem t65 {K : Nat} (hK : maxLen + 2 ≤ K) (x0 : y29.T) (h : Bd by_ y29 x0) : g65 K x0 = some x0 := by
  have h : _ ∧ _ ∧ _ := h
  rw [g65.eq]
  exact to_fn (L := fun k v o => L65_3 K k x0 v o) (G := fun y => g91 K y) (z := ([])) hK (fun k v o => L65_3.step K k x0 v o) (by have := h.1; rw [by99] at this; exact this) h.2.1 (fun y hy => t91 hK y (h.2.2 y hy))
theorem t92 {K : Nat} (hK : maxLen + 2 ≤ K) (x0 : y145.T) (h : Bd by_ y145 x0) : g92 K x0 = some x0 := by
  simp only [g92.eq, t91 hK _ h.2.1, Option.bind_some]
theorem t66 {K : Nat} (hK : maxLen + 2 ≤ K) (x0 : y30.T) (h : Bd by_ y30 x0) : g66 K x0 = some x0 := by
  have h : _ ∧ _ ∧ _ := h
  rw [g66.eq]
  exact to_fn (L := fun k v o => L66_3 K k x0 v o) (G := fun y => g92 K y) (z := y145.zero) hK (fun k v o => L66_3.step K k x0 v o) (by have := h.1; rw [by145] at this; exact this) h.2.1 (fun y hy => t92 hK y (h.2.2 y hy))
theorem t39 {K : Nat} (hK : maxLen + 2 ≤ K) (x0 : y31.T) (h : Bd by_ y31 x0) : g39 K x0 = some x0 := by
  simp only [g39.eq, t65 hK _ h.1, t66 hK _ h.2.1, Option.bind_some]
theorem t67 {K : Nat} (hK : maxLen + 2 ≤ K) (x0 : y111.T) (h : Bd by_ y111 x0) : g67 K x0 = some x0 := by
  simp only [g67.eq, t91 hK _ h.2.2.2.2.1, t91 hK _ h.2.2.2.2.2.1, Option.bind_some]
theorem t40 {K : Nat} (hK : maxLen + 2 ≤ K) (x0 : y33.T) (h : Bd by_ y33 x0) : g40 K x0 = some x0 := by
  have h : _ ∧ _ ∧ _ := h
  rw [g40.eq]
  exact to_fn (L := fun k v o => L40_3 K k x0 v o) (G := fun y => g67 K y) (z := y111.zero) hK (fun k v o => L40_3.step K k x0 v o) (by have := h.1; rw [by111] at this; exact this) h.2.1 (fun y hy => t67 hK y (h.2.2 y hy))
theorem t110 {K : Nat} (hK : maxLen + 2 ≤ K) (x0 : y168.T) (h : Bd by_ y168 x0) : g110 K x0 = some x0 := by
  exact g110.eq K x0
theorem t93 {K : Nat} (hK : maxLen + 2 ≤ K) (x0 : y113.T) (h : Bd by_ y113 x0) : g93 K x0 = some x0 := by
  have h : _ ∧ _ ∧ _ := h
  rw [g93.eq]
  exact to_fn (L := fun k v o => L93_3 K k x0 v o) (G := fun y => g110 K y) (z := y168.zero) hK (fun k v o => L93_3.step K k x0 v o) (by have := h.1; rw [by168] at this; exact this) h.2.1 (fun y hy => t110 hK y (h.2.2 y hy))
theorem t111 {K : Nat} (hK : maxLen + 2 ≤ K) (x0 : y170.T) (h : Bd by_ y170 x0) : g111 K x0 = some x0 := by
  exact g111.eq K x0
theorem t94 {K : Nat} (hK : maxLen + 2 ≤ K) (x0 : y114.T) (h : Bd by_ y114 x0) : g94 K x0 = some x0 := by
  have h : _ ∧ _ ∧ _ := h
  rw [g94.eq]
  exact to_fn (L := fun k v o => L94_3 K k x0 v o) (G := fun y => g111 K y) (z := y170.zero) hK (fun k v o => L94_3.step K k x0 v o) (by have := h.1; rw [by170] at this; exact this) h.2.1 (fun y hy => t111 hK y (h.2.2 y hy))
theorem t112 {K : Nat} (hK : maxLen + 2 ≤ K) (x0 : y172.T) (h : Bd by_ y172 x0) : g112 K x0 = some x0 := by
  exact g112.eq K x0
theorem t95 {K : Nat} (hK : maxLen + 2 ≤ K) (x0 : y115.T) (h : Bd by_ y115 x0) : g95 K x0 = some x0 := by
  have h : _ ∧ _ ∧ _ := h
  rw [g95.eq]
  exact to_fn (L := fun k v o => L95_3 K k x0 v o) (G := fun y => g112 K y) (z := y172.zero) hK (fun k v o => L95_3.step K k x0 v o) (by have := h.1; rw [by172] at this; exact this) h.2.1 (fun y hy => t112 hK y (h.2.2 y hy))
theorem t96 {K : Nat} (hK : maxLen + 2 ≤ K) (x0 : y116.T) (h : Bd by_ y116 x0) : g96 K x0 = some x0 := by
  exact g96.eq K x0
theorem t68 {K : Nat} (hK : maxLen + 2 ≤ K) (x0 : y118.T) (h : Bd by_ y118 x0) : g68 K x0 = some x0 := by
  simp only [g68.eq, t93 hK _ h.2.2.2.1, t94 hK _ h.2.2.2.2.2.1, t95 hK _ h.2.2.2.2.2.2.1, t96 hK _ h.2.2.2.2.2.2.2.2.1, Option.bind_some]
theorem t41 {K : Nat} (hK : maxLen + 2 ≤ K) (x0 : y34.T) (h : Bd by_ y34 x0) : g41 K x0 = some x0 := by
  have h : _ ∧ _ ∧ _ := h
  rw [g41.eq]
  exact to_fn (L := fun k v o => L41_3 K k x0 v o) (G := fun y => g68 K y) (z := y118.zero) hK (fun k v o => L41_3.step K k x0 v o) (by have := h.1; rw [by118] at this; exact this) h.2.1 (fun y hy => t68 hK y (h.2.2 y hy))
theorem t69 {K : Nat} (hK : maxLen + 2 ≤ K) (x0 : y145.T) (h : Bd by_ y145 x0) : g69 K x0 = some x0 := by
  simp only [g69.eq, t91 hK _ h.2.1, Option.bind_some]
theorem t42 {K : Nat} (hK : maxLen + 2 ≤ K) (x0 : y35.T) (h : Bd by_ y35 x0) : g42 K x0 = some x0 := by
  have h : _ ∧ _ ∧ _ := h
  rw [g42.eq]
  exact to_fn (L := fun k v o => L42_3 K k x0 v o) (G := fun y => g69 K y) (z := y145.zero) hK (fun k v o => L42_3.step K k x0 v o) (by have := h.1; rw [by121] at this; exact this) h.2.1 (fun y hy => t69 hK y (h.2.2 y hy))
theorem t31 {K : Nat} (hK : maxLen + 2 ≤ K) (x0 : y65.T) (h : Bd by_ y65 x0) : g31 K x0 = some x0 := by
  exact g31.eq K x0
theorem t10 {K : Nat} (hK : maxLen + 2 ≤ K) (x0 : y22.T) (h : Bd by_ y22 x0) : g10 K x0 = some x0 := by
  have h : _ ∧ _ ∧ _ := h
  rw [g10.eq]
  exact to_fn (L := fun k v o => L10_3 K k x0 v o) (G := fun y => g31 K y) (z := y65.zero) hK (fun k v o => L10_3.step K k x0 v o) (by have := h.1; rw [by65] at this; exact this) h.2.1 (fun y hy => t31 hK y (h.2.2 y hy))
theorem t15 {K : Nat} (hK : maxLen + 2 ≤ K) (x0 : y36.T) (h : Bd by_ y36 x0) : g15 K x0 = some x0 := by
  simp only [g15.eq, t39 hK _ h.2.1, t40 hK _ h.2.2.1, t41 hK _ h.2.2.2.1, t42 hK _ h.2.2.2.2.1, t10 hK _ h.2.2.2.2.2.1, Option.bind_some]
theorem q99 {K : Nat} (hK : maxLen + 2 ≤ K) (x0 : y99.T) (h : Bd by_ y99 x0) : g99 K x0 x0 = some true := by
  have h : _ ∧ _ ∧ _ := h
  rw [g99.eq]
  exact eq_fn (L := fun k v => L99_4 K k x0 x0 v) (G := fun a b => some (a == b)) (z := 0) hK (fun k v => L99_4.step K k x0 x0 v) h.2.1 (fun y _ => by simp)
theorem q71 {K : Nat} (hK : maxLen + 2 ≤ K) (x0 : y29.T) (h : Bd by_ y29 x0) : g71 K x0 x0 = some true := by
  have h : _ ∧ _ ∧ _ := h
  rw [g71.eq]
  exact eq_fn (L := fun k v => L71_4 K k x0 x0 v) (G := fun a b => g99 K a b) (z := ([])) hK (fun k v => L71_4.step K k x0 x0 v) h.2.1 (fun y hy => q99 hK y (h.2.2 y hy))
theorem q100 {K : Nat} (hK : maxLen + 2 ≤ K) (x0 : y145.T) (h : Bd by_ y145 x0) : g100 K x0 x0 = some true := by
  simp only [g100.eq, q99 hK _ h.2.1, Option.bind_some, ne_self, strEq_self, bne_self_bool, Bool.not_true, br_t, br_f]
theorem q72 {K : Nat} (hK : maxLen + 2 ≤ K) (x0 : y40.T) (h : Bd by_ y40 x0) : g72 K x0 x0 = some true := by
  have h : _ ∧ _ ∧ _ := h
  rw [g72.eq]
  exact eq_fn (L := fun k v => L72_4 K k x0 x0 v) (G := fun a b => g100 K a b) (z := y145.zero) hK (fun k v => L72_4.step K k x0 x0 v) h.2.1 (fun y hy => q100 hK y (h.2.2 y hy))
theorem q45 {K : Nat} (hK : maxLen + 2 ≤ K) (x0 : y41.T) (h : Bd by_ y41 x0) : g45 K x0 x0 = some true := by
  simp only [g45.eq, q71 hK _ h.1, q72 hK _ h.2.1, Option.bind_some, ne_self, strEq_self, bne_self_bool, Bool.not_true, br_t, br_f]
theorem q73 {K : Nat} (hK : maxLen + 2 ≤ K) (x0 : y111.T) (h : Bd by_ y111 x0) : g73 K x0 x0 = some true := by
  simp only [g73.eq, q99 hK _ h.2.2.2.2.1, q99 hK _ h.2.2.2.2.2.1, Option.bind_some, ne_self, strEq_self, bne_self_bool, Bool.not_true, br_t, br_f]
theorem q46 {K : Nat} (hK : maxLen + 2 ≤ K) (x0 : y43.T) (h : Bd by_ y43 x0) : g46 K x0 x0 = some true := by
  have h : _ ∧ _ ∧ _ := h
  rw [g46.eq]
  exact eq_fn (L := fun k v => L46_4 K k x0 x0 v) (G := fun a b => g73 K a b) (z := y111.zero) hK (fun k v => L46_4.step K k x0 x0 v) h.2.1 (fun y hy => q73 hK y (h.2.2 y hy))
theorem q113 {K : Nat} (hK : maxLen + 2 ≤ K) (x0 : y168.T) (h : Bd by_ y168 x0) : g113 K x0 x0 = some true := by
  simp only [g113.eq, Option.bind_some, ne_self, strEq_self, bne_self_bool, Bool.not_true, br_t, br_f]
theorem q101 {K : Nat} (hK : maxLen + 2 ≤ K) (x0 : y73.T) (h : Bd by_ y73 x0) : g101 K x0 x0 = some true := by
  have h : _ ∧ _ ∧ _ := h
  rw [g101.eq]
  exact eq_fn (L := fun k v => L101_4 K k x0 x0 v) (G := fun a b => g113 K a b) (z := y168.zero) hK (fun k v => L101_4.step K k x0 x0 v) h.2.1 (fun y hy => q113 hK y (h.2.2 y hy))
theorem q114 {K : Nat} (hK : maxLen + 2 ≤ K) (x0 : y170.T) (h : Bd by_ y170 x0) : g114 K x0 x0 = some true := by
  simp only [g114.eq, Option.bind_some, ne_self, strEq_self, bne_self_bool, Bool.not_true, br_t, br_f]
theorem q102 {K : Nat} (hK : maxLen + 2 ≤ K) (x0 : y74.T) (h : Bd by_ y74 x0) : g102 K x0 x0 = some true := by
  have h : _ ∧ _ ∧ _ := h
  rw [g102.eq]
  exact eq_fn (L := fun k v => L102_4 K k x0 x0 v) (G := fun a b => g114 K a b) (z := y170.zero) hK (fun k v => L102_4.step K k x0 x0 v) h.2.1 (fun y hy => q114 hK y (h.2.2 y hy))
theorem q115 {K : Nat} (hK : maxLen + 2 ≤ K) (x0 : y172.T) (h : Bd by_ y172 x0) : g115 K x0 x0 = some true := by
  simp only [g115.eq, Option.bind_some, ne_self, strEq_self, bne_self_bool, Bool.not_true, br_t, br_f]
theorem q103 {K : Nat} (hK : maxLen + 2 ≤ K) (x0 : y75.T) (h : Bd by_ y75 x0) : g103 K x0 x0 = some true := by
  have h : _ ∧ _ ∧ _ := h
  rw [g103.eq]
  exact eq_fn (L := fun k v => L103_4 K k x0 x0 v) (G := fun a b => g115 K a b) (z := y172.zero) hK (fun k v => L103_4.step K k x0 x0 v) h.2.1 (fun y hy => q115 hK y (h.2.2 y hy))
theorem q104 {K : Nat} (hK : maxLen + 2 ≤ K) (x0 : y116.T) (h : Bd by_ y116 x0) : g104 K x0 x0 = some true := by
  simp only [g104.eq, Option.bind_some, ne_self, strEq_self, bne_self_bool, Bool.not_true, br_t, br_f]
theorem q74 {K : Nat} (hK : maxLen + 2 ≤ K) (x0 : y79.T) (h : Bd by_ y79 x0) : g74 K x0 x0 = some true := by
  simp only [g74.eq, q101 hK _ h.2.2.2.1, q102 hK _ h.2.2.2.2.2.1, q103 hK _ h.2.2.2.2.2.2.1, q104 hK _ h.2.2.2.2.2.2.2.2.1, Option.bind_some, ne_self, strEq_self, bne_self_bool, Bool.not_true, br_t, br_f]
theorem q47 {K : Nat} (hK : maxLen + 2 ≤ K) (x0 : y44.T) (h : Bd by_ y44 x0) : g47 K x0 x0 = some true := by
  have h : _ ∧ _ ∧ _ := h
  rw [g47.eq]
  exact eq_fn (L := fun k v => L47_4 K k x0 x0 v) (G := fun a b => g74 K a b) (z := y79.zero) hK (fun k v => L47_4.step K k x0 x0 v) h.2.1 (fun y hy => q74 hK y (h.2.2 y hy))
theorem q75 {K : Nat} (hK : maxLen + 2 ≤ K) (x0 : y145.T) (h : Bd by_ y145 x0) : g75 K x0 x0 = some true := by
  simp only [g75.eq, q99 hK _ h.2.1, Option.bind_some, ne_self, strEq_self, bne_self_bool, Bool.not_true, br_t, br_f]
theorem q48 {K : Nat} (hK : maxLen + 2 ≤ K) (x0 : y45.T) (h : Bd by_ y45 x0) : g48 K x0 x0 = some true := by
  have h : _ ∧ _ ∧ _ := h
  rw [g48.eq]
  exact eq_fn (L := fun k v => L48_4 K k x0 x0 v) (G := fun a b => g75 K a b) (z := y145.zero) hK (fun k v => L48_4.step K k x0 x0 v) h.2.1 (fun y hy => q75 hK y (h.2.2 y hy))
theorem q32 {K : Nat} (hK : maxLen + 2 ≤ K) (x0 : y65.T) (h : Bd by_ y65 x0) : g32 K x0 x0 = some true := by
  simp only [g32.eq, Option.bind_some, ne_self, strEq_self, bne_self_bool, Bool.not_true, br_t, br_f]
theorem q12 {K : Nat} (hK : maxLen + 2 ≤ K) (x0 : y25.T) (h : Bd by_ y25 x0) : g12 K x0 x0 = some true := by
  have h : _ ∧ _ ∧ _ := h
  rw [g12.eq]
  exact eq_fn (L := fun k v => L12_4 K k x0 x0 v) (G := fun a b => g32 K a b) (z := y65.zero) hK (fun k v => L12_4.step K k x0 x0 v) h.2.1 (fun y hy => q32 hK y (h.2.2 y hy))
theorem q17 {K : Nat} (hK : maxLen + 2 ≤ K) (x0 : y46.T) (h : Bd by_ y46 x0) : g17 K x0 x0 = some true := by
  simp only [g17.eq, q45 hK _ h.2.1, q46 hK _ h.2.2.1, q47 hK _ h.2.2.2.1, q48 hK _ h.2.2.2.2.1, q12 hK _ h.2.2.2.2.2.1, Option.bind_some, ne_self, strEq_self, bne_self_bool, Bool.not_true, br_t, br_f]
theorem q58 {K : Nat} (hK : maxLen + 2 ≤ K) (x0 : y106.T) (h : Bd by_ y106 x0) : g58 K x0 x0 = some true := by
  simp only [g58.eq, Option.bind_some, ne_self, strEq_self, bne_self_bool, Bool.not_true, br_t, br_f]
theorem q28 {K : Nat} (hK : maxLen + 2 ≤ K) (x0 : y57.T) (h : Bd by_ y57 x0) : g28 K x0 x0 = some true := by
  have h : _ ∧ _ ∧ _ := h
  rw [g28.eq]
  exact eq_fn (L := fun k v => L28_4 K k x0 x0 v) (G := fun a b => g58 K a b) (z := y106.zero) hK (fun k v => L28_4.step K k x0 x0 v) h.2.1 (fun y hy => q58 hK y (h.2.2 y hy))
theorem m59_loop {K : Nat} : ∀ (n k : Nat) (v : Int) (s : ByteArray), 0 ≤ v → v ≤ 4611686018427387904 → v < 10 ^ n → n < k → s.size + n ≤ 100 → ∃ r, L59_4 K k v s = some r
  | 0, k + 1, v, s, h0, _, h1, _, h3 => by
    have : v = 0 := by simp at h1; omega
    subst this
    have e2 : (⟨#[109]⟩ : ByteArray).size = 1 := rfl
    rw [L59_4.step, br_false (by decide), br_true (decide_eq_true (by rw [e2]; omega))]
    exact ⟨_, rfl⟩
  | n + 1, k + 1, v, s, h0, hb, h1, hk, h3 => by
    by_cases hv : v > 0
    · have e1 : v.tdiv 10 = v / 10 := Int.tdiv_eq_ediv_of_nonneg h0
      have hlt : v / 10 < 10 ^ n := by
        have : (10 : Int) ^ (n + 1) = 10 ^ n * 10 := by rw [Int.pow_succ]
        omega
      have e2 : ∀ x : Int, (strOf [x]).size = 1 := fun x => rfl
      rw [L59_4.step, br_true (by simpa using hv), br_false (by decide), br_true (decide_eq_true (by rw [e2]; omega)), br_false (by decide), e1, wrap_id (by omega) (by omega)]
      exact m59_loop n k (v / 10) _ (by omega) (by omega) hlt (by omega) (by rw [ByteArray.size_append, e2]; omega)
    · have : v = 0 := by omega
      subst this
      have e2 : (⟨#[109]⟩ : ByteArray).size = 1 := rfl
      rw [L59_4.step, br_false (by decide), br_true (decide_eq_true (by rw [e2]; omega))]
      exact ⟨_, rfl⟩
  | _, 0, _, _, _, _, _, h, _ => absurd h (Nat.not_lt_zero _)
theorem m59 {K : Nat} (hK : maxLen + 2 ≤ K) (k : Int) (h1 : 1 ≤ k) (h2 : k ≤ 4611686018427387904) : ∃ s, g59 K k = some s := by
  rw [g59.eq, br_false (by simp; omega)]
  have hm : maxLen = 2 ^ 63 - 1 := rfl
  exact m59_loop 20 K k _ (by omega) (by omega) (by omega) (by omega) (show 0 + 20 ≤ 100 by omega)

theorem m78 {K : Nat} (hK : maxLen + 2 ≤ K) (x0 : y99.T) (h : Bd by_ y99 x0) (l : Int) (h0 : 1 ≤ l) (h1 : l + 16 * (wt y99 x0 : Int) ≤ 4611686018427387904) : MkOk (wt y99 x0) l (g78 K x0 l) := by
  have h : _ ∧ _ ∧ _ := h
  rw [g78.eq]
  refine mk_fn (L := fun k l v => L78_2 K k x0 l v) (wf := fun y => wt y5 y) hK h.2.1 ?_ (fun k l => ?_) h0 h1
  · intro k v l hv h2 h3
    have hm := maxLen_lt; have hl := h.2.1; have hb := h.2.2 _ (List.getElem_mem hv)
    have hin : (decide (0 ≤ (v : Int)) && decide ((v : Int) < (List.length x0 : Int))) = true := in_true (by omega) (by omega)
    show ∃ m : Int, _ ∧ _ ∧ L78_2 K (k + 1) x0 l (v : Int) = L78_2 K k x0 m ((v : Int) + 1)
    have hlt : (v : Int) < ((List.length x0 : Nat) : Int) := by omega
    rw [L78_2.step, br_true (by simpa using hlt)]
    simp only [hin, br_t]
    have e0 : decide ((3 : Nat) = 0) = false := rfl
    try simp (disch := omega) only [wrap_id]
    exact ⟨_, by omega, by omega, rfl⟩
  · show L78_2 K (k + 1) x0 l _ = _
    rw [L78_2.step, br_false (by simp)]
theorem m76 {K : Nat} (hK : maxLen + 2 ≤ K) (x0 : y29.T) (h : Bd by_ y29 x0) (l : Int) (h0 : 1 ≤ l) (h1 : l + 16 * (wt y29 x0 : Int) ≤ 4611686018427387904) : MkOk (wt y29 x0) l (g76 K x0 l) := by
  have h : _ ∧ _ ∧ _ := h
  rw [g76.eq]
  refine mk_fn (L := fun k l v => L76_2 K k x0 l v) (wf := fun y => wt y99 y) hK h.2.1 ?_ (fun k l => ?_) h0 h1
  · intro k v l hv h2 h3
    have hm := maxLen_lt; have hl := h.2.1; have hb := h.2.2 _ (List.getElem_mem hv)
    have hin : (decide (0 ≤ (v : Int)) && decide ((v : Int) < (List.length x0 : Int))) = true := in_true (by omega) (by omega)
    show ∃ m : Int, _ ∧ _ ∧ L76_2 K (k + 1) x0 l (v : Int) = L76_2 K k x0 m ((v : Int) + 1)
    have hlt : (v : Int) < ((List.length x0 : Nat) : Int) := by omega
    rw [L76_2.step, br_true (by simpa using hlt)]
    simp only [hin, br_t, getD_at hv]
    have e0 : decide ((3 : Nat) = 0) = false := rfl
    try simp (disch := omega) only [wrap_id]
    obtain ⟨m1, e1, a1, b1⟩ := m78 hK x0[v] hb (l) (by omega) (by omega)
    simp only [e1, Option.bind_some, hin, br_t, e0, br_f]
    try simp (disch := omega) only [wrap_id]
    exact ⟨_, by omega, by omega, rfl⟩
  · show L76_2 K (k + 1) x0 l _ = _
    rw [L76_2.step, br_false (by simp)]
theorem m77 {K : Nat} (hK : maxLen + 2 ≤ K) (x0 : y40.T) (h : Bd by_ y40 x0) (l : Int) (h0 : 1 ≤ l) (h1 : l + 16 * (wt y40 x0 : Int) ≤ 4611686018427387904) : MkOk (wt y40 x0) l (g77 K x0 l) := by
  have h : _ ∧ _ ∧ _ := h
  rw [g77.eq]
  refine mk_fn (L := fun k l v => L77_2 K k x0 l v) (wf := fun y => wt y150 y) hK h.2.1 ?_ (fun k l => ?_) h0 h1
  · intro k v l hv h2 h3
    have hm := maxLen_lt; have hl := h.2.1; have hb := h.2.2 _ (List.getElem_mem hv)
    have hin : (decide (0 ≤ (v : Int)) && decide ((v : Int) < (List.length x0 : Int))) = true := in_true (by omega) (by omega)
    show ∃ m : Int, _ ∧ _ ∧ L77_2 K (k + 1) x0 l (v : Int) = L77_2 K k x0 m ((v : Int) + 1)
    have hlt : (v : Int) < ((List.length x0 : Nat) : Int) := by omega
    rw [L77_2.step, br_true (by simpa using hlt)]
    simp only [hin, br_t, getD_at hv]
    have e0 : decide ((3 : Nat) = 0) = false := rfl
    have hw : wt y150 x0[v] = (wt y3 x0[v].1) + (wt y99 x0[v].2.1) := by simp only [wt]; try omega
    try simp (disch := omega) only [wrap_id]
    obtain ⟨m1, e1, a1, b1⟩ := m78 hK x0[v].2.1 hb.2.1 (l + 1) (by omega) (by omega)
    simp only [e1, Option.bind_some, hin, br_t, e0, br_f]
    try simp (disch := omega) only [wrap_id]
    exact ⟨_, by omega, by omega, rfl⟩
  · show L77_2 K (k + 1) x0 l _ = _
    rw [L77_2.step, br_false (by simp)]
theorem m49 {K : Nat} (hK : maxLen + 2 ≤ K) (x0 : y41.T) (h : Bd by_ y41 x0) (l : Int) (h0 : 1 ≤ l) (h1 : l + 16 * (wt y41 x0 : Int) ≤ 4611686018427387904) : MkOk (wt y41 x0) l (g49 K x0 l) := by
  have hw : wt y41 x0 = (wt y29 x0.1) + (wt y40 x0.2.1) + (wt y3 x0.2.2.1) + (wt y4 x0.2.2.2.1) := by simp only [wt]; try omega
  obtain ⟨m0, e0, a0, b0⟩ := m76 hK x0.1 h.1 l (by omega) (by omega)
  obtain ⟨m1, e1, a1, b1⟩ := m77 hK x0.2.1 h.2.1 m0 (by omega) (by omega)
  refine ⟨m1, ?_, by omega, by omega⟩
  simp only [g49.eq, e0, e1, Option.bind_some]
theorem m50 {K : Nat} (hK : maxLen + 2 ≤ K) (x0 : y43.T) (h : Bd by_ y43 x0) (l : Int) (h0 : 1 ≤ l) (h1 : l + 16 * (wt y43 x0 : Int) ≤ 4611686018427387904) : MkOk (wt y43 x0) l (g50 K x0 l) := by
  have h : _ ∧ _ ∧ _ := h
  rw [g50.eq]
  refine mk_fn (L := fun k l v => L50_2 K k x0 l v) (wf := fun y => wt y101 y) hK h.2.1 ?_ (fun k l => ?_) h0 h1
  · intro k v l hv h2 h3
    have hm := maxLen_lt; have hl := h.2.1; have hb := h.2.2 _ (List.getElem_mem hv)
    have hin : (decide (0 ≤ (v : Int)) && decide ((v : Int) < (List.length x0 : Int))) = true := in_true (by omega) (by omega)
    show ∃ m : Int, _ ∧ _ ∧ L50_2 K (k + 1) x0 l (v : Int) = L50_2 K k x0 m ((v : Int) + 1)
    have hlt : (v : Int) < ((List.length x0 : Nat) : Int) := by omega
    rw [L50_2.step, br_true (by simpa using hlt)]
    simp only [hin, br_t, getD_at hv]
    have e0 : decide ((3 : Nat) = 0) = false := rfl
    have hw : wt y101 x0[v] = (wt y3 x0[v].1) + (wt y3 x0[v].2.1) + (wt y3 x0[v].2.2.1) + (wt y4 x0[v].2.2.2.1) + (wt y99 x0[v].2.2.2.2.1) + (wt y99 x0[v].2.2.2.2.2.1) + (wt y3 x0[v].2.2.2.2.2.2.1) + (wt y3 x0[v].2.2.2.2.2.2.2.1) := by simp only [wt]; try omega
    try simp (disch := omega) only [wrap_id]
    obtain ⟨m1, e1, a1, b1⟩ := m78 hK x0[v].2.2.2.2.1 hb.2.2.2.2.1 (l + 1 + 1 + 1 + 1) (by omega) (by omega)
    simp only [e1, Option.bind_some, hin, br_t, e0, br_f]
    try simp (disch := omega) only [wrap_id]
    obtain ⟨m2, e2, a2, b2⟩ := m78 hK x0[v].2.2.2.2.2.1 hb.2.2.2.2.2.1 (m1) (by omega) (by omega)
    simp only [e2, Option.bind_some, hin, br_t, e0, br_f]
    try simp (disch := omega) only [wrap_id]
    exact ⟨_, by omega, by omega, rfl⟩
  · show L50_2 K (k + 1) x0 l _ = _
    rw [L50_2.step, br_false (by simp)]
theorem m79 {K : Nat} (hK : maxLen + 2 ≤ K) (x0 : y73.T) (h : Bd by_ y73 x0) (l : Int) (h0 : 1 ≤ l) (h1 : l + 16 * (wt y73 x0 : Int) ≤ 4611686018427387904) : MkOk (wt y73 x0) l (g79 K x0 l) := by
  have h : _ ∧ _ ∧ _ := h
  rw [g79.eq]
  refine mk_fn (L := fun k l v => L79_2 K k x0 l v) (wf := fun y => wt y83 y) hK h.2.1 ?_ (fun k l => ?_) h0 h1
  · intro k v l hv h2 h3
    have hm := maxLen_lt; have hl := h.2.1; have hb := h.2.2 _ (List.getElem_mem hv)
    have hin : (decide (0 ≤ (v : Int)) && decide ((v : Int) < (List.length x0 : Int))) = true := in_true (by omega) (by omega)
    show ∃ m : Int, _ ∧ _ ∧ L79_2 K (k + 1) x0 l (v : Int) = L79_2 K k x0 m ((v : Int) + 1)
    have hlt : (v : Int) < ((List.length x0 : Nat) : Int) := by omega
    rw [L79_2.step, br_true (by simpa using hlt)]
    simp only [hin, br_t]
    have e0 : decide ((3 : Nat) = 0) = false := rfl
    try simp (disch := omega) only [wrap_id]
    obtain ⟨s1, e1⟩ := m59 hK (l) (by omega) (by omega)
    simp only [e1, Option.bind_some, hin, br_t, e0, br_f]
    try simp (disch := omega) only [wrap_id]
    exact ⟨_, by omega, by omega, rfl⟩
  · show L79_2 K (k + 1) x0 l _ = _
    rw [L79_2.step, br_false (by simp)]
theorem m80 {K : Nat} (hK : maxLen + 2 ≤ K) (x0 : y74.T) (h : Bd by_ y74 x0) (l : Int) (h0 : 1 ≤ l) (h1 : l + 16 * (wt y74 x0 : Int) ≤ 4611686018427387904) : MkOk (wt y74 x0) l (g80 K x0 l) := by
  have h : _ ∧ _ ∧ _ := h
  rw [g80.eq]
  refine mk_fn (L := fun k l v => L80_2 K k x0 l v) (wf := fun y => wt y81 y) hK h.2.1 ?_ (fun k l => ?_) h0 h1
  · intro k v l hv h2 h3
    have hm := maxLen_lt; have hl := h.2.1; have hb := h.2.2 _ (List.getElem_mem hv)
    have hin : (decide (0 ≤ (v : Int)) && decide ((v : Int) < (List.length x0 : Int))) = true := in_true (by omega) (by omega)
    show ∃ m : Int, _ ∧ _ ∧ L80_2 K (k + 1) x0 l (v : Int) = L80_2 K k x0 m ((v : Int) + 1)
    have hlt : (v : Int) < ((List.length x0 : Nat) : Int) := by omega
    rw [L80_2.step, br_true (by simpa using hlt)]
    simp only [hin, br_t]
    have e0 : decide ((3 : Nat) = 0) = false := rfl
    try simp (disch := omega) only [wrap_id]
    obtain ⟨s1, e1⟩ := m59 hK (l + 1) (by omega) (by omega)
    simp only [e1, Option.bind_some, hin, br_t, e0, br_f]
    try simp (disch := omega) only [wrap_id]
    obtain ⟨s2, e2⟩ := m59 hK (l + 1 + 1 + 1 + 1 + 1) (by omega) (by omega)
    simp only [e2, Option.bind_some, hin, br_t, e0, br_f]
    try simp (disch := omega) only [wrap_id]
    exact ⟨_, by omega, by omega, rfl⟩
  · show L80_2 K (k + 1) x0 l _ = _
    rw [L80_2.step, br_false (by simp)]
theorem m81 {K : Nat} (hK : maxLen + 2 ≤ K) (x0 : y75.T) (h : Bd by_ y75 x0) (l : Int) (h0 : 1 ≤ l) (h1 : l + 16 * (wt y75 x0 : Int) ≤ 4611686018427387904) : MkOk (wt y75 x0) l (g81 K x0 l) := by
  have h : _ ∧ _ ∧ _ := h
  rw [g81.eq]
  refine mk_fn (L := fun k l v => L81_2 K k x0 l v) (wf := fun y => wt y165 y) hK h.2.1 ?_ (fun k l => ?_) h0 h1
  · intro k v l hv h2 h3
    have hm := maxLen_lt; have hl := h.2.1; have hb := h.2.2 _ (List.getElem_mem hv)
    have hin : (decide (0 ≤ (v : Int)) && decide ((v : Int) < (List.length x0 : Int))) = true := in_true (by omega) (by omega)
    show ∃ m : Int, _ ∧ _ ∧ L81_2 K (k + 1) x0 l (v : Int) = L81_2 K k x0 m ((v : Int) + 1)
    have hlt : (v : Int) < ((List.length x0 : Nat) : Int) := by omega
    rw [L81_2.step, br_true (by simpa using hlt)]
    simp only [hin, br_t]
    have e0 : decide ((3 : Nat) = 0) = false := rfl
    try simp (disch := omega) only [wrap_id]
    obtain ⟨s1, e1⟩ := m59 hK (l + 1) (by omega) (by omega)
    simp only [e1, Option.bind_some, hin, br_t, e0, br_f]
    try simp (disch := omega) only [wrap_id]
    exact ⟨_, by omega, by omega, rfl⟩
  · show L81_2 K (k + 1) x0 l _ = _
    rw [L81_2.step, br_false (by simp)]
theorem m51 {K : Nat} (hK : maxLen + 2 ≤ K) (x0 : y44.T) (h : Bd by_ y44 x0) (l : Int) (h0 : 1 ≤ l) (h1 : l + 16 * (wt y44 x0 : Int) ≤ 4611686018427387904) : MkOk (wt y44 x0) l (g51 K x0 l) := by
  have h : _ ∧ _ ∧ _ := h
  rw [g51.eq]
  refine mk_fn (L := fun k l v => L51_2 K k x0 l v) (wf := fun y => wt y79 y) hK h.2.1 ?_ (fun k l => ?_) h0 h1
  · intro k v l hv h2 h3
    have hm := maxLen_lt; have hl := h.2.1; have hb := h.2.2 _ (List.getElem_mem hv)
    have hin : (decide (0 ≤ (v : Int)) && decide ((v : Int) < (List.length x0 : Int))) = true := in_true (by omega) (by omega)
    show ∃ m : Int, _ ∧ _ ∧ L51_2 K (k + 1) x0 l (v : Int) = L51_2 K k x0 m ((v : Int) + 1)
    have hlt : (v : Int) < ((List.length x0 : Nat) : Int) := by omega
    rw [L51_2.step, br_true (by simpa using hlt)]
    simp only [hin, br_t, getD_at hv]
    have e0 : decide ((3 : Nat) = 0) = false := rfl
    have hw : wt y79 x0[v] = (wt y3 x0[v].1) + (wt y3 x0[v].2.1) + (wt y3 x0[v].2.2.1) + (wt y73 x0[v].2.2.2.1) + (wt y4 x0[v].2.2.2.2.1) + (wt y74 x0[v].2.2.2.2.2.1) + (wt y75 x0[v].2.2.2.2.2.2.1) + (wt y3 x0[v].2.2.2.2.2.2.2.1) + (wt y77 x0[v].2.2.2.2.2.2.2.2.1) := by simp only [wt]; try omega
    try simp (disch := omega) only [wrap_id]
    obtain ⟨m1, e1, a1, b1⟩ := m79 hK x0[v].2.2.2.1 hb.2.2.2.1 (l + 1 + 1 + 1) (by omega) (by omega)
    simp only [e1, Option.bind_some, hin, br_t, e0, br_f]
    try simp (disch := omega) only [wrap_id]
    obtain ⟨m2, e2, a2, b2⟩ := m80 hK x0[v].2.2.2.2.2.1 hb.2.2.2.2.2.1 (m1 + 1) (by omega) (by omega)
    simp only [e2, Option.bind_some, hin, br_t, e0, br_f]
    try simp (disch := omega) only [wrap_id]
    obtain ⟨m3, e3, a3, b3⟩ := m81 hK x0[v].2.2.2.2.2.2.1 hb.2.2.2.2.2.2.1 (m2) (by omega) (by omega)
    simp only [e3, Option.bind_some, hin, br_t, e0, br_f]
    try simp (disch := omega) only [wrap_id]
    exact ⟨_, by omega, by omega, rfl⟩
  · show L51_2 K (k + 1) x0 l _ = _
    rw [L51_2.step, br_false (by simp)]
theorem m52 {K : Nat} (hK : maxLen + 2 ≤ K) (x0 : y45.T) (h : Bd by_ y45 x0) (l : Int) (h0 : 1 ≤ l) (h1 : l + 16 * (wt y45 x0 : Int) ≤ 4611686018427387904) : MkOk (wt y45 x0) l (g52 K x0 l) := by
  have h : _ ∧ _ ∧ _ := h
  rw [g52.eq]
  refine mk_fn (L := fun k l v => L52_2 K k x0 l v) (wf := fun y => wt y126 y) hK h.2.1 ?_ (fun k l => ?_) h0 h1
  · intro k v l hv h2 h3
    have hm := maxLen_lt; have hl := h.2.1; have hb := h.2.2 _ (List.getElem_mem hv)
    have hin : (decide (0 ≤ (v : Int)) && decide ((v : Int) < (List.length x0 : Int))) = true := in_true (by omega) (by omega)
    show ∃ m : Int, _ ∧ _ ∧ L52_2 K (k + 1) x0 l (v : Int) = L52_2 K k x0 m ((v : Int) + 1)
    have hlt : (v : Int) < ((List.length x0 : Nat) : Int) := by omega
    rw [L52_2.step, br_true (by simpa using hlt)]
    simp only [hin, br_t, getD_at hv]
    have e0 : decide ((3 : Nat) = 0) = false := rfl
    have hw : wt y126 x0[v] = (wt y3 x0[v].1) + (wt y99 x0[v].2.1) := by simp only [wt]; try omega
    try simp (disch := omega) only [wrap_id]
    obtain ⟨m1, e1, a1, b1⟩ := m78 hK x0[v].2.1 hb.2.1 (l + 1) (by omega) (by omega)
    simp only [e1, Option.bind_some, hin, br_t, e0, br_f]
    try simp (disch := omega) only [wrap_id]
    exact ⟨_, by omega, by omega, rfl⟩
  · show L52_2 K (k + 1) x0 l _ = _
    rw [L52_2.step, br_false (by simp)]
theorem m53 {K : Nat} (hK : maxLen + 2 ≤ K) (x0 : y25.T) (h : Bd by_ y25 x0) (l : Int) (h0 : 1 ≤ l) (h1 : l + 16 * (wt y25 x0 : Int) ≤ 4611686018427387904) : MkOk (wt y25 x0) l (g53 K x0 l) := by
  have h : _ ∧ _ ∧ _ := h
  rw [g53.eq]
  refine mk_fn (L := fun k l v => L53_2 K k x0 l v) (wf := fun y => wt y63 y) hK h.2.1 ?_ (fun k l => ?_) h0 h1
  · intro k v l hv h2 h3
    have hm := maxLen_lt; have hl := h.2.1; have hb := h.2.2 _ (List.getElem_mem hv)
    have hin : (decide (0 ≤ (v : Int)) && decide ((v : Int) < (List.length x0 : Int))) = true := in_true (by omega) (by omega)
    show ∃ m : Int, _ ∧ _ ∧ L53_2 K (k + 1) x0 l (v : Int) = L53_2 K k x0 m ((v : Int) + 1)
    have hlt : (v : Int) < ((List.length x0 : Nat) : Int) := by omega
    rw [L53_2.step, br_true (by simpa using hlt)]
    simp only [hin, br_t]
    have e0 : decide ((3 : Nat) = 0) = false := rfl
    try simp (disch := omega) only [wrap_id]
    exact ⟨_, by omega, by omega, rfl⟩
  · show L53_2 K (k + 1) x0 l _ = _
    rw [L53_2.step, br_false (by simp)]
theorem m21 {K : Nat} (hK : maxLen + 2 ≤ K) (x0 : y46.T) (h : Bd by_ y46 x0) (l : Int) (h0 : 1 ≤ l) (h1 : l + 16 * (wt y46 x0 : Int) ≤ 4611686018427387904) : MkOk (wt y46 x0) l (g21 K x0 l) := by
  have hw : wt y46 x0 = (wt y3 x0.1) + (wt y41 x0.2.1) + (wt y43 x0.2.2.1) + (wt y44 x0.2.2.2.1) + (wt y45 x0.2.2.2.2.1) + (wt y25 x0.2.2.2.2.2.1) + (wt y3 x0.2.2.2.2.2.2.1) + (wt y3 x0.2.2.2.2.2.2.2.1) := by simp only [wt]; try omega
  obtain ⟨m0, e0, a0, b0⟩ := m49 hK x0.2.1 h.2.1 l (by omega) (by omega)
  obtain ⟨m1, e1, a1, b1⟩ := m50 hK x0.2.2.1 h.2.2.1 m0 (by omega) (by omega)
  obtain ⟨m2, e2, a2, b2⟩ := m51 hK x0.2.2.2.1 h.2.2.2.1 m1 (by omega) (by omega)
  obtain ⟨m3, e3, a3, b3⟩ := m52 hK x0.2.2.2.2.1 h.2.2.2.2.1 m2 (by omega) (by omega)
  obtain ⟨m4, e4, a4, b4⟩ := m53 hK x0.2.2.2.2.2.1 h.2.2.2.2.2.1 m3 (by omega) (by omega)
  refine ⟨m4, ?_, by omega, by omega⟩
  simp only [g21.eq, e0, e1, e2, e3, e4, Option.bind_some]
theorem m29 {K : Nat} (hK : maxLen + 2 ≤ K) (x0 : y57.T) (h : Bd by_ y57 x0) (l : Int) (h0 : 1 ≤ l) (h1 : l + 16 * (wt y57 x0 : Int) ≤ 4611686018427387904) : MkOk (wt y57 x0) l (g29 K x0 l) := by
  have h : _ ∧ _ ∧ _ := h
  rw [g29.eq]
  refine mk_fn (L := fun k l v => L29_2 K k x0 l v) (wf := fun y => wt y106 y) hK h.2.1 ?_ (fun k l => ?_) h0 h1
  · intro k v l hv h2 h3
    have hm := maxLen_lt; have hl := h.2.1; have hb := h.2.2 _ (List.getElem_mem hv)
    have hin : (decide (0 ≤ (v : Int)) && decide ((v : Int) < (List.length x0 : Int))) = true := in_true (by omega) (by omega)
    show ∃ m : Int, _ ∧ _ ∧ L29_2 K (k + 1) x0 l (v : Int) = L29_2 K k x0 m ((v : Int) + 1)
    have hlt : (v : Int) < ((List.length x0 : Nat) : Int) := by omega
    rw [L29_2.step, br_true (by simpa using hlt)]
    simp only [hin, br_t]
    have e0 : decide ((3 : Nat) = 0) = false := rfl
    try simp (disch := omega) only [wrap_id]
    obtain ⟨s1, e1⟩ := m59 hK (l + 1) (by omega) (by omega)
    simp only [e1, Option.bind_some, hin, br_t, e0, br_f]
    try simp (disch := omega) only [wrap_id]
    exact ⟨_, by omega, by omega, rfl⟩
  · show L29_2 K (k + 1) x0 l _ = _
    rw [L29_2.step, br_false (by simp)]
end F2
