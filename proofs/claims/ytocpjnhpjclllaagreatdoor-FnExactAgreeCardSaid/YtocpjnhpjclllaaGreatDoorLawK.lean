/- The law of KnownOf: it says true. -/
import Derived.Test.YtocpjnhpjclllaaGreatDoorPlainJ
import Derived.Test.YtocpjnhpjclllaaGreatDoorPur
set_option linter.unusedSimpArgs false
namespace F5
open Go Go.Fil Go.Proofs Go.Fil.Cf
set_option maxRecDepth 100000
set_option linter.unusedVariables false
theorem byte_wf {n : Int} (h : (Lit.int .u8 n).wf = true) : 0 ≤ n ∧ n ≤ 255 := by
  simp [Lit.wf, IntKind.min, IntKind.max, IntKind.signed, IntKind.bits] at h
  omega
theorem len_wt {e : Nat} {t : Ty} (xs : List t.T) : xs.length ≤ wt (.slice e t) xs := by
  show xs.length ≤ xs.length + _
  omega
theorem disk_db (d : T_laws_Disk.T) (hB : Bd by_ T_laws_Disk d) (hw : wt T_laws_Disk d ≤ 1048576) : DB d := by
  have hw' : wt T_S_S_u8 d.1 + (wt T_S_laws_Wr d.2.1 + wt (.pair T_int_3 (.pair T_bool .unit)) d.2.2) ≤ 1048576 := hw
  have l1 : List.length d.1 ≤ wt T_S_S_u8 d.1 := len_wt (t := T_S_u8) d.1
  have l2 : List.length d.2.1 ≤ wt T_S_laws_Wr d.2.1 := len_wt (t := T_laws_Wr) d.2.1
  exact ⟨by show List.length d.1 ≤ 1048576; omega, by show List.length d.2.1 ≤ 1048576; omega, fun s hs b hb => byte_wf ((hB.1.2.2 s hs).2.2 b hb), fun e he b hb => byte_wf ((hB.2.1.2.2 e he).2.1.2.2 b hb)⟩
theorem known_refl (K : Nat) (k : S_impl_Known) : g_laws_eqKnown K k k = some true := by
  simp only [g_laws_eqKnown.eq, Option.bind_some, ne_self, strEq_self, bne_self_bool, Bool.not_true, br_t, br_f]
theorem bdW (x : T_laws_World.T) (h : Bd by_ T_laws_World x) : Bd by_ T_impl_World x := (by kernel_rfl : Bd by_ T_laws_World x = Bd by_ T_impl_World x) ▸ h
theorem lawKnownOf {K : Nat} (hK : maxLen + 2 ≤ K) (x : T_laws_World.T) (hB : Bd by_ T_laws_World x) : g_laws_FnExactKnownOf K x = some true := by
  rw [g_laws_FnExactKnownOf.eq]
  rcases s_laws_szWorld hK x hB 1048576 (by omega) (by omega) with hneg | ⟨l, hsz, hl0, hwt⟩
  · rw [hneg, Option.bind_some, br_true (by decide)]
  · have hwd : wt T_laws_Disk x.2.1 ≤ 1048576 := by
      have : wt T_laws_World x = wt T_int_3 x.1 + (wt T_laws_Disk x.2.1 + wt (.pair T_S_laws_Sock (.pair T_S_laws_House (.pair T_S_laws_Pack (.pair T_S_laws_Note (.pair T_int_3 (.pair T_int_3 .unit)))))) x.2.2) := rfl
      omega
    obtain ⟨r, r1, r2, _⟩ := knownOf hK x (disk_db x.2.1 hB.2.1 hwd)
    rw [hsz, Option.bind_some, br_false (decide_eq_false (by omega)), t_laws_toWorld hK x hB, Option.bind_some, r1, Option.bind_some, Option.bind_some, r2, Option.bind_some, known_refl, Option.bind_some, br_false (c := !true) rfl, Option.bind_some, q_laws_eqWorld hK x (bdW x hB), Option.bind_some, br_false (c := !true) rfl]
#print axioms lawKnownOf
end F5
