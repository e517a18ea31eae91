/- The laws of WorldOk and Single: they say true. -/
import Derived.Test.YtocpjnhpjclllaaGreatDoorHouseAll
import Derived.Test.YtocpjnhpjclllaaGreatDoorLawK
namespace F5
set_option linter.unusedSimpArgs false
open Go Go.Fil Go.Proofs Go.Fil.Cf
set_option maxRecDepth 100000
set_option linter.unusedVariables false
theorem sum_mem {α : Type} (f : α → Nat) : ∀ (l : List α) (a : α), a ∈ l → f a ≤ (l.map f).sum
  | b :: l, a, h => by
    rw [List.map_cons, List.sum_cons]
    rcases List.mem_cons.1 h with rfl | h
    · omega
    · have := sum_mem f l a h
      omega
theorem wt_mem {e : Nat} {t : Ty} {xs : List t.T} {a : t.T} (h : a ∈ xs) : wt t a ≤ wt (.slice e t) xs := by
  have := sum_mem (fun x => wt t x) xs a h
  show wt t a ≤ xs.length + (xs.map fun x => wt t x).sum
  omega
theorem house_hs (h : T_laws_House.T) (hw : wt T_laws_House h ≤ 1048576) : HS h := by
  have e : wt T_laws_House h = wt T_int_3 h.1 + (wt T_int_3 h.2.1 + (wt T_int_3 h.2.2.1 + (wt T_S_laws_Db h.2.2.2.1 + (wt T_bool h.2.2.2.2.1 + (wt T_S_laws_Asker h.2.2.2.2.2.1 + (wt T_S_laws_Line h.2.2.2.2.2.2.1 + wt (.pair T_int_3 (.pair T_laws_Hand .unit)) h.2.2.2.2.2.2.2)))))) := rfl
  have lc : List.length h.2.2.2.1 ≤ wt T_S_laws_Db h.2.2.2.1 := len_wt (t := T_laws_Db) h.2.2.2.1
  have la : List.length h.2.2.2.2.2.1 ≤ wt T_S_laws_Asker h.2.2.2.2.2.1 := len_wt (t := T_laws_Asker) h.2.2.2.2.2.1
  have ll : List.length h.2.2.2.2.2.2.1 ≤ wt T_S_laws_Line h.2.2.2.2.2.2.1 := len_wt (t := T_laws_Line) h.2.2.2.2.2.2.1
  have ma : ∀ a ∈ (h.2.2.2.2.2.1 : List T_laws_Asker.T), wt T_laws_Asker a ≤ wt T_S_laws_Asker h.2.2.2.2.2.1 := fun a ha => wt_mem (t := T_laws_Asker) ha
  have ml : ∀ a ∈ (h.2.2.2.2.2.2.1 : List T_laws_Line.T), wt T_laws_Line a ≤ wt T_S_laws_Line h.2.2.2.2.2.2.1 := fun a ha => wt_mem (t := T_laws_Line) ha
  have mc : ∀ a ∈ (h.2.2.2.1 : List T_laws_Db.T), wt T_laws_Db a ≤ wt T_S_laws_Db h.2.2.2.1 := fun a ha => wt_mem (t := T_laws_Db) ha
  refine ⟨by show List.length h.2.2.2.2.2.1 ≤ 1048576; omega, by show List.length h.2.2.2.2.2.2.1 ≤ 1048576; omega, by show List.length h.2.2.2.1 ≤ 1048576; omega, fun a ha => ?_, fun a ha => ?_, fun a ha => ?_, fun a ha => ?_⟩
  · have h1 := ma a ha
    have h2 : wt T_laws_Asker a = wt T_int_3 a.1 + (ByteArray.size a.2.1 + wt (.pair T_int_3 (.pair T_int_3 (.pair T_int_3 (.pair T_str (.pair T_int_3 (.pair T_int_3 .unit)))))) a.2.2) := rfl
    show ByteArray.size a.2.1 ≤ 1048576
    omega
  · have h1 := ma a ha
    have h2 : wt T_laws_Asker a = wt T_int_3 a.1 + (wt T_str a.2.1 + (wt T_int_3 a.2.2.1 + (wt T_int_3 a.2.2.2.1 + (wt T_int_3 a.2.2.2.2.1 + (ByteArray.size a.2.2.2.2.2.1 + wt (.pair T_int_3 (.pair T_int_3 .unit)) a.2.2.2.2.2.2))))) := rfl
    show ByteArray.size a.2.2.2.2.2.1 ≤ 1048576
    omega
  · have h1 := ml a ha
    have h2 : wt T_laws_Line a = wt T_int_3 a.1 + (ByteArray.size a.2.1 + wt (.pair T_int_3 (.pair T_int_3 (.pair T_int_3 (.pair T_int_3 (.pair T_int_3 .unit))))) a.2.2) := rfl
    show ByteArray.size a.2.1 ≤ 1048576
    omega
  · have h1 := mc a ha
    have h2 : wt T_laws_Db a = ByteArray.size a.1 + wt (.pair T_int_3 (.pair T_int_3 (.pair T_int_3 (.pair T_int_3 .unit)))) a.2 := rfl
    show ByteArray.size a.1 ≤ 1048576
    omega
theorem world_ws (x : T_laws_World.T) (hB : Bd by_ T_laws_World x) (hw : wt T_laws_World x ≤ 1048576) : WS x := by
  have e : wt T_laws_World x = wt T_int_3 x.1 + (wt T_laws_Disk x.2.1 + (wt T_S_laws_Sock x.2.2.1 + (wt T_S_laws_House x.2.2.2.1 + (wt T_S_laws_Pack x.2.2.2.2.1 + (wt T_S_laws_Note x.2.2.2.2.2.1 + wt (.pair T_int_3 (.pair T_int_3 .unit)) x.2.2.2.2.2.2))))) := rfl
  have l1 : List.length x.2.2.1 ≤ wt T_S_laws_Sock x.2.2.1 := len_wt (t := T_laws_Sock) x.2.2.1
  have l2 : List.length x.2.2.2.1 ≤ wt T_S_laws_House x.2.2.2.1 := len_wt (t := T_laws_House) x.2.2.2.1
  have l3 : List.length x.2.2.2.2.1 ≤ wt T_S_laws_Pack x.2.2.2.2.1 := len_wt (t := T_laws_Pack) x.2.2.2.2.1
  have l4 : List.length x.2.2.2.2.2.1 ≤ wt T_S_laws_Note x.2.2.2.2.2.1 := len_wt (t := T_laws_Note) x.2.2.2.2.2.1
  have mh : ∀ a ∈ (x.2.2.2.1 : List T_laws_House.T), wt T_laws_House a ≤ wt T_S_laws_House x.2.2.2.1 := fun a ha => wt_mem (t := T_laws_House) ha
  exact ⟨by show List.length x.2.2.1 ≤ 1048576; omega, by show List.length x.2.2.2.1 ≤ 1048576; omega, by show List.length x.2.2.2.2.1 ≤ 1048576; omega, by show List.length x.2.2.2.2.2.1 ≤ 1048576; omega, fun h hh => house_hs h (by have := mh h hh; omega), disk_db x.2.1 hB.2.1 (by omega)⟩
/-- A law that asks both programs one yes or no. -/
theorem law_bool {K : Nat} (hK : maxLen + 2 ≤ K) (x : T_laws_World.T) (hB : Bd by_ T_laws_World x) (S I : T_impl_World.T → Option Bool) (h : WS x → ∃ b, S x = some b ∧ I x = some b) :
    ((g_laws_szWorld K x 1048576).bind fun (y_1 : Int) => br (decide ((y_1 : Int) < 0)) (some true) ((g_laws_toWorld K x).bind fun (y_2 : S_impl_World) => (S y_2).bind fun (y_3 : Bool) => (g_laws_toWorld K x).bind fun (y_4 : S_impl_World) => (I y_4).bind fun (y_5 : Bool) => br (!(y_5 == y_3)) (some false) ((g_laws_toWorld K x).bind fun (y_6 : S_impl_World) => (g_laws_eqWorld K y_4 y_6).bind fun (y_7 : Bool) => br (!y_7) (some false) (some true)))) = some true := by
  rcases s_laws_szWorld hK x hB 1048576 (by omega) (by omega) with hneg | ⟨l, hsz, hl0, hwt⟩
  · rw [hneg, Option.bind_some, br_true (by decide)]
  · obtain ⟨b, b1, b2⟩ := h (world_ws x hB (by omega))
    rw [hsz, Option.bind_some, br_false (decide_eq_false (by omega)), t_laws_toWorld hK x hB, Option.bind_some, b1, Option.bind_some, Option.bind_some, b2, Option.bind_some, br_false (by simp), Option.bind_some, q_laws_eqWorld hK x (bdW x hB), Option.bind_some, br_false (c := !true) rfl]
theorem lawWorldOk {K : Nat} (hK : maxLen + 2 ≤ K) (x : T_laws_World.T) (hB : Bd by_ T_laws_World x) : g_laws_FnExactWorldOk K x = some true := by
  rw [g_laws_FnExactWorldOk.eq]
  exact law_bool hK x hB (g_spec_WorldOk K) (g_impl_WorldOk K) (fun hx => by
    obtain ⟨b, b1, b2, _⟩ := worldOk hK x hx
    exact ⟨b, b1, b2⟩)
theorem serv_same (K : Nat) (x : S_impl_World) : ∀ (k : Nat) (v : Int) (o : List Int), L_impl_Serving_3 K k x v o = L_spec_Serving_3 K k v x o
  | 0, v, o => by rw [L_impl_Serving_3.zero, L_spec_Serving_3.zero]
  | k + 1, v, o => by rw [L_impl_Serving_3.step, L_spec_Serving_3.step, serv_same K x k, serv_same K x k]
theorem serv_run {K : Nat} (x : S_impl_World) (hl : x.2.2.2.1.length = 2) : ∀ (q i k : Nat) (o : List Int), i + q = 2 → q < k → o.length ≤ i → ∃ r : List Int, L_spec_Serving_3 K k (i : Int) x o = some r
  | 0, i, k + 1, o, hi, hk, ho => by
    rw [L_spec_Serving_3.step, br_false (decide_eq_false (by omega))]
    exact ⟨_, rfl⟩
  | q + 1, i, k + 1, o, hi, hk, ho => by
    rw [L_spec_Serving_3.step, br_true (decide_eq_true (by omega)), br_true (in_true (by omega) (by omega)), br_true (decide_eq_true (by simp; omega)), wrap_id (k := (i : Int) + 1) (by omega) (by omega)]
    obtain ⟨r, h1⟩ := serv_run (K := K) x hl q (i + 1) k (o ++ [(i : Int)]) (by omega) (by omega) (by simp; omega)
    obtain ⟨s, h2⟩ := serv_run (K := K) x hl q (i + 1) k o (by omega) (by omega) (by omega)
    rw [Int.natCast_add] at h1 h2
    cases ((List.getD x.2.2.2.1 (i : Int).toNat T_impl_House.zero).1 : Int) == 2
    · exact ⟨s, h2⟩
    · exact ⟨r, h1⟩
  | _, _, 0, _, _, h, _ => absurd h (Nat.not_lt_zero _)
theorem serving {K : Nat} (hK : maxLen + 2 ≤ K) (x : S_impl_World) (hl : x.2.2.2.1.length = 2) : ∃ r : List Int, g_spec_Serving K x = some r ∧ g_impl_Serving K x = some r := by
  have hm : maxLen = 2 ^ 63 - 1 := rfl
  obtain ⟨r, h⟩ := serv_run (K := K) x hl 2 0 K [] (by omega) (by omega) (by simp)
  exact ⟨r, by rw [g_spec_Serving.eq]; exact h, by rw [g_impl_Serving.eq, serv_same]; exact h⟩
theorem lawSingle {K : Nat} (hK : maxLen + 2 ≤ K) (x : T_laws_World.T) (hB : Bd by_ T_laws_World x) : g_laws_FnExactSingle K x = some true := by
  rw [g_laws_FnExactSingle.eq]
  exact law_bool hK x hB (g_spec_Single K) (g_impl_Single K) (fun hx => by
    obtain ⟨b, b1, b2, b3⟩ := worldOk hK x hx
    rw [g_spec_Single.eq, g_impl_Single.eq, b1, b2, Option.bind_some, Option.bind_some]
    cases b with
    | false => exact ⟨false, rfl, rfl⟩
    | true =>
      obtain ⟨r, r1, r2⟩ := serving hK x (b3 rfl)
      rw [r1, r2]
      exact ⟨_, rfl, rfl⟩)
#print axioms lawWorldOk
#print axioms lawSingle
end F5
