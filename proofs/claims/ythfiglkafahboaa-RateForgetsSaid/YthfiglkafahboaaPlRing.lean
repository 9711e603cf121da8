/-
  Plain laws of rings and notes: what the printed functions of the layers 5 and 6 come to.
-/
import Derived.Test.YthfiglkafahboaaHRead
import Derived.Test.YthfiglkafahboaaPx
namespace Go.Proofs.Ythfiglkafahboaa.P
open Go.RowKit Go.Proofs.YthfiglkafahboaaW.PrintWords Go.Proofs.YthfiglkafahboaaW.PrintLast Go.Proofs.YthfiglkafahboaaW.PrintMore
set_option linter.unusedVariables false

theorem wrap_succ {i n : Nat} (h : i < n) (hn : n ≤ 9223372036854775807) : wrap64 ((i : Int) + 1) = ((i + 1 : Nat) : Int) := by
  unfold wrap64
  omega
theorem tmod_65536 (a : Int) : Int.tmod a 65536 = if 0 ≤ a then a % 65536 else - ((-a) % 65536) := by
  split
  · rw [Int.tmod_eq_emod_of_nonneg (by omega)]
  · have : a = -(-a) := by omega
    rw [this, Int.neg_tmod, Int.tmod_eq_emod_of_nonneg (by omega)]
    omega
theorem ref05_Put_is (a : Int) : bellwetherref05_Put.f a = some (a % 65536) := by
  unfold bellwetherref05_Put.f bellwetherref01_Mod.f
  rw [if_neg (by omega), if_neg (by omega), tmod_65536]
  by_cases h : 0 ≤ a
  · simp only [if_pos h]
    rw [if_neg (by omega)]
    rfl
  · simp only [if_neg h]
    split
    · simp only [Option.bind_some, Option.some.injEq]
      unfold wrap64
      omega
    · simp only [Option.bind_some, Option.some.injEq]
      omega
theorem ref05_Diff_is (a b : Int) : bellwetherref05_Diff.f a b = some ((a % 65536 - b % 65536) % 65536) := by
  unfold bellwetherref05_Diff.f
  rw [ref05_Put_is, ref05_Put_is]
  simp only [Option.bind_some]
  rw [ref05_Put_is, show wrap64 (a % 65536 - b % 65536) = a % 65536 - b % 65536 from by unfold wrap64; omega]
  rfl
theorem ref05_Signed_is (a b : Int) : bellwetherref05_Signed.f a b = some (sgn a b) := by
  unfold bellwetherref05_Signed.f sgn
  rw [ref05_Diff_is]
  simp only [Option.bind_some]
  by_cases h : 32768 ≤ (a % 65536 - b % 65536) % 65536
  · rw [if_pos (by omega), if_pos h]; congr 1; unfold wrap64; omega
  · rw [if_neg (by omega), if_neg h]
theorem ref06_alive_is (x : S37) (now width : Int) : bellwetherref06_alive.f x.f0 x.f1 now width = some (seesB now width x) := by
  unfold bellwetherref06_alive.f seesB
  rw [ref05_Signed_is]
  simp only [Option.bind_some]
  by_cases h : 0 ≤ sgn now x.f1
  · rw [if_pos (by omega)]; simp [h]
  · rw [if_neg (by omega)]; simp [h]
theorem rd_nat (xs : List S37) (i : Nat) : rd_T37 xs (i : Int) = xs.getD i z37 := rfl
theorem alive_step (now width : Int) (l : List S37) (k : Nat) (h : k < l.length) :
    alive now width (l.take (k + 1)) = if seesB now width (l.getD k z37) = true then alive now width (l.take k) ++ [l.getD k z37] else alive now width (l.take k) := alive_take now width l k h
theorem ref06_Purge_loop (l : List S37) (now width : Int) (hl : l.length < 8796093022208) : ∀ (d k i : Nat), i + d = l.length → d < k → bellwetherref06_Purge.l0 k l now width (alive now width (l.take i)) (i : Int) = some (alive now width l)
  | 0, k, i, hi, hk => by
    obtain ⟨k, rfl⟩ : ∃ m, k = m + 1 := ⟨k - 1, by omega⟩
    simp only [bellwetherref06_Purge.l0]
    rw [if_neg (by omega), List.take_of_length_le (by omega)]
  | d + 1, k, i, hi, hk => by
    obtain ⟨k, rfl⟩ : ∃ m, k = m + 1 := ⟨k - 1, by omega⟩
    have ih := ref06_Purge_loop l now width hl d k (i + 1) (by omega) (by omega)
    have hb : (alive now width (l.take i)).length ≤ i := by
      have h1 := List.length_filter_le (seesB now width) (l.take i)
      have h2 : (l.take i).length ≤ i := by rw [List.length_take]; omega
      unfold alive; omega
    simp only [bellwetherref06_Purge.l0]
    rw [if_pos (by omega), if_pos (by omega), ref06_alive_is, wrap_succ (n := l.length) (by omega) (by omega)]
    simp only [Option.bind_some]
    rw [alive_step _ _ _ _ (by omega)] at ih
    rw [rd_nat]
    by_cases h : seesB now width (l.getD i z37) = true
    · rw [if_pos h, if_pos (by omega)]
      rw [if_pos h] at ih
      exact ih
    · rw [if_neg h]
      rw [if_neg h] at ih
      exact ih
theorem ref06_Purge_is (l : List S37) (now width : Int) (hl : l.length < 8796093022208) (k : Nat) (hk : l.length < k) : bellwetherref06_Purge.f k l now width = some (alive now width l) :=
  ref06_Purge_loop l now width hl l.length k 0 (by omega) hk
theorem ref06_Same_loop (l : List S37) (hl : l.length ≤ 9223372036854775807) : ∀ (d k i : Nat), i + d = l.length → d < k → bellwetherref06_Same.l0 k l l (i : Int) = some true
  | 0, k, i, hi, hk => by
    obtain ⟨k, rfl⟩ : ∃ m, k = m + 1 := ⟨k - 1, by omega⟩
    simp only [bellwetherref06_Same.l0]
    rw [if_neg (by omega)]
  | d + 1, k, i, hi, hk => by
    obtain ⟨k, rfl⟩ : ∃ m, k = m + 1 := ⟨k - 1, by omega⟩
    simp only [bellwetherref06_Same.l0]
    rw [if_pos (by omega), if_pos (by omega), if_pos (by omega), if_neg (by simp), wrap_succ (n := l.length) (by omega) hl]
    exact ref06_Same_loop l hl d k (i + 1) (by omega) (by omega)
theorem ref06_Same_refl (l : List S37) (hl : l.length ≤ 9223372036854775807) (k : Nat) (hk : l.length < k) : bellwetherref06_Same.f k l l = some true := by
  unfold bellwetherref06_Same.f
  rw [if_pos rfl]
  exact ref06_Same_loop l hl l.length k 0 (by omega) hk
theorem alive_alive (now width : Int) (l : List S37) : alive now width (alive now width l) = alive now width l := by simp [alive]
theorem alive_length (now width : Int) (l : List S37) : (alive now width l).length ≤ l.length := List.length_filter_le _ _
theorem okE_alive {l : List S37} (h : okE l = true) (now width : Int) : okE (alive now width l) = true := by
  unfold okE alive at *
  rw [List.all_eq_true] at *
  exact fun x hx => h x ((List.mem_filter.1 hx).1)
end Go.Proofs.Ythfiglkafahboaa.P
