/-
  RateForgets: notes that are not alive do not matter, and of nobody more than the limit are alive behind it: the plain part.
-/
import Derived.Test.YthfiglkafahboaaStRateForgets
import Derived.Test.YthfiglkafahboaaPlRate
namespace Go.Proofs.Ythfiglkafahboaa.PureRateForgets
open Go.RowKit Go.Proofs.Ythfiglkafahboaa.P Go.Proofs.YthfiglkafahboaaW.PrintWords Go.Proofs.YthfiglkafahboaaW.PrintLast Go.Proofs.YthfiglkafahboaaW.PrintMore Go.Proofs.Ythfiglkafahboaa.StRateForgets
set_option linter.unusedVariables false
theorem known_is : ∃ k, bellwetherlaw07_known.f k = some true := ⟨10, by decide +kernel⟩
theorem known_at : ∃ K, ∀ k, K ≤ k → bellwetherlaw07_known.f k = some true := by
  obtain ⟨K, hK⟩ := known_is
  exact ⟨K, fun k hk => at_rounds (bellwetherlaw07_known.mono) hk hK⟩
/-- what the reference counts -/
theorem ref06_Of_loop (l : List S37) (node now width : Int) (hl : l.length ≤ 9223372036854775807) : ∀ (d k i : Nat), i + d = l.length → d < k →
    bellwetherref06_Of.l0 k l node now width (cntE (alive now width (l.take i)) node : Int) (i : Int) = some (cntE (alive now width l) node : Int)
  | 0, k, i, hi, hk => by
    obtain ⟨k, rfl⟩ : ∃ m, k = m + 1 := ⟨k - 1, by omega⟩
    simp only [bellwetherref06_Of.l0]
    rw [if_neg (by omega), List.take_of_length_le (by omega)]
  | d + 1, k, i, hi, hk => by
    obtain ⟨k, rfl⟩ : ∃ m, k = m + 1 := ⟨k - 1, by omega⟩
    have ih := ref06_Of_loop l node now width hl d k (i + 1) (by omega) (by omega)
    have hb := cntE_le (alive now width (l.take i)) node
    have hb2 := alive_length now width (l.take i)
    have hb3 : (l.take i).length ≤ i := by rw [List.length_take]; omega
    simp only [bellwetherref06_Of.l0]
    have hi1 : wrap64 ((i : Int) + 1) = ((i + 1 : Nat) : Int) := wrap_succ (n := l.length) (by omega) hl
    have hc1 : wrap64 ((cntE (alive now width (l.take i)) node : Int) + 1) = ((cntE (alive now width (l.take i)) node + 1 : Nat) : Int) := wrap_succ (n := l.length) (by omega) hl
    rw [if_pos (by omega), if_pos (by omega), hi1, hc1, rd_nat]
    rw [alive_step _ _ _ _ (by omega)] at ih
    by_cases hn : (l.getD i z37).f0 = node
    · rw [if_pos hn, ref06_alive_is]
      simp only [Option.bind_some]
      by_cases h : seesB now width (l.getD i z37) = true
      · rw [if_pos h]
        rw [if_pos h, cntE_snoc, if_pos hn] at ih
        exact ih
      · rw [if_neg h]
        rw [if_neg h] at ih
        exact ih
    · rw [if_neg hn]
      by_cases h : seesB now width (l.getD i z37) = true
      · rw [if_pos h, cntE_snoc, if_neg hn] at ih
        exact ih
      · rw [if_neg h] at ih
        exact ih
theorem ref06_Of_is (l : List S37) (node now width : Int) (hl : l.length ≤ 9223372036854775807) (k : Nat) (hk : l.length < k) : bellwetherref06_Of.f k l node now width = some (cntE (alive now width l) node : Int) :=
  ref06_Of_loop l node now width hl l.length k 0 (by omega) hk
theorem cntE_drop (l : List S37) (n : Nat) (k : Int) : cntE (l.drop n) k ≤ cntE l k := by
  unfold cntE
  exact List.Sublist.length_le (List.Sublist.filter _ (List.drop_sublist n l))
theorem cntE_filter (l : List S37) (now width : Int) (k : Int) : cntE (alive now width l) k ≤ cntE l k := by
  unfold cntE alive
  exact List.Sublist.length_le (List.Sublist.filter _ List.filter_sublist)
theorem cntE_add (l : List S37) (e : S37) (k : Int) : cntE (addL l e) k ≤ cntE l k + 1 := by
  unfold addL
  rw [cntE_snoc]
  have h : cntE (if 64 ≤ l.length then l.drop (l.length - 63) else l) k ≤ cntE l k := by
    split
    · exact cntE_drop _ _ _
    · exact Nat.le_refl _
  split <;> omega
theorem RateForgets : Pure := by
  intro x0 x1 h0 h1
  obtain ⟨l, now, width, limit⟩ := x0
  obtain ⟨hl, hnow, hwidth, hlimit⟩ := h0
  dsimp only at hl hnow hwidth hlimit ⊢
  obtain ⟨K, hK⟩ := known_at
  have ho : okE l = true := by
    unfold okE
    rw [List.all_eq_true]
    exact fun x hx => (hl x hx).1
  by_cases h100 : (l.length : Int) > 100
  · refine ⟨K, ?_⟩
    unfold bellwetherlaw07_RateForgets.f
    rw [if_pos h100, hK K (Nat.le_refl _)]
    rfl
  · refine ⟨K + 300, ?_⟩
    have ha := alive_length now width l
    have hT : takeL (alive now width l) x1 now width limit = takeL l x1 now width limit := by unfold takeL; rw [alive_alive]
    have hlen : (takeL l x1 now width limit).1.length ≤ max l.length 64 := by
      unfold takeL
      split
      · show (alive now width l).length ≤ _
        omega
      · show (addL _ _).length ≤ _
        rw [addL_length]; omega
    have hmx : ((takeL l x1 now width limit).1.length : Int) ≤ mx (l.length : Int) 64 := by unfold mx; split <;> omega
    unfold bellwetherlaw07_RateForgets.f
    rw [if_neg h100, rate_Take_is l x1 now width limit (by omega) ho h1 hlimit]
    simp only [Option.bind_some]
    rw [ref06_Purge_is l now width (by omega) _ (by omega)]
    simp only [Option.bind_some]
    rw [rate_Take_is _ x1 now width limit (by omega) (okE_alive ho now width) h1 hlimit, hT]
    simp only [Option.bind_some]
    rw [ref06_Same_refl _ (by omega) _ (by omega)]
    simp only [Option.bind_some, if_true, bne_self_eq_false]
    obtain ⟨k, hk⟩ : ∃ k, K + 300 = k + 1 := ⟨K + 299, rfl⟩
    rw [hk]
    simp only [bellwetherlaw07_RateForgets.j0]
    rw [if_neg (by simp)]
    by_cases h17 : (takeL l x1 now width limit).2 = 17
    · rw [if_pos h17, if_pos hmx, hK _ (by omega)]
      rfl
    · rw [if_neg h17, ref06_Of_is _ _ _ _ (by omega) _ (by omega)]
      simp only [Option.bind_some]
      have hle : (cntE (alive now width (takeL l x1 now width limit).1) x1 : Int) ≤ limit := by
        unfold takeL at h17 ⊢
        split at h17
        · exact absurd rfl h17
        · rename_i hlt
          rw [if_neg hlt]
          have z1 := cntE_filter (addL (alive now width l) ⟨x1, now % 65536⟩) now width x1
          have z2 := cntE_add (alive now width l) ⟨x1, now % 65536⟩ x1
          show (cntE (alive now width (addL _ _)) x1 : Int) ≤ limit
          omega
      rw [if_pos hle, if_pos hmx, hK _ (by omega)]
      rfl
end Go.Proofs.Ythfiglkafahboaa.PureRateForgets
