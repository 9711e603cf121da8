/-
  Plain laws of notes with one more.
-/
import Derived.Test.YthfiglkafahboaaPlRing
namespace Go.Proofs.Ythfiglkafahboaa.P
open Go.RowKit Go.Proofs.YthfiglkafahboaaW.PrintWords Go.Proofs.YthfiglkafahboaaW.PrintLast Go.Proofs.YthfiglkafahboaaW.PrintMore
set_option linter.unusedVariables false
/-- the notes with one more -/
def addL (l : List S37) (e : S37) : List S37 := (if 64 ≤ l.length then l.drop (l.length - 63) else l) ++ [e]
theorem addL_length (l : List S37) (e : S37) : (addL l e).length = min (l.length + 1) 64 := by
  unfold addL
  split <;> simp <;> omega
theorem log_Add_is (l : List S37) (a b : Int) (hl : l.length < 8796093022207) : log_Add.f l a b = some (addL l ⟨a, b⟩, decide (64 ≤ l.length)) := by
  have hm : mn (l.length : Int) 64 + 1 ≤ 65 ∧ 0 ≤ mn (l.length : Int) 64 + 1 := by unfold mn; split <;> omega
  unfold log_Add.f addL
  rw [if_pos (by omega), if_pos (by omega)]
  simp only [Option.bind_some, List.nil_append, List.length_nil, Nat.zero_add]
  by_cases h : 64 ≤ l.length
  · have hw : wrap64 (wrap64 ((l.length : Int) - 64) + 1) = ((l.length - 63 : Nat) : Int) := by unfold wrap64; omega
    rw [if_pos (by omega), hw, if_pos (by omega), if_pos (by omega), Int.toNat_natCast, if_pos (by rw [List.length_drop]; omega), if_pos (by rw [List.length_drop]; omega), if_pos h]
    simp [h]
    omega
  · rw [if_neg (by omega), if_pos (by omega), if_pos (by omega), if_neg h]
    simp [h]
    omega
end Go.Proofs.Ythfiglkafahboaa.P
