/-
  Plain laws of rates.
-/
import Derived.Test.YthfiglkafahboaaPlAdd
namespace Go.Proofs.Ythfiglkafahboaa.P
open Go.RowKit Go.Proofs.YthfiglkafahboaaW.PrintWords Go.Proofs.YthfiglkafahboaaW.PrintLast Go.Proofs.YthfiglkafahboaaW.PrintMore
set_option linter.unusedVariables false
/-- one more of a node, if it may -/
def takeL (l : List S37) (frm now width limit : Int) : List S37 × Int :=
  if limit ≤ (cntE (alive now width l) frm : Int) then (alive now width l, 17)
  else (addL (alive now width l) ⟨frm, now % 65536⟩, if 64 ≤ (alive now width l).length then 9 else 0)
theorem wf_i64 {x : Int} (h : (Lit.int .i64 x).wf = true) : -9223372036854775808 ≤ x ∧ x ≤ 9223372036854775807 := by
  simp [Lit.wf, IntKind.min, IntKind.max, IntKind.signed, IntKind.bits] at h
  omega
theorem rate_room_is (l : List S37) (frm now width limit : Int) (ho : okE l = true) (hf : (Lit.int .i64 frm).wf = true) :
    rate_rule_room.f now width limit l frm = some (if limit ≤ (cntE (alive now width l) frm : Int) then 0 else wrap64 (limit - cntE (alive now width l) frm)) := by
  unfold rate_rule_room.f log_Of.f
  rw [if_pos (by rw [ho, hf]; rfl)]
  simp only [Option.bind_some]
  by_cases h : limit ≤ (cntE (alive now width l) frm : Int)
  · rw [if_pos h, if_pos h]
  · rw [if_neg h, if_neg h]
theorem rate_take_is (l : List S37) (frm now width limit : Int) (hl : l.length < 8796093022207) (ho : okE l = true) (hf : (Lit.int .i64 frm).wf = true) (hlim : (Lit.int .i64 limit).wf = true) :
    rate_rule_take.f now width limit l frm = some (takeL l frm now width limit) := by
  have hlen := alive_length now width l
  have hlw := wf_i64 hlim
  unfold rate_rule_take.f log_Purge.f
  rw [if_pos (by omega)]
  simp only [Option.bind_some]
  rw [rate_room_is _ _ _ _ _ (okE_alive ho now width) hf, alive_alive]
  simp only [Option.bind_some]
  unfold takeL
  have hc := cntE_le (alive now width l) frm
  by_cases h : limit ≤ (cntE (alive now width l) frm : Int)
  · rw [if_pos h, if_pos h, if_pos rfl]
  · rw [if_neg h, if_neg h, if_neg (by unfold wrap64; omega)]
    unfold ring_Put.f
    rw [ring_put_is]
    simp only [Option.bind_some]
    rw [log_Add_is _ _ _ (by omega)]
    simp only [Option.bind_some]
    by_cases h6 : 64 ≤ (alive now width l).length
    · rw [if_pos (by simpa using h6), if_pos h6]
    · rw [if_neg (by simpa using h6), if_neg h6]
theorem rate_Take_is (l : List S37) (frm now width limit : Int) (hl : l.length < 8796093022207) (ho : okE l = true) (hf : (Lit.int .i64 frm).wf = true) (hlim : (Lit.int .i64 limit).wf = true) :
    rate_Take.f l frm now width limit = some (takeL l frm now width limit) := by
  unfold rate_Take.f
  rw [rate_take_is l frm now width limit hl ho hf hlim]
  rfl
end Go.Proofs.Ythfiglkafahboaa.P
