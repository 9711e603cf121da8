-- Laid by a program of this session (myprint.py).
import Derived.Test.YthfiglkafahboaaHRead
import Derived.Test.YthfiglkafahboaaPx4
namespace Go.Proofs.Ythfiglkafahboaa.StRateForgets
open Go.RowKit Go.Proofs.Ythfiglkafahboaa.P Go.Proofs.YthfiglkafahboaaW.PrintWords Go.Proofs.YthfiglkafahboaaW.PrintLast Go.Proofs.YthfiglkafahboaaW.PrintMore Go.Proofs.YthfiglkafahboaaW.Read
set_option linter.unusedVariables false
def ok37 (x : S37) : Prop := ((Lit.int .i64 x.f0).wf = true) ∧ ((Lit.int .i64 x.f1).wf = true)
theorem opens37 : Opens Try.prog 37 k37 ok37 := opens_struct Try.underlying37 (by kernel_rfl) (opensF_cons rfl (by kernel_rfl) (opens_int Try.underlying3) (opensF_last rfl (by kernel_rfl) (opens_int Try.underlying3))) (fun x : S37 => (x.f0, x.f1)) (fun y => ⟨y.1, y.2⟩) (fun _ => rfl)

def ok24 (x : S24) : Prop := (∀ y_ ∈ x.f0, ok37 y_) ∧ ((Lit.int .i64 x.f1).wf = true) ∧ ((Lit.int .i64 x.f2).wf = true) ∧ ((Lit.int .i64 x.f3).wf = true)
theorem opens24 : Opens Try.prog 24 k24 ok24 := opens_struct Try.underlying24 (by kernel_rfl) (opensF_cons rfl (by kernel_rfl) (opens_slice Try.underlying22 (by kernel_rfl) opens37) (opensF_cons rfl (by kernel_rfl) (opens_int Try.underlying3) (opensF_cons rfl (by kernel_rfl) (opens_int Try.underlying3) (opensF_last rfl (by kernel_rfl) (opens_int Try.underlying3))))) (fun x : S24 => (x.f0, x.f1, x.f2, x.f3)) (fun y => ⟨y.1, y.2.1, y.2.2.1, y.2.2.2⟩) (fun _ => rfl)

/-- THE ONE PURE STATEMENT of bellwetherlaw07_RateForgets. -/
def Pure : Prop := ∀ (x0 : S24) (x1 : Int), (ok24 x0) → ((Lit.int .i64 x1).wf = true) → ∃ k, bellwetherlaw07_RateForgets.f k x0.f0 x0.f1 x0.f2 x0.f3 x1 = some true
end Go.Proofs.Ythfiglkafahboaa.StRateForgets
