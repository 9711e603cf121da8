/-
  What an argument reads as: whatever reads as a datum at a type is of the type's kind, and its numbers are of their kinds.
-/
import Derived.Test.YthfiglkafahboaaWWords
import Derived.Deep.Slices
import Derived.ChangeArms
import Derived.OpenShut
namespace Go.Proofs.YthfiglkafahboaaW.Read
open Go.RowKit Go.Proofs.YthfiglkafahboaaW.PrintWords
set_option linter.unusedVariables false
/-- Whatever reads at type t is of kind d, and good. -/
def Opens {α : Type} (P : Program) (t : TypeId) (d : Kd α) (ok : α → Prop) : Prop :=
  ∀ {H : Type} (enc : TypeId × Value → H) (w : World) (base : Nat) (fuel : Nat) (cs : List Value) (x : DataW H × List MemPlace),
    DataW.trod enc P w base (fun _ => true) true fuel t cs = some x → ∃ y : α, d.K w y cs ∧ ok y
theorem opens_int {P : Program} {t : TypeId} {k : IntKind} (ht : P.underlying t = some (.int k)) : Opens P t (Kd.int k) (fun x => (Lit.int k x).wf = true) := by
  intro H enc w base fuel cs x h
  obtain ⟨n, rfl, _, hw⟩ := DataW.trod_int ht h
  exact ⟨n, rfl, hw⟩
theorem opens_bool {P : Program} {t : TypeId} (ht : P.underlying t = some .bool) : Opens P t Kd.bool (fun _ => True) := by
  intro H enc w base fuel cs x h
  obtain ⟨b, rfl, _⟩ := DataW.trod_bool ht h
  exact ⟨b, rfl, trivial⟩
theorem opens_string {P : Program} {t : TypeId} (ht : P.underlying t = some .string) : Opens P t Kd.string (fun s => s.size ≤ maxLen) := by
  intro H enc w base fuel cs x h
  obtain ⟨s, rfl, _, hs⟩ := DataW.trod_string ht h
  exact ⟨s, rfl, hs⟩
theorem choose_list {α : Type} {p : Nat → α → Prop} : ∀ n : Nat, (∀ i, i < n → ∃ x, p i x) → ∃ xs : List α, xs.length = n ∧ ∀ i x, xs[i]? = some x → p i x
  | 0, _ => ⟨[], rfl, fun i x h => by simp at h⟩
  | n + 1, h => by
    obtain ⟨xs, hl, hx⟩ := choose_list n (fun i hi => h i (by omega))
    obtain ⟨y, hy⟩ := h n (by omega)
    refine ⟨xs ++ [y], by simp [hl], fun i x hi => ?_⟩
    by_cases hlt : i < xs.length
    · rw [List.getElem?_append_left hlt] at hi
      exact hx i x hi
    · have he : i = xs.length := by
        have := (List.getElem?_eq_some_iff.1 hi).1
        rw [List.length_append, List.length_singleton] at this
        omega
      subst he
      have : y = x := by simpa using hi
      subst this
      rw [hl]
      exact hy
theorem opens_slice {α : Type} {P : Program} {t e e' : TypeId} {d : Kd α} {ok : α → Prop} (ht : P.underlying t = some (.slice e)) (hc : P.cellsOf e = d.sz) (he : Opens P e d ok) : Opens P t (Kd.slice e' d) (fun xs => ∀ x ∈ xs, ok x) := by
  intro H enc w base fuel cs x h
  rcases Go.Deep.open_slice ht h with ⟨rfl, _⟩ | ⟨a, len, cap, m, n, D, Pl, rfl, hb, hl, hm, hmm, rfl, hx⟩
  · exact ⟨[], ⟨none, 0, rfl, Nat.le_refl _, rfl, by simp, fun h => absurd h (by simp)⟩, fun x hx => by cases hx⟩
  · have hlm : len ≤ m := by rw [hmm]; simp; omega
    obtain ⟨xs, hxl, hxs⟩ := choose_list (p := fun i y => ∃ c, c.length = d.sz ∧ d.K w y c ∧ (∀ j u, c[j]? = some u → w.cell? (a.add (i * d.sz + j)) = some u) ∧ ok y) len (fun i hi => by
      obtain ⟨c, h1, h2⟩ := hx i (by omega)
      obtain ⟨y, hy, hok⟩ := he enc w base n c _ h2
      obtain ⟨_, hcl, hcc⟩ := World.cells?_some h1
      refine ⟨y, c, by rw [hcl, hc], hy, fun j u hj => ?_, hok⟩
      have hjl : j < c.length := (List.getElem?_eq_some_iff.1 hj).1
      have := hcc j (by omega)
      rw [hj, hc] at this
      rw [← this]
      congr 1
      unfold Addr.add
      by_cases h1 : i * d.sz = 0 <;> by_cases h2 : j = 0 <;> simp [h1, h2, Nat.add_assoc])
    subst hxl
    refine ⟨xs, ⟨some a, cap, rfl, hl, rfl, by simp only [maxLen] at hm; omega, fun _ => ⟨a, rfl, fun j p hj => ?_⟩⟩, fun x hx => ?_⟩
    · obtain ⟨c, h1, h2, h3, _⟩ := hxs j p hj
      exact ⟨c, h1, h2, h3⟩
    · obtain ⟨i, hi⟩ := List.getElem?_of_mem hx
      obtain ⟨_, _, _, _, hok⟩ := hxs i x hi
      exact hok
/-- The fields from off on. -/
def OpensF {α : Type} (P : Program) (fs : List Field) (off : Nat) (d : Kd α) (ok : α → Prop) : Prop :=
  ∀ {H : Type} (enc : TypeId × Value → H) (w : World) (base : Nat) (fuel : Nat) (cs : List Value) (xs : List (DataW H × List MemPlace)),
    fs.mapM (fun f => DataW.trod enc P w base (fun _ => true) true fuel f.type ((cs.drop f.offset).take (P.cellsOf f.type))) = some xs → ∃ y : α, d.K w y ((cs.drop off).take d.sz) ∧ ok y
theorem opensF_last {α : Type} {P : Program} {f : Field} {off : Nat} {d : Kd α} {ok : α → Prop} (ho : f.offset = off) (hc : P.cellsOf f.type = d.sz) (h : Opens P f.type d ok) : OpensF P [f] off d ok := by
  intro H enc w base fuel cs xs hx
  simp only [List.mapM_cons, List.mapM_nil, Option.bind_eq_bind, Option.bind_eq_some_iff, Option.pure_def] at hx
  obtain ⟨a, ha, _⟩ := hx
  rw [ho, hc] at ha
  exact h enc w base fuel _ a ha
theorem opensF_cons {α β : Type} {P : Program} {f : Field} {fs : List Field} {off : Nat} {a : Kd α} {d : Kd β} {oka : α → Prop} {okd : β → Prop} (ho : f.offset = off) (hc : P.cellsOf f.type = a.sz) (h : Opens P f.type a oka) (hs : OpensF P fs (off + a.sz) d okd) :
    OpensF P (f :: fs) off (Kd.pair a d) (fun y => oka y.1 ∧ okd y.2) := by
  intro H enc w base fuel cs xs hx
  simp only [List.mapM_cons, Option.bind_eq_bind, Option.bind_eq_some_iff, Option.pure_def] at hx
  obtain ⟨z, hz, zs, hzs, _⟩ := hx
  rw [ho, hc] at hz
  obtain ⟨y1, h1, k1⟩ := h enc w base fuel _ z hz
  obtain ⟨y2, h2, k2⟩ := hs enc w base fuel cs zs hzs
  refine ⟨(y1, y2), ⟨_, _, ?_, h1, h2⟩, k1, k2⟩
  show (cs.drop off).take (a.sz + d.sz) = _
  rw [List.take_add, List.drop_drop]
theorem opens_struct {α β : Type} {P : Program} {t : TypeId} {fs : Array Field} {d : Kd α} {ok : α → Prop} (ht : P.underlying t = some (.struct fs)) (hc : P.cellsOf t = d.sz) (h : OpensF P fs.toList 0 d ok) (g : β → α) (b : α → β) (hb : ∀ y, g (b y) = y) :
    Opens P t (Kd.iso d g) (fun x => ok (g x)) := by
  intro H enc w base fuel cs x hx
  cases fuel with
  | zero => simp [DataW.trod] at hx
  | succ n =>
    obtain ⟨hl, xs, hxs⟩ : cs.length = P.cellsOf t ∧ ∃ xs, fs.toList.mapM (fun f => DataW.trod enc P w base (fun _ => true) true n f.type ((cs.drop f.offset).take (P.cellsOf f.type))) = some xs := by
      simp only [DataW.trod, ht] at hx
      split at hx
      · rename_i hl
        obtain ⟨xs, hxs, _⟩ := Option.map_eq_some_iff.1 hx
        exact ⟨hl, xs, hxs⟩
      · cases hx
    obtain ⟨y, hy, hok⟩ := h enc w base n cs xs hxs
    refine ⟨b y, ?_, by show ok (g (b y)); rw [hb]; exact hok⟩
    show d.K w (g (b y)) cs
    rw [hb]
    rwa [List.drop_zero, ← hc, ← hl, List.take_length] at hy
end Go.Proofs.YthfiglkafahboaaW.Read
