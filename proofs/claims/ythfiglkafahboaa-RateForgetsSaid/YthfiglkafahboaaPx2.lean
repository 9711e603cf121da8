-- Laid by a program of this session (myprint.py).
import Derived.Test.YthfiglkafahboaaPx0
namespace Go.Proofs.Ythfiglkafahboaa.P
open Go.RowKit Go.Proofs.YthfiglkafahboaaW.PrintWords Go.Proofs.YthfiglkafahboaaW.PrintLast Go.Proofs.YthfiglkafahboaaW.PrintMore
attribute [local go_sem] max2_int min2_int max_two min_two max_three min_three max_four min_four   -- for this text's walks alone
set_option linter.unusedVariables false
set_option linter.unusedSimpArgs false

/-! ### num_Mod: function 26 -/
def num_Mod.f (a0 : Int) (a1 : Int) : Option (Int) := if a1 < 1 then (some 0) else (if a1 = 0 then (none) else (if (Int.tmod a0 a1) < 0 then (some (wrap64 ((Int.tmod a0 a1) + a1))) else (some (Int.tmod a0 a1))))
set_option maxHeartbeats 8000000 in
set_option maxRecDepth 100000 in
theorem num_Mod.calls (a0 : Int) (a1 : Int) (r : Int) (w : World) (h : num_Mod.f a0 a1 = some r) :
    Calls Try.prog 26 #[.int .i64 a0, .int .i64 a1] w fun e w' => e = .returned (.int .i64 r) ∧ Drawn0 w w' := by
  have H : (if a1 < 1 then (some 0) else (if a1 = 0 then (none) else (if (Int.tmod a0 a1) < 0 then (some (wrap64 ((Int.tmod a0 a1) + a1))) else (some (Int.tmod a0 a1))))) = some r := h
  clear h
  by_cases c3 : a1 < 1
  · rw [if_pos c3] at H
    have c3b0 : decide (a1 < 1) = true := decide_eq_true c3
    clear c3
    obtain rfl := Option.some.inj H
    go_enter Try.func26, Try.ntmps26
    go_wp2
    go_ret
    exact ⟨by first | rfl | (simp; done) | (simp [*]; done), by repeat (first | exact Drawn0.refl _ | apply Drawn0.step)⟩
  · rw [if_neg c3] at H
    have c3b0 : decide (a1 < 1) = false := decide_eq_false c3
    clear c3
    by_cases c4 : a1 = 0
    · rw [if_pos c4] at H
      exact absurd H (by simp)
    · rw [if_neg c4] at H
      have c4b0 : (a1 == 0) = false := beq_eq_false_iff_ne.mpr c4
      have c4b1 : (a1 != 0) = true := bne_iff_ne.mpr c4
      by_cases c5 : (Int.tmod a0 a1) < 0
      · rw [if_pos c5] at H
        have c5b0 : decide ((Int.tmod a0 a1) < 0) = true := decide_eq_true c5
        clear c5
        obtain rfl := Option.some.inj H
        go_enter Try.func26, Try.ntmps26
        go_wp2
        go_ret
        exact ⟨by first | rfl | (simp; done) | (simp [*]; done), by repeat (first | exact Drawn0.refl _ | apply Drawn0.step)⟩
      · rw [if_neg c5] at H
        have c5b0 : decide ((Int.tmod a0 a1) < 0) = false := decide_eq_false c5
        clear c5
        obtain rfl := Option.some.inj H
        go_enter Try.func26, Try.ntmps26
        go_wp2
        go_ret
        exact ⟨by first | rfl | (simp; done) | (simp [*]; done), by repeat (first | exact Drawn0.refl _ | apply Drawn0.step)⟩

/-! ### ring_put: function 21 -/
def ring_put.f (a0 : Int) : Option (Int) := (num_Mod.f a0 65536).bind fun t101 => (some t101)
set_option maxHeartbeats 8000000 in
set_option maxRecDepth 100000 in
theorem ring_put.calls (a0 : Int) (r : Int) (w : World) (h : ring_put.f a0 = some r) :
    Calls Try.prog 21 #[.int .i64 a0] w fun e w' => e = .returned (.int .i64 r) ∧ Drawn0 w w' := by
  have H : ((num_Mod.f a0 65536).bind fun t101 => (some t101)) = some r := h
  clear h
  replace H := Option.bind_eq_some_iff.mp H
  obtain ⟨t101, A20, H⟩ := H
  replace H : (some t101) = some r := H
  have A2 := Aside0.mk A20
  clear A20
  obtain rfl := Option.some.inj H
  go_enter Try.func21, Try.ntmps21
  go_wp2_with (first | ((with_reducible refine gate_callee (f := 26) rfl ?_); refine goesL_ (some 4) rfl rfl Try.func26 (by kernel_rfl) rfl #[.int .i64 a0, .int .i64 65536] rfl (by (try simp only [List.map_toArray, List.map_cons, List.map_nil]); first | done | rfl | (simp only [List.length_drop, List.length_take]; rfl)) ?_; (with_reducible refine (num_Mod.calls a0 65536 t101 _ A2.out).mono ?_); rintro e w' ⟨rfl, ⟨nd, rfl⟩⟩; refine ⟨_, rfl, ?_⟩))
  go_ret
  exact ⟨by first | rfl | (simp; done) | (simp [*]; done), by repeat (first | exact Drawn0.refl _ | apply Drawn0.step)⟩

/-! ### ring_join: function 30 (given) -/
section
-- its contracts stand with what it is handed
end

/-! ### ring_clock_from: function 31 (given) -/
section
def ring_clock_from.f (a b : Int) : Option Int := ring_put.f (wrap64 (a - b))
set_option maxHeartbeats 800000 in
theorem ring_clock_from.calls (a b : Int) (r : Int) (w : World) (h : ring_clock_from.f a b = some r) :
    Calls Try.prog 31 #[.int .i64 a, .int .i64 b] w fun e w' => e = .returned (.int .i64 r) ∧ Drawn0 w w' := by
  have A2 := Aside0.mk h
  clear h
  go_enter Try.func31, Try.ntmps31
  go_wp2_with (first | (go_at_call 21; refine (ring_put.calls _ r _ A2.out).mono ?_; rintro e w' ⟨rfl, ⟨nd, rfl⟩⟩))
  go_ret
  exact ⟨rfl, by repeat (first | exact Drawn0.refl _ | apply Drawn0.step)⟩

def ring_joinFrom.f (a b : Int) : Option Int := (ring_put.f a).bind fun x => (ring_put.f b).bind fun y => ring_clock_from.f x y
set_option maxHeartbeats 800000 in
theorem ring_joinFrom.calls (a b : Int) (r : Int) (w : World) (h : ring_joinFrom.f a b = some r) :
    Calls Try.prog 30 #[.func (.func 31) #[] #[], .int .i64 a, .int .i64 b] w fun e w' => e = .returned (.int .i64 r) ∧ Drawn0 w w' := by
  obtain ⟨x, hx, h⟩ := Option.bind_eq_some_iff.mp h
  obtain ⟨y, hy, h⟩ := Option.bind_eq_some_iff.mp h
  have A1 := Aside0.mk hx
  have A2 := Aside0.mk hy
  have A3 := Aside0.mk h
  clear hx hy h
  go_enter Try.func30, Try.ntmps30
  go_wp2_with fail
  refine (ring_put.calls a x _ A1.out).mono ?_
  rintro e w' ⟨rfl, ⟨nd, rfl⟩⟩
  go_wp2_with fail
  refine (ring_put.calls b y _ A2.out).mono ?_
  rintro e w' ⟨rfl, ⟨nd2, rfl⟩⟩
  go_wp2_with fail
  refine (ring_clock_from.calls x y r _ A3.out).mono ?_
  rintro e w' ⟨rfl, ⟨nd3, rfl⟩⟩
  go_wp2
  go_ret
  exact ⟨rfl, by repeat (first | exact Drawn0.refl _ | apply Drawn0.step)⟩

/-- how many units from then to now, told from half a turn back to half a turn on -/
def sgn (a b : Int) : Int := if 32768 ≤ (a % 65536 - b % 65536) % 65536 then (a % 65536 - b % 65536) % 65536 - 65536 else (a % 65536 - b % 65536) % 65536
theorem ring_put_is (a : Int) : ring_put.f a = some (a % 65536) := by
  have e : Int.tmod a 65536 = if 0 ≤ a then a % 65536 else - ((-a) % 65536) := by
    split
    · rw [Int.tmod_eq_emod_of_nonneg (by omega)]
    · have : a = -(-a) := by omega
      rw [this, Int.neg_tmod, Int.tmod_eq_emod_of_nonneg (by omega)]
      omega
  unfold ring_put.f num_Mod.f
  rw [if_neg (by omega), if_neg (by omega), e]
  by_cases h : 0 ≤ a
  · simp only [if_pos h]
    rw [if_neg (by omega)]
    rfl
  · simp only [if_neg h]
    split
    · simp only [Option.bind_some, Option.some.injEq]
      unfold wrap64
      omega
    · simp only [Option.bind_some, Option.some.injEq]
      omega
theorem ring_joinFrom_is (a b : Int) : ring_joinFrom.f a b = some ((a % 65536 - b % 65536) % 65536) := by
  unfold ring_joinFrom.f ring_clock_from.f
  rw [ring_put_is, ring_put_is]
  simp only [Option.bind_some]
  rw [ring_put_is, show wrap64 (a % 65536 - b % 65536) = a % 65536 - b % 65536 from by unfold wrap64; omega]
end

/-! ### ring_Signed: function 28 (given) -/
section
def ring_Signed.f (a b : Int) : Option Int := (ring_joinFrom.f a b).bind fun d => if d ≥ 32768 then some (wrap64 (d - 65536)) else some d
set_option maxHeartbeats 800000 in
theorem ring_Signed.calls (a b : Int) (r : Int) (w : World) (h : ring_Signed.f a b = some r) :
    Calls Try.prog 28 #[.int .i64 a, .int .i64 b] w fun e w' => e = .returned (.int .i64 r) ∧ Drawn0 w w' := by
  obtain ⟨d, hd, h⟩ := Option.bind_eq_some_iff.mp h
  have A1 := Aside0.mk hd
  clear hd
  by_cases c : d ≥ 32768
  · rw [if_pos c] at h
    obtain rfl := Option.some.inj h
    have cb : decide (32768 ≤ d) = true := decide_eq_true c
    clear c h
    go_enter Try.func28, Try.ntmps28
    go_wp2_with (first | (go_at_call 30; refine (ring_joinFrom.calls a b d _ A1.out).mono ?_; rintro e w' ⟨rfl, ⟨nd, rfl⟩⟩))
    go_ret
    exact ⟨rfl, by repeat (first | exact Drawn0.refl _ | apply Drawn0.step)⟩
  · rw [if_neg c] at h
    obtain rfl := Option.some.inj h
    have cb : decide (32768 ≤ d) = false := decide_eq_false c
    clear c h
    go_enter Try.func28, Try.ntmps28
    go_wp2_with (first | (go_at_call 30; refine (ring_joinFrom.calls a b d _ A1.out).mono ?_; rintro e w' ⟨rfl, ⟨nd, rfl⟩⟩))
    go_ret
    exact ⟨rfl, by repeat (first | exact Drawn0.refl _ | apply Drawn0.step)⟩
theorem ring_Signed_is (a b : Int) : ring_Signed.f a b = some (sgn a b) := by
  unfold ring_Signed.f sgn
  rw [ring_joinFrom_is]
  simp only [Option.bind_some]
  by_cases h : 32768 ≤ (a % 65536 - b % 65536) % 65536
  · rw [if_pos (by omega), if_pos h]; congr 1; unfold wrap64; omega
  · rw [if_neg (by omega), if_neg h]
end

/-! ### log_view_sees: function 25 (given) -/
section
/-- is a note alive? -/
def seesB (now width : Int) (e : S37) : Bool := decide (0 ≤ sgn now e.f1) && decide (sgn now e.f1 < width)
set_option maxHeartbeats 800000 in
theorem log_sees.calls (now width : Int) (e : S37) (w : World) :
    Calls Try.prog 25 #[.agg #[.int .i64 now, .int .i64 width], .agg #[.int .i64 e.f0, .int .i64 e.f1]] w fun e1 w' => e1 = .returned (.bool (seesB now width e)) ∧ Below w.heap.size w w' := by
  have A := Aside0.mk (ring_Signed_is now e.f1)
  unfold seesB
  generalize sgn now e.f1 = d at *
  generalize e.f0 = a0
  generalize e.f1 = a1 at *
  by_cases c : 0 ≤ d
  · have cb : decide (0 ≤ d) = true := decide_eq_true c
    clear c
    go_enter Try.func25, Try.ntmps25
    go_wp2_with (first | (go_at_call 28; refine (ring_Signed.calls now a1 d _ A.out).mono ?_; rintro e w' ⟨rfl, ⟨nd, rfl⟩⟩))
    go_ret
    exact ⟨by first | (simp [cb]; done) | (have := of_decide_eq_true cb; simp; omega) | (have := of_decide_eq_false cb; simp; omega), pw_below_drewN (below_alloc (below_alloc (Below.refl _ _) _) _) _⟩
  · have cb : decide (0 ≤ d) = false := decide_eq_false c
    clear c
    go_enter Try.func25, Try.ntmps25
    go_wp2_with (first | (go_at_call 28; refine (ring_Signed.calls now a1 d _ A.out).mono ?_; rintro e w' ⟨rfl, ⟨nd, rfl⟩⟩))
    go_ret
    exact ⟨by first | (simp [cb]; done) | (have := of_decide_eq_true cb; simp; omega) | (have := of_decide_eq_false cb; simp; omega), pw_below_drewN (below_alloc (below_alloc (Below.refl _ _) _) _) _⟩
end

/-! ### log_view_of_1: function 24 (given) -/
section
open Go.Shelf
attribute [local go_sem] Oper.semAt_some
def encE (x : S37) : Value := .agg #[.int .i64 x.f0, .int .i64 x.f1]
def alive (now width : Int) (l : List S37) : List S37 := l.filter (seesB now width)
theorem alive_take (now width : Int) (l : List S37) (k : Nat) (h : k < l.length) : alive now width (l.take (k + 1)) = if seesB now width (l.getD k z37) = true then alive now width (l.take k) ++ [l.getD k z37] else alive now width (l.take k) := by
  unfold alive
  rw [List.take_succ_eq_append_getElem h, List.filter_append, List.getD_eq_getElem?_getD, List.getElem?_eq_getElem h]
  simp only [List.filter_cons, List.filter_nil, Option.getD_some]
  split <;> simp_all
/-- of some of a kind: what they are -/
def vals {p : S37 → Prop} (l : List (Subtype p)) : List S37 := l.map (·.1)
theorem vals_snoc {p : S37 → Prop} (l : List (Subtype p)) (x : Subtype p) : vals (l ++ [x]) = vals l ++ [x.1] := by unfold vals; rw [List.map_append]; rfl
theorem vals_length {p : S37 → Prop} (l : List (Subtype p)) : (vals l).length = l.length := List.length_map _
/-- what a round that goes on keeps: all below n₀, and the block at which the view lies -/
def KpV (n₀ Bv : Nat) (W W' : World) : Prop := Below n₀ W W' ∧ W'.heap[Bv]? = W.heap[Bv]?

set_option maxRecDepth 100000 in
set_option maxHeartbeats 2000000 in
theorem log_of1_in (l Bl Bv n₀ : Nat) (A : Option Addr) (c : Nat) (xs : List S37) (now width : Int) {p : S37 → Prop} (hp : ∀ x ∈ xs, p x) (J Jx : List (Subtype p) → World → Prop) (w0 : World) (hn₀ : n₀ = w0.heap.size)
    (hC : Kd.C k37 w0 A xs.length xs)
    (hY : ∀ pre x W, J pre W → pre.length < xs.length → YieldAt Fence.wide 1 Try.prog l #[encE x.1] W fun e W' =>
      (e = .returned (.bool true) ∧ J (pre ++ [x]) W' ∧ KpV n₀ Bv W W') ∨ (e = .returned (.bool false) ∧ Jx (pre ++ [x]) W'))
    (W : World) (hW : Below n₀ w0 W) (hJA : AbidesFrom W.heap.size J) (hBl : W.cell? ⟨Bl, 0, none⟩ = some (.slice A xs.length c))
    (hBv : W.heap[Bv]? = some (.cells #[.int .i64 now, .int .i64 width] 53 (0, 0))) (h0 : J [] W) :
    CallsIn Fence.wide 2 Try.prog 24 #[.func (.yield l) #[] #[], .pointer (some ⟨Bl, 0, none⟩), .pointer (some ⟨Bv, 0, none⟩)] W fun e W' => (∃ v, e = .returned v) ∧
      ((∃ ys, vals ys = alive now width xs ∧ J ys W') ∨ (∃ pre, True ∧ Jx pre W')) := by
  refine callsIn_of_wp Try.func24 rfl trivial ?_ rfl
  simp only [Try.ntmps24, List.size_toArray, List.length_cons, List.length_nil, Nat.reduceAdd, Nat.reduceSub, Array.replicate_succ, Array.replicate_zero, List.push_toArray, List.append_toArray, List.nil_append, List.cons_append]
  gi_wp2
  gi_loopw [8] (fun i wr => ∃ k : Nat, k ≤ xs.length ∧ i = .int .i64 k ∧ (∃ ys : List (Subtype p), vals ys = alive now width (xs.take k) ∧ J ys wr) ∧ Below n₀ w0 wr ∧ W.heap.size ≤ wr.heap.size ∧ wr.heap[Bv]? = some (.cells #[.int .i64 now, .int .i64 width] 53 (0, 0)))
    (fun i _ => xs.length - (intOf i).toNat)
  case atStart => exact ⟨0, Nat.zero_le _, rfl, ⟨[], by simp [alive, vals], h0⟩, hW, Nat.le_refl _, hBv⟩
  case round =>
    obtain ⟨k, hk, rfl, ⟨ys, hys, hJs⟩, hB, hsz, hV⟩ := hrel
    have HY := Aside0.mk hys
    clear hys
    have hmax : xs.length ≤ 9223372036854775807 := hC.2.1
    by_cases hlt : k < xs.length
    · have hCr : Kd.C k37 wr A xs.length xs := Kd.C_below hC (hn₀ ▸ hB)
      obtain ⟨ad, rfl, hx0, hx1⟩ := at_T37 hCr k (by omega) (by omega)
      obtain ⟨x, hx⟩ : ∃ x, x = rd_T37 xs k := ⟨_, rfl⟩
      rw [← hx] at hx0 hx1
      have hxg : x = xs.getD k z37 := hx
      have hpx : p x := hp x (by rw [hxg, List.getD_eq_getElem?_getD, List.getElem?_eq_getElem hlt]; exact List.getElem_mem _)
      have hVa : (wr.alloc (.cells #[.int .i64 x.f0, .int .i64 x.f1] 37)).heap[Bv]? = some (.cells #[.int .i64 now, .int .i64 width] 53 (0, 0)) := (Below.heap_alloc wr _ Bv (blk_lt hV)).trans hV
      have hv0 : (wr.alloc (.cells #[.int .i64 x.f0, .int .i64 x.f1] 37)).cell? ⟨Bv, 0, none⟩ = some (.int .i64 now) := (blk_cell hVa 0).trans rfl
      have hv1 : (wr.alloc (.cells #[.int .i64 x.f0, .int .i64 x.f1] 37)).cell? ⟨Bv, 1, none⟩ = some (.int .i64 width) := (blk_cell hVa 1).trans rfl
      simp only [Int.toNat_natCast] at hx0 hx1
      have hts := alive_take now width xs k hlt
      rw [← hxg] at hts
      have HT := Aside0.mk hts
      clear hts hx hxg
      cases hs : seesB now width x with
      | true =>
        have HS := Aside0.mk hs
        clear hs
        gi_wp2_with fail
        refine ⟨trivial, (callsIn_wide.2 (log_sees.calls now width x _)).mono ?_⟩
        rw [HS.out]
        rintro e w' ⟨rfl, hb⟩
        have hJ' : J ys w' := hJA _ wr w' none hJs (World.grownBy.trans (World.grownBy_alloc wr _ none) (grown_of_below hb none)) (by simp)
        have hV' : w'.heap[Bv]? = some (.cells #[.int .i64 now, .int .i64 width] 53 (0, 0)) := (hb.block _ (blk_lt hVa)).trans hVa
        have hB' : Below n₀ w0 w' := hB.trans (((Below.refl _ wr).alloc (by rw [hn₀]; exact (hn₀ ▸ hB).size) _).trans (hb.mono (by have := (hn₀ ▸ hB).size; simp; omega)))
        have hsz' : wr.heap.size + 1 ≤ w'.heap.size := by have := hb.size; simpa using this
        have hlen : ys.length < xs.length := by
          have h0 : ys.length = (alive now width (xs.take k)).length := by rw [← HY.out, vals_length]
          have h1 := List.length_filter_le (seesB now width) (xs.take k)
          have h2 : (xs.take k).length ≤ k := by rw [List.length_take]; omega
          unfold alive at h0
          omega
        obtain ⟨fn, tmps, assign, body, hy, hR⟩ := hY ys ⟨x, hpx⟩ w' hJ' hlen
        dsimp only at hy
        have hN : w'.heap[wr.heap.size]? = some (.cells #[.int .i64 x.f0, .int .i64 x.f1] 37 (0, 0)) := (hb.block _ (by simp)).trans (heap_alloc_new wr _)
        have hn0 : w'.cell? ⟨wr.heap.size, 0, none⟩ = some (.int .i64 x.f0) := (blk_cell hN 0).trans rfl
        have hn1 : w'.cell? ⟨wr.heap.size, 1, none⟩ = some (.int .i64 x.f1) := (blk_cell hN 1).trans rfl
        unfold encE at hy
        have HV := Aside0.mk hV'
        clear hV'
        gi_wp2
        refine hR.mono ?_
        rintro e W3 (⟨rfl, hJ3, hk3, hv3⟩ | ⟨rfl, hJx3⟩)
        · gi_wp2
          go_roundw
          case rel => exact ⟨k + 1, by omega, by simp, ⟨ys ++ [⟨x, hpx⟩], by rw [HT.out, if_pos HS.out, vals_snoc, HY.out], hJ3⟩, hB'.trans hk3, by have := hk3.size; omega, hv3.trans HV.out⟩
          case measure => simp [intOf]; omega
        · gi_wp2
          refine bodyPost_ret (results_none rfl _ _ _) rfl ?_
          exact ⟨⟨_, rfl⟩, .inr ⟨_, trivial, hJx3⟩⟩
      | false =>
        have HS := Aside0.mk hs
        clear hs
        gi_wp2_with fail
        refine ⟨trivial, (callsIn_wide.2 (log_sees.calls now width x _)).mono ?_⟩
        rw [HS.out]
        rintro e w' ⟨rfl, hb⟩
        have hJ' : J ys w' := hJA _ wr w' none hJs (World.grownBy.trans (World.grownBy_alloc wr _ none) (grown_of_below hb none)) (by simp)
        have hV' : w'.heap[Bv]? = some (.cells #[.int .i64 now, .int .i64 width] 53 (0, 0)) := (hb.block _ (blk_lt hVa)).trans hVa
        have hB' : Below n₀ w0 w' := hB.trans (((Below.refl _ wr).alloc (by rw [hn₀]; exact (hn₀ ▸ hB).size) _).trans (hb.mono (by have := (hn₀ ▸ hB).size; simp; omega)))
        have hsz' : wr.heap.size + 1 ≤ w'.heap.size := by have := hb.size; simpa using this
        have HV := Aside0.mk hV'
        clear hV'
        gi_wp2
        refine ⟨fun _ h => (by cases h), ?_⟩
        gi_wp2
        go_roundw
        case rel => exact ⟨k + 1, by omega, by simp, ⟨ys, by rw [HT.out, if_neg (by rw [HS.out]; simp)]; exact HY.out, hJ'⟩, hB', by omega, HV.out⟩
        case measure => simp [intOf]; omega
    · obtain rfl : k = xs.length := by omega
      gi_wp2
      go_end0
      exact ⟨⟨_, rfl⟩, .inl ⟨ys, by rw [HY.out, List.take_length], hJs⟩⟩
end

/-! ### log_view_of: function 20 (given) -/
section
open Go.Shelf
attribute [local go_sem] Oper.semAt_some
set_option maxHeartbeats 1000000 in
theorem log_of_in (now width : Int) (A : Option Addr) (n c : Nat) (w : World) :
    CallsIn Fence.wide 2 Try.prog 20 #[.agg #[.int .i64 now, .int .i64 width], .slice A n c] w fun e w' => e = .returned (.func (.func 24) #[] #[.pointer (some ⟨w.heap.size + 1, 0, none⟩), .pointer (some ⟨w.heap.size, 0, none⟩)]) ∧ w' = (w.alloc (.cells #[.int .i64 now, .int .i64 width] 53)).alloc (.cells #[.slice A n c] 22) := by
  refine callsIn_of_wp Try.func20 rfl trivial ?_ rfl
  simp only [Try.ntmps20, List.size_toArray, List.length_cons, List.length_nil, Nat.reduceAdd, Nat.reduceSub, Array.replicate_succ, Array.replicate_zero, List.push_toArray, List.append_toArray, List.nil_append, List.cons_append]
  gi_wp2
  go_ret
  exact ⟨rfl, rfl⟩

theorem log_of_stops (Bl Bv : Nat) (A : Option Addr) (c : Nat) (xs : List S37) (now width : Int) {p : S37 → Prop} (hp : ∀ x ∈ xs, p x) (w0 w : World) (hC : Kd.C k37 w0 A xs.length xs) (hW : Below w0.heap.size w0 w) (hBl' : Bl < w.heap.size)
    (hBl : w.cell? ⟨Bl, 0, none⟩ = some (.slice A xs.length c)) (hBv : w.heap[Bv]? = some (.cells #[.int .i64 now, .int .i64 width] 53 (0, 0))) :
    SeqStopsK Fence.wide 2 Try.prog 24 #[.pointer (some ⟨Bl, 0, none⟩), .pointer (some ⟨Bv, 0, none⟩)] (fun x : Subtype p => #[encE x.1]) (KpV w0.heap.size Bv) (fun ys => vals ys = alive now width xs) (fun _ => True) xs.length w :=
  fun l J Jx W hWW hJ hJx hY h0 =>
    log_of1_in l Bl Bv w0.heap.size A c xs now width hp J Jx w0 rfl hC hY W (hW.trans (hWW.mono hW.size)) hJ ((hWW.cell (p := ⟨Bl, 0, none⟩) hBl').trans hBl) ((hWW.block _ (blk_lt hBv)).trans hBv) h0

theorem KpV.trans_ {n₀ Bv : Nat} {A B C : World} (h : KpV n₀ Bv A B) (k : KpV n₀ Bv B C) : KpV n₀ Bv A C := ⟨h.1.trans k.1, k.2.trans h.2⟩
theorem KpV.book {n₀ Bv s : Nat} (h1 : n₀ ≤ s) (h2 : Bv < s) : ∀ (W : World) (l : Nat) (o o' : Obj), s ≤ l → W.heap[l]? = some o → o.isCells = false → o.isWalk = false → KpV n₀ Bv W (W.putObj l o') :=
  fun W l o o' hl ho hc hw => ⟨(Below.refl n₀ W).grown (grownBy_putObj' W l o') (by have := (Array.getElem?_eq_some_iff.1 ho).1; omega) (fun k e => by cases e; omega), World.putObj_heap_other (by omega)⟩

def cellsE (l : List S37) : List Value := l.flatMap fun x => [.int .i64 x.f0, .int .i64 x.f1]
theorem cellsE_snoc (l : List S37) (x : S37) : cellsE (l ++ [x]) = cellsE l ++ [.int .i64 x.f0, .int .i64 x.f1] := by simp [cellsE]

theorem reps_cellsE {w : World} {base : Nat} {ok : Nat → Prop} (xs : List S37) : Reps (k37.M w base ok) 2 xs (cellsE xs) := by
  have key : ∀ (n : Nat) (ys : List S37), ys.length = n → Reps (k37.M w base ok) 2 ys (cellsE ys) := by
    intro n
    induction n with
    | zero => intro ys h; obtain rfl := List.eq_nil_of_length_eq_zero h; exact Reps.none _ _
    | succ n ih =>
      intro ys h
      have hne : ys ≠ [] := by intro h'; rw [h'] at h; cases h
      rw [← List.dropLast_concat_getLast hne, cellsE_snoc]
      exact Reps.snoc (ih _ (by simp [h])) (k37_mkM w base ok _) rfl
  exact key _ xs rfl
theorem R_of_own {w : World} {base : Nat} {v : Value} (xs : List S37) (h : w.ownsRow base 37 2 v xs.length (cellsE xs)) : Kd.R k37 37 w base (fun _ => True) v xs :=
  ⟨fun _ _ => trivial, cellsE xs, h, reps_cellsE xs⟩
theorem blk_own {β : Type} (B : Nat) (cs : Array Value) (t : TypeId) : Own (fun (_ : β) W => W.heap[B]? = some (.cells cs t (0, 0))) := fun s X Y row hs hg hrow =>
  blk_grown hs hg (fun e' => by obtain ⟨o, ho, hc⟩ := hrow B e'.symm; rw [hs] at ho; cases ho; cases hc)
end

/-! ### log_nodes: function 23 (given) -/
section
open Go.Shelf
attribute [local go_sem] Oper.semAt_some
/-- how many notes of a node are in a list -/
def cntE (l : List S37) (k : Int) : Nat := (l.filter fun x => x.f0 == k).length
theorem cntE_le (l : List S37) (k : Int) : cntE l k ≤ l.length := List.length_filter_le _ _
theorem cntE_snoc (l : List S37) (x : S37) (k : Int) : cntE (l ++ [x]) k = if x.f0 = k then cntE l k + 1 else cntE l k := by
  unfold cntE
  rw [List.filter_append]
  by_cases h : x.f0 = k <;> simp [List.filter_cons, h]
def keyE (l : List S37) (k : Lit) : Bool := l.any fun x => (Lit.int .i64 x.f0).sameKey k
/-- the map has, of each node, how many notes there are of it -/
structure Tallies (D : DataW Unit) (l : List S37) : Prop where
  tidy : Maps.Tidy D
  at_ : ∀ k : Int, D.atKey (.int .i64 k) (.lit (.int .i64 0)) = .lit (.int .i64 (cntE l k))
  has_ : ∀ k : Lit, Maps.has D k = keyE l k
theorem Tallies.nil : Tallies (.map []) [] := ⟨Maps.tidy_empty, fun k => rfl, fun k => rfl⟩
theorem isKey_int (k : Int) : WideAt.IsKeyLit (.int .i64 k) := by simp [WideAt.IsKeyLit]
theorem Tallies.snoc {D : DataW Unit} {l : List S37} (h : Tallies D l) (x : S37) (hl : l.length < 9223372036854775807) (c : Int) (hc : D.atKey (.int .i64 x.f0) (.lit (.int .i64 0)) = .lit (.int .i64 c)) :
    Tallies (D.put (.int .i64 x.f0) (.lit (.int .i64 (wrap64 (c + 1))))) (l ++ [x]) := by
  have hat := h.at_ x.f0
  rw [hc] at hat
  have hc' : c = cntE l x.f0 := by injection hat with h1; injection h1
  have hle := cntE_le l x.f0
  have hw : wrap64 (c + 1) = (cntE l x.f0 + 1 : Nat) := by unfold wrap64; omega
  refine ⟨h.tidy.put (isKey_int _) _, fun k => ?_, fun k => ?_⟩
  · rw [cntE_snoc]
    by_cases hk : x.f0 = k
    · subst hk
      rw [if_pos rfl, Maps.atKey_put_same h.tidy.isMap (isKey_int _), hw]
    · rw [if_neg hk, Maps.atKey_put_other (by intro he; injection he with _ he; exact hk he.symm), h.at_]
  · by_cases hk : k = .int .i64 x.f0
    · subst hk
      rw [Maps.has_put_same h.tidy.isMap (isKey_int _)]
      simp [keyE, Lit.sameKey]
    · rw [Maps.has_put_other hk, h.has_]
      simp [keyE, Maps.sameKey_ne (Ne.symm hk)]

set_option maxRecDepth 100000 in
set_option maxHeartbeats 2000000 in
theorem log_nodes_in (A0 : Option Addr) (c0 : Nat) (l0 : List S37) (a1 a2 : Int) (w : World) (hr0 : Kd.C k37 w A0 l0.length l0) (hwf : ∀ x ∈ l0, (Lit.int .i64 x.f0).wf = true) :
    Calls Try.prog 23 #[.slice A0 l0.length c0, .int .i64 a1, .int .i64 a2] w fun e w' => ∃ (D : DataW Unit), e = .returned (.map (some w.heap.size)) ∧ w'.ownsMap Try.prog 3 (plainElem Try.prog 3) w.heap.size l0.length D ∧ Tallies D (alive a1 a2 l0) ∧ Below w.heap.size w w' := by
  have hmax : l0.length ≤ 9223372036854775807 := hr0.2.1
  have hmm := @run_makeMap Try.prog
  rw [← callsIn_wide (n := 3)]
  refine callsIn_of_wp_marks Try.func23 rfl trivial ?_ rfl
  simp only [Try.ntmps23, List.size_toArray, List.length_cons, List.length_nil, Nat.reduceAdd, Nat.reduceSub, Array.replicate_succ, Array.replicate_zero, List.push_toArray, List.append_toArray, List.nil_append, List.cons_append]
  gi_wp2_with (refine ⟨trivial, ?_⟩; gi_at_call 20; refine (log_of_in a1 a2 A0 l0.length c0 _).mono ?_; rintro e w' ⟨rfl, rfl⟩)
  have hB0 : Below w.heap.size w ((((w.alloc (.map #[] 0)).alloc (.cells #[.map (some w.heap.size)] 57)).alloc (.cells #[.int .i64 a1, .int .i64 a2] 53)).alloc (.cells #[.slice A0 l0.length c0] 22)) := below_alloc (below_alloc (below_alloc (below_alloc (Below.refl _ _) _) _) _) _
  have hsz : ((((w.alloc (.map #[] 0)).alloc (.cells #[.map (some w.heap.size)] 57)).alloc (.cells #[.int .i64 a1, .int .i64 a2] 53)).alloc (.cells #[.slice A0 l0.length c0] 22)).heap.size = w.heap.size + 4 := by simp
  have hm0 : World.ownsMap ((((w.alloc (.map #[] 0)).alloc (.cells #[.map (some w.heap.size)] 57)).alloc (.cells #[.int .i64 a1, .int .i64 a2] 53)).alloc (.cells #[.slice A0 l0.length c0] 22)) Try.prog 3 (plainElem (H := Unit) Try.prog 3) w.heap.size 0 (.map []) := ((((World.ownsMap_made w Try.prog 3 (plainElem (H := Unit) Try.prog 3)).alloc _).alloc _).alloc _)
  have bO : Boxed ((((w.alloc (.map #[] 0)).alloc (.cells #[.map (some w.heap.size)] 57)).alloc (.cells #[.int .i64 a1, .int .i64 a2] 53)).alloc (.cells #[.slice A0 l0.length c0] 22)) (w.heap.size + 1) 57 (.map (some w.heap.size)) := by
    have := ((Boxed.new (w.alloc (.map #[] 0)) 57 (.map (some w.heap.size))).alloc (.cells #[.int .i64 a1, .int .i64 a2] 53)).alloc (.cells #[.slice A0 l0.length c0] 22)
    simpa using this
  have bV : ((((w.alloc (.map #[] 0)).alloc (.cells #[.map (some w.heap.size)] 57)).alloc (.cells #[.int .i64 a1, .int .i64 a2] 53)).alloc (.cells #[.slice A0 l0.length c0] 22)).heap[w.heap.size + 1 + 1]? = some (.cells #[.int .i64 a1, .int .i64 a2] 53 (0, 0)) :=
    (Below.heap_alloc _ _ _ (by simp)).trans (by have := heap_alloc_new ((w.alloc (.map #[] 0)).alloc (.cells #[.map (some w.heap.size)] 57)) (.cells #[.int .i64 a1, .int .i64 a2] 53); simpa using this)
  have bL : Boxed ((((w.alloc (.map #[] 0)).alloc (.cells #[.map (some w.heap.size)] 57)).alloc (.cells #[.int .i64 a1, .int .i64 a2] 53)).alloc (.cells #[.slice A0 l0.length c0] 22)) (w.heap.size + 1 + 1 + 1) 22 (.slice A0 l0.length c0) := by
    have := Boxed.new (((w.alloc (.map #[] 0)).alloc (.cells #[.map (some w.heap.size)] 57)).alloc (.cells #[.int .i64 a1, .int .i64 a2] 53)) 22 (.slice A0 l0.length c0)
    simpa using this
  obtain ⟨W0, hW0⟩ : ∃ W0, ((((w.alloc (.map #[] 0)).alloc (.cells #[.map (some w.heap.size)] 57)).alloc (.cells #[.int .i64 a1, .int .i64 a2] 53)).alloc (.cells #[.slice A0 l0.length c0] 22)) = W0 := ⟨_, rfl⟩
  rw [hW0] at hB0 hsz hm0 bO bV bL ⊢
  clear hW0
  refine wpIn_rangeFunc_ownH rfl (by omega) (gf := 24) (lb := #[.pointer (some ⟨w.heap.size + 1 + 1 + 1, 0, none⟩), .pointer (some ⟨w.heap.size + 1 + 1, 0, none⟩)]) rfl trivial (enters_of Try.func24 (by kernel_rfl) rfl)
    (log_of_stops (w.heap.size + 1 + 1 + 1) (w.heap.size + 1 + 1) A0 c0 l0 a1 a2 (p := fun x => (Lit.int .i64 x.f0).wf = true) hwf w W0 hr0 hB0 (by omega) bL.cell bV) KpV.trans_ (KpV.book (by omega) (by omega)) (Below.refl _ _) (fun _ => rfl)
    (fun pre W => ((∃ D : DataW Unit, W.ownsMap Try.prog 3 (plainElem Try.prog 3) w.heap.size pre.length D ∧ Tallies D (vals pre)) ∧ Boxed W (w.heap.size + 1) 57 (.map (some w.heap.size))) ∧ W.heap[w.heap.size + 1 + 1]? = some (.cells #[.int .i64 a1, .int .i64 a2] 53 (0, 0)) ∧ Below w.heap.size w W)
    (fun _ _ _ => False)
    (OwnFrom.and (OwnFrom.and (fun s A B row hs hg hr => by obtain ⟨D, h1, h2⟩ := hs; exact ⟨D, h1.kept hg (fun e => by have := (hr _ e.symm).1; omega), h2⟩) (Own.from (boxed_own _ _ _) _)) (OwnFrom.and (Own.from (blk_own _ _ _) _) (ownFrom_below (Nat.le_refl _) (by omega))))
    (fun _ _ _ _ _ hs _ _ => hs)
    ⟨⟨⟨_, hm0, Tallies.nil⟩, bO⟩, bV, hB0⟩
    (fun x a' W => ∃ Bx, W.heap[Bx]? = some (.cells #[.int .i64 x.1.f0, .int .i64 x.1.f1] 37 (0, 0)) ∧ a' = { tmps := #[.slice A0 l0.length c0, .int .i64 a1, .int .i64 a2, undef, undef, undef, .map none, .pointer (some ⟨w.heap.size + 1, 0, none⟩), .pointer (some ⟨Bx, 0, none⟩), .map (some w.heap.size), .int .i64 a1, .int .i64 a2, .agg #[.int .i64 a1, .int .i64 a2], .slice A0 l0.length c0, .func (.func 24) #[] #[.pointer (some ⟨w.heap.size + 1 + 1 + 1, 0, none⟩), .pointer (some ⟨w.heap.size + 1 + 1, 0, none⟩)], .agg #[.int .i64 x.1.f0, .int .i64 x.1.f1], undef, undef, undef, undef, undef, undef], defers := [] })
    (fun x a' _ X Y row hs hg hr => by obtain ⟨Bx, h1, h2⟩ := hs; exact ⟨Bx, blk_own Bx _ _ () X Y row h1 hg (fun r e => (hr r e).2), h2⟩)
    ?assign ?body ?done ?stop
  case assign =>
    rintro l pre ⟨x, hx⟩ W K ⟨⟨⟨D, hown, hT⟩, hv⟩, hV, hB⟩ hK
    unfold encE
    gi_wp2
    exact hK _ _ ((KeepsOthers.alloc _ _).from _) ⟨(Below.refl _ W).alloc hB.size _, Below.heap_alloc W _ _ (blk_lt hV)⟩ ⟨⟨⟨D, hown.alloc _, hT⟩, hv.alloc _⟩, (Below.heap_alloc W _ _ (blk_lt hV)).trans hV, hB.alloc hB.size _⟩ ⟨W.heap.size, heap_alloc_new W _, rfl⟩
  case body =>
    rintro l pre ⟨x, hx⟩ a' W hl ⟨r, hr⟩ ⟨⟨⟨D, hown, hT⟩, hv⟩, hV, hB⟩ ⟨Bx, hX, rfl⟩ hlt
    have hc := hv.cell
    have hx0 : W.cell? ⟨Bx, 0, none⟩ = some (.int .i64 x.f0) := (blk_cell hX 0).trans rfl
    have hkey := Maps.keyOf_int_mk Try.underlying3 hx
    have HXX := Aside0.mk hX
    have HVV := Aside0.mk hV
    clear hX hV
    gi_wp2_with (first
      | (gi_at_lookup; refine wpListIn_lookup_own_int _ rfl _ _ 57 rfl 3 3 .i64 (Maps.int_keyed Try.underlying3) Try.underlying57 Try.underlying3 (Try.zeroValue3 _) w.heap.size pre.length _ rfl hown _ _ rfl hkey ?_; intro c hat hwc)
      | (gi_at_mapUpdate; refine wpListIn_mapUpdate_own _ rfl _ _ _ 57 rfl 3 3 (Maps.int_keyed Try.underlying3) Try.underlying57 _ w.heap.size pre.length _ rfl hown (by unfold maxLen; omega) _ _ _ rfl rfl hkey _ [] (plainElem_int Try.underlying3 (wrap64_wf _)) ?_; intro w1 hown1 hgrow1))
    obtain ⟨es, ck, hh, _⟩ := hown
    have hV1 := blk_grown HVV.out hgrow1 (by intro e; injection e; omega)
    have hT1 := hT.snoc x (by rw [vals_length]; omega) _ hat
    rw [← vals_snoc pre ⟨x, hx⟩] at hT1
    exact ⟨KeepsFrom.of_grownBy hgrow1 (fun j e => by cases e; omega), ⟨(Below.refl _ W).grown hgrow1 hB.size (fun k e => by cases e; exact Nat.le_refl _), hV1.trans HVV.out.symm⟩,
      ⟨⟨_, by rw [List.length_append]; exact hown1, hT1⟩, hv.kept hgrow1 (by intro e; injection e; omega)⟩, hV1, hB.grown hgrow1 hB.size (fun k e => by cases e; exact Nat.le_refl _)⟩
  case done =>
    rintro D ys W hD hys ⟨⟨⟨Dm, hown, hT⟩, hv⟩, hV, hB⟩ hK
    have hc := hv.cell
    rw [show ys.length = (vals ys).length from (vals_length ys).symm, hys] at hown
    rw [hys] at hT
    clear hys hV
    have hl : (alive a1 a2 l0).length ≤ l0.length := List.length_filter_le _ _
    gi_wp2
    refine ⟨by simp, .inl ⟨_, _, rfl, run_takeDeferred hK, ?_⟩⟩
    exact ⟨_, results_tmp rfl _ _ _, Dm, rfl, (hown.kept (grownBy_putObj' _ D _) (fun e => by cases e; omega)).mono hl, hT, hB.trans (belowK_b (w := w) (Nat.le_refl _) W D _ _ (by omega) hK rfl rfl)⟩
  case stop =>
    rintro D c pre W _ _ h _
    exact h.elim
end

/-! ### log_Of: function 19 (given) -/
section
/-- the nodes' numbers are whole numbers of Go's -/
def okE (l : List S37) : Bool := l.all fun x => (Lit.int .i64 x.f0).wf
def log_Of.f (l : List S37) (node now width : Int) : Option Int := if (okE l && (Lit.int .i64 node).wf) = true then some (cntE (alive now width l) node) else none
set_option maxHeartbeats 1000000 in
theorem log_Of.calls (A0 : Option Addr) (c0 : Nat) (l0 : List S37) (a1 a2 a3 : Int) (r : Int) (w : World) (hr0 : Kd.C k37 w A0 l0.length l0) (hc0 : l0.length ≤ c0) (h : log_Of.f l0 a1 a2 a3 = some r) :
    Calls Try.prog 19 #[.slice A0 l0.length c0, .int .i64 a1, .int .i64 a2, .int .i64 a3] w fun e w' => e = .returned (.int .i64 r) ∧ Below w.heap.size w w' := by
  unfold log_Of.f at h
  split at h
  · rename_i hok
    obtain rfl := Option.some.inj h
    clear h
    rw [Bool.and_eq_true] at hok
    obtain ⟨ho, hn⟩ := hok
    have hwf : ∀ x ∈ l0, (Lit.int .i64 x.f0).wf = true := fun x hx => List.all_eq_true.1 ho x hx
    have hkey := Maps.keyOf_int_mk Try.underlying3 hn
    have HW := Aside0.mk hwf
    clear hwf ho hn
    go_enter Try.func19, Try.ntmps19
    go_wp2_with fail
    refine (log_nodes_in A0 c0 l0 a2 a3 _ hr0 HW.out).mono ?_
    rintro e w' ⟨D, rfl, hown, hT, hB⟩
    have HT := Aside0.mk hT
    clear hT
    go_wp2_with (at_lookup; refine wpList_lookup_own_int _ rfl _ _ 57 rfl 3 3 .i64 (Maps.int_keyed Try.underlying3) Try.underlying57 Try.underlying3 (Try.zeroValue3 _) w.heap.size l0.length _ rfl hown _ _ rfl hkey ?_; intro c hat hwc)
    have hc := (HT.out.at_ a1).symm.trans hat
    obtain rfl : (cntE (alive a2 a3 l0) a1 : Int) = c := by injection hc with h1; injection h1
    go_ret
    exact ⟨rfl, hB⟩
  · cases h
end

/-! ### rate_rule_room: function 14 -/
def rate_rule_room.f (a0_0 : Int) (a0_1 : Int) (a0_2 : Int) (l1 : List (S37)) (a2 : Int) : Option (Int) := (log_Of.f l1 a2 a0_0 a0_1).bind fun t103 => (if t103 ≥ a0_2 then (some 0) else (some (wrap64 (a0_2 - t103))))
set_option maxHeartbeats 8000000 in
set_option maxRecDepth 100000 in
theorem rate_rule_room.calls (a0_0 : Int) (a0_1 : Int) (a0_2 : Int) (A1 : Option Addr) (c1 : Nat) (l1 : List (S37)) (a2 : Int) (r : Int) (w : World) (hr1 : Kd.C k37 w A1 l1.length l1) (hc1 : l1.length ≤ c1) (h : rate_rule_room.f a0_0 a0_1 a0_2 l1 a2 = some r) :
    Calls Try.prog 14 #[.agg #[.int .i64 a0_0, .int .i64 a0_1, .int .i64 a0_2], .slice A1 l1.length c1, .int .i64 a2] w fun e w' => e = .returned (.int .i64 r) ∧ Below w.heap.size w w' := by
  have hu41 := Try.underlying41
  have HR1 := Aside0.mk hr1
  have HC1 := Aside0.mk hc1
  clear hr1 hc1
  have HB := Aside0.mk (Below.refl w.heap.size w)
  have H : ((log_Of.f l1 a2 a0_0 a0_1).bind fun t103 => (if t103 ≥ a0_2 then (some 0) else (some (wrap64 (a0_2 - t103))))) = some r := h
  clear h
  replace H := Option.bind_eq_some_iff.mp H
  obtain ⟨t103, A40, H⟩ := H
  replace H : (if t103 ≥ a0_2 then (some 0) else (some (wrap64 (a0_2 - t103)))) = some r := H
  have A4 := Aside0.mk A40
  clear A40
  by_cases c5 : t103 ≥ a0_2
  · rw [if_pos c5] at H
    have c5b0 : decide (a0_2 ≤ t103) = true := decide_eq_true c5
    clear c5
    obtain rfl := Option.some.inj H
    go_enter Try.func14, Try.ntmps14
    go_wp2_with (first | ((with_reducible refine gate_dst (N := 3) rfl ?_); refine box_event ?hg (N := 3) ?hd (cs := #[.int .i64 a0_0, .int .i64 a0_1, .int .i64 a0_2]) (t := 41) ?hr ?_; (case hd => rfl); (case hg => rfl); (case hr => first | (go_simp; done) | (go_simp; rfl)); intro gb102 hg w6 hbox hb; have n0_ := Aside0.mk (below_step (by repeat (first | (with_reducible first | exact HB.out | apply below_alloc | apply pw_below_drewN | apply below_drew1) | exact HB.out)) hb); have n1_ := Aside0.mk (hbox); have n2_ := Aside0.mk ((by rw [hg]; exact (below_size (by repeat (first | (with_reducible first | exact HB.out | apply below_alloc | apply pw_below_drewN | apply below_drew1) | exact HB.out))) : w.heap.size ≤ gb102)); have n3_ := Aside0.mk ((by rw [hg]; exact (below_size (by repeat (first | (with_reducible first | exact HB.out | apply below_alloc | apply pw_below_drewN | apply below_drew1) | exact HB.out))) : w.heap.size ≤ gb102)); clear HB; have HB := n0_; have BK102 := n1_; have GW102 := n2_; have GE102 := n3_; clear n0_ n1_ n2_ n3_; clear hb hbox hg; have hcz7_0 : w6.cell? ⟨gb102, 0, none⟩ = some (.int .i64 a0_0) := (blk_cell BK102.out 0).trans rfl; have hcz7_1 : w6.cell? ⟨gb102, 1, none⟩ = some (.int .i64 a0_1) := (blk_cell BK102.out 1).trans rfl; have hcz7_2 : w6.cell? ⟨gb102, 2, none⟩ = some (.int .i64 a0_2) := (blk_cell BK102.out 2).trans rfl; have hfz7_0 := blk_frozen BK102.out 0; have hfz7_1 := blk_frozen BK102.out 1; have hfz7_2 := blk_frozen BK102.out 2) | ((with_reducible refine gate_callee (f := 19) rfl ?_); refine goesL_ (some 14) rfl rfl Try.func19 (by kernel_rfl) rfl #[.slice A1 l1.length c1, .int .i64 a2, .int .i64 a0_0, .int .i64 a0_1] rfl (by (try simp only [List.map_toArray, List.map_cons, List.map_nil]); first | done | rfl | (simp only [List.length_drop, List.length_take]; rfl)) ?_; (with_reducible refine (log_Of.calls _ _ l1 a2 a0_0 a0_1 t103 _ ?side1 ?side2 A4.out).mono ?_); (case side1 => repeat (first | exact (Kd.C_below HR1.out HB.out) | (with_reducible refine Kd.C_alloc ?_ _) | (with_reducible refine Kd.C_drewN ?_ _) | (with_reducible refine Kd.C_drew ?_))); (case side2 => exact HC1.out); rintro e w8 ⟨rfl, hb⟩; refine ⟨_, rfl, ?_⟩; have n0_ := Aside0.mk (blk_below (g := gb102) (o := .cells #[.int .i64 a0_0, .int .i64 a0_1, .int .i64 a0_2] 41 (0, 0)) (by (with_reducible repeat (first | refine blk_drewN ?_ _ | refine blk_drew ?_ | refine blk_alloc ?_ _)); exact BK102.out) hb); have n1_ := Aside0.mk (below_step (by repeat (first | (with_reducible first | exact HB.out | apply below_alloc | apply pw_below_drewN | apply below_drew1 | refine below_set ?_ GE102.out) | exact HB.out)) hb); clear BK102; clear HB; have BK102 := n0_; have HB := n1_; clear n0_ n1_; (try clear hb); (try clear hb2); (try clear hk); (try clear hi); have hcz9_0 : w8.cell? ⟨gb102, 0, none⟩ = some (.int .i64 a0_0) := (blk_cell BK102.out 0).trans rfl; have hcz9_1 : w8.cell? ⟨gb102, 1, none⟩ = some (.int .i64 a0_1) := (blk_cell BK102.out 1).trans rfl; have hcz9_2 : w8.cell? ⟨gb102, 2, none⟩ = some (.int .i64 a0_2) := (blk_cell BK102.out 2).trans rfl; have hfz9_0 := blk_frozen BK102.out 0; have hfz9_1 := blk_frozen BK102.out 1; have hfz9_2 := blk_frozen BK102.out 2))
    go_ret
    exact ⟨by first | rfl | (simp [errW_none, errW_some] <;> rfl) | (simp [*, errW_none, errW_some] <;> rfl), by repeat (first | (with_reducible first | exact HB.out | apply below_alloc | apply pw_below_drewN | apply below_drew1 | refine below_set ?_ GE102.out) | exact HB.out)⟩
  · rw [if_neg c5] at H
    have c5b0 : decide (a0_2 ≤ t103) = false := decide_eq_false c5
    clear c5
    obtain rfl := Option.some.inj H
    go_enter Try.func14, Try.ntmps14
    go_wp2_with (first | ((with_reducible refine gate_dst (N := 3) rfl ?_); refine box_event ?hg (N := 3) ?hd (cs := #[.int .i64 a0_0, .int .i64 a0_1, .int .i64 a0_2]) (t := 41) ?hr ?_; (case hd => rfl); (case hg => rfl); (case hr => first | (go_simp; done) | (go_simp; rfl)); intro gb102 hg w10 hbox hb; have n0_ := Aside0.mk (below_step (by repeat (first | (with_reducible first | exact HB.out | apply below_alloc | apply pw_below_drewN | apply below_drew1) | exact HB.out)) hb); have n1_ := Aside0.mk (hbox); have n2_ := Aside0.mk ((by rw [hg]; exact (below_size (by repeat (first | (with_reducible first | exact HB.out | apply below_alloc | apply pw_below_drewN | apply below_drew1) | exact HB.out))) : w.heap.size ≤ gb102)); have n3_ := Aside0.mk ((by rw [hg]; exact (below_size (by repeat (first | (with_reducible first | exact HB.out | apply below_alloc | apply pw_below_drewN | apply below_drew1) | exact HB.out))) : w.heap.size ≤ gb102)); clear HB; have HB := n0_; have BK102 := n1_; have GW102 := n2_; have GE102 := n3_; clear n0_ n1_ n2_ n3_; clear hb hbox hg; have hcz11_0 : w10.cell? ⟨gb102, 0, none⟩ = some (.int .i64 a0_0) := (blk_cell BK102.out 0).trans rfl; have hcz11_1 : w10.cell? ⟨gb102, 1, none⟩ = some (.int .i64 a0_1) := (blk_cell BK102.out 1).trans rfl; have hcz11_2 : w10.cell? ⟨gb102, 2, none⟩ = some (.int .i64 a0_2) := (blk_cell BK102.out 2).trans rfl; have hfz11_0 := blk_frozen BK102.out 0; have hfz11_1 := blk_frozen BK102.out 1; have hfz11_2 := blk_frozen BK102.out 2) | ((with_reducible refine gate_callee (f := 19) rfl ?_); refine goesL_ (some 14) rfl rfl Try.func19 (by kernel_rfl) rfl #[.slice A1 l1.length c1, .int .i64 a2, .int .i64 a0_0, .int .i64 a0_1] rfl (by (try simp only [List.map_toArray, List.map_cons, List.map_nil]); first | done | rfl | (simp only [List.length_drop, List.length_take]; rfl)) ?_; (with_reducible refine (log_Of.calls _ _ l1 a2 a0_0 a0_1 t103 _ ?side1 ?side2 A4.out).mono ?_); (case side1 => repeat (first | exact (Kd.C_below HR1.out HB.out) | (with_reducible refine Kd.C_alloc ?_ _) | (with_reducible refine Kd.C_drewN ?_ _) | (with_reducible refine Kd.C_drew ?_))); (case side2 => exact HC1.out); rintro e w12 ⟨rfl, hb⟩; refine ⟨_, rfl, ?_⟩; have n0_ := Aside0.mk (blk_below (g := gb102) (o := .cells #[.int .i64 a0_0, .int .i64 a0_1, .int .i64 a0_2] 41 (0, 0)) (by (with_reducible repeat (first | refine blk_drewN ?_ _ | refine blk_drew ?_ | refine blk_alloc ?_ _)); exact BK102.out) hb); have n1_ := Aside0.mk (below_step (by repeat (first | (with_reducible first | exact HB.out | apply below_alloc | apply pw_below_drewN | apply below_drew1 | refine below_set ?_ GE102.out) | exact HB.out)) hb); clear BK102; clear HB; have BK102 := n0_; have HB := n1_; clear n0_ n1_; (try clear hb); (try clear hb2); (try clear hk); (try clear hi); have hcz13_0 : w12.cell? ⟨gb102, 0, none⟩ = some (.int .i64 a0_0) := (blk_cell BK102.out 0).trans rfl; have hcz13_1 : w12.cell? ⟨gb102, 1, none⟩ = some (.int .i64 a0_1) := (blk_cell BK102.out 1).trans rfl; have hcz13_2 : w12.cell? ⟨gb102, 2, none⟩ = some (.int .i64 a0_2) := (blk_cell BK102.out 2).trans rfl; have hfz13_0 := blk_frozen BK102.out 0; have hfz13_1 := blk_frozen BK102.out 1; have hfz13_2 := blk_frozen BK102.out 2))
    go_ret
    exact ⟨by first | rfl | (simp [errW_none, errW_some] <;> rfl) | (simp [*, errW_none, errW_some] <;> rfl), by repeat (first | (with_reducible first | exact HB.out | apply below_alloc | apply pw_below_drewN | apply below_drew1 | refine below_set ?_ GE102.out) | exact HB.out)⟩

/-! ### log_Purge: function 15 (given) -/
section
open Go.Shelf
attribute [local go_sem] Oper.semAt_some
def log_Purge.f (l : List S37) (now width : Int) : Option (List S37) := if l.length < 8796093022208 then some (alive now width l) else none
set_option maxRecDepth 100000 in
set_option maxHeartbeats 2000000 in
theorem log_Purge.calls (A0 : Option Addr) (c0 : Nat) (l0 : List S37) (a1 a2 : Int) (r : List S37) (w : World) (hr0 : Kd.C k37 w A0 l0.length l0) (hc0 : l0.length ≤ c0) (h : log_Purge.f l0 a1 a2 = some r) :
    Calls Try.prog 15 #[.slice A0 l0.length c0, .int .i64 a1, .int .i64 a2] w fun e w' => ∃ v0_ : Value, e = .returned (v0_) ∧ Kd.R k37 37 w' w.heap.size (fun _ => True) v0_ r ∧ Below w.heap.size w w' := by
  unfold log_Purge.f at h
  split at h
  · rename_i hlim
    obtain rfl := Option.some.inj h
    clear h
    obtain ⟨i0, hi, hz0, hz1, hz2⟩ := info_parts info37
    rw [← callsIn_wide (n := 3)]
    refine callsIn_of_wp_marks Try.func15 rfl trivial ?_ rfl
    simp only [Try.ntmps15, List.size_toArray, List.length_cons, List.length_nil, Nat.reduceAdd, Nat.reduceSub, Array.replicate_succ, Array.replicate_zero, List.push_toArray, List.append_toArray, List.nil_append, List.cons_append]
    gi_wp2_with (refine ⟨trivial, ?_⟩; gi_at_call 20; refine (log_of_in a1 a2 A0 l0.length c0 _).mono ?_; rintro e w' ⟨rfl, rfl⟩)
    have hB0 : Below w.heap.size w (((w.alloc (.cells #[.slice none 0 0] 22)).alloc (.cells #[.int .i64 a1, .int .i64 a2] 53)).alloc (.cells #[.slice A0 l0.length c0] 22)) := below_alloc (below_alloc (below_alloc (Below.refl _ _) _) _) _
    have hsz : (((w.alloc (.cells #[.slice none 0 0] 22)).alloc (.cells #[.int .i64 a1, .int .i64 a2] 53)).alloc (.cells #[.slice A0 l0.length c0] 22)).heap.size = w.heap.size + 3 := by simp
    have bO := ((Boxed.new w 22 (.slice none 0 0)).alloc (.cells #[.int .i64 a1, .int .i64 a2] 53)).alloc (.cells #[.slice A0 l0.length c0] 22)
    have bV : (((w.alloc (.cells #[.slice none 0 0] 22)).alloc (.cells #[.int .i64 a1, .int .i64 a2] 53)).alloc (.cells #[.slice A0 l0.length c0] 22)).heap[w.heap.size + 1]? = some (.cells #[.int .i64 a1, .int .i64 a2] 53 (0, 0)) :=
      (Below.heap_alloc _ _ _ (by simp)).trans (by have := heap_alloc_new (w.alloc (.cells #[.slice none 0 0] 22)) (.cells #[.int .i64 a1, .int .i64 a2] 53); simpa using this)
    have bL := Boxed.new ((w.alloc (.cells #[.slice none 0 0] 22)).alloc (.cells #[.int .i64 a1, .int .i64 a2] 53)) 22 (.slice A0 l0.length c0)
    simp only [World.size_alloc] at bL
    obtain ⟨W0, hW0⟩ : ∃ W0, (((w.alloc (.cells #[.slice none 0 0] 22)).alloc (.cells #[.int .i64 a1, .int .i64 a2] 53)).alloc (.cells #[.slice A0 l0.length c0] 22)) = W0 := ⟨_, rfl⟩
    rw [hW0] at hB0 hsz bO bV bL ⊢
    clear hW0
    refine wpIn_rangeFunc_ownH rfl (by omega) (gf := 24) (lb := #[.pointer (some ⟨w.heap.size + 1 + 1, 0, none⟩), .pointer (some ⟨w.heap.size + 1, 0, none⟩)]) rfl trivial (enters_of Try.func24 (by kernel_rfl) rfl)
      (log_of_stops (w.heap.size + 1 + 1) (w.heap.size + 1) A0 c0 l0 a1 a2 (p := fun _ => True) (fun _ _ => trivial) w W0 hr0 hB0 (by omega) bL.cell bV) KpV.trans_ (KpV.book (by omega) (by omega)) (Below.refl _ _) (fun _ => rfl)
      (fun pre W => (∃ v, Boxed W w.heap.size 22 v ∧ W.ownsRow w.heap.size 37 2 v pre.length (cellsE (vals pre)) ∧ True) ∧ W.heap[w.heap.size + 1]? = some (.cells #[.int .i64 a1, .int .i64 a2] 53 (0, 0)) ∧ Below w.heap.size w W)
      (fun _ _ _ => False)
      (OwnFrom.and (Own.from (holdsRow_own w.heap.size w.heap.size 22 37 2 (fun pre : List (Subtype fun _ : S37 => True) => List.length pre) (fun pre => cellsE (vals pre)) (fun _ _ => True)) _) (OwnFrom.and (Own.from (blk_own _ _ _) _) (ownFrom_below (Nat.le_refl _) (by omega))))
      (fun _ _ _ _ _ hs _ _ => hs)
      ⟨⟨_, bO, World.ownsRow_nil _ _ _ _, trivial⟩, bV, hB0⟩
      (fun x a' W => ∃ Bx, W.heap[Bx]? = some (.cells #[.int .i64 x.1.f0, .int .i64 x.1.f1] 37 (0, 0)) ∧ a' = { tmps := #[.slice A0 l0.length c0, .int .i64 a1, .int .i64 a2, undef, undef, undef, .slice none 0 0, .pointer (some ⟨w.heap.size, 0, none⟩), .pointer (some ⟨Bx, 0, none⟩), .int .i64 a1, .int .i64 a2, .agg #[.int .i64 a1, .int .i64 a2], .slice A0 l0.length c0, .func (.func 24) #[] #[.pointer (some ⟨w.heap.size + 1 + 1, 0, none⟩), .pointer (some ⟨w.heap.size + 1, 0, none⟩)], .agg #[.int .i64 x.1.f0, .int .i64 x.1.f1], undef, undef, undef, undef, undef], defers := [] })
      (fun x a' _ X Y row hs hg hr => by obtain ⟨Bx, h1, h2⟩ := hs; exact ⟨Bx, blk_own Bx _ _ () X Y row h1 hg (fun r e => (hr r e).2), h2⟩)
      ?assign ?body ?done ?stop
    case assign =>
      rintro l pre ⟨x, hx⟩ W K ⟨⟨v, hv, hrow, _⟩, hV, hB⟩ hK
      unfold encE
      gi_wp2
      exact hK _ _ ((KeepsOthers.alloc _ _).from _) ⟨(Below.refl _ W).alloc hB.size _, Below.heap_alloc W _ _ (blk_lt hV)⟩ ⟨⟨v, hv.alloc _, hrow.alloc _, trivial⟩, (Below.heap_alloc W _ _ (blk_lt hV)).trans hV, hB.alloc hB.size _⟩ ⟨W.heap.size, heap_alloc_new W _, rfl⟩
    case body =>
      rintro l pre ⟨x, hx⟩ a' W hl ⟨r, hr⟩ ⟨⟨v, hv, hrow, _⟩, hV, hB⟩ ⟨Bx, hX, rfl⟩ hlt
      have hc := hv.cell
      have hx0 : W.cell? ⟨Bx, 0, none⟩ = some (.int .i64 x.f0) := (blk_cell hX 0).trans rfl
      have hx1 : W.cell? ⟨Bx, 1, none⟩ = some (.int .i64 x.f1) := (blk_cell hX 1).trans rfl
      have HXX := Aside0.mk hX
      have HVV := Aside0.mk hV
      clear hX hV
      gi_wp2_with (gi_at_builtin; refine wpListIn_append_own _ rfl _ _ 22 rfl w.heap.size 37 i0 (.agg #[.int .i64 0, .int .i64 0]) 2 16 Try.underlying22 hi hz0 hz1 hz2 rfl (by decide) _ _ _ rfl (hrow.alloc _) ⟨W.heap.size, 0, none⟩ 1 1 [.int .i64 x.f0, .int .i64 x.f1] rfl rfl (World.news_of_block (cs := #[.int .i64 x.f0, .int .i64 x.f1]) (t := 37) (fr := (0, 0)) (heap_alloc_new W _)) (by simp [Value.oneCell']) (by unfold maxLen; omega) (by omega) (by have := hB.size; simp; omega) ?_; intro v' w1 hown' hgrow _; obtain ⟨g', cap', rfl⟩ := ownsRow_succ hown'; obtain ⟨hv1, hv2, hr2, hk2, hb2⟩ := hv.appended (by decide) hrow hB.size (Nat.le_refl _) hown' hgrow; have hc1 := hv1.cell; have hf1 := hv1.frozen)
      have hVa : (W.alloc (.cells #[.int .i64 x.f0, .int .i64 x.f1] 37)).heap[w.heap.size + 1]? = some (.cells #[.int .i64 a1, .int .i64 a2] 53 (0, 0)) := (Below.heap_alloc W _ _ (blk_lt HVV.out)).trans HVV.out
      have hV1 := blk_grown hVa hgrow (own_ne hrow HVV.out (by decide))
      have hV2 := blk_far (p := ⟨w.heap.size, 0, none⟩) hV1 (by simp) (Value.slice (some ⟨g', 0, none⟩) (pre.length + 1) cap')
      have hr3 : (w1.setCell ⟨w.heap.size, 0, none⟩ (Value.slice (some ⟨g', 0, none⟩) (pre.length + 1) cap')).ownsRow w.heap.size 37 2 (Value.slice (some ⟨g', 0, none⟩) (pre.length + 1) cap') (pre ++ [(⟨x, hx⟩ : Subtype fun _ : S37 => True)]).length (cellsE (vals (pre ++ [(⟨x, hx⟩ : Subtype fun _ : S37 => True)]))) := by
        rw [vals_snoc, cellsE_snoc]
        simpa using hr2
      first
        | exact ⟨hk2.from _, ⟨hb2, hV2.trans HVV.out.symm⟩, ⟨_, hv2, hr3, trivial⟩, hV2, hB.trans hb2⟩
        | exact ⟨hk2.from _, ⟨hb2, hV2.trans HVV.out.symm⟩, ⟨_, hv2, hr3⟩, hV2, hB.trans hb2⟩
    case done =>
      rintro D ys W hD hys ⟨⟨v, hv, hrow, _⟩, hV, hB⟩ hK
      rw [show ys.length = (vals ys).length from (vals_length ys).symm, hys] at hrow
      clear hys
      have hc := hv.cell
      clear hV
      gi_wp2
      refine ⟨by simp, .inl ⟨_, _, rfl, run_takeDeferred hK, ?_⟩⟩
      exact ⟨_, results_tmp rfl _ _ _, v, rfl, R_of_own _ (ownsRow_putObj hrow _ hK rfl), hB.trans (belowK_b (w := w) (Nat.le_refl _) W D _ _ (by omega) hK rfl rfl)⟩
    case stop =>
      rintro D c pre W _ _ h _
      exact h.elim
  · cases h
end

/-! ### log_Add: function 16 -/
def log_Add.f (l0 : List (S37)) (a1_0 : Int) (a1_1 : Int) : Option ((List (S37)) × Bool) := if 0 ≤ ((mn (l0.length : Int) 64) + 1) then (if ((mn (l0.length : Int) 64) + 1 : Int).toNat ≤ 17592186044416 then ((some ([] : List (S37))).bind fun y105 => (if (l0.length : Int) ≥ 64 then (if 0 ≤ (wrap64 ((wrap64 ((l0.length : Int) - 64)) + 1)) then (if (wrap64 ((wrap64 ((l0.length : Int) - 64)) + 1)) ≤ (l0.length : Int) then ((some (l0.drop ((wrap64 ((wrap64 ((l0.length : Int) - 64)) + 1)) : Int).toNat : List (S37))).bind fun y108 => (if y105.length + y108.length < 8796093022208 then ((some (y105 ++ y108 : List (S37))).bind fun y112 => (if y112.length < 8796093022208 then (some ((y112 ++ [(⟨a1_0, a1_1⟩ : S37)]), decide ((l0.length : Int) ≥ 64))) else (none))) else (none))) else (none)) else (none)) else (if y105.length + l0.length < 8796093022208 then ((some (y105 ++ l0 : List (S37))).bind fun y118 => (if y118.length < 8796093022208 then (some ((y118 ++ [(⟨a1_0, a1_1⟩ : S37)]), decide ((l0.length : Int) ≥ 64))) else (none))) else (none)))) else (none)) else (none)
set_option maxHeartbeats 8000000 in
set_option maxRecDepth 100000 in
theorem log_Add.calls (A0 : Option Addr) (c0 : Nat) (l0 : List (S37)) (a1_0 : Int) (a1_1 : Int) (r1 : List (S37)) (r2 : Bool) (w : World) (hr0 : Kd.C k37 w A0 l0.length l0) (hc0 : l0.length ≤ c0) (h : log_Add.f l0 a1_0 a1_1 = some (r1, r2)) :
    Calls Try.prog 16 #[.slice A0 l0.length c0, .agg #[.int .i64 a1_0, .int .i64 a1_1]] w fun e w' => ∃ v0_ : Value, e = .returned (.tuple #[v0_, .bool r2]) ∧ Kd.R k37 37 w' w.heap.size (fun _ => True) v0_ r1 ∧ Below w.heap.size w w' := by
  have hu37 := Try.underlying37
  have HR0 := Aside0.mk hr0
  have HC0 := Aside0.mk hc0
  clear hr0 hc0
  have HB := Aside0.mk (Below.refl w.heap.size w)
  have H : (if 0 ≤ ((mn (l0.length : Int) 64) + 1) then (if ((mn (l0.length : Int) 64) + 1 : Int).toNat ≤ 17592186044416 then ((some ([] : List (S37))).bind fun y105 => (if (l0.length : Int) ≥ 64 then (if 0 ≤ (wrap64 ((wrap64 ((l0.length : Int) - 64)) + 1)) then (if (wrap64 ((wrap64 ((l0.length : Int) - 64)) + 1)) ≤ (l0.length : Int) then ((some (l0.drop ((wrap64 ((wrap64 ((l0.length : Int) - 64)) + 1)) : Int).toNat : List (S37))).bind fun y108 => (if y105.length + y108.length < 8796093022208 then ((some (y105 ++ y108 : List (S37))).bind fun y112 => (if y112.length < 8796093022208 then (some ((y112 ++ [(⟨a1_0, a1_1⟩ : S37)]), decide ((l0.length : Int) ≥ 64))) else (none))) else (none))) else (none)) else (none)) else (if y105.length + l0.length < 8796093022208 then ((some (y105 ++ l0 : List (S37))).bind fun y118 => (if y118.length < 8796093022208 then (some ((y118 ++ [(⟨a1_0, a1_1⟩ : S37)]), decide ((l0.length : Int) ≥ 64))) else (none))) else (none)))) else (none)) else (none)) = some (r1, r2) := h
  clear h
  obtain ⟨ji3, hji3⟩ : ∃ j_ : Int, (mn (l0.length : Int) 64) = j_ := ⟨_, rfl⟩
  replace H : (if 0 ≤ ((ji3) + 1) then (if ((ji3) + 1 : Int).toNat ≤ 17592186044416 then ((some ([] : List (S37))).bind fun y105 => (if (l0.length : Int) ≥ 64 then (if 0 ≤ (wrap64 ((wrap64 ((l0.length : Int) - 64)) + 1)) then (if (wrap64 ((wrap64 ((l0.length : Int) - 64)) + 1)) ≤ (l0.length : Int) then ((some (l0.drop ((wrap64 ((wrap64 ((l0.length : Int) - 64)) + 1)) : Int).toNat : List (S37))).bind fun y108 => (if y105.length + y108.length < 8796093022208 then ((some (y105 ++ y108 : List (S37))).bind fun y112 => (if y112.length < 8796093022208 then (some ((y112 ++ [(⟨a1_0, a1_1⟩ : S37)]), decide ((l0.length : Int) ≥ 64))) else (none))) else (none))) else (none)) else (none)) else (if y105.length + l0.length < 8796093022208 then ((some (y105 ++ l0 : List (S37))).bind fun y118 => (if y118.length < 8796093022208 then (some ((y118 ++ [(⟨a1_0, a1_1⟩ : S37)]), decide ((l0.length : Int) ≥ 64))) else (none))) else (none)))) else (none)) else (none)) = some (r1, r2) := by first | (rw [hji3] at H; exact H) | (simp only [hji3] at H ⊢; exact H)
  (try (have hji3h : ji3 ≤ 64 := by (rw [← hji3]; unfold mn; (repeat' split) <;> omega)))
  (try (have hji3g : ji3 ≤ 64 := by omega))
  (try (have hji3l : 0 ≤ ji3 := by (rw [← hji3]; unfold mn; (repeat' split) <;> omega)))
  (try (have hji3m : 0 ≤ ji3 := by omega))
  have hji3_ : (if 64 < (l0.length : Int) then 64 else (l0.length : Int)) = ji3 := hji3
  obtain ⟨ji4, hji4⟩ : ∃ j_ : Int, ((ji3) + 1) = j_ := ⟨_, rfl⟩
  replace H : (if 0 ≤ (ji4) then (if (ji4 : Int).toNat ≤ 17592186044416 then ((some ([] : List (S37))).bind fun y105 => (if (l0.length : Int) ≥ 64 then (if 0 ≤ (wrap64 ((wrap64 ((l0.length : Int) - 64)) + 1)) then (if (wrap64 ((wrap64 ((l0.length : Int) - 64)) + 1)) ≤ (l0.length : Int) then ((some (l0.drop ((wrap64 ((wrap64 ((l0.length : Int) - 64)) + 1)) : Int).toNat : List (S37))).bind fun y108 => (if y105.length + y108.length < 8796093022208 then ((some (y105 ++ y108 : List (S37))).bind fun y112 => (if y112.length < 8796093022208 then (some ((y112 ++ [(⟨a1_0, a1_1⟩ : S37)]), decide ((l0.length : Int) ≥ 64))) else (none))) else (none))) else (none)) else (none)) else (if y105.length + l0.length < 8796093022208 then ((some (y105 ++ l0 : List (S37))).bind fun y118 => (if y118.length < 8796093022208 then (some ((y118 ++ [(⟨a1_0, a1_1⟩ : S37)]), decide ((l0.length : Int) ≥ 64))) else (none))) else (none)))) else (none)) else (none)) = some (r1, r2) := by first | (rw [hji4] at H; exact H) | (simp only [hji4] at H ⊢; exact H)
  by_cases c5 : 0 ≤ (ji4)
  · rw [if_pos c5] at H
    have c5b0 := eq_true c5
    have c5b1 : decide (0 ≤ (ji4)) = true := decide_eq_true c5
    clear c5
    by_cases c6 : (ji4 : Int).toNat ≤ 17592186044416
    · rw [if_pos c6] at H
      have c6b0 := eq_true c6
      have c6b1 : decide ((ji4 : Int).toNat ≤ 17592186044416) = true := decide_eq_true c6
      clear c6
      obtain ⟨y105, hy105⟩ : ∃ y_ : List (S37), y_ = ([]) := ⟨_, rfl⟩
      replace H : (if (l0.length : Int) ≥ 64 then (if 0 ≤ (wrap64 ((wrap64 ((l0.length : Int) - 64)) + 1)) then (if (wrap64 ((wrap64 ((l0.length : Int) - 64)) + 1)) ≤ (l0.length : Int) then ((some (l0.drop ((wrap64 ((wrap64 ((l0.length : Int) - 64)) + 1)) : Int).toNat : List (S37))).bind fun y108 => (if y105.length + y108.length < 8796093022208 then ((some (y105 ++ y108 : List (S37))).bind fun y112 => (if y112.length < 8796093022208 then (some ((y112 ++ [(⟨a1_0, a1_1⟩ : S37)]), decide ((l0.length : Int) ≥ 64))) else (none))) else (none))) else (none)) else (none)) else (if y105.length + l0.length < 8796093022208 then ((some (y105 ++ l0 : List (S37))).bind fun y118 => (if y118.length < 8796093022208 then (some ((y118 ++ [(⟨a1_0, a1_1⟩ : S37)]), decide ((l0.length : Int) ≥ 64))) else (none))) else (none))) = some (r1, r2) := by first | (rw [hy105]; with_reducible exact H) | (have H2_ := (Option.bind_some _ _).symm.trans H; rw [hy105]; with_reducible exact H2_) | (have H2_ := (Option.bind_some _ _).symm.trans H; with_reducible exact H2_) | with_reducible exact H | (rw [hy105]; exact H) | exact H
      have Ny105 := Aside0.mk hy105
      clear hy105
      by_cases c7 : (l0.length : Int) ≥ 64
      · rw [if_pos c7] at H
        have c7b0 : decide (64 ≤ (l0.length : Int)) = true := decide_eq_true c7
        have c7b1 : decide (64 ≤ l0.length) = true := decide_eq_true (by omega)
        clear c7
        obtain ⟨ji8, hji8⟩ : ∃ j_ : Int, (wrap64 ((wrap64 ((l0.length : Int) - 64)) + 1)) = j_ := ⟨_, rfl⟩
        replace H : (if 0 ≤ (ji8) then (if (ji8) ≤ (l0.length : Int) then ((some (l0.drop ((ji8) : Int).toNat : List (S37))).bind fun y108 => (if y105.length + y108.length < 8796093022208 then ((some (y105 ++ y108 : List (S37))).bind fun y112 => (if y112.length < 8796093022208 then (some ((y112 ++ [(⟨a1_0, a1_1⟩ : S37)]), decide ((l0.length : Int) ≥ 64))) else (none))) else (none))) else (none)) else (none)) = some (r1, r2) := by first | (rw [hji8] at H; exact H) | (simp only [hji8] at H ⊢; exact H)
        have hji8w : (IntKind.i64.wrap ((wrap64 ((l0.length : Int) - 64)) + 1)) = ji8 := (i64_w _).trans hji8
        by_cases c9 : 0 ≤ (ji8)
        · rw [if_pos c9] at H
          have c9b0 := eq_true c9
          have c9b1 : decide (0 ≤ (ji8)) = true := decide_eq_true c9
          clear c9
          by_cases c10 : (ji8) ≤ (l0.length : Int)
          · rw [if_pos c10] at H
            have c10b0 := eq_true c10
            have c10b1 : decide ((ji8) ≤ (l0.length : Int)) = true := decide_eq_true c10
            clear c10
            obtain ⟨y108, hy108⟩ : ∃ y_ : List (S37), y_ = (l0.drop ((ji8) : Int).toNat) := ⟨_, rfl⟩
            replace H : (if y105.length + y108.length < 8796093022208 then ((some (y105 ++ y108 : List (S37))).bind fun y112 => (if y112.length < 8796093022208 then (some ((y112 ++ [(⟨a1_0, a1_1⟩ : S37)]), decide ((l0.length : Int) ≥ 64))) else (none))) else (none)) = some (r1, r2) := by first | (rw [hy108]; with_reducible exact H) | (have H2_ := (Option.bind_some _ _).symm.trans H; rw [hy108]; with_reducible exact H2_) | (have H2_ := (Option.bind_some _ _).symm.trans H; with_reducible exact H2_) | with_reducible exact H | (rw [hy108]; exact H) | exact H
            have Ny108 := Aside0.mk hy108
            clear hy108
            by_cases c11 : y105.length + y108.length < 8796093022208
            · rw [if_pos c11] at H
              have LMc11 := Aside0.mk c11
              clear c11
              obtain ⟨y112, hy112⟩ : ∃ y_ : List (S37), y_ = (y105 ++ y108) := ⟨_, rfl⟩
              replace H : (if y112.length < 8796093022208 then (some ((y112 ++ [(⟨a1_0, a1_1⟩ : S37)]), decide ((l0.length : Int) ≥ 64))) else (none)) = some (r1, r2) := by first | (rw [hy112]; with_reducible exact H) | (have H2_ := (Option.bind_some _ _).symm.trans H; rw [hy112]; with_reducible exact H2_) | (have H2_ := (Option.bind_some _ _).symm.trans H; with_reducible exact H2_) | with_reducible exact H | (rw [hy112]; exact H) | exact H
              have Ny112 := Aside0.mk hy112
              clear hy112
              by_cases c12 : y112.length < 8796093022208
              · rw [if_pos c12] at H
                have LMc12 := Aside0.mk c12
                clear c12
                obtain ⟨y115, hy115⟩ : ∃ y_ : List (S37), y_ = (y112 ++ [(⟨a1_0, a1_1⟩ : S37)]) := ⟨_, rfl⟩
                replace H : (some (y115, decide ((l0.length : Int) ≥ 64))) = some (r1, r2) := by first | (rw [hy115]; with_reducible exact H) | (have H2_ := (Option.bind_some _ _).symm.trans H; rw [hy115]; with_reducible exact H2_) | (have H2_ := (Option.bind_some _ _).symm.trans H; with_reducible exact H2_) | with_reducible exact H | (rw [hy115]; exact H) | exact H
                have Ny115 := Aside0.mk hy115
                clear hy115
                simp only [Option.some.injEq, Prod.mk.injEq] at H
                obtain ⟨rfl, rfl⟩ := H
                go_enter Try.func16, Try.ntmps16
                go_wp2_with (first | ((with_reducible refine gate_dst (N := 3) rfl ?_); refine box_event ?hg (N := 3) ?hd (cs := #[.int .i64 a1_0, .int .i64 a1_1]) (t := 37) ?hr ?_; (case hd => rfl); (case hg => rfl); (case hr => first | (go_simp; done) | (go_simp; rfl)); intro gb104 hg w13 hbox hb; have n0_ := Aside0.mk (below_step (by repeat (first | (with_reducible first | exact HB.out | apply below_alloc | apply pw_below_drewN | apply below_drew1) | exact HB.out)) hb); have n1_ := Aside0.mk (hbox); have n2_ := Aside0.mk ((by rw [hg]; exact (below_size (by repeat (first | (with_reducible first | exact HB.out | apply below_alloc | apply pw_below_drewN | apply below_drew1) | exact HB.out))) : w.heap.size ≤ gb104)); have n3_ := Aside0.mk ((by rw [hg]; exact (below_size (by repeat (first | (with_reducible first | exact HB.out | apply below_alloc | apply pw_below_drewN | apply below_drew1) | exact HB.out))) : w.heap.size ≤ gb104)); clear HB; have HB := n0_; have BK104 := n1_; have GW104 := n2_; have GE104 := n3_; clear n0_ n1_ n2_ n3_; clear hb hbox hg) | ((with_reducible refine gate_dst (N := 13) rfl ?_); refine Kd.R_make0 k37 _ 37 rfl (N := 13) rfl 22 _ _ rfl ji4 rfl rfl Try.underlying22 (.agg #[(.int .i64 0), (.int .i64 0)]) 16 info37 (by omega) (ok := fun _ => True) trivial (of_decide_eq_true (by first | (with_reducible assumption) | assumption)) (Nat.le_trans (Nat.mul_le_mul_right _ (of_decide_eq_true (by first | (with_reducible assumption) | assumption) : ji4.toNat ≤ 17592186044416)) (by omega)) (Below.refl _ _) (Nat.le_refl _) ?_; intro v106 w14 ho15 hb hg_ hnew_; clear hg_ hnew_; (first | rw [← Ny105.out] at ho15 | (simp only [Int.reduceToNat] at ho15; rw [← Ny105.out] at ho15)); have n0_ := Aside0.mk (Kd.R_lower (Kd.R_newB ho15 (g := gb104) (o := .cells #[.int .i64 a1_0, .int .i64 a1_1] 37 (0, 0)) (by (with_reducible repeat (first | refine blk_drewN ?_ _ | refine blk_drew ?_ | refine blk_alloc ?_ _)); exact BK104.out)) (below_size (by repeat (first | (with_reducible first | exact HB.out | apply below_alloc | apply pw_below_drewN | apply below_drew1 | refine below_set ?_ GE104.out) | exact HB.out)))); have n1_ := Aside0.mk (blk_below (g := gb104) (o := .cells #[.int .i64 a1_0, .int .i64 a1_1] 37 (0, 0)) (by (with_reducible repeat (first | refine blk_drewN ?_ _ | refine blk_drew ?_ | refine blk_alloc ?_ _)); exact BK104.out) hb); have n2_ := Aside0.mk (below_step (by repeat (first | (with_reducible first | exact HB.out | apply below_alloc | apply pw_below_drewN | apply below_drew1 | refine below_set ?_ GE104.out) | exact HB.out)) hb); clear BK104; clear HB; have HO107 := n0_; have BK104 := n1_; have HB := n2_; clear n0_ n1_ n2_; clear hb ho15; have q16 : ((ji8) : Int) ≤ ((l0.length : Int) : Int) := of_decide_eq_true (by first | (with_reducible assumption) | assumption); obtain ⟨i016, hi016, _, hsz16, _⟩ := info_parts info37; have hroom16 : l0.length ≤ c0 := HC0.out; have hC16 : Kd.C k37 _ A0 l0.length l0 := HR0.out; have q016 : (0 : Int) ≤ ((ji8) : Int) := of_decide_eq_true (by first | (with_reducible assumption) | assumption); have hcut16 := cut_from (P := Try.prog) 22 37 .i64 Try.underlying22 hi016 2 hsz16 A0 l0.length c0 (ji8) q016 q16; have hr16 := Kd.C_drop (m := ((ji8) : Int).toNat) (c := c0) hC16 (by omega) hroom16; obtain ⟨A16, hA16⟩ : ∃ A1, A1 = (if c0 = ((ji8) : Int).toNat then A0 else (A0 : Option Addr).map (·.add (((ji8) : Int).toNat * 2))) := ⟨_, rfl⟩; obtain ⟨c16, hc16⟩ : ∃ c1, c1 = c0 - ((ji8) : Int).toNat := ⟨_, rfl⟩; have hy16 : y108.length = l0.length - ((ji8) : Int).toNat := (by rw [Ny108.out, List.length_drop] <;> omega); rw [show (l0).drop ((ji8) : Int).toNat = y108 from Ny108.out.symm] at hr16; replace hr16 : Kd.C k37 _ A16 y108.length y108 := (by rw [hA16]; exact hr16); rw [← hy16, ← hA16, ← hc16] at hcut16; have HR111 := Aside0.mk hr16; have HC111 := Aside0.mk (show y108.length ≤ c16 from by rw [hy16, hc16]; exact Nat.sub_le_sub_right hroom16 _); clear hr16 hC16 hroom16 hi016 hsz16 hc16; have KY16 := Aside0.mk hy16; have KA16 := Aside0.mk hA16; clear hy16 hA16; replace q16 := eq_true q16) | ((with_reducible refine gate_builtin (b := .append) (xs := #[.tmp 25, .tmp 26]) rfl ?_); at_builtin; refine Kd.R_append_rows k37 (w0 := w) w.heap.size rfl (.tmp 25) (.tmp 26) 22 37 (.agg #[(.int .i64 0), (.int .i64 0)]) 16 rfl Try.underlying22 info37 rfl (by decide) (by omega) v106 y105 y108 _ _ _ (fun k_ => k_ ≠ gb104) (fun _ => False) rfl rfl ?aO ?aR (fun _ _ h => h) (fun _ h => h.elim) ?aF ?aB ?aS ?aL ?_; (case aR => repeat (first | exact (Kd.C_below HR111.out HB.out) | (with_reducible refine Kd.C_alloc ?_ _) | (with_reducible refine Kd.C_drewN ?_ _) | (with_reducible refine Kd.C_drew ?_))); (case aB => exact (by repeat (first | (with_reducible first | exact HB.out | apply below_alloc | apply pw_below_drewN | apply below_drew1 | refine below_set ?_ GE104.out) | exact HB.out))); (case aF => exact (fun k_ hk => Kd.freshB (g := gb104) (o := .cells #[.int .i64 a1_0, .int .i64 a1_1] 37 (0, 0)) (by (with_reducible repeat (first | refine blk_drewN ?_ _ | refine blk_drew ?_ | refine blk_alloc ?_ _)); exact BK104.out) k_ hk)); (case aO => exact (by (with_reducible repeat (first | apply Kd.R_alloc | apply Kd.R_drewN | apply Kd.R_drew)); exact Kd.R_mono HO107.out (fun _ hk => hk.2))); (case aS => exact (below_size (by repeat (first | (with_reducible first | exact HB.out | apply below_alloc | apply pw_below_drewN | apply below_drew1 | refine below_set ?_ GE104.out) | exact HB.out)))); (case aL => have := LMc11.out; omega); intro v113 w17 ho hb hg hat; rw [← Ny112.out] at ho; have n0_ := Aside0.mk (blk_grown (g := gb104) (o := .cells #[.int .i64 a1_0, .int .i64 a1_1] 37 (0, 0)) (by (with_reducible repeat (first | refine blk_drewN ?_ _ | refine blk_drew ?_ | refine blk_alloc ?_ _)); exact BK104.out) hg (Kd.R_away HO107.out (fun _ hk => hk.2))); have n1_ := Aside0.mk (hb); have n2_ := Aside0.mk (ho); clear BK104; clear HB; clear HO107; have BK104 := n0_; have HB := n1_; have HO114 := n2_; clear n0_ n1_ n2_; clear ho hb hg hat; have hcz18_0 : w17.cell? ⟨gb104, 0, none⟩ = some (.int .i64 a1_0) := (blk_cell BK104.out 0).trans rfl; have hcz18_1 : w17.cell? ⟨gb104, 1, none⟩ = some (.int .i64 a1_1) := (blk_cell BK104.out 1).trans rfl; have hfz18_0 := blk_frozen BK104.out 0; have hfz18_1 := blk_frozen BK104.out 1) | ((with_reducible refine gate_builtin (b := .append) (xs := #[.tmp 28, .tmp 30]) rfl ?_); at_builtin; refine Kd.R_append k37 (w0 := w) w.heap.size rfl (.tmp 28) (.tmp 30) 22 37 (.agg #[(.int .i64 0), (.int .i64 0)]) 16 rfl Try.underlying22 info37 rfl (by decide) (by omega) v113 y112 (⟨a1_0, a1_1⟩ : S37) [.int .i64 a1_0, .int .i64 a1_1] (fun k_ => k_ ≠ gb104) (fun _ => False) rfl rfl ?aP (fun _ hk => hk.elim) ?aF ?aO ?aB ?aS ?aL ?_; (case aP => exact k37_mkM _ _ _ (⟨a1_0, a1_1⟩ : S37)); (case aB => exact (by repeat (first | (with_reducible first | exact HB.out | apply below_alloc | apply pw_below_drewN | apply below_drew1 | refine below_set ?_ GE104.out) | exact HB.out))); (case aF => exact (fun k_ hk => Kd.freshB (g := gb104) (o := .cells #[.int .i64 a1_0, .int .i64 a1_1] 37 (0, 0)) (by (with_reducible repeat (first | refine blk_drewN ?_ _ | refine blk_drew ?_ | refine blk_alloc ?_ _)); exact BK104.out) k_ hk)); (case aO => exact (by (with_reducible repeat (first | apply Kd.R_alloc | apply Kd.R_drewN | apply Kd.R_drew)); exact HO114.out)); (case aS => exact (below_size (by repeat (first | (with_reducible first | exact HB.out | apply below_alloc | apply pw_below_drewN | apply below_drew1 | refine below_set ?_ GE104.out) | exact HB.out)))); (case aL => have := LMc12.out; omega); intro v116 w19 ho hb hg hat; rw [← Ny115.out] at ho; have n0_ := Aside0.mk (blk_grown (g := gb104) (o := .cells #[.int .i64 a1_0, .int .i64 a1_1] 37 (0, 0)) (by (with_reducible repeat (first | refine blk_drewN ?_ _ | refine blk_drew ?_ | refine blk_alloc ?_ _)); exact BK104.out) hg (Kd.R_away HO114.out (fun _ hk => hk))); have n1_ := Aside0.mk (hb); have n2_ := Aside0.mk (ho); clear BK104; clear HB; clear HO114; have BK104 := n0_; have HB := n1_; have HO117 := n2_; clear n0_ n1_ n2_; clear ho hb hg hat))
                go_ret2
                exact ⟨_, by first | rfl | (simp [errW_none, errW_some] <;> rfl) | (simp only [← hji3, ← hji4, ← hji8]; first | rfl | (simp [errW_none, errW_some] <;> rfl)) | (simp [*, errW_none, errW_some] <;> rfl), by (with_reducible repeat (first | apply Kd.R_alloc | apply Kd.R_drewN | apply Kd.R_drew)); exact Kd.R_mono HO117.out (fun _ hk => trivial), by repeat (first | (with_reducible first | exact HB.out | apply below_alloc | apply pw_below_drewN | apply below_drew1 | refine below_set ?_ GE104.out) | exact HB.out)⟩
              · rw [if_neg c12] at H
                exact absurd H (by simp)
            · rw [if_neg c11] at H
              exact absurd H (by simp)
          · rw [if_neg c10] at H
            exact absurd H (by simp)
        · rw [if_neg c9] at H
          exact absurd H (by simp)
      · rw [if_neg c7] at H
        have c7b0 : decide (64 ≤ (l0.length : Int)) = false := decide_eq_false c7
        have c7b1 : decide (64 ≤ l0.length) = false := decide_eq_false (by omega)
        clear c7
        by_cases c20 : y105.length + l0.length < 8796093022208
        · rw [if_pos c20] at H
          have LMc20 := Aside0.mk c20
          clear c20
          obtain ⟨y118, hy118⟩ : ∃ y_ : List (S37), y_ = (y105 ++ l0) := ⟨_, rfl⟩
          replace H : (if y118.length < 8796093022208 then (some ((y118 ++ [(⟨a1_0, a1_1⟩ : S37)]), decide ((l0.length : Int) ≥ 64))) else (none)) = some (r1, r2) := by first | (rw [hy118]; with_reducible exact H) | (have H2_ := (Option.bind_some _ _).symm.trans H; rw [hy118]; with_reducible exact H2_) | (have H2_ := (Option.bind_some _ _).symm.trans H; with_reducible exact H2_) | with_reducible exact H | (rw [hy118]; exact H) | exact H
          have Ny118 := Aside0.mk hy118
          clear hy118
          by_cases c21 : y118.length < 8796093022208
          · rw [if_pos c21] at H
            have LMc21 := Aside0.mk c21
            clear c21
            obtain ⟨y121, hy121⟩ : ∃ y_ : List (S37), y_ = (y118 ++ [(⟨a1_0, a1_1⟩ : S37)]) := ⟨_, rfl⟩
            replace H : (some (y121, decide ((l0.length : Int) ≥ 64))) = some (r1, r2) := by first | (rw [hy121]; with_reducible exact H) | (have H2_ := (Option.bind_some _ _).symm.trans H; rw [hy121]; with_reducible exact H2_) | (have H2_ := (Option.bind_some _ _).symm.trans H; with_reducible exact H2_) | with_reducible exact H | (rw [hy121]; exact H) | exact H
            have Ny121 := Aside0.mk hy121
            clear hy121
            simp only [Option.some.injEq, Prod.mk.injEq] at H
            obtain ⟨rfl, rfl⟩ := H
            go_enter Try.func16, Try.ntmps16
            go_wp2_with (first | ((with_reducible refine gate_dst (N := 3) rfl ?_); refine box_event ?hg (N := 3) ?hd (cs := #[.int .i64 a1_0, .int .i64 a1_1]) (t := 37) ?hr ?_; (case hd => rfl); (case hg => rfl); (case hr => first | (go_simp; done) | (go_simp; rfl)); intro gb104 hg w22 hbox hb; have n0_ := Aside0.mk (below_step (by repeat (first | (with_reducible first | exact HB.out | apply below_alloc | apply pw_below_drewN | apply below_drew1) | exact HB.out)) hb); have n1_ := Aside0.mk (hbox); have n2_ := Aside0.mk ((by rw [hg]; exact (below_size (by repeat (first | (with_reducible first | exact HB.out | apply below_alloc | apply pw_below_drewN | apply below_drew1) | exact HB.out))) : w.heap.size ≤ gb104)); have n3_ := Aside0.mk ((by rw [hg]; exact (below_size (by repeat (first | (with_reducible first | exact HB.out | apply below_alloc | apply pw_below_drewN | apply below_drew1) | exact HB.out))) : w.heap.size ≤ gb104)); clear HB; have HB := n0_; have BK104 := n1_; have GW104 := n2_; have GE104 := n3_; clear n0_ n1_ n2_ n3_; clear hb hbox hg) | ((with_reducible refine gate_dst (N := 13) rfl ?_); refine Kd.R_make0 k37 _ 37 rfl (N := 13) rfl 22 _ _ rfl ji4 rfl rfl Try.underlying22 (.agg #[(.int .i64 0), (.int .i64 0)]) 16 info37 (by omega) (ok := fun _ => True) trivial (of_decide_eq_true (by first | (with_reducible assumption) | assumption)) (Nat.le_trans (Nat.mul_le_mul_right _ (of_decide_eq_true (by first | (with_reducible assumption) | assumption) : ji4.toNat ≤ 17592186044416)) (by omega)) (Below.refl _ _) (Nat.le_refl _) ?_; intro v106 w23 ho24 hb hg_ hnew_; clear hg_ hnew_; (first | rw [← Ny105.out] at ho24 | (simp only [Int.reduceToNat] at ho24; rw [← Ny105.out] at ho24)); have n0_ := Aside0.mk (Kd.R_lower (Kd.R_newB ho24 (g := gb104) (o := .cells #[.int .i64 a1_0, .int .i64 a1_1] 37 (0, 0)) (by (with_reducible repeat (first | refine blk_drewN ?_ _ | refine blk_drew ?_ | refine blk_alloc ?_ _)); exact BK104.out)) (below_size (by repeat (first | (with_reducible first | exact HB.out | apply below_alloc | apply pw_below_drewN | apply below_drew1 | refine below_set ?_ GE104.out) | exact HB.out)))); have n1_ := Aside0.mk (blk_below (g := gb104) (o := .cells #[.int .i64 a1_0, .int .i64 a1_1] 37 (0, 0)) (by (with_reducible repeat (first | refine blk_drewN ?_ _ | refine blk_drew ?_ | refine blk_alloc ?_ _)); exact BK104.out) hb); have n2_ := Aside0.mk (below_step (by repeat (first | (with_reducible first | exact HB.out | apply below_alloc | apply pw_below_drewN | apply below_drew1 | refine below_set ?_ GE104.out) | exact HB.out)) hb); clear BK104; clear HB; have HO107 := n0_; have BK104 := n1_; have HB := n2_; clear n0_ n1_ n2_; clear hb ho24) | ((with_reducible refine gate_builtin (b := .append) (xs := #[.tmp 25, .tmp 26]) rfl ?_); at_builtin; refine Kd.R_append_rows k37 (w0 := w) w.heap.size rfl (.tmp 25) (.tmp 26) 22 37 (.agg #[(.int .i64 0), (.int .i64 0)]) 16 rfl Try.underlying22 info37 rfl (by decide) (by omega) v106 y105 l0 _ _ _ (fun k_ => k_ ≠ gb104) (fun _ => False) rfl rfl ?aO ?aR (fun _ _ h => h) (fun _ h => h.elim) ?aF ?aB ?aS ?aL ?_; (case aR => repeat (first | exact (Kd.C_below HR0.out HB.out) | (with_reducible refine Kd.C_alloc ?_ _) | (with_reducible refine Kd.C_drewN ?_ _) | (with_reducible refine Kd.C_drew ?_))); (case aB => exact (by repeat (first | (with_reducible first | exact HB.out | apply below_alloc | apply pw_below_drewN | apply below_drew1 | refine below_set ?_ GE104.out) | exact HB.out))); (case aF => exact (fun k_ hk => Kd.freshB (g := gb104) (o := .cells #[.int .i64 a1_0, .int .i64 a1_1] 37 (0, 0)) (by (with_reducible repeat (first | refine blk_drewN ?_ _ | refine blk_drew ?_ | refine blk_alloc ?_ _)); exact BK104.out) k_ hk)); (case aO => exact (by (with_reducible repeat (first | apply Kd.R_alloc | apply Kd.R_drewN | apply Kd.R_drew)); exact Kd.R_mono HO107.out (fun _ hk => hk.2))); (case aS => exact (below_size (by repeat (first | (with_reducible first | exact HB.out | apply below_alloc | apply pw_below_drewN | apply below_drew1 | refine below_set ?_ GE104.out) | exact HB.out)))); (case aL => have := LMc20.out; omega); intro v119 w25 ho hb hg hat; rw [← Ny118.out] at ho; have n0_ := Aside0.mk (blk_grown (g := gb104) (o := .cells #[.int .i64 a1_0, .int .i64 a1_1] 37 (0, 0)) (by (with_reducible repeat (first | refine blk_drewN ?_ _ | refine blk_drew ?_ | refine blk_alloc ?_ _)); exact BK104.out) hg (Kd.R_away HO107.out (fun _ hk => hk.2))); have n1_ := Aside0.mk (hb); have n2_ := Aside0.mk (ho); clear BK104; clear HB; clear HO107; have BK104 := n0_; have HB := n1_; have HO120 := n2_; clear n0_ n1_ n2_; clear ho hb hg hat; have hcz26_0 : w25.cell? ⟨gb104, 0, none⟩ = some (.int .i64 a1_0) := (blk_cell BK104.out 0).trans rfl; have hcz26_1 : w25.cell? ⟨gb104, 1, none⟩ = some (.int .i64 a1_1) := (blk_cell BK104.out 1).trans rfl; have hfz26_0 := blk_frozen BK104.out 0; have hfz26_1 := blk_frozen BK104.out 1) | ((with_reducible refine gate_builtin (b := .append) (xs := #[.tmp 28, .tmp 30]) rfl ?_); at_builtin; refine Kd.R_append k37 (w0 := w) w.heap.size rfl (.tmp 28) (.tmp 30) 22 37 (.agg #[(.int .i64 0), (.int .i64 0)]) 16 rfl Try.underlying22 info37 rfl (by decide) (by omega) v119 y118 (⟨a1_0, a1_1⟩ : S37) [.int .i64 a1_0, .int .i64 a1_1] (fun k_ => k_ ≠ gb104) (fun _ => False) rfl rfl ?aP (fun _ hk => hk.elim) ?aF ?aO ?aB ?aS ?aL ?_; (case aP => exact k37_mkM _ _ _ (⟨a1_0, a1_1⟩ : S37)); (case aB => exact (by repeat (first | (with_reducible first | exact HB.out | apply below_alloc | apply pw_below_drewN | apply below_drew1 | refine below_set ?_ GE104.out) | exact HB.out))); (case aF => exact (fun k_ hk => Kd.freshB (g := gb104) (o := .cells #[.int .i64 a1_0, .int .i64 a1_1] 37 (0, 0)) (by (with_reducible repeat (first | refine blk_drewN ?_ _ | refine blk_drew ?_ | refine blk_alloc ?_ _)); exact BK104.out) k_ hk)); (case aO => exact (by (with_reducible repeat (first | apply Kd.R_alloc | apply Kd.R_drewN | apply Kd.R_drew)); exact HO120.out)); (case aS => exact (below_size (by repeat (first | (with_reducible first | exact HB.out | apply below_alloc | apply pw_below_drewN | apply below_drew1 | refine below_set ?_ GE104.out) | exact HB.out)))); (case aL => have := LMc21.out; omega); intro v122 w27 ho hb hg hat; rw [← Ny121.out] at ho; have n0_ := Aside0.mk (blk_grown (g := gb104) (o := .cells #[.int .i64 a1_0, .int .i64 a1_1] 37 (0, 0)) (by (with_reducible repeat (first | refine blk_drewN ?_ _ | refine blk_drew ?_ | refine blk_alloc ?_ _)); exact BK104.out) hg (Kd.R_away HO120.out (fun _ hk => hk))); have n1_ := Aside0.mk (hb); have n2_ := Aside0.mk (ho); clear BK104; clear HB; clear HO120; have BK104 := n0_; have HB := n1_; have HO123 := n2_; clear n0_ n1_ n2_; clear ho hb hg hat))
            go_ret2
            exact ⟨_, by first | rfl | (simp [errW_none, errW_some] <;> rfl) | (simp only [← hji3, ← hji4]; first | rfl | (simp [errW_none, errW_some] <;> rfl)) | (simp [*, errW_none, errW_some] <;> rfl), by (with_reducible repeat (first | apply Kd.R_alloc | apply Kd.R_drewN | apply Kd.R_drew)); exact Kd.R_mono HO123.out (fun _ hk => trivial), by repeat (first | (with_reducible first | exact HB.out | apply below_alloc | apply pw_below_drewN | apply below_drew1 | refine below_set ?_ GE104.out) | exact HB.out)⟩
          · rw [if_neg c21] at H
            exact absurd H (by simp)
        · rw [if_neg c20] at H
          exact absurd H (by simp)
    · rw [if_neg c6] at H
      exact absurd H (by simp)
  · rw [if_neg c5] at H
    exact absurd H (by simp)

/-! ### ring_Put: function 17 -/
def ring_Put.f (a0 : Int) : Option (Int) := (ring_put.f a0).bind fun t124 => (some t124)
set_option maxHeartbeats 8000000 in
set_option maxRecDepth 100000 in
theorem ring_Put.calls (a0 : Int) (r : Int) (w : World) (h : ring_Put.f a0 = some r) :
    Calls Try.prog 17 #[.int .i64 a0] w fun e w' => e = .returned (.int .i64 r) ∧ Drawn0 w w' := by
  have H : ((ring_put.f a0).bind fun t124 => (some t124)) = some r := h
  clear h
  replace H := Option.bind_eq_some_iff.mp H
  obtain ⟨t124, A20, H⟩ := H
  replace H : (some t124) = some r := H
  have A2 := Aside0.mk A20
  clear A20
  obtain rfl := Option.some.inj H
  go_enter Try.func17, Try.ntmps17
  go_wp2_with (first | ((with_reducible refine gate_callee (f := 21) rfl ?_); refine goesL_ (some 4) rfl rfl Try.func21 (by kernel_rfl) rfl #[.int .i64 a0] rfl (by (try simp only [List.map_toArray, List.map_cons, List.map_nil]); first | done | rfl | (simp only [List.length_drop, List.length_take]; rfl)) ?_; (with_reducible refine (ring_put.calls a0 t124 _ A2.out).mono ?_); rintro e w' ⟨rfl, ⟨nd, rfl⟩⟩; refine ⟨_, rfl, ?_⟩))
  go_ret
  exact ⟨by first | rfl | (simp; done) | (simp [*]; done), by repeat (first | exact Drawn0.refl _ | apply Drawn0.step)⟩

/-! ### rate_rule_take: function 12 -/
def rate_rule_take.f (a0_0 : Int) (a0_1 : Int) (a0_2 : Int) (l1 : List (S37)) (a2 : Int) : Option ((List (S37)) × Int) := (log_Purge.f l1 a0_0 a0_1).bind fun t126 => ((rate_rule_room.f a0_0 a0_1 a0_2 t126 a2).bind fun t129 => (if t129 = 0 then (some (t126, 17)) else ((ring_Put.f a0_0).bind fun t130 => ((log_Add.f t126 a2 t130).bind fun bt131 => (if bt131.2 = true then (some (bt131.1, 9)) else (some (bt131.1, 0)))))))
set_option maxHeartbeats 8000000 in
set_option maxRecDepth 100000 in
theorem rate_rule_take.calls (a0_0 : Int) (a0_1 : Int) (a0_2 : Int) (A1 : Option Addr) (c1 : Nat) (l1 : List (S37)) (a2 : Int) (r1 : List (S37)) (r2 : Int) (w : World) (hr1 : Kd.C k37 w A1 l1.length l1) (hc1 : l1.length ≤ c1) (h : rate_rule_take.f a0_0 a0_1 a0_2 l1 a2 = some (r1, r2)) :
    Calls Try.prog 12 #[.agg #[.int .i64 a0_0, .int .i64 a0_1, .int .i64 a0_2], .slice A1 l1.length c1, .int .i64 a2] w fun e w' => ∃ v0_ : Value, e = .returned (.tuple #[v0_, .int .i64 r2]) ∧ Kd.R k37 37 w' w.heap.size (fun _ => True) v0_ r1 ∧ Below w.heap.size w w' := by
  have hu41 := Try.underlying41
  have hu37 := Try.underlying37
  have HR1 := Aside0.mk hr1
  have HC1 := Aside0.mk hc1
  clear hr1 hc1
  have HB := Aside0.mk (Below.refl w.heap.size w)
  have H : ((log_Purge.f l1 a0_0 a0_1).bind fun t126 => ((rate_rule_room.f a0_0 a0_1 a0_2 t126 a2).bind fun t129 => (if t129 = 0 then (some (t126, 17)) else ((ring_Put.f a0_0).bind fun t130 => ((log_Add.f t126 a2 t130).bind fun bt131 => (if bt131.2 = true then (some (bt131.1, 9)) else (some (bt131.1, 0)))))))) = some (r1, r2) := h
  clear h
  replace H := Option.bind_eq_some_iff.mp H
  obtain ⟨t126, A40, H⟩ := H
  replace H : ((rate_rule_room.f a0_0 a0_1 a0_2 t126 a2).bind fun t129 => (if t129 = 0 then (some (t126, 17)) else ((ring_Put.f a0_0).bind fun t130 => ((log_Add.f t126 a2 t130).bind fun bt131 => (if bt131.2 = true then (some (bt131.1, 9)) else (some (bt131.1, 0))))))) = some (r1, r2) := H
  have A4 := Aside0.mk A40
  clear A40
  replace H := Option.bind_eq_some_iff.mp H
  obtain ⟨t129, A50, H⟩ := H
  replace H : (if t129 = 0 then (some (t126, 17)) else ((ring_Put.f a0_0).bind fun t130 => ((log_Add.f t126 a2 t130).bind fun bt131 => (if bt131.2 = true then (some (bt131.1, 9)) else (some (bt131.1, 0)))))) = some (r1, r2) := H
  have A5 := Aside0.mk A50
  clear A50
  by_cases c6 : t129 = 0
  · rw [if_pos c6] at H
    have c6b0 : (t129 == 0) = true := beq_iff_eq.mpr c6
    have c6b1 : (t129 != 0) = false := bne_eq_false_iff_eq.mpr c6
    clear c6
    simp only [Option.some.injEq, Prod.mk.injEq] at H
    obtain ⟨rfl, rfl⟩ := H
    go_enter Try.func12, Try.ntmps12
    go_wp2_with (first | ((with_reducible refine gate_dst (N := 3) rfl ?_); refine box_event ?hg (N := 3) ?hd (cs := #[.int .i64 a0_0, .int .i64 a0_1, .int .i64 a0_2]) (t := 41) ?hr ?_; (case hd => rfl); (case hg => rfl); (case hr => first | (go_simp; done) | (go_simp; rfl)); intro gb125 hg w7 hbox hb; have n0_ := Aside0.mk (below_step (by repeat (first | (with_reducible first | exact HB.out | apply below_alloc | apply pw_below_drewN | apply below_drew1) | exact HB.out)) hb); have n1_ := Aside0.mk (hbox); have n2_ := Aside0.mk ((by rw [hg]; exact (below_size (by repeat (first | (with_reducible first | exact HB.out | apply below_alloc | apply pw_below_drewN | apply below_drew1) | exact HB.out))) : w.heap.size ≤ gb125)); have n3_ := Aside0.mk ((by rw [hg]; exact (below_size (by repeat (first | (with_reducible first | exact HB.out | apply below_alloc | apply pw_below_drewN | apply below_drew1) | exact HB.out))) : w.heap.size ≤ gb125)); clear HB; have HB := n0_; have BK125 := n1_; have GW125 := n2_; have GE125 := n3_; clear n0_ n1_ n2_ n3_; clear hb hbox hg; have hcz8_0 : w7.cell? ⟨gb125, 0, none⟩ = some (.int .i64 a0_0) := (blk_cell BK125.out 0).trans rfl; have hcz8_1 : w7.cell? ⟨gb125, 1, none⟩ = some (.int .i64 a0_1) := (blk_cell BK125.out 1).trans rfl; have hcz8_2 : w7.cell? ⟨gb125, 2, none⟩ = some (.int .i64 a0_2) := (blk_cell BK125.out 2).trans rfl; have hfz8_0 := blk_frozen BK125.out 0; have hfz8_1 := blk_frozen BK125.out 1; have hfz8_2 := blk_frozen BK125.out 2) | ((with_reducible refine gate_callee (f := 15) rfl ?_); refine goesL_ (some 16) rfl rfl Try.func15 (by kernel_rfl) rfl #[.slice A1 l1.length c1, .int .i64 a0_0, .int .i64 a0_1] rfl (by (try simp only [List.map_toArray, List.map_cons, List.map_nil]); first | done | rfl | (simp only [List.length_drop, List.length_take]; rfl)) ?_; (with_reducible refine (log_Purge.calls _ _ l1 a0_0 a0_1 t126 _ ?side1 ?side2 A4.out).mono ?_); (case side1 => repeat (first | exact (Kd.C_below HR1.out HB.out) | (with_reducible refine Kd.C_alloc ?_ _) | (with_reducible refine Kd.C_drewN ?_ _) | (with_reducible refine Kd.C_drew ?_))); (case side2 => exact HC1.out); rintro e w9 ⟨v127, rfl, ho0, hb⟩; refine ⟨_, rfl, ?_⟩; have n0_ := Aside0.mk (Kd.R_lower ho0 (below_size (by repeat (first | (with_reducible first | exact HB.out | apply below_alloc | apply pw_below_drewN | apply below_drew1 | refine below_set ?_ GE125.out) | exact HB.out)))); have n1_ := Aside0.mk (blk_below (g := gb125) (o := .cells #[.int .i64 a0_0, .int .i64 a0_1, .int .i64 a0_2] 41 (0, 0)) (by (with_reducible repeat (first | refine blk_drewN ?_ _ | refine blk_drew ?_ | refine blk_alloc ?_ _)); exact BK125.out) hb); have n2_ := Aside0.mk (below_step (by repeat (first | (with_reducible first | exact HB.out | apply below_alloc | apply pw_below_drewN | apply below_drew1 | refine below_set ?_ GE125.out) | exact HB.out)) hb); clear BK125; clear HB; have HO128 := n0_; have BK125 := n1_; have HB := n2_; clear n0_ n1_ n2_; (try clear hb); (try clear hb2); (try clear hk); (try clear hi); (try clear ho0); have hcz10_0 : w9.cell? ⟨gb125, 0, none⟩ = some (.int .i64 a0_0) := (blk_cell BK125.out 0).trans rfl; have hcz10_1 : w9.cell? ⟨gb125, 1, none⟩ = some (.int .i64 a0_1) := (blk_cell BK125.out 1).trans rfl; have hcz10_2 : w9.cell? ⟨gb125, 2, none⟩ = some (.int .i64 a0_2) := (blk_cell BK125.out 2).trans rfl; have hfz10_0 := blk_frozen BK125.out 0; have hfz10_1 := blk_frozen BK125.out 1; have hfz10_2 := blk_frozen BK125.out 2; obtain ⟨Ao11, co11, eo11⟩ := Kd.R_slice HO128.out; subst eo11) | ((with_reducible refine gate_callee (f := 14) rfl ?_); refine goesL_ (some 20) rfl rfl Try.func14 (by kernel_rfl) rfl #[.agg #[.int .i64 a0_0, .int .i64 a0_1, .int .i64 a0_2], .slice Ao11 t126.length co11, .int .i64 a2] rfl (by (try simp only [List.map_toArray, List.map_cons, List.map_nil]); first | done | rfl | (simp only [List.length_drop, List.length_take]; rfl)) ?_; (with_reducible refine (rate_rule_room.calls a0_0 a0_1 a0_2 _ _ t126 a2 t129 _ ?side1 ?side2 A5.out).mono ?_); (case side1 => repeat (first | exact (Kd.R_reads' HO128.out).2.2 | (with_reducible refine Kd.C_alloc ?_ _) | (with_reducible refine Kd.C_drewN ?_ _) | (with_reducible refine Kd.C_drew ?_))); (case side2 => exact (Kd.R_reads' HO128.out).2.1); rintro e w12 ⟨rfl, hb⟩; refine ⟨_, rfl, ?_⟩; have n0_ := Aside0.mk (Kd.R_below (by (with_reducible repeat (first | apply Kd.R_alloc | apply Kd.R_drewN | apply Kd.R_drew)); exact HO128.out) hb); have n1_ := Aside0.mk (blk_below (g := gb125) (o := .cells #[.int .i64 a0_0, .int .i64 a0_1, .int .i64 a0_2] 41 (0, 0)) (by (with_reducible repeat (first | refine blk_drewN ?_ _ | refine blk_drew ?_ | refine blk_alloc ?_ _)); exact BK125.out) hb); have n2_ := Aside0.mk (below_step (by repeat (first | (with_reducible first | exact HB.out | apply below_alloc | apply pw_below_drewN | apply below_drew1 | refine below_set ?_ GE125.out) | exact HB.out)) hb); clear HO128; clear BK125; clear HB; have HO128 := n0_; have BK125 := n1_; have HB := n2_; clear n0_ n1_ n2_; (try clear hb); (try clear hb2); (try clear hk); (try clear hi)))
    go_ret2
    exact ⟨_, by first | rfl | (simp [errW_none, errW_some] <;> rfl) | (simp [*, errW_none, errW_some] <;> rfl), by (with_reducible repeat (first | apply Kd.R_alloc | apply Kd.R_drewN | apply Kd.R_drew)); exact HO128.out, by repeat (first | (with_reducible first | exact HB.out | apply below_alloc | apply pw_below_drewN | apply below_drew1 | refine below_set ?_ GE125.out) | exact HB.out)⟩
  · rw [if_neg c6] at H
    have c6b0 : (t129 == 0) = false := beq_eq_false_iff_ne.mpr c6
    have c6b1 : (t129 != 0) = true := bne_iff_ne.mpr c6
    replace H := Option.bind_eq_some_iff.mp H
    obtain ⟨t130, A130, H⟩ := H
    replace H : ((log_Add.f t126 a2 t130).bind fun bt131 => (if bt131.2 = true then (some (bt131.1, 9)) else (some (bt131.1, 0)))) = some (r1, r2) := H
    have A13 := Aside0.mk A130
    clear A130
    replace H := Option.bind_eq_some_iff.mp H
    obtain ⟨⟨t131, t134⟩, A140, H⟩ := H
    replace H : (if t134 = true then (some (t131, 9)) else (some (t131, 0))) = some (r1, r2) := H
    have A14 := Aside0.mk A140
    clear A140
    by_cases c15 : t134 = true
    · subst c15
      have H1 : (some (t131, 9)) = some (r1, r2) := by rw [if_pos rfl] at H; exact H
      clear H
      have H := H1
      clear H1
      simp only [Option.some.injEq, Prod.mk.injEq] at H
      obtain ⟨rfl, rfl⟩ := H
      go_enter Try.func12, Try.ntmps12
      go_wp2_with (first | ((with_reducible refine gate_dst (N := 3) rfl ?_); refine box_event ?hg (N := 3) ?hd (cs := #[.int .i64 a0_0, .int .i64 a0_1, .int .i64 a0_2]) (t := 41) ?hr ?_; (case hd => rfl); (case hg => rfl); (case hr => first | (go_simp; done) | (go_simp; rfl)); intro gb125 hg w16 hbox hb; have n0_ := Aside0.mk (below_step (by repeat (first | (with_reducible first | exact HB.out | apply below_alloc | apply pw_below_drewN | apply below_drew1) | exact HB.out)) hb); have n1_ := Aside0.mk (hbox); have n2_ := Aside0.mk ((by rw [hg]; exact (below_size (by repeat (first | (with_reducible first | exact HB.out | apply below_alloc | apply pw_below_drewN | apply below_drew1) | exact HB.out))) : w.heap.size ≤ gb125)); have n3_ := Aside0.mk ((by rw [hg]; exact (below_size (by repeat (first | (with_reducible first | exact HB.out | apply below_alloc | apply pw_below_drewN | apply below_drew1) | exact HB.out))) : w.heap.size ≤ gb125)); clear HB; have HB := n0_; have BK125 := n1_; have GW125 := n2_; have GE125 := n3_; clear n0_ n1_ n2_ n3_; clear hb hbox hg; have hcz17_0 : w16.cell? ⟨gb125, 0, none⟩ = some (.int .i64 a0_0) := (blk_cell BK125.out 0).trans rfl; have hcz17_1 : w16.cell? ⟨gb125, 1, none⟩ = some (.int .i64 a0_1) := (blk_cell BK125.out 1).trans rfl; have hcz17_2 : w16.cell? ⟨gb125, 2, none⟩ = some (.int .i64 a0_2) := (blk_cell BK125.out 2).trans rfl; have hfz17_0 := blk_frozen BK125.out 0; have hfz17_1 := blk_frozen BK125.out 1; have hfz17_2 := blk_frozen BK125.out 2) | ((with_reducible refine gate_callee (f := 15) rfl ?_); refine goesL_ (some 16) rfl rfl Try.func15 (by kernel_rfl) rfl #[.slice A1 l1.length c1, .int .i64 a0_0, .int .i64 a0_1] rfl (by (try simp only [List.map_toArray, List.map_cons, List.map_nil]); first | done | rfl | (simp only [List.length_drop, List.length_take]; rfl)) ?_; (with_reducible refine (log_Purge.calls _ _ l1 a0_0 a0_1 t126 _ ?side1 ?side2 A4.out).mono ?_); (case side1 => repeat (first | exact (Kd.C_below HR1.out HB.out) | (with_reducible refine Kd.C_alloc ?_ _) | (with_reducible refine Kd.C_drewN ?_ _) | (with_reducible refine Kd.C_drew ?_))); (case side2 => exact HC1.out); rintro e w18 ⟨v127, rfl, ho0, hb⟩; refine ⟨_, rfl, ?_⟩; have n0_ := Aside0.mk (Kd.R_lower ho0 (below_size (by repeat (first | (with_reducible first | exact HB.out | apply below_alloc | apply pw_below_drewN | apply below_drew1 | refine below_set ?_ GE125.out) | exact HB.out)))); have n1_ := Aside0.mk (blk_below (g := gb125) (o := .cells #[.int .i64 a0_0, .int .i64 a0_1, .int .i64 a0_2] 41 (0, 0)) (by (with_reducible repeat (first | refine blk_drewN ?_ _ | refine blk_drew ?_ | refine blk_alloc ?_ _)); exact BK125.out) hb); have n2_ := Aside0.mk (below_step (by repeat (first | (with_reducible first | exact HB.out | apply below_alloc | apply pw_below_drewN | apply below_drew1 | refine below_set ?_ GE125.out) | exact HB.out)) hb); clear BK125; clear HB; have HO128 := n0_; have BK125 := n1_; have HB := n2_; clear n0_ n1_ n2_; (try clear hb); (try clear hb2); (try clear hk); (try clear hi); (try clear ho0); have hcz19_0 : w18.cell? ⟨gb125, 0, none⟩ = some (.int .i64 a0_0) := (blk_cell BK125.out 0).trans rfl; have hcz19_1 : w18.cell? ⟨gb125, 1, none⟩ = some (.int .i64 a0_1) := (blk_cell BK125.out 1).trans rfl; have hcz19_2 : w18.cell? ⟨gb125, 2, none⟩ = some (.int .i64 a0_2) := (blk_cell BK125.out 2).trans rfl; have hfz19_0 := blk_frozen BK125.out 0; have hfz19_1 := blk_frozen BK125.out 1; have hfz19_2 := blk_frozen BK125.out 2; obtain ⟨Ao20, co20, eo20⟩ := Kd.R_slice HO128.out; subst eo20) | ((with_reducible refine gate_callee (f := 14) rfl ?_); refine goesL_ (some 20) rfl rfl Try.func14 (by kernel_rfl) rfl #[.agg #[.int .i64 a0_0, .int .i64 a0_1, .int .i64 a0_2], .slice Ao20 t126.length co20, .int .i64 a2] rfl (by (try simp only [List.map_toArray, List.map_cons, List.map_nil]); first | done | rfl | (simp only [List.length_drop, List.length_take]; rfl)) ?_; (with_reducible refine (rate_rule_room.calls a0_0 a0_1 a0_2 _ _ t126 a2 t129 _ ?side1 ?side2 A5.out).mono ?_); (case side1 => repeat (first | exact (Kd.R_reads' HO128.out).2.2 | (with_reducible refine Kd.C_alloc ?_ _) | (with_reducible refine Kd.C_drewN ?_ _) | (with_reducible refine Kd.C_drew ?_))); (case side2 => exact (Kd.R_reads' HO128.out).2.1); rintro e w21 ⟨rfl, hb⟩; refine ⟨_, rfl, ?_⟩; have n0_ := Aside0.mk (Kd.R_below (by (with_reducible repeat (first | apply Kd.R_alloc | apply Kd.R_drewN | apply Kd.R_drew)); exact HO128.out) hb); have n1_ := Aside0.mk (blk_below (g := gb125) (o := .cells #[.int .i64 a0_0, .int .i64 a0_1, .int .i64 a0_2] 41 (0, 0)) (by (with_reducible repeat (first | refine blk_drewN ?_ _ | refine blk_drew ?_ | refine blk_alloc ?_ _)); exact BK125.out) hb); have n2_ := Aside0.mk (below_step (by repeat (first | (with_reducible first | exact HB.out | apply below_alloc | apply pw_below_drewN | apply below_drew1 | refine below_set ?_ GE125.out) | exact HB.out)) hb); clear HO128; clear BK125; clear HB; have HO128 := n0_; have BK125 := n1_; have HB := n2_; clear n0_ n1_ n2_; (try clear hb); (try clear hb2); (try clear hk); (try clear hi); have hcz22_0 : w21.cell? ⟨gb125, 0, none⟩ = some (.int .i64 a0_0) := (blk_cell BK125.out 0).trans rfl; have hcz22_1 : w21.cell? ⟨gb125, 1, none⟩ = some (.int .i64 a0_1) := (blk_cell BK125.out 1).trans rfl; have hcz22_2 : w21.cell? ⟨gb125, 2, none⟩ = some (.int .i64 a0_2) := (blk_cell BK125.out 2).trans rfl; have hfz22_0 := blk_frozen BK125.out 0; have hfz22_1 := blk_frozen BK125.out 1; have hfz22_2 := blk_frozen BK125.out 2) | ((with_reducible refine gate_callee (f := 17) rfl ?_); refine goesL_ (some 28) rfl rfl Try.func17 (by kernel_rfl) rfl #[.int .i64 a0_0] rfl (by (try simp only [List.map_toArray, List.map_cons, List.map_nil]); first | done | rfl | (simp only [List.length_drop, List.length_take]; rfl)) ?_; (with_reducible refine (ring_Put.calls a0_0 t130 _ A13.out).mono ?_); rintro e w' ⟨rfl, ⟨nd, rfl⟩⟩; refine ⟨_, rfl, ?_⟩) | ((with_reducible refine gate_callee (f := 16) rfl ?_); refine goesL_ (some 30) rfl rfl Try.func16 (by kernel_rfl) rfl #[.slice Ao20 t126.length co20, .agg #[.int .i64 a2, .int .i64 t130]] rfl (by (try simp only [List.map_toArray, List.map_cons, List.map_nil]); first | done | rfl | (simp only [List.length_drop, List.length_take]; rfl)) ?_; (with_reducible refine (log_Add.calls _ _ t126 a2 t130 t131 true _ ?side1 ?side2 A14.out).mono ?_); (case side1 => repeat (first | exact (Kd.R_reads' HO128.out).2.2 | (with_reducible refine Kd.C_alloc ?_ _) | (with_reducible refine Kd.C_drewN ?_ _) | (with_reducible refine Kd.C_drew ?_))); (case side2 => exact (Kd.R_reads' HO128.out).2.1); rintro e w23 ⟨v132, rfl, ho0, hb⟩; refine ⟨_, rfl, ?_⟩; have n0_ := Aside0.mk (Kd.R_elder' (by (with_reducible repeat (first | apply Kd.R_alloc | apply Kd.R_drewN | apply Kd.R_drew)); exact HO128.out) (Kd.R_base ho0) hb); have n1_ := Aside0.mk (Kd.R_lower (Kd.R_new' ho0 (Kd.R_lt (by (with_reducible repeat (first | apply Kd.R_alloc | apply Kd.R_drewN | apply Kd.R_drew)); exact HO128.out))) (below_size (by repeat (first | (with_reducible first | exact HB.out | apply below_alloc | apply pw_below_drewN | apply below_drew1 | refine below_set ?_ GE125.out) | exact HB.out)))); have n2_ := Aside0.mk (blk_below (g := gb125) (o := .cells #[.int .i64 a0_0, .int .i64 a0_1, .int .i64 a0_2] 41 (0, 0)) (by (with_reducible repeat (first | refine blk_drewN ?_ _ | refine blk_drew ?_ | refine blk_alloc ?_ _)); exact BK125.out) hb); have n3_ := Aside0.mk (below_step (by repeat (first | (with_reducible first | exact HB.out | apply below_alloc | apply pw_below_drewN | apply below_drew1 | refine below_set ?_ GE125.out) | exact HB.out)) hb); clear HO128; clear BK125; clear HB; have HO128 := n0_; have HO133 := n1_; have BK125 := n2_; have HB := n3_; clear n0_ n1_ n2_ n3_; (try clear hb); (try clear hb2); (try clear hk); (try clear hi); (try clear ho0)))
      go_ret2
      exact ⟨_, by first | rfl | (simp [errW_none, errW_some] <;> rfl) | (simp [*, errW_none, errW_some] <;> rfl), by (with_reducible repeat (first | apply Kd.R_alloc | apply Kd.R_drewN | apply Kd.R_drew)); exact Kd.R_mono HO133.out (fun _ hk => trivial), by repeat (first | (with_reducible first | exact HB.out | apply below_alloc | apply pw_below_drewN | apply below_drew1 | refine below_set ?_ GE125.out) | exact HB.out)⟩
    · replace c15 := Bool.eq_false_iff.mpr c15
      subst c15
      have H1 : (some (t131, 0)) = some (r1, r2) := by rw [if_neg (show ¬ (false = true) by decide)] at H; exact H
      clear H
      have H := H1
      clear H1
      simp only [Option.some.injEq, Prod.mk.injEq] at H
      obtain ⟨rfl, rfl⟩ := H
      go_enter Try.func12, Try.ntmps12
      go_wp2_with (first | ((with_reducible refine gate_dst (N := 3) rfl ?_); refine box_event ?hg (N := 3) ?hd (cs := #[.int .i64 a0_0, .int .i64 a0_1, .int .i64 a0_2]) (t := 41) ?hr ?_; (case hd => rfl); (case hg => rfl); (case hr => first | (go_simp; done) | (go_simp; rfl)); intro gb125 hg w24 hbox hb; have n0_ := Aside0.mk (below_step (by repeat (first | (with_reducible first | exact HB.out | apply below_alloc | apply pw_below_drewN | apply below_drew1) | exact HB.out)) hb); have n1_ := Aside0.mk (hbox); have n2_ := Aside0.mk ((by rw [hg]; exact (below_size (by repeat (first | (with_reducible first | exact HB.out | apply below_alloc | apply pw_below_drewN | apply below_drew1) | exact HB.out))) : w.heap.size ≤ gb125)); have n3_ := Aside0.mk ((by rw [hg]; exact (below_size (by repeat (first | (with_reducible first | exact HB.out | apply below_alloc | apply pw_below_drewN | apply below_drew1) | exact HB.out))) : w.heap.size ≤ gb125)); clear HB; have HB := n0_; have BK125 := n1_; have GW125 := n2_; have GE125 := n3_; clear n0_ n1_ n2_ n3_; clear hb hbox hg; have hcz25_0 : w24.cell? ⟨gb125, 0, none⟩ = some (.int .i64 a0_0) := (blk_cell BK125.out 0).trans rfl; have hcz25_1 : w24.cell? ⟨gb125, 1, none⟩ = some (.int .i64 a0_1) := (blk_cell BK125.out 1).trans rfl; have hcz25_2 : w24.cell? ⟨gb125, 2, none⟩ = some (.int .i64 a0_2) := (blk_cell BK125.out 2).trans rfl; have hfz25_0 := blk_frozen BK125.out 0; have hfz25_1 := blk_frozen BK125.out 1; have hfz25_2 := blk_frozen BK125.out 2) | ((with_reducible refine gate_callee (f := 15) rfl ?_); refine goesL_ (some 16) rfl rfl Try.func15 (by kernel_rfl) rfl #[.slice A1 l1.length c1, .int .i64 a0_0, .int .i64 a0_1] rfl (by (try simp only [List.map_toArray, List.map_cons, List.map_nil]); first | done | rfl | (simp only [List.length_drop, List.length_take]; rfl)) ?_; (with_reducible refine (log_Purge.calls _ _ l1 a0_0 a0_1 t126 _ ?side1 ?side2 A4.out).mono ?_); (case side1 => repeat (first | exact (Kd.C_below HR1.out HB.out) | (with_reducible refine Kd.C_alloc ?_ _) | (with_reducible refine Kd.C_drewN ?_ _) | (with_reducible refine Kd.C_drew ?_))); (case side2 => exact HC1.out); rintro e w26 ⟨v127, rfl, ho0, hb⟩; refine ⟨_, rfl, ?_⟩; have n0_ := Aside0.mk (Kd.R_lower ho0 (below_size (by repeat (first | (with_reducible first | exact HB.out | apply below_alloc | apply pw_below_drewN | apply below_drew1 | refine below_set ?_ GE125.out) | exact HB.out)))); have n1_ := Aside0.mk (blk_below (g := gb125) (o := .cells #[.int .i64 a0_0, .int .i64 a0_1, .int .i64 a0_2] 41 (0, 0)) (by (with_reducible repeat (first | refine blk_drewN ?_ _ | refine blk_drew ?_ | refine blk_alloc ?_ _)); exact BK125.out) hb); have n2_ := Aside0.mk (below_step (by repeat (first | (with_reducible first | exact HB.out | apply below_alloc | apply pw_below_drewN | apply below_drew1 | refine below_set ?_ GE125.out) | exact HB.out)) hb); clear BK125; clear HB; have HO128 := n0_; have BK125 := n1_; have HB := n2_; clear n0_ n1_ n2_; (try clear hb); (try clear hb2); (try clear hk); (try clear hi); (try clear ho0); have hcz27_0 : w26.cell? ⟨gb125, 0, none⟩ = some (.int .i64 a0_0) := (blk_cell BK125.out 0).trans rfl; have hcz27_1 : w26.cell? ⟨gb125, 1, none⟩ = some (.int .i64 a0_1) := (blk_cell BK125.out 1).trans rfl; have hcz27_2 : w26.cell? ⟨gb125, 2, none⟩ = some (.int .i64 a0_2) := (blk_cell BK125.out 2).trans rfl; have hfz27_0 := blk_frozen BK125.out 0; have hfz27_1 := blk_frozen BK125.out 1; have hfz27_2 := blk_frozen BK125.out 2; obtain ⟨Ao28, co28, eo28⟩ := Kd.R_slice HO128.out; subst eo28) | ((with_reducible refine gate_callee (f := 14) rfl ?_); refine goesL_ (some 20) rfl rfl Try.func14 (by kernel_rfl) rfl #[.agg #[.int .i64 a0_0, .int .i64 a0_1, .int .i64 a0_2], .slice Ao28 t126.length co28, .int .i64 a2] rfl (by (try simp only [List.map_toArray, List.map_cons, List.map_nil]); first | done | rfl | (simp only [List.length_drop, List.length_take]; rfl)) ?_; (with_reducible refine (rate_rule_room.calls a0_0 a0_1 a0_2 _ _ t126 a2 t129 _ ?side1 ?side2 A5.out).mono ?_); (case side1 => repeat (first | exact (Kd.R_reads' HO128.out).2.2 | (with_reducible refine Kd.C_alloc ?_ _) | (with_reducible refine Kd.C_drewN ?_ _) | (with_reducible refine Kd.C_drew ?_))); (case side2 => exact (Kd.R_reads' HO128.out).2.1); rintro e w29 ⟨rfl, hb⟩; refine ⟨_, rfl, ?_⟩; have n0_ := Aside0.mk (Kd.R_below (by (with_reducible repeat (first | apply Kd.R_alloc | apply Kd.R_drewN | apply Kd.R_drew)); exact HO128.out) hb); have n1_ := Aside0.mk (blk_below (g := gb125) (o := .cells #[.int .i64 a0_0, .int .i64 a0_1, .int .i64 a0_2] 41 (0, 0)) (by (with_reducible repeat (first | refine blk_drewN ?_ _ | refine blk_drew ?_ | refine blk_alloc ?_ _)); exact BK125.out) hb); have n2_ := Aside0.mk (below_step (by repeat (first | (with_reducible first | exact HB.out | apply below_alloc | apply pw_below_drewN | apply below_drew1 | refine below_set ?_ GE125.out) | exact HB.out)) hb); clear HO128; clear BK125; clear HB; have HO128 := n0_; have BK125 := n1_; have HB := n2_; clear n0_ n1_ n2_; (try clear hb); (try clear hb2); (try clear hk); (try clear hi); have hcz30_0 : w29.cell? ⟨gb125, 0, none⟩ = some (.int .i64 a0_0) := (blk_cell BK125.out 0).trans rfl; have hcz30_1 : w29.cell? ⟨gb125, 1, none⟩ = some (.int .i64 a0_1) := (blk_cell BK125.out 1).trans rfl; have hcz30_2 : w29.cell? ⟨gb125, 2, none⟩ = some (.int .i64 a0_2) := (blk_cell BK125.out 2).trans rfl; have hfz30_0 := blk_frozen BK125.out 0; have hfz30_1 := blk_frozen BK125.out 1; have hfz30_2 := blk_frozen BK125.out 2) | ((with_reducible refine gate_callee (f := 17) rfl ?_); refine goesL_ (some 28) rfl rfl Try.func17 (by kernel_rfl) rfl #[.int .i64 a0_0] rfl (by (try simp only [List.map_toArray, List.map_cons, List.map_nil]); first | done | rfl | (simp only [List.length_drop, List.length_take]; rfl)) ?_; (with_reducible refine (ring_Put.calls a0_0 t130 _ A13.out).mono ?_); rintro e w' ⟨rfl, ⟨nd, rfl⟩⟩; refine ⟨_, rfl, ?_⟩) | ((with_reducible refine gate_callee (f := 16) rfl ?_); refine goesL_ (some 30) rfl rfl Try.func16 (by kernel_rfl) rfl #[.slice Ao28 t126.length co28, .agg #[.int .i64 a2, .int .i64 t130]] rfl (by (try simp only [List.map_toArray, List.map_cons, List.map_nil]); first | done | rfl | (simp only [List.length_drop, List.length_take]; rfl)) ?_; (with_reducible refine (log_Add.calls _ _ t126 a2 t130 t131 false _ ?side1 ?side2 A14.out).mono ?_); (case side1 => repeat (first | exact (Kd.R_reads' HO128.out).2.2 | (with_reducible refine Kd.C_alloc ?_ _) | (with_reducible refine Kd.C_drewN ?_ _) | (with_reducible refine Kd.C_drew ?_))); (case side2 => exact (Kd.R_reads' HO128.out).2.1); rintro e w31 ⟨v132, rfl, ho0, hb⟩; refine ⟨_, rfl, ?_⟩; have n0_ := Aside0.mk (Kd.R_elder' (by (with_reducible repeat (first | apply Kd.R_alloc | apply Kd.R_drewN | apply Kd.R_drew)); exact HO128.out) (Kd.R_base ho0) hb); have n1_ := Aside0.mk (Kd.R_lower (Kd.R_new' ho0 (Kd.R_lt (by (with_reducible repeat (first | apply Kd.R_alloc | apply Kd.R_drewN | apply Kd.R_drew)); exact HO128.out))) (below_size (by repeat (first | (with_reducible first | exact HB.out | apply below_alloc | apply pw_below_drewN | apply below_drew1 | refine below_set ?_ GE125.out) | exact HB.out)))); have n2_ := Aside0.mk (blk_below (g := gb125) (o := .cells #[.int .i64 a0_0, .int .i64 a0_1, .int .i64 a0_2] 41 (0, 0)) (by (with_reducible repeat (first | refine blk_drewN ?_ _ | refine blk_drew ?_ | refine blk_alloc ?_ _)); exact BK125.out) hb); have n3_ := Aside0.mk (below_step (by repeat (first | (with_reducible first | exact HB.out | apply below_alloc | apply pw_below_drewN | apply below_drew1 | refine below_set ?_ GE125.out) | exact HB.out)) hb); clear HO128; clear BK125; clear HB; have HO128 := n0_; have HO133 := n1_; have BK125 := n2_; have HB := n3_; clear n0_ n1_ n2_ n3_; (try clear hb); (try clear hb2); (try clear hk); (try clear hi); (try clear ho0)))
      go_ret2
      exact ⟨_, by first | rfl | (simp [errW_none, errW_some] <;> rfl) | (simp [*, errW_none, errW_some] <;> rfl), by (with_reducible repeat (first | apply Kd.R_alloc | apply Kd.R_drewN | apply Kd.R_drew)); exact Kd.R_mono HO133.out (fun _ hk => trivial), by repeat (first | (with_reducible first | exact HB.out | apply below_alloc | apply pw_below_drewN | apply below_drew1 | refine below_set ?_ GE125.out) | exact HB.out)⟩

/-! ### rate_Take: function 5 -/
def rate_Take.f (l0 : List (S37)) (a1 : Int) (a2 : Int) (a3 : Int) (a4 : Int) : Option ((List (S37)) × Int) := (rate_rule_take.f a2 a3 a4 l0 a1).bind fun bt135 => (some (bt135.1, bt135.2))
set_option maxHeartbeats 8000000 in
set_option maxRecDepth 100000 in
theorem rate_Take.calls (A0 : Option Addr) (c0 : Nat) (l0 : List (S37)) (a1 : Int) (a2 : Int) (a3 : Int) (a4 : Int) (r1 : List (S37)) (r2 : Int) (w : World) (hr0 : Kd.C k37 w A0 l0.length l0) (hc0 : l0.length ≤ c0) (h : rate_Take.f l0 a1 a2 a3 a4 = some (r1, r2)) :
    Calls Try.prog 5 #[.slice A0 l0.length c0, .int .i64 a1, .int .i64 a2, .int .i64 a3, .int .i64 a4] w fun e w' => ∃ v0_ : Value, e = .returned (.tuple #[v0_, .int .i64 r2]) ∧ Kd.R k37 37 w' w.heap.size (fun _ => True) v0_ r1 ∧ Below w.heap.size w w' := by
  have hu41 := Try.underlying41
  have HR0 := Aside0.mk hr0
  have HC0 := Aside0.mk hc0
  clear hr0 hc0
  have HB := Aside0.mk (Below.refl w.heap.size w)
  have H : ((rate_rule_take.f a2 a3 a4 l0 a1).bind fun bt135 => (some (bt135.1, bt135.2))) = some (r1, r2) := h
  clear h
  replace H := Option.bind_eq_some_iff.mp H
  obtain ⟨⟨t135, t138⟩, A60, H⟩ := H
  replace H : (some (t135, t138)) = some (r1, r2) := H
  have A6 := Aside0.mk A60
  clear A60
  simp only [Option.some.injEq, Prod.mk.injEq] at H
  obtain ⟨rfl, rfl⟩ := H
  go_enter Try.func5, Try.ntmps5
  go_wp2_with (first | ((with_reducible refine gate_callee (f := 12) rfl ?_); refine goesL_ (some 18) rfl rfl Try.func12 (by kernel_rfl) rfl #[.agg #[.int .i64 a2, .int .i64 a3, .int .i64 a4], .slice A0 l0.length c0, .int .i64 a1] rfl (by (try simp only [List.map_toArray, List.map_cons, List.map_nil]); first | done | rfl | (simp only [List.length_drop, List.length_take]; rfl)) ?_; (with_reducible refine (rate_rule_take.calls a2 a3 a4 _ _ l0 a1 t135 t138 _ ?side1 ?side2 A6.out).mono ?_); (case side1 => repeat (first | exact HR0.out | (with_reducible refine Kd.C_alloc ?_ _) | (with_reducible refine Kd.C_drewN ?_ _) | (with_reducible refine Kd.C_drew ?_))); (case side2 => exact HC0.out); rintro e w7 ⟨v136, rfl, ho0, hb⟩; refine ⟨_, rfl, ?_⟩; have n0_ := Aside0.mk (Kd.R_lower ho0 (below_size (by repeat (first | (with_reducible first | exact HB.out | apply below_alloc | apply pw_below_drewN | apply below_drew1) | exact HB.out)))); have n1_ := Aside0.mk (below_step (by repeat (first | (with_reducible first | exact HB.out | apply below_alloc | apply pw_below_drewN | apply below_drew1) | exact HB.out)) hb); clear HB; have HO137 := n0_; have HB := n1_; clear n0_ n1_; (try clear hb); (try clear hb2); (try clear hk); (try clear hi); (try clear ho0)))
  go_ret2
  exact ⟨_, by first | rfl | (simp [errW_none, errW_some] <;> rfl) | (simp [*, errW_none, errW_some] <;> rfl), by (with_reducible repeat (first | apply Kd.R_alloc | apply Kd.R_drewN | apply Kd.R_drew)); exact HO137.out, by repeat (first | (with_reducible first | exact HB.out | apply below_alloc | apply pw_below_drewN | apply below_drew1) | exact HB.out)⟩

end Go.Proofs.Ythfiglkafahboaa.P
