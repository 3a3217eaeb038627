/- RrlAnew: the walk. -/
import Derived.Test.YtihnmabmjffgoaaOne
namespace Go.Proofs.Ytihnmabmjffgoaa
open Go.RowKit Go.Maps

theorem tmod_facts (x n : Int) (h1 : 1 ≤ n) : -n < x.tmod n ∧ x.tmod n < n ∧ x % n = if x.tmod n < 0 then x.tmod n + n else x.tmod n := by
  have b1 := Int.emod_nonneg x (b := n) (by omega)
  have b2 := Int.emod_lt_of_pos x (b := n) (by omega)
  have hn : (n.natAbs : Int) = n := by omega
  have key := Int.tmod_eq_emod (a := x) (b := n)
  by_cases hx : 0 ≤ x ∨ n ∣ x
  · rw [if_pos hx] at key
    have e : x.tmod n = x % n := by omega
    rw [e]
    exact ⟨by omega, by omega, by rw [if_neg (by omega)]⟩
  · rw [if_neg hx] at key
    have h0 : x % n ≠ 0 := fun e => hx (.inr (Int.dvd_of_emod_eq_zero e))
    have e : x.tmod n = x % n - n := by omega
    rw [e]
    exact ⟨by omega, by omega, by rw [if_pos (by omega)]; omega⟩
set_option maxHeartbeats 400000 in
theorem Pick_calls (x n : Int) (h1 : 1 ≤ n) (h2 : n ≤ 1000000) (w : World) : Calls Try.prog 14 #[.int .i64 x, .int .i64 n] w fun e w' => e = .returned (.int .i64 (x % n)) ∧ w' = w := by
  obtain ⟨a1, a2, hr⟩ := tmod_facts x n h1
  have HR := Lib.hid hr; clear hr
  go_enter Try.func14, Try.ntmps14
  go_wp2
  · go_ret
    exact ⟨by rw [HR.out, if_pos (by omega)]; rfl, rfl⟩
  · go_ret
    exact ⟨by rw [HR.out, if_neg (by omega)]; rfl, rfl⟩

def chZ : ByteArray := ⟨#[122]⟩
theorem keyZ : KeyOk 3 chZ := ⟨by decide, by unfold maxLen; decide⟩
/-- What the first i judgements at one time leave. -/
def after (limit window slip t : Int) : Nat → Lim
  | 0 => newLim 1 limit window slip
  | i + 1 => one limit window slip 3 chZ t ((i : Int) + 1)
theorem after_step {limit window slip t : Int} (hw : 1 ≤ window) (t0 : 0 ≤ t) (t1 : t ≤ 1099511627776) (i : Nat) (hi : (i : Int) + 2 < 1073741824) :
    judgeA (after limit window slip t i) 3 chZ t = (verdict (newLim 1 limit window slip) ⟨3, chZ, t, (i : Int) + 1⟩, after limit window slip t (i + 1)) := by
  cases i with
  | zero => exact judge_first hw (by decide) t0 t1
  | succ i => rw [after, judge_same hw (by decide) t0 t1 (by push_cast at hi; omega)]; simp [after]
theorem after_room (limit window slip t : Int) (i : Nat) : findE (after limit window slip t i).L 3 chZ = none → ((after limit window slip t i).L.length : Int) < (after limit window slip t i).most := by
  cases i with
  | zero => intro _; simp [after, newLim]
  | succ i => exact one_room _ _ _ _ _ _ _
/-- .. and behind a window, of a limiter that is as after many. -/
def anew (limit window slip t : Int) (many : Nat) : Nat → Lim
  | 0 => after limit window slip t many
  | i + 1 => one limit window slip 3 chZ (t + window) ((i : Int) + 1)
theorem anew_step {limit window slip t : Int} (hw : 1 ≤ window) (t0 : 0 ≤ t) (t1 : t + window ≤ 1099511627776) (many i : Nat) (hi : (i : Int) + 2 < 1073741824) :
    judgeA (anew limit window slip t many i) 3 chZ (t + window) = (verdict (newLim 1 limit window slip) ⟨3, chZ, t + window, (i : Int) + 1⟩, anew limit window slip t many (i + 1)) := by
  cases i with
  | zero =>
    cases many with
    | zero => exact judge_first hw (by decide) (by omega) t1
    | succ k => exact judge_over hw (by decide) t0 t1
  | succ i => rw [anew, judge_same hw (by decide) (by omega) t1 (by push_cast at hi; omega)]; simp [anew]
theorem anew_room (limit window slip t : Int) (many i : Nat) : findE (anew limit window slip t many i).L 3 chZ = none → ((anew limit window slip t many i).L.length : Int) < (anew limit window slip t many i).most := by
  cases i with
  | zero => exact after_room _ _ _ _ _
  | succ i => exact one_room _ _ _ _ _ _ _

def noK : Nat → Prop := fun _ => False
def guardOk (limit window slip now : Int) : Prop := 1 ≤ limit ∧ limit ≤ 50 ∧ 1 ≤ window ∧ window ≤ 1000 ∧ 0 ≤ slip ∧ slip ≤ 1073741824 ∧ 0 ≤ now ∧ now ≤ 1073741824

set_option maxRecDepth 100000 in
set_option maxHeartbeats 1000000 in
theorem Anew_out (limit window slip many now : Int) (w : World) (hbad : ¬ guardOk limit window slip now) :
    Calls Try.prog 7 #[.int .i64 limit, .int .i64 window, .int .i64 slip, .int .i64 many, .int .i64 now] w fun e w' => e = .returned (.bool true) ∧ Below w.heap.size w w' := by
  unfold guardOk at hbad
  have HB := Lib.hid hbad; clear hbad
  go_enter Try.func7, Try.ntmps7
  go_wp2_with fail
  refine (awake_calls _).mono ?_
  rintro e w1 ⟨rfl, hB⟩
  go_wp2_with fail
  refine (Pick_calls many 200 (by omega) (by omega) _).mono ?_
  rintro e w2 ⟨rfl, rfl⟩
  generalize many % 200 = mm
  have hbad := HB.out
  go_wp2_with fail
  all_goals first
    | (go_ret; exact ⟨rfl, hB⟩)
    | (exfalso; omega)

theorem verdict_bool {x : Lim} {c : Int} {s : ByteArray} {b n : Int} : (verdict x ⟨c, s, b, n⟩ == 0) = decide (n ≤ x.limit) := by
  rw [Bool.eq_iff_iff]
  simp [verdict_zero]

set_option maxRecDepth 100000 in
set_option maxHeartbeats 2000000 in
theorem Anew_in (limit window slip many now : Int) (w : World) (hok : guardOk limit window slip now) :
    Calls Try.prog 7 #[.int .i64 limit, .int .i64 window, .int .i64 slip, .int .i64 many, .int .i64 now] w fun e w' => e = .returned (.bool true) ∧ Below w.heap.size w w' := by
  obtain ⟨g1, g2, g3, g4, g5, g6, g7, g8⟩ := hok
  have m0 : 0 ≤ many % 200 := by omega
  have m1 : many % 200 < 200 := by omega
  go_enter Try.func7, Try.ntmps7
  go_wp2_with fail
  refine (awake_calls _).mono ?_
  rintro e w1 ⟨rfl, hB⟩
  have HB := Lib.hid hB; clear hB
  go_wp2_with fail
  refine (Pick_calls many 200 (by omega) (by omega) _).mono ?_
  rintro e w2 ⟨rfl, rfl⟩
  generalize many % 200 = mm at m0 m1
  have hN := New_good 1 limit window slip w2 (by omega) (by omega) (by omega) (by omega) (by omega) (by omega) (by omega) (by omega)
  have HN := Lib.hid hN; clear hN
  go_wp2_with fail
  refine HN.out.mono ?_
  rintro e w3 ⟨rfl, hL, hB3⟩
  have hI : LimInv w noK (w2.heap.size + 1) (after limit window slip now 0) w3 := LimInv.new HB.out hL hB3 (fun _ h => h.elim)
  generalize w2.heap.size + 1 = g at hI ⊢
  have HI := Lib.hid hI; clear hI hL hB3
  go_wp2_with fail
  go_loopw [14] (fun i wr => ∃ k : Nat, (k : Int) ≤ mm ∧ i = .int .i64 k ∧ LimInv w noK g (after limit window slip now k) wr) (fun i _ => mm.toNat - (intOf i).toNat)
  case atStart => exact ⟨0, by omega, rfl, HI.out⟩
  case round =>
    obtain ⟨k, hk, rfl, hI⟩ := hrel
    by_cases hlt : (k : Int) < mm
    · have hJ := hI.judge_few now keyZ (after_room limit window slip now k)
      rw [after_step g3 g7 (by omega) k (by omega)] at hJ
      have hv := verdict_bool (x := newLim 1 limit window slip) (c := 3) (s := chZ) (b := now) (n := (k : Int) + 1)
      have e1 : decide ((k : Int) + 1 ≤ (newLim 1 limit window slip).limit) = decide ((k : Int) < limit) := by
        rw [decide_eq_decide]; show (k : Int) + 1 ≤ limit ↔ _; omega
      rw [e1] at hv
      generalize verdict (newLim 1 limit window slip) ⟨3, chZ, now, (k : Int) + 1⟩ = r at hJ hv
      clear e1
      have HJ := Lib.hid hJ; clear hJ hI
      go_wp2_with fail
      refine HJ.out.mono ?_
      rintro e w4 ⟨rfl, hI4, _⟩
      go_wp2_with fail
      go_roundw
      case rel => exact ⟨k + 1, by omega, by go_num, hI4⟩
      case measure => simp [intOf]; omega
    · have e0 : LimInv w noK g (anew limit window slip now k 0) wr := hI
      have HI2 := Lib.hid e0; clear e0 hI HI
      go_wp2_with fail
      go_loopw [15] (fun i wr => ∃ j : Nat, (j : Int) ≤ limit ∧ i = .int .i64 j ∧ LimInv w noK g (anew limit window slip now k j) wr) (fun i _ => limit.toNat - (intOf i).toNat)
      case atStart => exact ⟨0, by omega, rfl, HI2.out⟩
      case round =>
        obtain ⟨j, hj, rfl, hI⟩ := hrel
        by_cases hlt2 : (j : Int) < limit
        · have hJ := hI.judge_few (now + window) keyZ (anew_room limit window slip now k j)
          rw [anew_step g3 g7 (by omega) k j (by omega)] at hJ
          have hv : verdict (newLim 1 limit window slip) ⟨3, chZ, now + window, (j : Int) + 1⟩ = 0 := verdict_zero.2 (by show (j : Int) + 1 ≤ limit; omega)
          rw [hv] at hJ
          clear hv
          have HJ := Lib.hid hJ; clear hJ hI
          go_wp2_with fail
          refine HJ.out.mono ?_
          rintro e w4 ⟨rfl, hI4, _⟩
          go_wp2_with fail
          go_roundw
          case rel => exact ⟨j + 1, by omega, by go_num, hI4⟩
          case measure => simp [intOf]; omega
        · have hJ := hI.judge_few (now + window) keyZ (anew_room limit window slip now k j)
          rw [anew_step g3 g7 (by omega) k j (by omega)] at hJ
          have hv : (verdict (newLim 1 limit window slip) ⟨3, chZ, now + window, (j : Int) + 1⟩ == 0) = false := by
            rw [verdict_bool]; show decide ((j : Int) + 1 ≤ limit) = false; simp; omega
          generalize verdict (newLim 1 limit window slip) ⟨3, chZ, now + window, (j : Int) + 1⟩ = r at hJ hv
          have HJ := Lib.hid hJ; clear hJ hI
          go_wp2_with fail
          refine HJ.out.mono ?_
          rintro e w4 ⟨rfl, hI4, _⟩
          have hb := hI4.below
          clear hI4
          go_wp2_with fail
          go_ret
          refine ⟨?_, hb⟩
          show Ending.returned (.bool (r != 0)) = _
          rw [bne, hv]
          rfl
theorem RrlAnew_calls (limit window slip many now : Int) (w : World) : Calls Try.prog 7 #[.int .i64 limit, .int .i64 window, .int .i64 slip, .int .i64 many, .int .i64 now] w fun e w' => e = .returned (.bool true) ∧ Below w.heap.size w w' := by
  by_cases h : guardOk limit window slip now
  · exact Anew_in limit window slip many now w h
  · exact Anew_out limit window slip many now w h
end Go.Proofs.Ytihnmabmjffgoaa
