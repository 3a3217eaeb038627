/- Walks over rrl: over, Len, Count, New. -/
import Derived.Test.YtihnmabmjffgoaaRep
import Derived.Deep.QuietTactic
import Derived.BigQuiet
namespace Go.Proofs.Ytihnmabmjffgoaa
open Go.RowKit Go.Maps

set_option maxHeartbeats 400000 in
theorem over_calls (g t : Nat) (now window began : Int) (w : World)
    (h4 : w.cell? ⟨g, 4, none⟩ = some (.int .i64 now)) (h2 : w.cell? ⟨g, 2, none⟩ = some (.int .i64 window)) (ht : w.cell? ⟨t, 0, none⟩ = some (.int .i64 began))
    (a1 : 0 ≤ now) (a2 : now ≤ 1099511627776) (b1 : 0 ≤ began) (b2 : began ≤ 1099511627776) :
    Calls Try.prog 16 #[.pointer (some ⟨g, 0, none⟩), .pointer (some ⟨t, 0, none⟩)] w fun e w' => e = .returned (.bool (decide (window ≤ now - began))) ∧ ∃ n, w' = w.drewN n := by
  go_enter Try.func16, Try.ntmps16
  go_wp2_with fail
  go_quiet (fail)
  go_wp2
  go_ret
  exact ⟨rfl, _, rfl⟩

set_option maxHeartbeats 400000 in
theorem Len_nil (w : World) : Calls Try.prog 10 #[.pointer none] w fun e w' => e = .returned (.int .i64 0) ∧ w' = w := by
  go_enter Try.func10, Try.ntmps10
  go_wp2
  go_ret
  exact ⟨rfl, rfl⟩
set_option maxHeartbeats 400000 in
theorem Len_zero (g : Nat) (w : World) (h5 : w.cell? ⟨g, 5, none⟩ = some (.map none)) : Calls Try.prog 10 #[.pointer (some ⟨g, 0, none⟩)] w fun e w' => e = .returned (.int .i64 0) ∧ w' = w := by
  have hl := fun ty => Maps.len_nil (P := Try.prog) (w := w) Try.underlying24 ty
  go_enter Try.func10, Try.ntmps10
  go_wp2
  go_ret
  exact ⟨rfl, rfl⟩
set_option maxHeartbeats 400000 in
theorem Len_calls (g bm n : Nat) (m : Int → ByteArray → Option Nat) (w : World) (h5 : w.cell? ⟨g, 5, none⟩ = some (.map (some bm))) (hm : IsMapK w bm n m) : Calls Try.prog 10 #[.pointer (some ⟨g, 0, none⟩)] w fun e w' => e = .returned (.int .i64 (n : Int)) ∧ w' = w := by
  have hl := fun ty => hm.len ty
  clear hm
  go_enter Try.func10, Try.ntmps10
  go_wp2
  go_ret
  exact ⟨rfl, rfl⟩

set_option maxHeartbeats 400000 in
theorem Count_nil (c : Int) (s : ByteArray) (w : World) : Calls Try.prog 11 #[.pointer none, .int .i64 c, .string s] w fun e w' => e = .returned (.int .i64 0) ∧ w' = w := by
  go_enter Try.func11, Try.ntmps11
  go_wp2
  go_ret
  exact ⟨rfl, rfl⟩
set_option maxHeartbeats 400000 in
theorem Count_zero (g : Nat) (c : Int) (s : ByteArray) (hk : KeyOk c s) (w : World) (h5 : w.cell? ⟨g, 5, none⟩ = some (.map none)) :
    Calls Try.prog 11 #[.pointer (some ⟨g, 0, none⟩), .int .i64 c, .string s] w fun e w' => e = .returned (.int .i64 0) ∧ Below w.heap.size w w' := by
  have hl : ∀ W : World, (Instr.lookup 24 (.map none) (.agg #[.int .i64 c, .string s]) true).run Try.prog W = .ok (.tuple #[.pointer none, .bool false]) W := fun W => Maps.look_nil true keyedK Try.underlying24 (zero47 W) (klit_of hk)
  clear hk
  go_enter Try.func11, Try.ntmps11
  go_wp2
  go_ret
  exact ⟨rfl, by repeat (first | exact Below.refl _ _ | (refine Below.alloc ?_ (by simp) _) | (refine Below.setCell ?_ (by simp) _) | refine Below.drew ?_)⟩
set_option maxHeartbeats 400000 in
theorem New_bad (a b c d : Int) (w : World) (h : ¬ (1 ≤ a ∧ a ≤ 1024 ∧ 0 ≤ b ∧ b ≤ 1073741824 ∧ 1 ≤ c ∧ c ≤ 1073741824 ∧ 0 ≤ d ∧ d ≤ 1073741824)) :
    Calls Try.prog 12 #[.int .i64 a, .int .i64 b, .int .i64 c, .int .i64 d] w fun e w' => e = .returned (.tuple #[.pointer none, .int .i64 2]) ∧ w' = w := by
  go_enter Try.func12, Try.ntmps12
  go_wp2
  all_goals first
    | (go_ret2; exact ⟨rfl, rfl⟩)
    | (exfalso; omega)

def newLim (a b c d : Int) : Lim := ⟨a, b, c, d, 0, []⟩
set_option maxHeartbeats 400000 in
theorem New_good0 (a b c d : Int) (w : World) (h1 : 1 ≤ a) (h2 : a ≤ 1024) (h3 : 0 ≤ b) (h4 : b ≤ 1073741824) (h5 : 1 ≤ c) (h6 : c ≤ 1073741824) (h7 : 0 ≤ d) (h8 : d ≤ 1073741824) :
    Calls Try.prog 12 #[.int .i64 a, .int .i64 b, .int .i64 c, .int .i64 d] w fun e w' =>
      e = .returned (.tuple #[.pointer (some ⟨w.heap.size + 1, 0, none⟩), .int .i64 0]) ∧ w' = (w.alloc (.map #[] 0)).alloc (.cells (limCells (newLim a b c d) w.heap.size (.slice none 0 0)) 27 (0, 0)) := by
  have hmm := @run_makeMap Try.prog
  go_enter Try.func12, Try.ntmps12
  go_wp2
  go_ret2
  exact ⟨rfl, rfl⟩
end Go.Proofs.Ytihnmabmjffgoaa
