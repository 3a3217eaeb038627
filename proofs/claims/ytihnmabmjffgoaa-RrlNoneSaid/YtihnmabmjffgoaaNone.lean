/- RrlNone: who is none lets nothing pass: for every client, name and time, without a condition: the law's call returns true, and nothing that was there has turned. -/
import Derived.Test.YtihnmabmjffgoaaAw
namespace Go.Proofs.Ytihnmabmjffgoaa
open Go.RowKit Go.Maps

theorem cells27 : Try.prog.cellsOf 27 = 7 := by kernel_rfl
/-- The limiter at the k-th place. -/
def noneV (z : Nat) (k : Nat) : Option Addr := if k = 0 then none else some ⟨z, 0, none⟩
def zeroCells : Array Value := #[.int .i64 0, .int .i64 0, .int .i64 0, .int .i64 0, .int .i64 0, .map none, .slice none 0 0]

theorem Judge_none (z k : Nat) (c : Int) (s : ByteArray) (now : Int) (w : World) (hz : w.heap[z]? = some (.cells zeroCells 27 (0, 0))) : Calls Try.prog 9 #[.pointer (noneV z k), .int .i64 c, .string s, .int .i64 now] w fun e w' => e = .returned (.int .i64 2) ∧ w' = w := by
  unfold noneV
  split
  · exact Judge_nil c s now w
  · exact Judge_zero z c s now w (blk_cell hz 0)
theorem Len_none (z k : Nat) (w : World) (hz : w.heap[z]? = some (.cells zeroCells 27 (0, 0))) : Calls Try.prog 10 #[.pointer (noneV z k)] w fun e w' => e = .returned (.int .i64 0) ∧ w' = w := by
  unfold noneV
  split
  · exact Len_nil w
  · exact Len_zero z w (blk_cell hz 5)
theorem Count_nobody (z k : Nat) (c : Int) (s : ByteArray) (hk : KeyOk c s) (w : World) (hz : w.heap[z]? = some (.cells zeroCells 27 (0, 0))) : Calls Try.prog 11 #[.pointer (noneV z k), .int .i64 c, .string s] w fun e w' => e = .returned (.int .i64 0) ∧ Below w.heap.size w w' := by
  unfold noneV
  split
  · exact (Count_nil c s w).mono fun e w' ⟨h1, h2⟩ => ⟨h1, h2 ▸ Below.refl _ _⟩
  · exact Count_zero z c s hk w (blk_cell hz 5)

structure NoneInv (w : World) (z bl : Nat) (wr : World) : Prop where
  below : Below w.heap.size w wr
  zero : wr.heap[z]? = some (.cells zeroCells 27 (0, 0))
  list : wr.heap[bl]? = some (.cells #[.pointer none, .pointer (some ⟨z, 0, none⟩)] 23 (0, 0))
theorem NoneInv.then {w wr wr' : World} {z bl : Nat} (h : NoneInv w z bl wr) (hb : Below wr.heap.size wr wr') : NoneInv w z bl wr' :=
  ⟨h.below.trans (hb.mono h.below.size), (hb.block _ (Array.getElem?_eq_some_iff.1 h.zero).1).trans h.zero, (hb.block _ (Array.getElem?_eq_some_iff.1 h.list).1).trans h.list⟩
theorem NoneInv.at_ {w wr : World} {z bl : Nat} (h : NoneInv w z bl wr) {k : Nat} (hk : k < 2) : wr.cell? ⟨bl, k, none⟩ = some (.pointer (noneV z k)) := by
  rw [blk_cell h.list]
  match k, hk with
  | 0, _ => rfl
  | 1, _ => rfl

set_option maxRecDepth 100000 in
set_option maxHeartbeats 1000000 in
theorem RrlNone_calls (c : Int) (s : ByteArray) (now : Int) (w : World) (hk : KeyOk c s) : Calls Try.prog 3 #[.int .i64 c, .string s, .int .i64 now] w fun e w' => e = .returned (.bool true) ∧ Below w.heap.size w w' := by
  have hs := hk.len
  unfold maxLen at hs
  have HK := Lib.hid hk; clear hk
  by_cases hlong : 300 < s.size
  · go_enter Try.func3, Try.ntmps3
    go_wp2_with fail
    refine (awake_calls _).mono ?_
    rintro e w1 ⟨rfl, hB⟩
    go_wp2_with fail
    go_ret
    exact ⟨rfl, hB⟩
  · go_enter Try.func3, Try.ntmps3
    go_wp2_with fail
    go_loopw [9] (fun i wr => ∃ k : Nat, k ≤ 2 ∧ i = .int .i64 k ∧ NoneInv w w.heap.size (w.heap.size + 1) wr) (fun i _ => 2 - (intOf i).toNat)
    case atStart =>
      refine ⟨0, by omega, rfl, ((Below.refl _ w).alloc (Nat.le_refl _) _).alloc (by simp) _, ?_, ?_⟩
      · exact (Below.heap_alloc _ _ _ (by simp)).trans (heap_alloc_new w _)
      · have := heap_alloc_new (w.alloc (.cells zeroCells 27)) (.cells #[.pointer none, .pointer (some ⟨w.heap.size, 0, none⟩)] 23 (0, 0))
        rw [World.size_alloc] at this
        exact this
    case round =>
      obtain ⟨k, hk, rfl, hI⟩ := hrel
      by_cases hlt : k < 2
      · have hc := hI.at_ hlt
        have h1 := Judge_none w.heap.size k c s now wr hI.zero
        have h2 := Len_none w.heap.size k wr hI.zero
        have h3 := Count_nobody w.heap.size k c s HK.out wr hI.zero
        have H1 := Lib.hid h1; clear h1
        have H2 := Lib.hid h2; clear h2
        have H3 := Lib.hid h3; clear h3
        have HI := Lib.hid hI; clear hI
        generalize noneV w.heap.size k = q at hc H1 H2 H3
        go_wp2_with fail
        refine H1.out.mono ?_
        rintro e w1 ⟨rfl, rfl⟩
        go_wp2_with fail
        refine H2.out.mono ?_
        rintro e w1 ⟨rfl, rfl⟩
        go_wp2_with fail
        refine H3.out.mono ?_
        rintro e w1 ⟨rfl, hb⟩
        go_wp2_with fail
        go_roundw
        case rel => exact ⟨k + 1, by omega, by go_num, HI.out.then hb⟩
        case measure => simp [intOf]; omega
      · have hb := hI.below
        clear hI
        go_wp2_with fail
        refine (awake_calls _).mono ?_
        rintro e w1 ⟨rfl, hB⟩
        go_wp2_with fail
        go_ret
        exact ⟨rfl, hb.trans (hB.mono hb.size)⟩
end Go.Proofs.Ytihnmabmjffgoaa
