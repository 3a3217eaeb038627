/- Walks over the laws of chapter 19: what awake tells. -/
import Derived.Test.YtihnmabmjffgoaaJ1
import Derived.Deep.RegionWith
namespace Go.Proofs.Ytihnmabmjffgoaa
open Go.RowKit Go.Maps

def judgeA (x : Lim) (c : Int) (s : ByteArray) (now : Int) : Int × Lim :=
  if 255 < s.size ∨ now < 0 ∨ 1099511627776 < now then (2, x) else judge x c s now

theorem Judge_any (g : Nat) (S : Nat → Prop) (x : Lim) (c : Int) (s : ByteArray) (now : Int) (w : World) (hk : KeyOk c s) (h : IsLim w g S x) (hroom : ∀ bm, findE x.L c s = none → RoomSaid (nowE x now) g bm) :
    Calls Try.prog 9 #[.pointer (some ⟨g, 0, none⟩), .int .i64 c, .string s, .int .i64 now] w (Left w g S (judgeA x c s now)) := by
  obtain ⟨bm, v, l, m, h⟩ := h
  unfold judgeA
  split
  · rename_i hb
    refine (Judge_bad g x.most c s now w (blk_cell h.head 0) (by have := h.ok.m0; rw [beq_eq_false_iff_ne]; omega) hk.len hb).mono fun e w' ⟨he, hw⟩ => ?_
    subst hw
    exact ⟨he, KeptOff.refl _ _, S, ⟨bm, v, l, m, h⟩, fun k hk => .inl hk⟩
  · rename_i hb
    exact Judge_t g S x bm v l m c s now w hk (by omega) (by omega) (by omega) h (hroom bm)
theorem Judge_few (g : Nat) (S : Nat → Prop) (x : Lim) (c : Int) (s : ByteArray) (now : Int) (w : World) (hk : KeyOk c s) (h : IsLim w g S x) (hroom : findE x.L c s = none → (x.L.length : Int) < x.most) :
    Calls Try.prog 9 #[.pointer (some ⟨g, 0, none⟩), .int .i64 c, .string s, .int .i64 now] w (Left w g S (judgeA x c s now)) :=
  Judge_any g S x c s now w hk h fun _ hf => room_few (hroom hf)

def chA : ByteArray := ⟨#[97]⟩
def awX : Nat → Lim
  | 0 => newLim 2 2 10 2
  | k + 1 => (judgeA (awX k) 7 chA 100).2
def awW (k : Nat) : Int := (judgeA (awX k) 7 chA 100).1
theorem awW_is : awW 0 = 0 ∧ awW 1 = 0 ∧ awW 2 = 2 ∧ awW 3 = 1 ∧ awW 4 = 2 ∧ awW 5 = 1 := by decide +kernel
theorem awX_room : ∀ k, k < 6 → findE (awX k).L 7 chA = none → ((awX k).L.length : Int) < (awX k).most := by
  decide +kernel
theorem awX_end : (awX 6).L.length = 1 ∧ countE (awX 6).L 7 chA = 6 := by decide +kernel
theorem keyA (c : Int) (h : (Lit.int .i64 c).wf = true) : KeyOk c chA := ⟨h, by unfold maxLen; decide⟩

def wantCells : Array Value := #[.int .i64 0, .int .i64 0, .int .i64 2, .int .i64 1, .int .i64 2, .int .i64 1]
theorem want_at (k : Nat) (hk : k < 6) : wantCells[k]? = some (.int .i64 (awW k)) := by
  obtain ⟨h0, h1, h2, h3, h4, h5⟩ := awW_is
  match k, hk with
  | 0, _ => rw [h0]; rfl
  | 1, _ => rw [h1]; rfl
  | 2, _ => rw [h2]; rfl
  | 3, _ => rw [h3]; rfl
  | 4, _ => rw [h4]; rfl
  | 5, _ => rw [h5]; rfl
/-- Between two rounds of awake. -/
def AwInv (w : World) (bw : Nat) (k : Nat) (wr : World) : Prop :=
  ∃ S, IsLim wr (w.heap.size + 1) S (awX k) ∧ (∀ j, S j → w.heap.size ≤ j ∧ j ≠ bw) ∧ Below w.heap.size w wr ∧ wr.heap[bw]? = some (.cells wantCells 3 (0, 0))
theorem AwInv.step {w wr wr' : World} {bw k : Nat} {S : Nat → Prop} (hS : ∀ j, S j → w.heap.size ≤ j ∧ j ≠ bw) (hB : Below w.heap.size w wr) (hc : wr.heap[bw]? = some (.cells wantCells 3 (0, 0)))
    (hk : KeptOff S wr wr') (h : ∃ S', IsLim wr' (w.heap.size + 1) S' (awX (k + 1)) ∧ ∀ j, S' j → S j ∨ wr.heap.size ≤ j) : AwInv w bw (k + 1) wr' := by
  obtain ⟨S', h1, h2⟩ := h
  have hlt := (Array.getElem?_eq_some_iff.1 hc).1
  refine ⟨S', h1, fun j hj => ?_, hk.below hB hB.size (fun j hj => (hS j hj).1), (hk.block _ hlt (fun hs => (hS _ hs).2 rfl)).trans hc⟩
  rcases h2 j hj with h3 | h3
  · exact hS j h3
  · exact ⟨by have := hB.size; omega, by omega⟩
theorem AwInv.drewN {w wr : World} {bw k : Nat} (h : AwInv w bw k wr) (n : Nat) : AwInv w bw k (wr.drewN n) := by
  obtain ⟨S, h1, h2, h3, h4⟩ := h
  exact ⟨S, h1.kept (T := fun _ => False) (KeptOff.drewN _ _ _) (fun _ _ h => h), h2, ⟨h3.os, h3.tape, h3.output, h3.size, h3.block⟩, h4⟩
theorem AwInv.judge {w wr : World} {bw k : Nat} (h : AwInv w bw k wr) (hk : k < 6) :
    Calls Try.prog 9 #[.pointer (some ⟨w.heap.size + 1, 0, none⟩), .int .i64 7, .string ⟨#[97]⟩, .int .i64 100] wr fun e w' => e = .returned (.int .i64 (awW k)) ∧ AwInv w bw (k + 1) w' := by
  obtain ⟨S, h1, h2, h3, h4⟩ := h
  exact (Judge_few (w.heap.size + 1) S (awX k) 7 chA 100 wr (keyA 7 (by decide)) h1 (awX_room k hk)).mono fun e w' ⟨he, hk', hs⟩ => ⟨he, AwInv.step h2 h3 h4 hk' hs⟩

set_option maxRecDepth 100000 in
set_option maxHeartbeats 1000000 in
theorem awake_calls (w : World) : Calls Try.prog 8 #[] w fun e w' => e = .returned (.bool true) ∧ Below w.heap.size w w' := by
  have hN := New_good 2 2 10 2 w (by omega) (by omega) (by omega) (by omega) (by omega) (by omega) (by omega) (by omega)
  have HN := Lib.hid hN; clear hN
  go_enter Try.func8, Try.ntmps8
  go_wp2_with fail
  refine HN.out.mono ?_
  rintro e w1 ⟨rfl, hL1, hB1⟩
  have hI : AwInv w w1.heap.size 0 (w1.alloc (.cells wantCells 3)) := by
    have hs := hL1
    obtain ⟨bm, v, l, m, hat⟩ := hL1
    refine ⟨_, hs.kept (T := fun _ => False) (KeptOff.alloc _ _ _) (fun _ _ h => h), fun j hj => ?_, hB1.alloc hB1.size _, heap_alloc_new w1 _⟩
    have := hat.lt j hj
    exact ⟨by rcases hj with rfl | rfl <;> omega, by omega⟩
  have HI := Lib.hid hI; clear hI hL1 hB1
  go_wp2_with fail
  generalize w1.heap.size = bw at HI ⊢
  go_loopw [4] (fun i wr => ∃ k : Nat, k ≤ 6 ∧ i = .int .i64 k ∧ AwInv w bw k wr) (fun i _ => 6 - (intOf i).toNat)
  case atStart => exact ⟨0, by omega, rfl, HI.out⟩
  case round =>
    obtain ⟨k, hk, rfl, hI⟩ := hrel
    by_cases hlt : k < 6
    · have hJ := (show AwInv w bw k wr.drew from hI.drewN 1).judge hlt
      have hc : wr.cell? ⟨bw, k, none⟩ = some (.int .i64 (awW k)) := by
        obtain ⟨S, _, _, _, h4⟩ := hI
        rw [blk_cell h4]; exact want_at k hlt
      have hc2 : ∀ wq, AwInv w bw (k + 1) wq → wq.cell? ⟨bw, k, none⟩ = some (.int .i64 (awW k)) := fun wq hq => by
        obtain ⟨S, _, _, _, h4⟩ := hq
        rw [blk_cell h4]; exact want_at k hlt
      have HJ := Lib.hid hJ; clear hJ
      have HC2 := Lib.hid hc2; clear hc2
      clear hI
      go_upto_region 8 with fail
      go_cut [26] (fun s26 wc => s26 = .bool false ∧ AwInv w bw (k + 1) wc)
      case first =>
        go_region_with (go_at_call 9; refine HJ.out.mono ?_; rintro e w2 ⟨rfl, hI2⟩; have q := HC2.out _ hI2)
        all_goals (go_wp2_with fail; go_meet; exact ⟨by simp, hI2⟩)
      case rest =>
        obtain ⟨rfl, hI2⟩ := hcut
        go_wp2
        go_roundw
        case rel => exact ⟨k + 1, by omega, by go_num, hI2⟩
        case measure => simp [intOf]; omega
    · obtain rfl : k = 6 := by omega
      have hend : ∀ wq, AwInv w bw 6 wq → Calls Try.prog 10 #[.pointer (some ⟨w.heap.size + 1, 0, none⟩)] wq fun e w' => e = .returned (.int .i64 1) ∧ w' = wq := fun wq hq => by
        obtain ⟨S, h1, _⟩ := hq
        have := Len_lim (w.heap.size + 1) S (awX 6) wq h1
        rw [awX_end.1] at this
        exact this
      have hend2 : ∀ wq, AwInv w bw 6 wq → Calls Try.prog 11 #[.pointer (some ⟨w.heap.size + 1, 0, none⟩), .int .i64 7, .string ⟨#[97]⟩] wq fun e w' => e = .returned (.int .i64 6) ∧ Below w.heap.size w w' := fun wq hq => by
        obtain ⟨S, h1, _, h3, _⟩ := hq
        have := Count_calls (w.heap.size + 1) S (awX 6) 7 chA (keyA 7 (by decide)) wq h1
        rw [awX_end.2] at this
        exact this.mono fun e w' ⟨he, hb⟩ => ⟨he, h3.trans (hb.mono h3.size)⟩
      have HE := Lib.hid (hend wr hI); clear hend
      have HE2 := Lib.hid (hend2 wr hI); clear hend2 hI
      go_wp2_with fail
      refine HE.out.mono ?_
      rintro e w3 ⟨rfl, rfl⟩
      go_wp2_with fail
      refine HE2.out.mono ?_
      rintro e w4 ⟨rfl, hB⟩
      go_wp2_with fail
      go_ret
      exact ⟨rfl, hB⟩
end Go.Proofs.Ytihnmabmjffgoaa
