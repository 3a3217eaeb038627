/- RrlKnown: the walk: the chapter's examples. -/
import Derived.Test.YtihnmabmjffgoaaOne
import Derived.Test.YtihnmabmjffgoaaRoom
namespace Go.Proofs.Ytihnmabmjffgoaa
open Go.RowKit Go.Maps

theorem LimInv.judge_all {w wr : World} {K : Nat → Prop} {g : Nat} {x : Lim} (h : LimInv w K g x wr) {c : Int} {s : ByteArray} (now : Int) (hk : KeyOk c s) :
    Calls Try.prog 9 #[.pointer (some ⟨g, 0, none⟩), .int .i64 c, .string s, .int .i64 now] wr fun e w' => e = .returned (.int .i64 (judgeA x c s now).1) ∧ LimInv w K g (judgeA x c s now).2 w' ∧ KeptOff (fun j => w.heap.size ≤ j ∧ ¬ K j) wr w' :=
  h.judge now hk fun bm _ => room_said _ g bm

def chB : ByteArray := ⟨#[98]⟩
theorem keyB (c : Int) (h : (Lit.int .i64 c).wf = true) : KeyOk c chB := ⟨h, by unfold maxLen; decide⟩
def k0 : Lim := newLim 2 2 10 2
def k1 : Lim := (judgeA k0 7 chA 100).2
def k2 : Lim := (judgeA k1 7 chB 101).2
def k3 : Lim := (judgeA k2 8 chA 102).2
def k4 : Lim := (judgeA k3 8 chA 110).2
def k5 : Lim := (judgeA k4 7 chB 90).2
def k6 : Lim := (judgeA k5 7 chB 111).2
theorem v2 : (judgeA k1 7 chB 101).1 = 0 := by decide +kernel
theorem v3 : (judgeA k2 8 chA 102).1 = 2 := by decide +kernel
theorem v4 : (judgeA k3 8 chA 110).1 = 0 := by decide +kernel
theorem v5 : (judgeA k4 7 chB 90).1 = 0 := by decide +kernel
theorem v6 : (judgeA k5 7 chB 111).1 = 0 := by decide +kernel
theorem n3 : k3.L.length = 2 ∧ k4.L.length = 2 := by decide +kernel
theorem c4 : countE k4.L 7 chA = 0 ∧ countE k4.L 8 chA = 1 ∧ countE k5.L 7 chB = 2 ∧ countE k6.L 7 chB = 1 := by decide +kernel

/-- One judgement of the example. -/
theorem LimInv.goes {w wr : World} {g : Nat} {x : Lim} (h : LimInv w (fun _ => False) g x wr) {c : Int} {s : ByteArray} (now r : Int) (hk : KeyOk c s) (hr : (judgeA x c s now).1 = r) :
    Calls Try.prog 9 #[.pointer (some ⟨g, 0, none⟩), .int .i64 c, .string s, .int .i64 now] wr fun e w' => e = .returned (.int .i64 r) ∧ LimInv w (fun _ => False) g (judgeA x c s now).2 w' :=
  (h.judge_all now hk).mono fun e w' ⟨he, h2, _⟩ => ⟨by rw [he, hr], h2⟩
theorem LimInv.tells {w wr : World} {g : Nat} {x : Lim} (h : LimInv w (fun _ => False) g x wr) (n : Nat) (hn : x.L.length = n) : Calls Try.prog 10 #[.pointer (some ⟨g, 0, none⟩)] wr fun e w' => e = .returned (.int .i64 (n : Int)) ∧ LimInv w (fun _ => False) g x w' :=
  h.len.mono fun e w' ⟨he, hw⟩ => ⟨by rw [he, hn], hw ▸ h⟩
theorem LimInv.counts {w wr : World} {g : Nat} {x : Lim} (h : LimInv w (fun _ => False) g x wr) {c : Int} {s : ByteArray} (n : Int) (hk : KeyOk c s) (hn : countE x.L c s = n) : Calls Try.prog 11 #[.pointer (some ⟨g, 0, none⟩), .int .i64 c, .string s] wr fun e w' => e = .returned (.int .i64 n) ∧ LimInv w (fun _ => False) g x w' :=
  (h.count hk).mono fun e w' ⟨he, h2, _⟩ => ⟨by rw [he, hn], h2⟩

set_option maxRecDepth 100000 in
set_option maxHeartbeats 2000000 in
theorem RrlKnown_calls (w : World) : Calls Try.prog 4 #[] w fun e w' => e = .returned (.bool true) ∧ Below w.heap.size w w' := by
  have HN := Lib.hid (New_good 2 2 10 2 w (by omega) (by omega) (by omega) (by omega) (by omega) (by omega) (by omega) (by omega))
  go_enter Try.func4, Try.ntmps4
  go_wp2_with fail
  refine HN.out.mono ?_
  rintro e w1 ⟨rfl, hL, hB⟩
  have hI0 : LimInv w (fun _ => False) (w.heap.size + 1) k0 w1 := LimInv.new (Below.refl _ w) hL hB (fun _ h => h.elim)
  generalize w.heap.size + 1 = g at hI0
  have HI0 := Lib.hid hI0; clear hI0 hL hB
  go_wp2_with fail
  refine (New_bad 0 1 1 1 _ (by omega)).mono ?_
  rintro e w2 ⟨rfl, rfl⟩
  go_wp2_with fail
  refine (HI0.out.goes (s := chA) 100 _ (keyA 7 (by decide)) rfl).mono ?_
  rintro e w3 ⟨rfl, hI⟩
  have HI1 : Hid (LimInv w (fun _ => False) g k1 w3) := Lib.hid hI; clear hI
  go_wp2_with fail
  refine (HI1.out.goes (s := chB) 101 0 (keyB 7 (by decide)) v2).mono ?_
  rintro e w4 ⟨rfl, hI⟩
  have HI2 : Hid (LimInv w (fun _ => False) g k2 w4) := Lib.hid hI; clear hI
  go_wp2_with fail
  refine (HI2.out.goes (s := chA) 102 2 (keyA 8 (by decide)) v3).mono ?_
  rintro e w5 ⟨rfl, hI⟩
  have HI3 : Hid (LimInv w (fun _ => False) g k3 w5) := Lib.hid hI; clear hI
  go_wp2_with fail
  refine (HI3.out.tells 2 n3.1).mono ?_
  rintro e w6 ⟨rfl, hI⟩
  have HI3' := Lib.hid hI; clear hI
  go_wp2_with fail
  refine (HI3'.out.goes (s := chA) 110 0 (keyA 8 (by decide)) v4).mono ?_
  rintro e w7 ⟨rfl, hI⟩
  have HI4 : Hid (LimInv w (fun _ => False) g k4 w7) := Lib.hid hI; clear hI
  go_wp2_with fail
  refine (HI4.out.tells 2 n3.2).mono ?_
  rintro e w8 ⟨rfl, hI⟩
  have HI4' := Lib.hid hI; clear hI
  go_wp2_with fail
  refine (HI4'.out.counts (s := chA) 0 (keyA 7 (by decide)) c4.1).mono ?_
  rintro e w9 ⟨rfl, hI⟩
  have HI4'' := Lib.hid hI; clear hI
  go_wp2_with fail
  refine (HI4''.out.counts (s := chA) 1 (keyA 8 (by decide)) c4.2.1).mono ?_
  rintro e w10 ⟨rfl, hI⟩
  have HI4a := Lib.hid hI; clear hI
  go_wp2_with fail
  refine (HI4a.out.goes (s := chB) 90 0 (keyB 7 (by decide)) v5).mono ?_
  rintro e w11 ⟨rfl, hI⟩
  have HI5 : Hid (LimInv w (fun _ => False) g k5 w11) := Lib.hid hI; clear hI
  go_wp2_with fail
  refine (HI5.out.counts (s := chB) 2 (keyB 7 (by decide)) c4.2.2.1).mono ?_
  rintro e w12 ⟨rfl, hI⟩
  have HI5' := Lib.hid hI; clear hI
  go_wp2_with fail
  refine (HI5'.out.goes (s := chB) 111 0 (keyB 7 (by decide)) v6).mono ?_
  rintro e w13 ⟨rfl, hI⟩
  have HI6 : Hid (LimInv w (fun _ => False) g k6 w13) := Lib.hid hI; clear hI
  go_wp2_with fail
  refine (HI6.out.counts (s := chB) 1 (keyB 7 (by decide)) c4.2.2.2).mono ?_
  rintro e w14 ⟨rfl, hI⟩
  have HB := Lib.hid hI.below; clear hI
  go_wp2_with fail
  refine (awake_calls _).mono ?_
  rintro e w15 ⟨rfl, hB⟩
  have HB2 := Lib.hid (HB.out.trans (hB.mono HB.out.size)); clear hB
  go_wp2_with fail
  go_ret
  exact ⟨rfl, HB2.out⟩
end Go.Proofs.Ytihnmabmjffgoaa
