/- RrlApart: the walk. -/
import Derived.Test.YtihnmabmjffgoaaApartP
import Derived.Test.YtihnmabmjffgoaaKnown
import Derived.Deep.RegionHeld3
import Derived.StillTailTactics
namespace Go.Proofs.Ytihnmabmjffgoaa
open Go.RowKit Go.Maps

/-- Two limiters in memory, apart. -/
structure Two (w : World) (gx gy : Nat) (X Y : Lim) (wr : World) : Prop where
  lims : ∃ Sx Sy, IsLim wr gx Sx X ∧ IsLim wr gy Sy Y ∧ (∀ j, Sx j → w.heap.size ≤ j) ∧ (∀ j, Sy j → w.heap.size ≤ j) ∧ ∀ j, Sx j → ¬ Sy j
  below : Below w.heap.size w wr
theorem IsLim.lt {w : World} {g : Nat} {S : Nat → Prop} {x : Lim} (h : IsLim w g S x) {j : Nat} (hj : S j) : j < w.heap.size := by
  obtain ⟨bm, v, l, m, h⟩ := h
  exact h.lt j hj
theorem IsLim.below {w w' : World} {g : Nat} {S : Nat → Prop} {x : Lim} (h : IsLim w g S x) (hb : Below w.heap.size w w') : IsLim w' g S x :=
  h.kept (T := fun _ => False) ⟨hb.os, hb.tape, hb.output, hb.size, fun k hk _ => hb.block k hk⟩ (fun _ _ h => h)
theorem Two.drewN {w wr : World} {gx gy : Nat} {X Y : Lim} (h : Two w gx gy X Y wr) (n : Nat) : Two w gx gy X Y (wr.drewN n) := by
  obtain ⟨Sx, Sy, h1, h2, h3, h4, h5⟩ := h.lims
  exact ⟨⟨Sx, Sy, h1.kept (T := fun _ => False) (KeptOff.drewN _ _ _) (fun _ _ h => h), h2.kept (T := fun _ => False) (KeptOff.drewN _ _ _) (fun _ _ h => h), h3, h4, h5⟩, ⟨h.below.os, h.below.tape, h.below.output, h.below.size, h.below.block⟩⟩
theorem Two.then {w wr wr' : World} {gx gy : Nat} {X Y : Lim} (h : Two w gx gy X Y wr) (hb : Below wr.heap.size wr wr') : Two w gx gy X Y wr' := by
  obtain ⟨Sx, Sy, h1, h2, h3, h4, h5⟩ := h.lims
  exact ⟨⟨Sx, Sy, h1.below hb, h2.below hb, h3, h4, h5⟩, h.below.trans (hb.mono h.below.size)⟩
theorem Two.turn {w wr : World} {gx gy : Nat} {X Y : Lim} (h : Two w gx gy X Y wr) : Two w gy gx Y X wr := by
  obtain ⟨Sx, Sy, h1, h2, h3, h4, h5⟩ := h.lims
  exact ⟨⟨Sy, Sx, h2, h1, h4, h3, fun j hy hx => h5 j hx hy⟩, h.below⟩
theorem Two.judgeX {w wr : World} {gx gy : Nat} {X Y : Lim} (h : Two w gx gy X Y wr) {c : Int} {s : ByteArray} (now : Int) (hk : KeyOk c s) :
    Calls Try.prog 9 #[.pointer (some ⟨gx, 0, none⟩), .int .i64 c, .string s, .int .i64 now] wr fun e w' => e = .returned (.int .i64 (judgeA X c s now).1) ∧ Two w gx gy (judgeA X c s now).2 Y w' := by
  obtain ⟨Sx, Sy, h1, h2, h3, h4, h5⟩ := h.lims
  refine (Judge_any gx Sx X c s now wr hk h1 fun bm _ => room_said _ gx bm).mono fun e w' hl => ⟨hl.1, ?_⟩
  obtain ⟨_, hkept, S', h6, h7⟩ := hl
  have hb := hkept.below h.below h.below.size h3
  refine ⟨⟨S', Sy, h6, h2.kept hkept fun j hy hx => h5 j hx hy, fun j hj => ?_, h4, fun j hj hy => ?_⟩, hb⟩
  · rcases h7 j hj with h8 | h8
    · exact h3 j h8
    · exact Nat.le_trans h.below.size h8
  · rcases h7 j hj with h8 | h8
    · exact h5 j h8 hy
    · have := h2.lt hy
      omega
theorem Two.judgeY {w wr : World} {gx gy : Nat} {X Y : Lim} (h : Two w gx gy X Y wr) {c : Int} {s : ByteArray} (now : Int) (hk : KeyOk c s) :
    Calls Try.prog 9 #[.pointer (some ⟨gy, 0, none⟩), .int .i64 c, .string s, .int .i64 now] wr fun e w' => e = .returned (.int .i64 (judgeA Y c s now).1) ∧ Two w gx gy X (judgeA Y c s now).2 w' :=
  (h.turn.judgeX now hk).mono fun _ _ ⟨he, h'⟩ => ⟨he, h'.turn⟩
theorem Two.countX {w wr : World} {gx gy : Nat} {X Y : Lim} (h : Two w gx gy X Y wr) {c : Int} {s : ByteArray} (hk : KeyOk c s) :
    Calls Try.prog 11 #[.pointer (some ⟨gx, 0, none⟩), .int .i64 c, .string s] wr fun e w' => e = .returned (.int .i64 (countE X.L c s)) ∧ Two w gx gy X Y w' := by
  obtain ⟨Sx, Sy, h1, h2, h3, h4, h5⟩ := h.lims
  exact (Count_calls gx Sx X c s hk wr h1).mono fun e w' ⟨he, hb⟩ => ⟨he, h.then hb⟩
theorem Two.countY {w wr : World} {gx gy : Nat} {X Y : Lim} (h : Two w gx gy X Y wr) {c : Int} {s : ByteArray} (hk : KeyOk c s) :
    Calls Try.prog 11 #[.pointer (some ⟨gy, 0, none⟩), .int .i64 c, .string s] wr fun e w' => e = .returned (.int .i64 (countE Y.L c s)) ∧ Two w gx gy X Y w' :=
  (h.turn.countX hk).mono fun _ _ ⟨he, h'⟩ => ⟨he, h'.turn⟩
theorem Two.new {w w1 w2 w3 : World} {X Y : Lim} (hb : Below w.heap.size w w1) (h : IsLim w2 (w1.heap.size + 1) (fun k => k = w1.heap.size ∨ k = w1.heap.size + 1) X) (hb1 : Below w1.heap.size w1 w2)
    (h' : IsLim w3 (w2.heap.size + 1) (fun k => k = w2.heap.size ∨ k = w2.heap.size + 1) Y) (hb2 : Below w2.heap.size w2 w3) : Two w (w1.heap.size + 1) (w2.heap.size + 1) X Y w3 := by
  have hs := hb.size
  have hs1 := hb1.size
  refine ⟨⟨_, _, h.below hb2, h', fun j hj => ?_, fun j hj => ?_, fun j hj hy => ?_⟩, (hb.trans (hb1.mono hs)).trans (hb2.mono (Nat.le_trans hs hs1))⟩
  · omega
  · omega
  · have := h.lt hj
    omega

theorem ActsAt.drewN {w : World} {A : Option Addr} {l : List Act} (h : ActsAt w A l) (n : Nat) : ActsAt (w.drewN n) A l := ⟨h.ok, h.few, h.at_⟩

set_option maxRecDepth 100000 in
set_option maxHeartbeats 1000000 in
theorem Apart_long (limit window slip : Int) (A : Option Addr) (cap : Nat) (l : List Act) (w : World) (h : ActsAt w A l) (hl : longB l = true ∨ 150 < l.length) :
    Calls Try.prog 6 #[.int .i64 limit, .int .i64 window, .int .i64 slip, .slice A l.length cap] w fun e w' => e = .returned (.bool true) ∧ Below w.heap.size w w' := by
  have hm := h.few
  unfold maxLen at hm
  have HL := Lib.hid hl; clear hl
  have H := Lib.hid h; clear h
  go_enter Try.func6, Try.ntmps6
  go_wp2_with fail
  refine (awake_calls _).mono ?_
  rintro e w1 ⟨rfl, hB⟩
  have H1 := Lib.hid (H.out.below (Nat.le_refl _) hB)
  have HB := Lib.hid hB; clear hB
  go_wp2_with fail
  refine (Long_calls A cap l w1 H1.out).mono ?_
  rintro e w2 ⟨rfl, rfl⟩
  have hl := HL.out
  generalize longB l = bl at hl ⊢
  cases bl with
  | true =>
    go_wp2_with fail
    go_ret
    exact ⟨rfl, HB.out⟩
  | false =>
    have hl' : 150 < l.length := by simpa using hl
    go_wp2_with fail
    go_ret
    exact ⟨rfl, HB.out⟩
def newOk (limit window slip : Int) : Prop := 0 ≤ limit ∧ limit ≤ 1073741824 ∧ 1 ≤ window ∧ window ≤ 1073741824 ∧ 0 ≤ slip ∧ slip ≤ 1073741824
set_option maxRecDepth 100000 in
set_option maxHeartbeats 1000000 in
theorem Apart_bad (limit window slip : Int) (A : Option Addr) (cap : Nat) (l : List Act) (w : World) (h : ActsAt w A l) (hl : longB l = false) (hl2 : l.length ≤ 150) (hbad : ¬ newOk limit window slip) :
    Calls Try.prog 6 #[.int .i64 limit, .int .i64 window, .int .i64 slip, .slice A l.length cap] w fun e w' => e = .returned (.bool true) ∧ Below w.heap.size w w' := by
  unfold newOk at hbad
  have N1 := Lib.hid (fun w => New_bad 200 limit window slip w (by omega))
  have N2 := Lib.hid (fun w => New_bad 1 limit window slip w (by omega))
  clear hbad
  have HL := Lib.hid hl; clear hl
  have H := Lib.hid h; clear h
  go_enter Try.func6, Try.ntmps6
  go_wp2_with fail
  refine (awake_calls _).mono ?_
  rintro e w1 ⟨rfl, hB⟩
  have H1 := Lib.hid (H.out.below (Nat.le_refl _) hB)
  have HB := Lib.hid hB; clear hB
  go_wp2_with fail
  refine (Long_calls A cap l w1 H1.out).mono ?_
  rintro e w2 ⟨rfl, rfl⟩
  rw [HL.out]
  go_wp2_with fail
  refine (N1.out _).mono ?_
  rintro e w3 ⟨rfl, rfl⟩
  go_wp2_with fail
  refine (N2.out _).mono ?_
  rintro e w4 ⟨rfl, rfl⟩
  go_wp2_with fail
  go_ret
  exact ⟨rfl, HB.out⟩

theorem toList_one {a b : ByteArray} (h : a.toList = b.toList) : a = b := by
  rw [ByteArray.toList_eq, ByteArray.toList_eq] at h
  exact ByteArray.ext (Array.toList_inj.1 h)
@[local go_sem] theorem dec_succ (m : Nat) : decide ((m : Int) + 1 = 0) = false := decide_eq_false (by omega)
def Tof (l : List Act) (k : Nat) : Int := match l[k - 1]? with | some a => a.n | none => 0
def IsKey (l : List Act) (c : Int) (s : ByteArray) : Prop := ∀ h : 0 < l.length, l[0].c = c ∧ l[0].s = s
structure ApInv (w : World) (gx gy : Nat) (l : List Act) (c : Int) (s : ByteArray) (k : Nat) (wr : World) : Prop where
  two : ∃ X Y, Two w gx gy X Y wr ∧ Agree X Y c s k (Tof l k)
theorem agree_new (limit window slip : Int) (c : Int) (s : ByteArray) (T : Int) : Agree (newLim 200 limit window slip) (newLim 1 limit window slip) c s 0 T :=
  { lim := rfl, win := rfl, slip := rfl, mx := rfl, my := rfl, find := rfl, alone := (by intro e h; cases h), few := Nat.le_refl _, fewy := Nat.zero_le _, nx := .inl (Int.le_refl _), ny := .inl (Int.le_refl _) }

set_option maxRecDepth 100000 in
set_option maxHeartbeats 1000000 in
theorem Apart_in (limit window slip : Int) (A : Option Addr) (cap : Nat) (l : List Act) (w : World) (h : ActsAt w A l) (hl : longB l = false) (hl2 : l.length ≤ 150) (hok : newOk limit window slip) :
    Calls Try.prog 6 #[.int .i64 limit, .int .i64 window, .int .i64 slip, .slice A l.length cap] w fun e w' => e = .returned (.bool true) ∧ Below w.heap.size w w' := by
  obtain ⟨o1, o2, o3, o4, o5, o6⟩ := hok
  have N1 := Lib.hid (fun w => New_good 200 limit window slip w (by omega) (by omega) (by omega) (by omega) (by omega) (by omega) (by omega) (by omega))
  have N2 := Lib.hid (fun w => New_good 1 limit window slip w (by omega) (by omega) (by omega) (by omega) (by omega) (by omega) (by omega) (by omega))
  obtain ⟨c, s, hkey⟩ : ∃ c s, IsKey l c s := by
    cases l with
    | nil => exact ⟨0, ByteArray.empty, fun h => absurd h (by simp)⟩
    | cons a r => exact ⟨a.c, a.s, fun _ => ⟨rfl, rfl⟩⟩
  have HK := Lib.hid hkey; clear hkey
  have HL := Lib.hid hl; clear hl
  have H := Lib.hid h; clear h
  clear o1 o2 o3 o4 o5 o6
  go_enter Try.func6, Try.ntmps6
  go_wp2_with fail
  refine (awake_calls _).mono ?_
  rintro e w1 ⟨rfl, hB⟩
  have H1 := Lib.hid (H.out.below (Nat.le_refl _) hB)
  have HB := Lib.hid hB; clear hB
  go_wp2_with fail
  refine (Long_calls A cap l w1 H1.out).mono ?_
  rintro e w2 ⟨rfl, rfl⟩
  rw [HL.out]
  go_wp2_with fail
  refine (N1.out _).mono ?_
  rintro e w3 ⟨rfl, hx, hbx⟩
  have HX := Lib.hid (And.intro hx hbx); clear hx hbx
  go_wp2_with fail
  refine (N2.out _).mono ?_
  rintro e w4 ⟨rfl, hy, hby⟩
  have hT := Two.new HB.out HX.out.1 HX.out.2 hy hby
  have hI : ApInv w (w2.heap.size + 1) (w3.heap.size + 1) l c s 0 w4 := ⟨_, _, hT, agree_new _ _ _ _ _ _⟩
  generalize w2.heap.size + 1 = gx at hI ⊢
  generalize w3.heap.size + 1 = gy at hI ⊢
  have HI := Lib.hid hI; clear hI hT hy hby
  go_wp2_with fail
  go_loopw [14] (fun i wr => ∃ k : Nat, k ≤ l.length ∧ i = .int .i64 k ∧ ApInv w gx gy l c s k wr) (fun i _ => l.length - (intOf i).toNat)
  case atStart => exact ⟨0, by omega, rfl, HI.out⟩
  case round =>
    obtain ⟨k, hk, rfl, hI⟩ := hrel
    obtain ⟨X, Y, hT, hA⟩ := hI.two
    by_cases hlt : k < l.length
    · have hAt : ∀ W, Below w.heap.size w W → ActsAt W A l := fun W hb => H.out.below (Nat.le_refl _) hb
      obtain ⟨b, off, rfl, _, _⟩ := H.out.at_ (by omega)
      have hc : ∀ W, Below w.heap.size w W → ∀ i (h : i < l.length), W.cell? ⟨b, off + i * 3, none⟩ = some (.int .i64 l[i].c) ∧ W.cell? ⟨b, off + i * 3 + 1, none⟩ = some (.string l[i].s) ∧ W.cell? ⟨b, off + i * 3 + 2, none⟩ = some (.int .i64 l[i].n) := fun W hb => by
        obtain ⟨b', off', e, _, hcs⟩ := (hAt W hb).at_ (by omega)
        cases e
        exact hcs
      have HC := Lib.hid hc; clear hc hAt
      have hkk := (H.out.ok _ (List.getElem_mem hlt)).key
      have HJ := Lib.hid ((show Two w gx gy X Y wr.drew from hT.drewN 1).judgeX l[k].n hkk)
      obtain ⟨c0, c1, c2⟩ := HC.out wr hT.below k hlt
      have hA' := Lib.hid hA; clear hA hI hT
      obtain ⟨r, hr⟩ : ∃ r, r = (judgeA X l[k].c l[k].s l[k].n).1 := ⟨_, rfl⟩
      rw [← hr] at HJ
      have HV := Lib.hid hr; clear hr
      go_upto_region 13 with fail
      go_still_tail 16, (by kernel_rfl)
      change wpList _ _ _ _ _ wr.drew
      go_wp2_with fail
      refine HJ.out.mono ?_; rintro e w5 ⟨rfl, hT5⟩; obtain ⟨q0, q1, q2⟩ := HC.out w5 hT5.below k hlt
      have HT5 := Lib.hid hT5; clear hT5
      clear c0 c1 c2 HJ
      by_cases hlow : 0 < k ∧ l[k].n < l[k - 1].n
      · obtain ⟨hk0, hlow⟩ := hlow
        obtain ⟨_, _, p2⟩ := HC.out w5 HT5.out.below (k - 1) (by omega)
        have e1 : ((k : Int) - 1).toNat = k - 1 := by omega
        have p2 : w5.cell? ⟨b, off + ((k : Int) - 1).toNat * 3 + 2, none⟩ = some (.int .i64 l[k - 1].n) := by rw [e1]; exact p2
        have hd : decide (l[k].n < l[k - 1].n) = true := decide_eq_true hlow
        clear q0 q1 e1
        go_upto_region 14 with fail
        go_quiet (fail)
        go_wp2_with fail
        go_ret
        exact ⟨rfl, (HT5.out.drewN _).below⟩
      · go_upto_region 14 with fail
        go_cut [95] (fun s95 wc => s95 = .bool false ∧ Two w gx gy (judgeA X l[k].c l[k].s l[k].n).2 Y wc)
        case first =>
          by_cases hk0 : 0 < k
          · obtain ⟨_, _, p2⟩ := HC.out w5 HT5.out.below (k - 1) (by omega)
            have e1 : ((k : Int) - 1).toNat = k - 1 := by omega
            have p2 : w5.cell? ⟨b, off + ((k : Int) - 1).toNat * 3 + 2, none⟩ = some (.int .i64 l[k - 1].n) := by rw [e1]; exact p2
            have hd : decide (l[k].n < l[k - 1].n) = false := decide_eq_false (fun h => hlow ⟨hk0, h⟩)
            clear q0 q1 e1 hlow
            go_quiet (fail)
            go_wp2_with fail
            go_meet
            exact ⟨rfl, HT5.out.drewN _⟩
          · obtain rfl : k = 0 := by omega
            go_quiet (fail)
            go_wp2_with fail
            go_meet
            exact ⟨rfl, HT5.out.drewN _⟩
        case rest =>
          obtain ⟨rfl, hTc⟩ := hcut
          have hTle : Tof l k ≤ l[k].n := by
            unfold Tof
            by_cases hk0 : 0 < k
            · rw [List.getElem?_eq_getElem (show k - 1 < l.length by omega)]
              exact Int.not_lt.1 fun h => hlow ⟨hk0, h⟩
            · obtain rfl : k = 0 := by omega
              rw [List.getElem?_eq_getElem (show 0 - 1 < l.length by omega)]
              exact Int.le_refl _
          have hTk : Tof l (k + 1) = l[k].n := by
            unfold Tof
            rw [Nat.add_sub_cancel, List.getElem?_eq_getElem hlt]
          obtain ⟨c0, c1, c2⟩ := HC.out wc hTc.below k hlt
          obtain ⟨d0, d1, _⟩ := HC.out wc hTc.below 0 (by omega)
          rw [show off + 0 * 3 = off by omega] at d0 d1
          obtain ⟨z0, z1⟩ := HK.out (by omega)
          rw [z0] at d0; rw [z1] at d1
          clear q0 q1 hlow HL HI HX HT5
          by_cases hkey : l[k].c = c ∧ l[k].s = s
          · obtain ⟨k0, k1⟩ := hkey
            have hown := hA'.out.own (by omega) hTle
            rw [k0, k1] at HV hTc hkk
            rw [k0] at c0; rw [k1] at c1
            have HQ := Lib.hid (show ∀ W', Below w.heap.size w W' → W'.cell? ⟨b, off + k * 3, none⟩ = some (.int .i64 c) ∧ W'.cell? ⟨b, off + k * 3 + 1, none⟩ = some (.string s) ∧ W'.cell? ⟨b, off + k * 3 + 2, none⟩ = some (.int .i64 l[k].n) ∧ W'.cell? ⟨b, off, none⟩ = some (.int .i64 c) ∧ W'.cell? ⟨b, off + 1, none⟩ = some (.string s) from fun W' hb => by
              obtain ⟨a0, a1, a2⟩ := HC.out W' hb k hlt
              obtain ⟨b0, b1, _⟩ := HC.out W' hb 0 (by omega)
              rw [show off + 0 * 3 = off by omega] at b0 b1
              rw [z0] at b0; rw [z1] at b1
              rw [k0] at a0; rw [k1] at a1
              exact ⟨a0, a1, a2, b0, b1⟩)
            rw [← HV.out] at hown
            obtain ⟨hv, hag⟩ := hown
            have hag : Agree (judgeA X c s l[k].n).2 (judgeA Y c s l[k].n).2 c s (k + 1) (Tof l (k + 1)) := by rw [hTk]; exact hag
            have HJ := Lib.hid ((show Two w gx gy (judgeA X c s l[k].n).2 Y wc.drew from hTc.drewN 1).judgeY l[k].n hkk)
            rw [← hv] at HJ
            have HAG := Lib.hid hag; clear hag hv hTc hTle hTk HV z0 z1 k0 k1 hkk
            have i0 : 0 < l.length := by omega
            have i01 : (0 : Int) < (l.length : Int) := by omega
            have i02 : ¬ l = [] := by intro e; rw [e] at i0; exact absurd i0 (by decide)
            have i1 : (0 : Int) ≤ (k : Int) := by omega
            have i2 : (k : Int) < (l.length : Int) := by omega
            go_upto_region 16 with fail
            go_region_held3 (fun W' => W'.cell? ⟨b, off + k * 3, none⟩ = some (.int .i64 c) ∧ W'.cell? ⟨b, off + k * 3 + 1, none⟩ = some (.string s) ∧ W'.cell? ⟨b, off + k * 3 + 2, none⟩ = some (.int .i64 l[k].n) ∧ W'.cell? ⟨b, off, none⟩ = some (.int .i64 c) ∧ W'.cell? ⟨b, off + 1, none⟩ = some (.string s)) (first | exact q | exact ⟨c0, c1, c2, d0, d1⟩) (first | (go_at_call 9; refine HJ.out.mono ?_; rintro e w6 ⟨rfl, hT6⟩; have q := HQ.out w6 hT6.below))
            go_wp2_with fail
            go_roundw
            case rel => exact ⟨k + 1, by omega, by go_num, ⟨_, _, hT6, HAG.out⟩⟩
            case measure => simp [intOf]; omega
          · have hoth := hA'.out.other (c' := l[k].c) (s' := l[k].s) (t := l[k].n) (by omega) hkey hTle
            have hoth : Agree (judgeA X l[k].c l[k].s l[k].n).2 Y c s (k + 1) (Tof l (k + 1)) := by rw [hTk]; exact hoth
            have HAG := Lib.hid hoth; clear hoth
            have HTc := Lib.hid hTc; clear hTc hTle hTk HV z0 z1 hkk
            have i0 : 0 < l.length := by omega
            have i01 : (0 : Int) < (l.length : Int) := by omega
            have i02 : ¬ l = [] := by intro e; rw [e] at i0; exact absurd i0 (by decide)
            have i1 : (0 : Int) ≤ (k : Int) := by omega
            have i2 : (k : Int) < (l.length : Int) := by omega
            by_cases hk0 : l[k].c = c
            · have hk1 : decide (l[k].s = s) = false := decide_eq_false fun h => hkey ⟨hk0, h⟩
              rw [hk0] at c0
              clear hkey
              generalize l[k].s = sk at c1 hk1 HTc HAG
              have hk2 : ¬ sk = s := of_decide_eq_false hk1
              have hk4 : ¬ sk.toList = s.toList := fun h => hk2 (toList_one h)
              have hk3 : (sk.toList == s.toList) = false := beq_eq_false_iff_ne.2 hk4
              go_upto_region 16 with fail
              go_quiet (fail)
              go_wp2_with fail
              go_roundw
              case rel => exact ⟨k + 1, by omega, by go_num, ⟨_, _, HTc.out.drewN _, HAG.out⟩⟩
              case measure => simp [intOf]; omega
            · have hk1 : decide (l[k].c = c) = false := decide_eq_false hk0
              clear hkey hk0
              generalize l[k].c = ck at c0 hk1 HTc HAG
              have hk2 : ¬ ck = c := of_decide_eq_false hk1
              have hk3 : (ck == c) = false := beq_eq_false_iff_ne.2 hk2
              go_upto_region 16 with fail
              go_quiet (fail)
              go_wp2_with fail
              go_roundw
              case rel => exact ⟨k + 1, by omega, by go_num, ⟨_, _, HTc.out.drewN _, HAG.out⟩⟩
              case measure => simp [intOf]; omega
    · obtain rfl : k = l.length := by omega
      by_cases h0 : l = []
      · subst h0
        have HT := Lib.hid hT; clear hT hA hI HI
        go_wp2_with fail
        go_quiet (fail)
        go_wp2_with fail
        go_ret
        exact ⟨rfl, (HT.out.drewN _).below⟩
      · have i0 : 0 < l.length := List.length_pos_iff.2 h0
        obtain ⟨m, hm⟩ : ∃ m, l.length = m + 1 := ⟨l.length - 1, by omega⟩
        obtain ⟨b, off, rfl, _, _⟩ := H.out.at_ i0
        have hQ : ∀ W, Below w.heap.size w W → W.cell? ⟨b, off, none⟩ = some (.int .i64 c) ∧ W.cell? ⟨b, off + 1, none⟩ = some (.string s) := fun W hb => by
          obtain ⟨b', off', e, _, hcs⟩ := (H.out.below (Nat.le_refl _) hb).at_ i0
          cases e
          obtain ⟨a0, a1, _⟩ := hcs 0 i0
          obtain ⟨z0, z1⟩ := HK.out i0
          rw [show off + 0 * 3 = off by omega] at a0 a1
          rw [z0] at a0; rw [z1] at a1
          exact ⟨a0, a1⟩
        have hkk : KeyOk c s := by
          have := (H.out.ok _ (List.getElem_mem i0)).key
          obtain ⟨z0, z1⟩ := HK.out i0
          rw [z0, z1] at this
          exact this
        obtain ⟨c0, c1⟩ := hQ wr hT.below
        have hfind := hA.find
        have hcnt : countE Y.L c s = countE X.L c s := by unfold countE; rw [hfind]
        have HX := Lib.hid (fun W (h : Two w gx gy X Y W) => h.countX hkk)
        have HY := Lib.hid (fun W (h : Two w gx gy X Y W) => h.countY hkk)
        rw [hcnt] at HY
        have hTd : Two w gx gy X Y wr.drew := hT.drewN 1
        have HTd := Lib.hid hTd
        have HQ := Lib.hid hQ
        clear hT hA hI HI hfind hcnt hQ hTd HL hkk
        generalize countE X.L c s = n at HX HY
        rw [hm]
        have j1 : (0 : Int) < (m : Int) + 1 := by omega
        have j2 : (0 : Int) < ((m + 1 : Nat) : Int) := by omega
        have j3 : 0 < m + 1 := by omega
        go_wp2_with fail
        go_region_held3 (fun W' => W'.cell? ⟨b, off, none⟩ = some (.int .i64 c) ∧ W'.cell? ⟨b, off + 1, none⟩ = some (.string s)) (first | exact q2 | exact q | exact ⟨c0, c1⟩) (first | (go_at_call 11; refine (HY.out _ hT6).mono ?_; rintro e w7 ⟨rfl, hT7⟩; have q2 := HQ.out w7 hT7.below) | (go_at_call 11; refine (HX.out _ HTd.out).mono ?_; rintro e w6 ⟨rfl, hT6⟩; have q := HQ.out w6 hT6.below))
        go_wp2_with fail
        go_ret
        exact ⟨by simp, hT7.below⟩
theorem RrlApart_calls (limit window slip : Int) (A : Option Addr) (cap : Nat) (l : List Act) (w : World) (h : ActsAt w A l) :
    Calls Try.prog 6 #[.int .i64 limit, .int .i64 window, .int .i64 slip, .slice A l.length cap] w fun e w' => e = .returned (.bool true) ∧ Below w.heap.size w w' := by
  by_cases h1 : longB l = true ∨ 150 < l.length
  · exact Apart_long _ _ _ _ _ _ _ h h1
  · have h2 : longB l = false := by
      cases hb : longB l with
      | true => exact absurd (.inl hb) h1
      | false => rfl
    have h3 : l.length ≤ 150 := Nat.not_lt.1 fun h => h1 (.inr h)
    by_cases h4 : newOk limit window slip
    · exact Apart_in _ _ _ _ _ _ _ h h2 h3 h4
    · exact Apart_bad _ _ _ _ _ _ _ h h2 h3 h4
end Go.Proofs.Ytihnmabmjffgoaa
