/- RrlBound: the walk. -/
import Derived.Test.YtihnmabmjffgoaaBoundR
namespace Go.Proofs.Ytihnmabmjffgoaa
open Go.RowKit Go.Maps

def boundOk (limit window : Int) : Prop := 0 ≤ limit ∧ limit ≤ 1000 ∧ 1 ≤ window ∧ window ≤ 1000

set_option maxRecDepth 100000 in
set_option maxHeartbeats 1000000 in
theorem Bound_out (most limit window slip : Int) (A : Option Addr) (cap : Nat) (l : List Act) (w : World) (h : ActsAt w A l) (hl : longB l = true ∨ 150 < l.length ∨ ¬ boundOk limit window) :
    Calls Try.prog 5 #[.int .i64 most, .int .i64 limit, .int .i64 window, .int .i64 slip, .slice A l.length cap] w fun e w' => e = .returned (.bool true) ∧ Below w.heap.size w w' := by
  have hm := h.few
  unfold maxLen at hm
  unfold boundOk at hl
  have HL := Lib.hid hl; clear hl
  have H := Lib.hid h; clear h
  go_enter Try.func5, Try.ntmps5
  go_wp2_with fail
  refine (RrlKnown_calls _).mono ?_
  rintro e w1 ⟨rfl, hB⟩
  have H1 := Lib.hid (H.out.below (Nat.le_refl _) hB)
  have HB := Lib.hid hB; clear hB
  go_wp2_with fail
  refine (Long_calls A cap l w1 H1.out).mono ?_
  rintro e w2 ⟨rfl, rfl⟩
  have hl := HL.out
  generalize longB l = bl at hl ⊢
  cases bl with
  | true =>
    clear hl
    go_wp2_with fail
    go_ret
    exact ⟨rfl, HB.out⟩
  | false =>
    have hl' : 150 < l.length ∨ ¬ (0 ≤ limit ∧ limit ≤ 1000 ∧ 1 ≤ window ∧ window ≤ 1000) := by simpa using hl
    clear hl HL
    go_wp2_with fail
    all_goals first
      | (go_ret; exact ⟨rfl, HB.out⟩)
      | (exfalso; omega)

set_option maxRecDepth 100000 in
set_option maxHeartbeats 1000000 in
theorem Bound_bad (most limit window slip : Int) (A : Option Addr) (cap : Nat) (l : List Act) (w : World) (h : ActsAt w A l) (hl : longB l = false) (hl2 : l.length ≤ 150) (hb : boundOk limit window) (hbad : ¬ (1 ≤ most ∧ most ≤ 1024 ∧ 0 ≤ slip ∧ slip ≤ 1073741824)) :
    Calls Try.prog 5 #[.int .i64 most, .int .i64 limit, .int .i64 window, .int .i64 slip, .slice A l.length cap] w fun e w' => e = .returned (.bool true) ∧ Below w.heap.size w w' := by
  obtain ⟨b1, b2, b3, b4⟩ := hb
  have N1 := Lib.hid (fun w => New_bad most limit window slip w (by omega))
  clear hbad
  have HL := Lib.hid hl; clear hl
  have H := Lib.hid h; clear h
  go_enter Try.func5, Try.ntmps5
  go_wp2_with fail
  refine (RrlKnown_calls _).mono ?_
  rintro e w1 ⟨rfl, hB⟩
  have H1 := Lib.hid (H.out.below (Nat.le_refl _) hB)
  have HB := Lib.hid hB; clear hB
  go_wp2_with fail
  refine (Long_calls A cap l w1 H1.out).mono ?_
  rintro e w2 ⟨rfl, rfl⟩
  rw [HL.out]
  go_wp2_with fail
  refine (N1.out _).mono ?_
  rintro e w3 ⟨rfl, rfl⟩
  go_wp2_with fail
  go_ret
  exact ⟨rfl, HB.out⟩

set_option maxRecDepth 100000 in
set_option maxHeartbeats 4000000 in
theorem Bound_in (most limit window : Int) (sl : Unit → Int) (A : Option Addr) (cap : Nat) (l : List Act) (w : World) (h : ActsAt w A l) (hl : longB l = false) (hl2 : l.length ≤ 150) (hb : boundOk limit window) (hok : 1 ≤ most ∧ most ≤ 1024 ∧ 0 ≤ (sl ()) ∧ (sl ()) ≤ 1073741824) :
    Calls Try.prog 5 #[.int .i64 most, .int .i64 limit, .int .i64 window, .int .i64 (sl ()), .slice A l.length cap] w fun e w' => e = .returned (.bool true) ∧ Below w.heap.size w w' := by
  obtain ⟨b1, b2, b3, b4⟩ := hb
  obtain ⟨o1, o2, o3, o4⟩ := hok
  have N1 := Lib.hid (fun w => New_good most limit window (sl ()) w (by omega) (by omega) (by omega) (by omega) (by omega) (by omega) (by omega) (by omega))
  obtain ⟨x0, hx0⟩ : ∃ x0, x0 = newLim most limit window (sl ()) := ⟨_, rfl⟩
  have p1 : x0.most = most := by rw [hx0]; rfl
  have p2 : x0.limit = limit := by rw [hx0]; rfl
  have p3 : x0.window = window := by rw [hx0]; rfl
  have p4 : x0.slip = (sl ()) := by rw [hx0]; rfl
  have p5 : x0.now = 0 := by rw [hx0]; rfl
  have HV0 := Lib.hid (show ∀ c s, view x0 c s = none from fun c s => by rw [hx0]; rfl)
  rw [← hx0] at N1
  clear hx0
  have hc : ∀ W, Below w.heap.size w W → ∀ b off, A = some ⟨b, off, none⟩ → ∀ i (_ : i < l.length), W.cell? ⟨b, off + i * 3, none⟩ = some (.int .i64 (act l i).c) ∧ W.cell? ⟨b, off + i * 3 + 1, none⟩ = some (.string (act l i).s) ∧ W.cell? ⟨b, off + i * 3 + 2, none⟩ = some (.int .i64 (act l i).n) := fun W hb b off e i hi => by
    obtain ⟨b', off', e', _, hcs⟩ := (h.below (Nat.le_refl _) hb).at_ (by omega)
    rw [e] at e'
    cases e'
    have := hcs i hi
    rw [act_get hi] at this
    exact this
  have HC := Lib.hid hc; clear hc
  have HKK := Lib.hid (show ∀ i, i < l.length → KeyOk (act l i).c (act l i).s from fun i hi => by
    have := (h.ok _ (List.getElem_mem hi)).key
    rw [act_get hi] at this
    exact this)
  have HMK := Lib.hid (make38 l.length (by omega))
  have HL := Lib.hid hl; clear hl
  have H := Lib.hid h; clear h
  have HP := Lib.hid (And.intro p1 (And.intro p2 (And.intro p3 (And.intro p4 p5)))); clear p1 p2 p3 p4 p5
  go_enter Try.func5, Try.ntmps5
  go_wp2_with fail
  refine (RrlKnown_calls _).mono ?_
  rintro e w1 ⟨rfl, hB⟩
  have H1 := Lib.hid (H.out.below (Nat.le_refl _) hB)
  have HB := Lib.hid hB; clear hB
  go_wp2_with fail
  refine (Long_calls A cap l w1 H1.out).mono ?_
  rintro e w2 ⟨rfl, rfl⟩
  rw [HL.out]
  go_wp2_with fail
  refine (N1.out _).mono ?_
  rintro e w3 ⟨rfl, hx, hbx⟩
  have HX := Lib.hid (And.intro hx hbx); clear hx hbx
  have hmk := HMK.out w3
  go_wp2_with fail
  have hI : BInv w (w2.heap.size + 1) w3.heap.size x0 l 0 (w3.alloc (.cells (madeCells #[.int .i64 0] l.length) 3)) := by
    have hsz := HB.out.size
    have hsz2 := HX.out.2.size
    refine ⟨?_, said_new _ _ _, fun j hj => absurd hj (by omega), by omega⟩
    have h1 := LimInv.new (K := fun _ => False) HB.out HX.out.1 HX.out.2 (fun _ h => h.elim)
    obtain ⟨S, h2, h3⟩ := h1.lim
    refine ⟨⟨S, h2.kept (T := fun _ => False) (KeptOff.alloc _ _ _) (fun _ _ h => h), fun j hj => ⟨(h3 j hj).1, fun e => ?_⟩⟩, h1.below.alloc h1.below.size _, fun j hj => ?_⟩
    · obtain ⟨_, _, _, _, h4⟩ := h2
      have := h4.lt j hj
      omega
    · subst hj
      simp
  clear hmk
  generalize hW : w3.alloc (.cells (madeCells #[.int .i64 0] l.length) 3) = w4 at hI ⊢
  clear hW
  generalize w2.heap.size + 1 = g at hI ⊢
  generalize w3.heap.size = bs at hI ⊢
  have HI := Lib.hid hI; clear hI HX N1 HMK
  go_wp2_with fail
  go_loopw [15] (fun i wr => ∃ k : Nat, k ≤ l.length ∧ i = .int .i64 k ∧ BInv w g bs x0 l k wr) (fun i _ => l.length - (intOf i).toNat)
  case atStart => exact ⟨0, by omega, rfl, HI.out⟩
  case round =>
    obtain ⟨k, hk, rfl, hI⟩ := hrel
    by_cases hlt : k < l.length
    · obtain ⟨b, off, hA, _, _⟩ := H.out.at_ (by omega)
      subst hA
      have i0 : (0 : Int) < (l.length : Int) := by omega
      have i1 : (0 : Int) ≤ (k : Int) := by omega
      have i2 : (k : Int) < (l.length : Int) := by omega
      obtain ⟨_, _, c2⟩ := HC.out wr hI.lim.below b off rfl k hlt
      have HI2 := Lib.hid hI
      have hbel := hI.lim.below
      have HBW := Lib.hid hbel; clear hbel
      by_cases hneg : (act l k).n < 0
      · clear hI
        have hd : decide ((act l k).n < 0) = true := decide_eq_true hneg
        go_upto_region 13 with fail
        go_quiet (fail)
        go_wp2_with fail
        go_ret
        exact ⟨rfl, (HI2.out.drewN _).lim.below⟩
      · have hd : decide ((act l k).n < 0) = false := decide_eq_false hneg
        by_cases hbig : 1073741824 < (act l k).n
        · clear hI
          have hd2 : decide (1073741824 < (act l k).n) = true := decide_eq_true hbig
          go_upto_region 13 with fail
          go_quiet (fail)
          go_wp2_with fail
          go_ret
          exact ⟨rfl, (HI2.out.drewN _).lim.below⟩
        · have hd2 : decide (1073741824 < (act l k).n) = false := decide_eq_false hbig
          by_cases hlow : 0 < k ∧ (act l k).n < (act l (k - 1)).n
          · clear hI
            obtain ⟨hk0, hlow⟩ := hlow
            obtain ⟨_, _, p2⟩ := HC.out wr HBW.out b off rfl (k - 1) (by omega)
            have e1 : ((k : Int) - 1).toNat = k - 1 := by omega
            have p2 : wr.cell? ⟨b, off + ((k : Int) - 1).toNat * 3 + 2, none⟩ = some (.int .i64 (act l (k - 1)).n) := by rw [e1]; exact p2
            have hd3 : decide ((act l k).n < (act l (k - 1)).n) = true := decide_eq_true hlow
            clear e1
            go_upto_region 13 with fail
            go_quiet (fail)
            go_wp2_with fail
            go_ret
            exact ⟨rfl, (HI2.out.drewN _).lim.below⟩
          · have hup : 0 < k → (act l (k - 1)).n ≤ (act l k).n := fun h0 => Int.not_lt.1 fun h => hlow ⟨h0, h⟩
            have hran : Ran x0 l (k + 1) := fun j hj => by
              by_cases e : j = k
              · subst e
                exact ⟨hI.good, ran_now hI.ran HP.out.2.2.2.2 (by omega) hup, by omega, by omega, hup⟩
              · exact hI.ran j (by omega)
            have HRAN := Lib.hid hran; clear hran hI
            go_upto_region 13 with fail
            go_cut [100] (fun s wc => s = .bool false ∧ BInv w g bs x0 l k wc)
            case first =>
              by_cases hk0 : 0 < k
              · obtain ⟨_, _, p2⟩ := HC.out wr HBW.out b off rfl (k - 1) (by omega)
                have e1 : ((k : Int) - 1).toNat = k - 1 := by omega
                have p2 : wr.cell? ⟨b, off + ((k : Int) - 1).toNat * 3 + 2, none⟩ = some (.int .i64 (act l (k - 1)).n) := by rw [e1]; exact p2
                have hd3 : decide ((act l k).n < (act l (k - 1)).n) = false := decide_eq_false (fun h => hlow ⟨hk0, h⟩)
                clear e1 hlow
                go_quiet (fail)
                go_wp2_with fail
                go_meet
                exact ⟨rfl, HI2.out.drewN _⟩
              · obtain rfl : k = 0 := by omega
                go_quiet (fail)
                go_wp2_with fail
                go_meet
                exact ⟨rfl, HI2.out.drewN _⟩
            case rest =>
              obtain ⟨rfl, hIc⟩ := hcut
              clear c2 hd hd2 hneg hbig hlow hup HI2 HBW
              have HJ := Lib.hid ((show BInv w g bs x0 l k wc.drew from hIc.drewN 1).judge (HKK.out k hlt))
              obtain ⟨c0, c1, c2⟩ := HC.out wc hIc.lim.below b off rfl k hlt
              have hr := said_range x0 l hIc.ran
              rw [HP.out.2.2.2.1] at hr
              have HR := Lib.hid hr; clear hr hIc
              go_upto_region 15 with fail
              go_cut [120] (fun s wc => s = .int .i64 (saidAt x0 l k) ∧ BInv w g bs x0 l (k + 1) wc)
              case first =>
                go_region_with (go_at_call 9; refine HJ.out.mono ?_; rintro e w6 ⟨rfl, hM⟩; obtain ⟨⟨z, hz⟩, hfz⟩ := hM.said.room hlt)
                all_goals (go_wp2_with fail; go_meet; exact ⟨rfl, hM.store hlt HRAN.out⟩)
              case rest =>
                obtain ⟨rfl, hId⟩ := hcut
                obtain ⟨nl, hnl, hlen⟩ := hId.len
                rw [HP.out.1] at hnl
                have hcell := hId.said.cell (Nat.lt_succ_self k)
                have hr := HR.out
                have HI3 := Lib.hid hId; clear hId HR HJ HRAN c0 c1 c2
                have HLEN := Lib.hid hlen; clear hlen
                generalize saidAt x0 l k = r at hr hcell ⊢
                go_upto_region 16 with fail
                go_cut [3, 51, 150] (fun s3 s51 s wc' => s3 = .int .i64 (sl ()) ∧ s51 = .int .i64 (sl ()) ∧ s = .bool false ∧ BInv w g bs x0 l (k + 1) wc')
                case first =>
                  rcases hr with rfl | rfl | ⟨rfl, hs0⟩
                  all_goals (
                    go_wp2_with fail
                    all_goals (
                      refine HLEN.out.mono ?_
                      rintro e w7 ⟨rfl, rfl⟩
                      go_wp2_with fail
                      go_meet
                      exact ⟨by first | rfl | (congr 1; omega), by first | rfl | (congr 1; omega), by first | rfl | (simp; omega), HI3.out⟩))
                case rest =>
                  obtain ⟨rfl, rfl, rfl, hI4⟩ := hcut
                  clear HI3 HLEN hcell hr
                  go_wp2_with fail
                  go_roundw
                  case rel => exact ⟨k + 1, by omega, by go_num, hI4⟩
                  case measure => simp [intOf]; omega
    · obtain rfl : k = l.length := by omega
      have HF0 := Lib.hid (show FInv w bs x0 l wr from ⟨hI.lim.below, hI.said⟩)
      have HRAN := Lib.hid hI.ran
      clear hI HI hk hlt
      rename_i a0
      have HA := Lib.hid a0
      clear a0
      go_wp2_with fail
      refine HA.out _ _ ?_
      exact Bound_rest most limit window sl A cap l w x0 bs hl2 b1 b2 o3 HV0 HC H HP wr HF0 HRAN _ _ _ _ _ _ _ _ _ _ _ _ _ _ _ _ _ _ _ _ _ _ _ _ _ _ _ _ _ _ _ _ _ _ _ _ _ _ _ _ _ _ _ _ _ _ _ _ _ _ _ _ _ _ _ _ _ _ _ _ _ _ _ _ _ _ _ _ _ _ _ _ _ _ _ _ _ _ _ _ _ _ _ _ _ _ _ _ _ _ _ _ _ _ _ _ _ _ _ _ _ _ _ _ _ _ _ _ _ _ _ _ _ _ _ _ _ _ _ _ _ _ _ _ _ _ _ _ _ _ _ _ _ _ _ _ _ _ _ _ _ _ _ _ _ _ _ _ _ _ _ _ _ _ _ _ _ _ _ _ _ _ _ _ _ _ _ _ _ _ _ _ _ _ _ _ _ _ _ _ _ _ _ _ _ _ _ _ _ _ _ _ _ _ _ _ _ _ _ _ _ _ _ _ _ _ _ _ _ _ _ _ _ _ _ _ _ _ _ _ _ _ _ _ _ _ _ _ _ _ _ _ _ _ _ _ _ _ _ _ _ _ _ _ _ _ _ _ _ _ _ _ _ _ _ _ _ _ _ _ _ _ _ _
theorem RrlBound_calls (most limit window slip : Int) (A : Option Addr) (cap : Nat) (l : List Act) (w : World) (h : ActsAt w A l) :
    Calls Try.prog 5 #[.int .i64 most, .int .i64 limit, .int .i64 window, .int .i64 slip, .slice A l.length cap] w fun e w' => e = .returned (.bool true) ∧ Below w.heap.size w w' := by
  by_cases h1 : longB l = true ∨ 150 < l.length ∨ ¬ boundOk limit window
  · exact Bound_out _ _ _ _ _ _ _ _ h h1
  · have h2 : longB l = false := by
      cases hb : longB l with
      | true => exact absurd (.inl hb) h1
      | false => rfl
    have h3 : l.length ≤ 150 := Nat.not_lt.1 fun h => h1 (.inr (.inl h))
    have h4 : boundOk limit window := Classical.not_not.1 fun h => h1 (.inr (.inr h))
    by_cases h5 : 1 ≤ most ∧ most ≤ 1024 ∧ 0 ≤ slip ∧ slip ≤ 1073741824
    · exact Bound_in most limit window (fun _ => slip) A cap l w h h2 h3 h4 h5
    · exact Bound_bad _ _ _ _ _ _ _ _ h h2 h3 h4 h5
end Go.Proofs.Ytihnmabmjffgoaa
