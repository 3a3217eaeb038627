import Derived.Test.YteahdaddbmhfgaaQKnown1
import Derived.Test.YteahdaddbmhfgaaQKnown2
import Derived.Test.YteahdaddbmhfgaaQKnown3
import Derived.Test.YteahdaddbmhfgaaQKnown4
import Derived.Test.YteahdaddbmhfgaaQKnown5
import Derived.Test.YteahdaddbmhfgaaQKnown6
import Derived.Test.YteahdaddbmhfgaaQKnown7
import Derived.Test.YteahdaddbmhfgaaQKnown8
import Derived.Test.YteahdaddbmhfgaaQKnown9
section
namespace Go.Proofs.Yteahdaddbmhfgaa.P
open Go.RowKit Go.Shelf Go.Proofs.YteahdaddbmhfgaaW.PrintWords Go.Proofs.YteahdaddbmhfgaaW.PrintLast Go.Proofs.YteahdaddbmhfgaaW.PrintMore
open Go.Proofs.YteahdaddbmhfgaaW
set_option linter.unusedVariables false
set_option linter.unusedSimpArgs false
def ofS (an ns ar : List S48) : Option (Int × Int × Int × Bool × List S82 × Bool × Int) :=
  if ar.countP isOpt + (an.countP isOpt + ns.countP isOpt) = 0 then some (0, 0, 0, false, [], false, 0)
  else if ar.countP isOpt ≠ 1 ∨ 0 < an.countP isOpt + ns.countP isOpt then some (0, 0, 0, false, [], false, 4)
  else (ar.find? isOpt).bind fun x => (edns_options.f x.f4).bind fun t =>
    if t.2 = true ∧ x.f0 = ⟨#[0]⟩ ∧ (0 ≤ x.f2 ∧ x.f2 ≤ 65535) ∧ (0 ≤ x.f3 ∧ x.f3 ≤ 2147483647) then some (x.f2, x.f3 / 16777216, x.f3 / 65536 % 256, decide (x.f3 / 32768 % 2 = 1), t.1, true, 0)
    else some (0, 0, 0, false, [], false, 4)
def edns_Of.f (a0_0 : Int) (a0_1 : Int) (l0_2 : List (S79)) (l0_3 : List (S48)) (l0_4 : List (S48)) (l0_5 : List (S48)) : Option (Int × Int × Int × Bool × (List (S82)) × Bool × Int) :=
  if l0_3.length + l0_4.length + l0_5.length ≤ 1000000 then ofS l0_3 l0_4 l0_5 else none
structure OfHeld (W : World) (g : Nat) (a b c : Int) (d : Bool) (v : Value) (is : Bool) (er : Int) : Prop where
  c2 : W.heap[g]? = some (.cells #[.int .i64 a, .int .i64 b, .int .i64 c, .bool d, v] 28 (0, 0))
  c3 : W.heap[g + 1]? = some (.cells #[.bool is] 4 (0, 0))
  c4 : W.heap[g + 1 + 1]? = some (.cells #[.int .i64 er] 33 (0, 0))
theorem OfHeld.stored {W : World} {g : Nat} {a b c : Int} {d : Bool} {v : Value} {is : Bool} {er : Int} (h : OfHeld W g a b c d v is er) (a' b' c' : Int) (d' : Bool) (v' : Value) (is' : Bool) (er' : Int) :
    OfHeld (((((((W.setCell ⟨g, 0, none⟩ (.int .i64 a')).setCell ⟨g, 1, none⟩ (.int .i64 b')).setCell ⟨g, 2, none⟩ (.int .i64 c')).setCell ⟨g, 3, none⟩ (.bool d')).setCell ⟨g, 4, none⟩ v').setCell ⟨g + 1, 0, none⟩ (.bool is')).setCell ⟨g + 1 + 1, 0, none⟩ (.int .i64 er')) g a' b' c' d' v' is' er' := by
  refine ⟨?_, ?_, ?_⟩
  · exact blk_far (blk_far (blk_put (blk_put (blk_put (blk_put (blk_put h.c2 0 _ rfl) 1 _ rfl) 2 _ rfl) 3 _ rfl) 4 _ rfl) (by simp) _) (by simp; omega) _
  · exact blk_far (blk_put (blk_far (blk_far (blk_far (blk_far (blk_far h.c3 (by simp) _) (by simp) _) (by simp) _) (by simp) _) (by simp) _) 0 _ rfl) (by simp) _
  · exact blk_put (blk_far (blk_far (blk_far (blk_far (blk_far (blk_far h.c4 (by simp; omega) _) (by simp; omega) _) (by simp; omega) _) (by simp; omega) _) (by simp; omega) _) (by simp) _) 0 _ rfl
theorem OfHeld.below {w W : World} {B g : Nat} (hB : Below B w W) (hg : B ≤ g) (x0 x1 x2 x3 x4 x5 x6 : Value) :
    Below B w (((((((W.setCell ⟨g, 0, none⟩ x0).setCell ⟨g, 1, none⟩ x1).setCell ⟨g, 2, none⟩ x2).setCell ⟨g, 3, none⟩ x3).setCell ⟨g, 4, none⟩ x4).setCell ⟨g + 1, 0, none⟩ x5).setCell ⟨g + 1 + 1, 0, none⟩ x6) :=
  ((((((hB.setCell hg _).setCell hg _).setCell hg _).setCell hg _).setCell hg _).setCell (by simp; omega) _).setCell (by simp; omega) _
theorem OfHeld.results {W : World} {g : Nat} {a b c : Int} {d : Bool} {v : Value} {is : Bool} {er : Int} (h : OfHeld W g a b c d v is er) {tmps : Array Value}
    (h2 : tmps.getD 2 undef = .pointer (some ⟨g, 0, none⟩)) (h3 : tmps.getD 3 undef = .pointer (some ⟨g + 1, 0, none⟩)) (h4 : tmps.getD 4 undef = .pointer (some ⟨g + 1 + 1, 0, none⟩)) :
    (Go.results Try.f33 tmps).run Try.prog W = .ok (.tuple #[.agg #[.int .i64 a, .int .i64 b, .int .i64 c, .bool d, v], .bool is, .int .i64 er]) W := by
  have q0 : W.cell? ⟨g, 0, none⟩ = some (.int .i64 a) := (blk_cell h.c2 0).trans rfl
  have q1 : W.cell? ⟨g, 1, none⟩ = some (.int .i64 b) := (blk_cell h.c2 1).trans rfl
  have q2 : W.cell? ⟨g, 2, none⟩ = some (.int .i64 c) := (blk_cell h.c2 2).trans rfl
  have q3 : W.cell? ⟨g, 3, none⟩ = some (.bool d) := (blk_cell h.c2 3).trans rfl
  have q4 : W.cell? ⟨g, 4, none⟩ = some (v) := (blk_cell h.c2 4).trans rfl
  have q5 : W.cell? ⟨g + 1, 0, none⟩ = some (.bool is) := (blk_cell h.c3 0).trans rfl
  have q6 : W.cell? ⟨g + 1 + 1, 0, none⟩ = some (.int .i64 er) := (blk_cell h.c4 0).trans rfl
  rw [Array.getD_eq_getD_getElem?] at h2 h3 h4
  simp only [Go.results, show Try.f33.results = #[.cell 2 28, .cell 3 4, .cell 4 33] from rfl]
  simp [h2, h3, h4, go_sem, q0, q1, q2, q3, q4, q5, q6]
theorem OfHeld.cells {W : World} {g : Nat} {a b c : Int} {d : Bool} {v : Value} {is : Bool} {er : Int} (h : OfHeld W g a b c d v is er) :
    W.cell? ⟨g, 0, none⟩ = some (.int .i64 a) ∧ W.cell? ⟨g, 1, none⟩ = some (.int .i64 b) ∧ W.cell? ⟨g, 2, none⟩ = some (.int .i64 c) ∧ W.cell? ⟨g, 3, none⟩ = some (.bool d) ∧ W.cell? ⟨g, 4, none⟩ = some v ∧ W.cell? ⟨g + 1, 0, none⟩ = some (.bool is) ∧ W.cell? ⟨g + 1 + 1, 0, none⟩ = some (.int .i64 er) ∧
    W.frozen? ⟨g, 0, none⟩ = false ∧ W.frozen? ⟨g, 1, none⟩ = false ∧ W.frozen? ⟨g, 2, none⟩ = false ∧ W.frozen? ⟨g, 3, none⟩ = false ∧ W.frozen? ⟨g, 4, none⟩ = false ∧ W.frozen? ⟨g + 1, 0, none⟩ = false ∧ W.frozen? ⟨g + 1 + 1, 0, none⟩ = false :=
  ⟨(blk_cell h.c2 0).trans rfl, (blk_cell h.c2 1).trans rfl, (blk_cell h.c2 2).trans rfl, (blk_cell h.c2 3).trans rfl, (blk_cell h.c2 4).trans rfl, (blk_cell h.c3 0).trans rfl, (blk_cell h.c4 0).trans rfl,
   blk_frozen h.c2 0, blk_frozen h.c2 1, blk_frozen h.c2 2, blk_frozen h.c2 3, blk_frozen h.c2 4, blk_frozen h.c3 0, blk_frozen h.c4 0⟩
theorem keeps_below {W W' : World} (hb : Below W.heap.size W W') : KeepsOthers W W' := ⟨hb.size, fun k o hk _ => (hb.block k (blk_lt hk)).trans hk⟩
theorem OfHeld.step {W W' : World} {g : Nat} {a b c : Int} {d : Bool} {v : Value} {is : Bool} {er : Int} (h : OfHeld W g a b c d v is er) (hb : Below W.heap.size W W') : OfHeld W' g a b c d v is er := ⟨blk_below h.c2 hb, blk_below h.c3 hb, blk_below h.c4 hb⟩
theorem OfHeld.keeps {W : World} {g : Nat} (x0 x1 x2 x3 x4 x5 x6 : Value) :
    KeepsOthers W (((((((W.setCell ⟨g, 0, none⟩ x0).setCell ⟨g, 1, none⟩ x1).setCell ⟨g, 2, none⟩ x2).setCell ⟨g, 3, none⟩ x3).setCell ⟨g, 4, none⟩ x4).setCell ⟨g + 1, 0, none⟩ x5).setCell ⟨g + 1 + 1, 0, none⟩ x6) :=
  ((((((KeepsOthers.setCell _ _ _).trans (KeepsOthers.setCell _ _ _)).trans (KeepsOthers.setCell _ _ _)).trans (KeepsOthers.setCell _ _ _)).trans (KeepsOthers.setCell _ _ _)).trans (KeepsOthers.setCell _ _ _)).trans (KeepsOthers.setCell _ _ _)
theorem OfHeld.row {W : World} {g base B : Nat} {v : Value} {xs : List S82} (h : Kd.R k82 82 W base (fun q => B ≤ q) v xs) (hg : g + 1 + 1 < B) (x0 x1 x2 x3 x4 x5 x6 : Value) :
    Kd.R k82 82 (((((((W.setCell ⟨g, 0, none⟩ x0).setCell ⟨g, 1, none⟩ x1).setCell ⟨g, 2, none⟩ x2).setCell ⟨g, 3, none⟩ x3).setCell ⟨g, 4, none⟩ x4).setCell ⟨g + 1, 0, none⟩ x5).setCell ⟨g + 1 + 1, 0, none⟩ x6) base (fun q => B ≤ q) v xs :=
  R_far2' (R_far2' (R_far2' (R_far2' (R_far2' (R_far2' (R_far2' h (by omega) 0 _) (by omega) 1 _) (by omega) 2 _) (by omega) 3 _) (by omega) 4 _) (by omega) 0 _) (by omega) 0 _
def OfTold (w : World) (a b c : Int) (d : Bool) (os : List S82) (is : Bool) (er : Int) : Ending → World → Prop := fun e w' =>
  ∃ v4_ : Value, e = .returned (.tuple #[.agg #[.int .i64 a, .int .i64 b, .int .i64 c, .bool d, v4_], .bool is, .int .i64 er]) ∧ Kd.R k82 82 w' w.heap.size (fun _ => True) v4_ os ∧ Below w.heap.size w w'
theorem of_leave {w W : World} {D B : Nat} {a b c : Int} {d : Bool} {v : Value} {is : Bool} {er : Int} {os : List S82} {tmps : Array Value}
    (h2 : tmps.getD 2 undef = .pointer (some ⟨w.heap.size + 1, 0, none⟩)) (h3 : tmps.getD 3 undef = .pointer (some ⟨w.heap.size + 1 + 1, 0, none⟩)) (h4 : tmps.getD 4 undef = .pointer (some ⟨w.heap.size + 1 + 1 + 1, 0, none⟩))
    (hs : OfHeld W (w.heap.size + 1) a b c d v is er) (hR : Kd.R k82 82 W w.heap.size (fun q => B ≤ q) v os) (hB : Below w.heap.size w W) (hD : w.heap.size ≤ D) (hDK : W.heap[D]? = some (.deferred (some []))) :
    LeavesInM Fence.wide 3 Try.prog Try.f33 tmps (OfTold w a b c d os is er) [{ target := .collected D, args := #[] }] .returning W := by
  have hne : ∀ q cs t fr, W.heap[q]? = some (.cells cs t fr) → q ≠ D := fun q cs t fr b e => by rw [e, hDK] at b; cases b
  have hs' : OfHeld (W.putObj D (.deferred none)) (w.heap.size + 1) a b c d v is er :=
    ⟨(World.putObj_heap_other (hne _ _ _ _ hs.c2)).trans hs.c2, (World.putObj_heap_other (hne _ _ _ _ hs.c3)).trans hs.c3, (World.putObj_heap_other (hne _ _ _ _ hs.c4)).trans hs.c4⟩
  have hR' : Kd.R k82 82 (W.putObj D (.deferred none)) w.heap.size (fun _ => True) v os := Kd.R_mono (Kd.R_move (Kd.R_bound hR) (fun q hq => World.putObj_heap_other (fun e => by
      obtain ⟨_, _, _, _, _, cells, hcc⟩ := hq
      rw [e, hDK] at hcc; cases hcc))) (fun _ _ => trivial)
  exact ⟨by simp, .inl ⟨_, _, rfl, run_takeDeferred hDK, _, hs'.results h2 h3 h4, v, rfl, hR', hB.trans (belowK_b (w := w) (Nat.le_refl _) W D _ _ hD hDK rfl rfl)⟩⟩
theorem OfHeld.kept {W W' : World} {g : Nat} {a b c : Int} {d : Bool} {v : Value} {is : Bool} {er : Int} {row : Option Nat} (h : OfHeld W g a b c d v is er) (hg : W.grownBy W' row) (hne : ∀ q cs t fr, W.heap[q]? = some (.cells cs t fr) → some q ≠ row) : OfHeld W' g a b c d v is er :=
  ⟨(hg.block _ (blk_lt h.c2) (hne _ _ _ _ h.c2)).trans h.c2, (hg.block _ (blk_lt h.c3) (hne _ _ _ _ h.c3)).trans h.c3, (hg.block _ (blk_lt h.c4) (hne _ _ _ _ h.c4)).trans h.c4⟩
theorem optsTo_find {l : List S48} {i : Nat} {r : S48} (h : (optsTo l l.length)[0]? = some (i, r)) : l.find? isOpt = some r := by
  obtain ⟨hi, hir, h41, hpre⟩ := optsTo_get l.length (Nat.le_refl _) h
  rw [List.take_zero] at hpre
  rw [List.find?_eq_some_iff_getElem]
  refine ⟨by simp [isOpt, h41], i, hi, (List.getElem?_eq_some_iff.1 hir).2, fun j hj => ?_⟩
  have hj2 : l[j]? = some l[j] := List.getElem?_eq_getElem (by omega)
  by_cases e : l[j].f1 = 41
  · exfalso
    have h1 : optsTo l (j + 1) = optsTo l j ++ [(j, l[j])] := optsTo_yes hj2 e
    have h2 : ∀ d, (optsTo l (j + 1 + d)).length ≥ 1 := by
      intro d
      induction d with
      | zero => rw [Nat.add_zero, h1]; simp
      | succ d ih =>
        by_cases hd : j + 1 + d < l.length
        · have hq : l[j + 1 + d]? = some l[j + 1 + d] := List.getElem?_eq_getElem hd
          by_cases e2 : l[j + 1 + d].f1 = 41
          · rw [← Nat.add_assoc, optsTo_yes hq e2]; simp
          · rw [← Nat.add_assoc, optsTo_no hq e2]; exact ih
        · have : optsTo l (j + 1 + (d + 1)) = optsTo l (j + 1 + d) ++ (if (l.getD (j + 1 + d) z48).f1 == 41 then [(j + 1 + d, l.getD (j + 1 + d) z48)] else []) := by
            rw [← Nat.add_assoc]
            simp only [optsTo, List.range_succ, List.filter_append, List.map_append]
            congr 1
            simp only [List.filter_cons, List.filter_nil]
            split <;> simp
          rw [this]; simp; omega
    have := h2 (i - (j + 1))
    rw [show j + 1 + (i - (j + 1)) = i by omega, ← hpre] at this
    simp at this
  · simp [isOpt, e]
theorem num_eq (a m : Int) : edns_number.f a m = some (decide (0 ≤ a ∧ a ≤ m)) := by
  unfold edns_number.f
  split
  · rename_i h
    have h' : 0 ≤ a := h
    simp [h']
  · rename_i h
    have h' : ¬ 0 ≤ a := h
    simp [h']
end Go.Proofs.Yteahdaddbmhfgaa.P
end
section
namespace Go.Proofs.Yteahdaddbmhfgaa.P
open Go.RowKit Go.Shelf Go.Proofs.YteahdaddbmhfgaaW.PrintWords Go.Proofs.YteahdaddbmhfgaaW.PrintLast Go.Proofs.YteahdaddbmhfgaaW.PrintMore
open Go.Proofs.YteahdaddbmhfgaaW
set_option linter.unusedVariables false
set_option linter.unusedSimpArgs false
attribute [local go_sem] Oper.semAt_some
def edns_Of.T1 : Bool × List (List Nat × List Nat) := (true, [([], []), ([0], [0]), ([1], [1]), ([], []), ([3], [3]), ([4, 2], [4]), ([], []), ([6], [6]), ([7, 5], [7]), ([5, 8], [5, 8]), ([2, 8, 0, 1, 2], [2]), ([9, 10, 0, 1, 2, 3, 4, 5, 6, 7, 8, 9, 10], [9])])
def edns_Of.B1 : List Nat := [0, 1, 3, 0, 8, 31, 0, 64, 255, 511, 511, 2047]
theorem edns_Of.tab1 : rtab .any (opsOf Try.f33 1) = edns_Of.T1 := by kernel_rfl
theorem edns_Of.bits1 : waitsOk edns_Of.T1.2 edns_Of.B1 = true := by kernel_rfl
theorem of_ret {tmps : Array Value} {w : World} {R : Ending → World → Prop} {v : Value} (hr : (results Try.f33 tmps).run Try.prog w = .ok v w) (h : R (.returned v) w) : bodyPostM Fence.wide 3 Try.prog Try.f33 R .ret { tmps, defers := [] } w := ⟨v, hr, h⟩
set_option maxRecDepth 100000 in
set_option maxHeartbeats 4000000 in
theorem of_walk (a0_0 : Int) (a0_1 : Int) (A0_2 : Option Addr) (c0_2 : Nat) (l0_2 : List (S79)) (A0_3 : Option Addr) (c0_3 : Nat) (l0_3 : List (S48)) (A0_4 : Option Addr) (c0_4 : Nat) (l0_4 : List (S48)) (A0_5 : Option Addr) (c0_5 : Nat) (l0_5 : List (S48))
    (r1 r2 r3 : Int) (r4 : Bool) (r5 : List S82) (r6 : Bool) (r7 : Int)
    (w : World) (hr0_3 : Kd.C k48 w A0_3 l0_3.length l0_3) (hc0_3 : l0_3.length ≤ c0_3) (hr0_4 : Kd.C k48 w A0_4 l0_4.length l0_4) (hc0_4 : l0_4.length ≤ c0_4) (hr0_5 : Kd.C k48 w A0_5 l0_5.length l0_5) (hc0_5 : l0_5.length ≤ c0_5) (hsum : l0_3.length + l0_4.length + l0_5.length ≤ 1000000)
    (hf : ofS l0_3 l0_4 l0_5 = some (r1, r2, r3, r4, r5, r6, r7)) :
    Calls Try.prog 33 #[.agg #[.int .i64 a0_0, .int .i64 a0_1, .slice A0_2 l0_2.length c0_2, .slice A0_3 l0_3.length c0_3, .slice A0_4 l0_4.length c0_4, .slice A0_5 l0_5.length c0_5]] w (OfTold w r1 r2 r3 r4 r5 r6 r7) := by
  have hu25 := Try.underlying25
  have hu28 := Try.underlying28
  have HR0_3 := Aside0.mk hr0_3
  have HC0_3 := Aside0.mk hc0_3
  have HR0_4 := Aside0.mk hr0_4
  have HC0_4 := Aside0.mk hc0_4
  have HR0_5 := Aside0.mk hr0_5
  have HC0_5 := Aside0.mk hc0_5
  clear hr0_3 hc0_3 hr0_4 hc0_4 hr0_5 hc0_5
  refine (callsIn_wide (n := 3)).1 (callsIn_of_wp_marks Try.func33 rfl trivial ?_ rfl)
  simp only [Try.ntmps33, List.size_toArray, List.length_cons, List.length_nil, Nat.reduceAdd, Nat.reduceSub, Array.replicate_succ, Array.replicate_zero, List.push_toArray, List.append_toArray, List.nil_append, List.cons_append]
  refine wpIn_wide.2 ?_
  go_wp2
  have BK1 := Aside0.mk (blk_alloc (blk_alloc (blk_alloc (blk_new w (.cells #[.int .i64 a0_0, .int .i64 a0_1, .slice A0_2 l0_2.length c0_2, .slice A0_3 l0_3.length c0_3, .slice A0_4 l0_4.length c0_4, .slice A0_5 l0_5.length c0_5] 25)) (.cells #[.int .i64 0, .int .i64 0, .int .i64 0, .bool false, .slice none 0 0] 28)) (.cells #[.bool false] 4)) (.cells #[.int .i64 0] 33))
  have BK2 := Aside0.mk (blk_alloc (blk_alloc (blk_new (w.alloc (.cells #[.int .i64 a0_0, .int .i64 a0_1, .slice A0_2 l0_2.length c0_2, .slice A0_3 l0_3.length c0_3, .slice A0_4 l0_4.length c0_4, .slice A0_5 l0_5.length c0_5] 25)) (.cells #[.int .i64 0, .int .i64 0, .int .i64 0, .bool false, .slice none 0 0] 28)) (.cells #[.bool false] 4)) (.cells #[.int .i64 0] 33))
  have BK3 := Aside0.mk (blk_alloc (blk_new ((w.alloc (.cells #[.int .i64 a0_0, .int .i64 a0_1, .slice A0_2 l0_2.length c0_2, .slice A0_3 l0_3.length c0_3, .slice A0_4 l0_4.length c0_4, .slice A0_5 l0_5.length c0_5] 25)).alloc (.cells #[.int .i64 0, .int .i64 0, .int .i64 0, .bool false, .slice none 0 0] 28)) (.cells #[.bool false] 4)) (.cells #[.int .i64 0] 33))
  have BK4 := Aside0.mk (blk_new (((w.alloc (.cells #[.int .i64 a0_0, .int .i64 a0_1, .slice A0_2 l0_2.length c0_2, .slice A0_3 l0_3.length c0_3, .slice A0_4 l0_4.length c0_4, .slice A0_5 l0_5.length c0_5] 25)).alloc (.cells #[.int .i64 0, .int .i64 0, .int .i64 0, .bool false, .slice none 0 0] 28)).alloc (.cells #[.bool false] 4)) (.cells #[.int .i64 0] 33))
  have HB := Aside0.mk (below_alloc (below_alloc (below_alloc (below_alloc (Below.refl w.heap.size w) (.cells #[.int .i64 a0_0, .int .i64 a0_1, .slice A0_2 l0_2.length c0_2, .slice A0_3 l0_3.length c0_3, .slice A0_4 l0_4.length c0_4, .slice A0_5 l0_5.length c0_5] 25)) (.cells #[.int .i64 0, .int .i64 0, .int .i64 0, .bool false, .slice none 0 0] 28)) (.cells #[.bool false] 4)) (.cells #[.int .i64 0] 33))
  simp only [World.size_alloc] at BK2 BK3 BK4
  generalize ((((w.alloc (.cells #[.int .i64 a0_0, .int .i64 a0_1, .slice A0_2 l0_2.length c0_2, .slice A0_3 l0_3.length c0_3, .slice A0_4 l0_4.length c0_4, .slice A0_5 l0_5.length c0_5] 25)).alloc (.cells #[.int .i64 0, .int .i64 0, .int .i64 0, .bool false, .slice none 0 0] 28)).alloc (.cells #[.bool false] 4)).alloc (.cells #[.int .i64 0] 33)) = W1 at BK1 BK2 BK3 BK4 HB ⊢
  refine wp_only ?_
  refine start_ (n := 12) (S := fun w' => w'.cell? ⟨w.heap.size, 3, none⟩ = some (.slice A0_3 l0_3.length c0_3) ∧ w'.cell? ⟨w.heap.size, 4, none⟩ = some (.slice A0_4 l0_4.length c0_4) ∧ w'.cell? ⟨w.heap.size, 5, none⟩ = some (.slice A0_5 l0_5.length c0_5)) (ds := []) #[false, false, false, false, false, false, false, false, false, false, false, false] (by kernel_rfl) rfl rfl ⟨(blk_cell BK1.out 3).trans rfl, (blk_cell BK1.out 4).trans rfl, (blk_cell BK1.out 5).trans rfl⟩ (fun hHeld => ?_)
  refine with_tabW edns_Of.tab1 edns_Of.bits1 (fun HT_ HW_ => ?_)
  replace BK1 := Aside0.mk (blk_drew BK1.out)
  replace BK2 := Aside0.mk (blk_drew BK2.out)
  replace BK3 := Aside0.mk (blk_drew BK3.out)
  replace BK4 := Aside0.mk (blk_drew BK4.out)
  replace HB := Aside0.mk (below_drew1 HB.out)
  generalize W1.drew = W2 at BK1 BK2 BK3 BK4 HB hHeld ⊢
  refine pure_ (i := 0) (N := some 11) (v := ?_) (a' := ?_) #[true, false, false, false, false, false, false, false, false, false, false, false] rfl rfl (any_of HT_.out (by kernel_rfl)) (fun _ _ _ h => h) (Or.inl ⟨by rfl, ?_⟩) ?_ ?_
  rotate_left
  · intro w'
    go_simp
    with_reducible rfl
  rotate_left
  · simp only [Act.put, List.setIfInBounds_toArray, List.set_cons_zero, List.set_cons_succ, i64_w, i32_w]
    rfl
  refine pure_ (i := 3) (N := some 14) (v := ?_) (a' := ?_) #[true, false, false, true, false, false, false, false, false, false, false, false] rfl rfl (any_of HT_.out (by kernel_rfl)) (fun _ _ _ h => h) (Or.inl ⟨by rfl, ?_⟩) ?_ ?_
  rotate_left
  · intro w'
    go_simp
    with_reducible rfl
  rotate_left
  · simp only [Act.put, List.setIfInBounds_toArray, List.set_cons_zero, List.set_cons_succ, i64_w, i32_w]
    rfl
  refine pure_ (i := 6) (N := some 17) (v := ?_) (a' := ?_) #[true, false, false, true, false, false, true, false, false, false, false, false] rfl rfl (any_of HT_.out (by kernel_rfl)) (fun _ _ _ h => h) (Or.inl ⟨by rfl, ?_⟩) ?_ ?_
  rotate_left
  · intro w'
    go_simp
    with_reducible rfl
  rotate_left
  · simp only [Act.put, List.setIfInBounds_toArray, List.set_cons_zero, List.set_cons_succ, i64_w, i32_w]
    rfl
  refine take_ (i := 1) (N := some 12) (v := ?_) (a' := ?_) #[true, true, false, true, false, false, true, false, false, false, false, false] rfl rfl (take_ofW HT_.out HW_.out (by kernel_rfl)) (fun _ _ _ h => h) (Or.inl ⟨by rfl, ?_⟩) hHeld ?_ ?_
  rotate_left
  · rintro w' ⟨s3, s4, s5⟩
    go_simp
    with_reducible rfl
  rotate_left
  · simp only [Act.put, List.setIfInBounds_toArray, List.set_cons_zero, List.set_cons_succ, i64_w, i32_w]
    rfl
  refine take_ (i := 4) (N := some 15) (v := ?_) (a' := ?_) #[true, true, false, true, true, false, true, false, false, false, false, false] rfl rfl (take_ofW HT_.out HW_.out (by kernel_rfl)) (fun _ _ _ h => h) (Or.inl ⟨by rfl, ?_⟩) hHeld ?_ ?_
  rotate_left
  · rintro w' ⟨s3, s4, s5⟩
    go_simp
    with_reducible rfl
  rotate_left
  · simp only [Act.put, List.setIfInBounds_toArray, List.set_cons_zero, List.set_cons_succ, i64_w, i32_w]
    rfl
  refine take_ (i := 7) (N := some 18) (v := ?_) (a' := ?_) #[true, true, false, true, true, false, true, true, false, false, false, false] rfl rfl (take_ofW HT_.out HW_.out (by kernel_rfl)) (fun _ _ _ h => h) (Or.inl ⟨by rfl, ?_⟩) hHeld ?_ ?_
  rotate_left
  · rintro w' ⟨s3, s4, s5⟩
    go_simp
    with_reducible rfl
  rotate_left
  · simp only [Act.put, List.setIfInBounds_toArray, List.set_cons_zero, List.set_cons_succ, i64_w, i32_w]
    rfl
  refine one_ (i := 2) (N := some 13) #[true, true, true, true, true, false, true, true, false, false, false, false] rfl rfl (one_of HT_.out (by kernel_rfl)) (by decide) (fun K hK => ?_)
  refine goes_ Try.func79 (by kernel_rfl) rfl #[.slice A0_5 l0_5.length c0_5] (by rfl) rfl rfl (by (try simp only [List.map_toArray, List.map_cons, List.map_nil]); first | done | rfl) ?_
  with_reducible refine (edns_count.calls _ _ l0_5 _ _ (Kd.C_below HR0_5.out HB.out) HC0_5.out rfl).mono ?_
  rintro e w' ⟨rfl, hb⟩
  refine ⟨_, rfl, ?_⟩
  replace BK1 := Aside0.mk (blk_below BK1.out hb)
  replace BK2 := Aside0.mk (blk_below BK2.out hb)
  replace BK3 := Aside0.mk (blk_below BK3.out hb)
  replace BK4 := Aside0.mk (blk_below BK4.out hb)
  replace HB := Aside0.mk (below_step HB.out hb)
  clear hb
  refine hK.out _ _ ⟨(blk_cell BK1.out 3).trans rfl, (blk_cell BK1.out 4).trans rfl, (blk_cell BK1.out 5).trans rfl⟩ (fun hHeld => ?_)
  clear hK K
  refine norm_ (a' := ?_) ?_ ?_
  rotate_left
  · show Act.put _ (some 13) _ = _
    simp only [Act.put, List.setIfInBounds_toArray, List.set_cons_zero, List.set_cons_succ, i64_w, i32_w]
    rfl
  refine one_ (i := 5) (N := some 16) #[true, true, true, true, true, true, true, true, false, false, false, false] rfl rfl (one_of HT_.out (by kernel_rfl)) (by decide) (fun K hK => ?_)
  refine goes_ Try.func79 (by kernel_rfl) rfl #[.slice A0_3 l0_3.length c0_3] (by rfl) rfl rfl (by (try simp only [List.map_toArray, List.map_cons, List.map_nil]); first | done | rfl) ?_
  with_reducible refine (edns_count.calls _ _ l0_3 _ _ (Kd.C_below HR0_3.out HB.out) HC0_3.out rfl).mono ?_
  rintro e w' ⟨rfl, hb⟩
  refine ⟨_, rfl, ?_⟩
  replace BK1 := Aside0.mk (blk_below BK1.out hb)
  replace BK2 := Aside0.mk (blk_below BK2.out hb)
  replace BK3 := Aside0.mk (blk_below BK3.out hb)
  replace BK4 := Aside0.mk (blk_below BK4.out hb)
  replace HB := Aside0.mk (below_step HB.out hb)
  clear hb
  refine hK.out _ _ ⟨(blk_cell BK1.out 3).trans rfl, (blk_cell BK1.out 4).trans rfl, (blk_cell BK1.out 5).trans rfl⟩ (fun hHeld => ?_)
  clear hK K
  refine norm_ (a' := ?_) ?_ ?_
  rotate_left
  · show Act.put _ (some 16) _ = _
    simp only [Act.put, List.setIfInBounds_toArray, List.set_cons_zero, List.set_cons_succ, i64_w, i32_w]
    rfl
  refine one_ (i := 8) (N := some 19) #[true, true, true, true, true, true, true, true, true, false, false, false] rfl rfl (one_of HT_.out (by kernel_rfl)) (by decide) (fun K hK => ?_)
  refine goes_ Try.func79 (by kernel_rfl) rfl #[.slice A0_4 l0_4.length c0_4] (by rfl) rfl rfl (by (try simp only [List.map_toArray, List.map_cons, List.map_nil]); first | done | rfl) ?_
  with_reducible refine (edns_count.calls _ _ l0_4 _ _ (Kd.C_below HR0_4.out HB.out) HC0_4.out rfl).mono ?_
  rintro e w' ⟨rfl, hb⟩
  refine ⟨_, rfl, ?_⟩
  replace BK1 := Aside0.mk (blk_below BK1.out hb)
  replace BK2 := Aside0.mk (blk_below BK2.out hb)
  replace BK3 := Aside0.mk (blk_below BK3.out hb)
  replace BK4 := Aside0.mk (blk_below BK4.out hb)
  replace HB := Aside0.mk (below_step HB.out hb)
  clear hb
  refine hK.out _ _ ⟨(blk_cell BK1.out 3).trans rfl, (blk_cell BK1.out 4).trans rfl, (blk_cell BK1.out 5).trans rfl⟩ (fun hHeld => ?_)
  clear hK K
  refine norm_ (a' := ?_) ?_ ?_
  rotate_left
  · show Act.put _ (some 19) _ = _
    simp only [Act.put, List.setIfInBounds_toArray, List.set_cons_zero, List.set_cons_succ, i64_w, i32_w]
    rfl
  refine pure_ (i := 9) (N := some 20) (v := ?_) (a' := ?_) #[true, true, true, true, true, true, true, true, true, true, false, false] rfl rfl (any_of HT_.out (by kernel_rfl)) (fun _ _ _ h => h) (Or.inl ⟨by rfl, ?_⟩) ?_ ?_
  rotate_left
  · intro w'
    go_simp
    with_reducible rfl
  rotate_left
  · simp only [Act.put, List.setIfInBounds_toArray, List.set_cons_zero, List.set_cons_succ, i64_w, i32_w]
    rfl
  refine pure_ (i := 10) (N := some 5) (v := ?_) (a' := ?_) #[true, true, true, true, true, true, true, true, true, true, true, false] rfl rfl (any_of HT_.out (by kernel_rfl)) (fun _ _ _ h => h) (Or.inl ⟨by rfl, ?_⟩) ?_ ?_
  rotate_left
  · intro w'
    go_simp
    with_reducible rfl
  rotate_left
  · simp only [Act.put, List.setIfInBounds_toArray, List.set_cons_zero, List.set_cons_succ, i64_w, i32_w]
    rfl
  refine pure_ (i := 11) (N := some 6) (v := ?_) (a' := ?_) #[true, true, true, true, true, true, true, true, true, true, true, true] rfl rfl (any_of HT_.out (by kernel_rfl)) (fun _ _ _ h => h) (Or.inl ⟨by rfl, ?_⟩) ?_ ?_
  rotate_left
  · intro w'
    go_simp
    with_reducible rfl
  rotate_left
  · simp only [Act.put, List.setIfInBounds_toArray, List.set_cons_zero, List.set_cons_succ, i64_w, i32_w]
    rfl
  refine done_ (done_of HT_.out (by kernel_rfl)) ?_
  dsimp only [onlyNormal]
  clear HT_ HW_ hHeld
  generalize w' = W at BK1 BK2 BK3 BK4 HB ⊢
  have h3 : l0_3.countP isOpt ≤ l0_3.length := List.countP_le_length
  have h4 : l0_4.countP isOpt ≤ l0_4.length := List.countP_le_length
  have h5 : l0_5.countP isOpt ≤ l0_5.length := List.countP_le_length
  have hO : wrap64 ((l0_3.countP isOpt : Nat) + (l0_4.countP isOpt : Nat)) = ((l0_3.countP isOpt + l0_4.countP isOpt : Nat) : Int) := by unfold wrap64; omega
  rw [hO]
  have HF := Aside0.mk hf; clear hf hO
  have HFd := HF.out
  unfold ofS at HFd
  generalize hOd : l0_3.countP isOpt + l0_4.countP isOpt = O at HFd ⊢
  generalize hNd : l0_5.countP isOpt = N at HFd ⊢
  have hsm : N + O ≤ 1000000 := by omega
  have hgt := HB.out.size
  have hlt1 := blk_lt BK1.out
  have hlt2 := blk_lt BK2.out
  have hlt3 := blk_lt BK3.out
  have hlt4 := blk_lt BK4.out
  clear h3 h4 h5
  have OH : OfHeld W (w.heap.size + 1) 0 0 0 false (.slice none 0 0) false 0 := ⟨BK2.out, BK3.out, BK4.out⟩
  have c0 : W.cell? ⟨w.heap.size + 1, 0, none⟩ = some (.int .i64 0) := (blk_cell BK2.out 0).trans rfl
  have c1 : W.cell? ⟨w.heap.size + 1, 1, none⟩ = some (.int .i64 0) := (blk_cell BK2.out 1).trans rfl
  have c2 : W.cell? ⟨w.heap.size + 1, 2, none⟩ = some (.int .i64 0) := (blk_cell BK2.out 2).trans rfl
  have c3 : W.cell? ⟨w.heap.size + 1, 3, none⟩ = some (.bool false) := (blk_cell BK2.out 3).trans rfl
  have c4 : W.cell? ⟨w.heap.size + 1, 4, none⟩ = some (.slice none 0 0) := (blk_cell BK2.out 4).trans rfl
  have f0 := blk_frozen BK2.out 0
  have f1 := blk_frozen BK2.out 1
  have f2 := blk_frozen BK2.out 2
  have f3 := blk_frozen BK2.out 3
  have f4 := blk_frozen BK2.out 4
  have d0 : W.cell? ⟨w.heap.size + 1 + 1, 0, none⟩ = some (.bool false) := (blk_cell BK3.out 0).trans rfl
  have d1 := blk_frozen BK3.out 0
  have e0 : W.cell? ⟨w.heap.size + 1 + 1 + 1, 0, none⟩ = some (.int .i64 0) := (blk_cell BK4.out 0).trans rfl
  have e1 := blk_frozen BK4.out 0
  have b5 : W.cell? ⟨w.heap.size, 5, none⟩ = some (.slice A0_5 l0_5.length c0_5) := (blk_cell BK1.out 5).trans rfl
  have OHA := Aside0.mk OH; clear OH
  by_cases hz : N + O = 0
  · obtain rfl : N = 0 := by omega
    obtain rfl : O = 0 := by omega
    rw [if_pos rfl] at HFd
    simp only [Option.some.injEq, Prod.mk.injEq] at HFd
    obtain ⟨rfl, rfl, rfl, rfl, rfl, rfl, rfl⟩ := HFd
    go_wp2
    exact of_ret ((OHA.out.stored 0 0 0 false (.slice none 0 0) false 0).results rfl rfl rfl) ⟨_, rfl, Kd.R_nil _ _ _ _ _, OfHeld.below HB.out (Nat.le_add_right _ _) _ _ _ _ _ _ _⟩
  · rw [if_neg hz] at HFd
    by_cases hb : N ≠ 1 ∨ 0 < O
    · rw [if_pos hb] at HFd
      simp only [Option.some.injEq, Prod.mk.injEq] at HFd
      obtain ⟨rfl, rfl, rfl, rfl, rfl, rfl, rfl⟩ := HFd
      obtain ⟨Nz, hNz⟩ : ∃ Nz : Int, (N : Int) = Nz := ⟨_, rfl⟩
      obtain ⟨Oz, hOz⟩ : ∃ Oz : Int, (O : Int) = Oz := ⟨_, rfl⟩
      rw [hNz, hOz]
      have hbd : 0 ≤ Nz ∧ 0 ≤ Oz ∧ Nz + Oz ≤ 1000000 := by omega
      have hwz : wrap64 (Nz + Oz) = Nz + Oz := by unfold wrap64; omega
      have g1 : (Nz + Oz == 0) = false := by simp; omega
      clear hNd hOd
      by_cases hN1 : N = 1
      · obtain rfl : Nz = 1 := by omega
        have g2 : decide (0 < Oz) = true := decide_eq_true (by omega)
        have g3 : 0 < Oz := by omega
        clear hb hz hN1 hNz hOz
        go_upto_if 27 with fail
        go_wp2
        exact of_ret ((OHA.out.stored 0 0 0 false (.slice none 0 0) false 4).results rfl rfl rfl) ⟨_, rfl, Kd.R_nil _ _ _ _ _, OfHeld.below HB.out (Nat.le_add_right _ _) _ _ _ _ _ _ _⟩
      · have g2 : (Nz != 1) = true := by simp; omega
        clear hb hz hN1 hNz hOz
        go_upto_if 27 with fail
        go_wp2
        exact of_ret ((OHA.out.stored 0 0 0 false (.slice none 0 0) false 4).results rfl rfl rfl) ⟨_, rfl, Kd.R_nil _ _ _ _ _, OfHeld.below HB.out (Nat.le_add_right _ _) _ _ _ _ _ _ _⟩
    · rw [if_neg hb] at HFd
      obtain rfl : N = 1 := by omega
      obtain rfl : O = 0 := by omega
      clear hb hz
      have HFD := Aside0.mk HFd; clear HFd
      clear c0 c1 c2 c3 c4 f0 f1 f2 f3 f4 d0 d1 e0 e1
      go_wp2_with (go_at_call 87; refine (callsIn_wide.1 (all_in 3 _ _ _ _)).mono ?_; rintro e w' ⟨rfl, rfl⟩)
      have bN := (Boxed.new W 23 (.slice A0_5 l0_5.length c0_5)).cell
      have hx1 : (optsTo l0_5 l0_5.length).length = 1 := by rw [optsTo_count, hNd]
      refine (wpIn_wide (n := 3)).1 ?_
      refine wp_range1 (gf := 120) (lb := #[.pointer (some ⟨W.heap.size, 0, none⟩)]) (n₀ := w.heap.size) rfl (enters_of Try.func120 (by kernel_rfl) rfl) (by simp; omega) (encs := itemV) (fun _ => rfl)
        (all_gives 2 (by omega) W.heap.size w.heap.size A0_5 c0_5 l0_5 w _ (Nat.le_refl _) (by simp) (by simp; omega) HR0_5.out (HB.out.alloc hgt _) bN)
        (fun k W' => k = 0 ∧ OfHeld W' (w.heap.size + 1) 0 0 0 false (.slice none 0 0) false 0 ∧ Below w.heap.size w W')
        (fun c k W' => (c = .ret ∧ r6 = true ∧ ∃ v, OfHeld W' (w.heap.size + 1) r1 r2 r3 r4 v r6 r7 ∧ Kd.R k82 82 W' w.heap.size (fun q => w.heap.size + 1 + 1 + 1 + 1 ≤ q) v r5 ∧ Below w.heap.size w W') ∨
          (c = .exit 1 ∧ (r1 = 0 ∧ r2 = 0 ∧ r3 = 0 ∧ r4 = false ∧ r5 = [] ∧ r6 = false ∧ r7 = 4) ∧ OfHeld W' (w.heap.size + 1) 0 0 0 false (.slice none 0 0) false 0 ∧ Below w.heap.size w W'))
        ?own ?ownx
        ⟨rfl, ⟨blk_alloc OHA.out.c2 _, blk_alloc OHA.out.c3 _, blk_alloc OHA.out.c4 _⟩, HB.out.alloc hgt _⟩
        (fun x g => { tmps := #[.agg #[.int .i64 a0_0, .int .i64 a0_1, .slice A0_2 l0_2.length c0_2, .slice A0_3 l0_3.length c0_3, .slice A0_4 l0_4.length c0_4, .slice A0_5 l0_5.length c0_5], .pointer (some ⟨w.heap.size, 0, none⟩), .pointer (some ⟨w.heap.size + 1, 0, none⟩), .pointer (some ⟨w.heap.size + 1 + 1, 0, none⟩), .pointer (some ⟨w.heap.size + 1 + 1 + 1, 0, none⟩), .int .i64 1, .int .i64 0, undef, .pointer (some ⟨g, 0, none⟩), undef, undef, .pointer (some ⟨w.heap.size, 5, none⟩), .slice A0_5 l0_5.length c0_5, .int .i64 1, .pointer (some ⟨w.heap.size, 3, none⟩), .slice A0_3 l0_3.length c0_3, .int .i64 (l0_3.countP isOpt : Nat), .pointer (some ⟨w.heap.size, 4, none⟩), .slice A0_4 l0_4.length c0_4, .int .i64 (l0_4.countP isOpt : Nat), .int .i64 0, .bool false, .int .i64 1, .int .i64 0, .int .i64 1, .bool false, undef, .bool false, .int .i64 1, .bool false, .bool false, .int .i64 0, .bool false, .bool false, undef, .pointer (some ⟨w.heap.size, 5, none⟩), .slice A0_5 l0_5.length c0_5, .func (.func 120) #[] #[.pointer (some ⟨W.heap.size, 0, none⟩)], .int .i64 (x.1 : Int), recV x.2, undef, undef, undef, undef, undef, undef, undef, undef, undef, undef, undef, undef, undef, undef, undef, undef, undef, undef, undef, undef, undef, undef, undef, undef, undef, undef, undef, undef, undef, undef, undef, undef, undef, undef, undef, undef, undef, undef, undef, undef, undef], defers := [] })
        (fun x => .cells #[.string x.2.f0, .int .i64 x.2.f1, .int .i64 x.2.f2, .int .i64 x.2.f3, .string x.2.f4] 48)
        ?assign ?body ?done ?stop
      case own =>
        rintro k W1 W' row ⟨hk, hs, hB⟩ hg hr
        have hne : ∀ q cs t fr, W1.heap[q]? = some (.cells cs t fr) → some q ≠ row := fun q cs t fr b e => by
          obtain ⟨_, o, ho, hc⟩ := hr _ e.symm
          rw [b] at ho
          cases ho; cases hc
        exact ⟨hk, hs.kept hg hne, hB.grown hg hB.size (fun q e => by have := (hr q e).1; simp at this; omega)⟩
      case ownx =>
        rintro c k W1 W' row hs hg hr
        have hne : ∀ q cs t fr, W1.heap[q]? = some (.cells cs t fr) → some q ≠ row := fun q cs t fr b e => by
          obtain ⟨_, o, ho, hc⟩ := hr _ e.symm
          rw [b] at ho
          cases ho; cases hc
        have hbl : Below w.heap.size w W1 → Below w.heap.size w W' := fun hB => hB.grown hg hB.size (fun q e => by have := (hr q e).1; simp at this; omega)
        rcases hs with ⟨hc, h6, v, hs, hR, hB⟩ | ⟨hc, h6, hs, hB⟩
        · refine .inl ⟨hc, h6, v, hs.kept hg hne, Kd.R_mono (Kd.R_move (Kd.R_bound hR) (fun q hq => hg.block q hq.2.2.1 (fun e => ?_))) (fun _ h => h.1), hbl hB⟩
          obtain ⟨_, o, ho, hcl⟩ := hr q e.symm
          obtain ⟨_, _, _, _, _, cells, hcc⟩ := hq
          rw [hcc] at ho
          cases ho; cases hcl
        · exact .inr ⟨hc, h6, hs.kept hg hne, hbl hB⟩
      case assign =>
        intro L x W1 K hK
        dsimp only [itemV, recV] at hK ⊢
        gi_wp2
        simpa using hK
      case body =>
        rintro L k g x W1 hx ⟨rfl, hs, hB⟩ hg ho
        obtain ⟨i, r⟩ := x
        have hfd := optsTo_find hx
        have HF2 := HFD.out
        rw [hfd] at HF2
        simp only [Option.bind_some] at HF2
        obtain ⟨⟨os, okk⟩, hO, HF2⟩ := Option.bind_eq_some_iff.1 HF2
        dsimp only at HF2 ho
        have HO := Aside0.mk hO
        have HS := Aside0.mk hs
        have HBB := Aside0.mk hB
        have HOB := Aside0.mk ho
        clear hO hs hB hfd hx hx1 bN
        have q4 : W1.cell? ⟨g, 4, none⟩ = some (.string r.f4) := (blk_cell ho 4).trans rfl
        have hgl := blk_lt ho
        clear ho
        by_cases hc : okk = true ∧ r.f0 = ⟨#[0]⟩ ∧ (0 ≤ r.f2 ∧ r.f2 ≤ 65535) ∧ (0 ≤ r.f3 ∧ r.f3 ≤ 2147483647)
        · rw [if_pos hc] at HF2
          obtain ⟨rfl, hf0, h20, h3⟩ := hc
          simp only [Option.some.injEq, Prod.mk.injEq] at HF2
          obtain ⟨rfl, rfl, rfl, rfl, rfl, rfl, rfl⟩ := HF2
          have e1 : decide (0 ≤ r.f2 ∧ r.f2 ≤ 65535) = true := decide_eq_true h20
          have e2 : decide (0 ≤ r.f3 ∧ r.f3 ≤ 2147483647) = true := decide_eq_true h3
          have b1 : bits .and .i64 (r.f3 / 65536) 255 = r.f3 / 65536 % 256 := and255 _ (by omega) (by omega)
          have b2 : (bits .and .i64 r.f3 32768 != 0) = decide (r.f3 / 32768 % 2 = 1) := and32768 _ (by omega) (by omega)
          gi_wp2_with (first
            | (refine ⟨trivial, ?_⟩; gi_at_call 88; (with_reducible refine (CallsIn.inRound L (callsIn_wide.2 (edns_options.calls r.f4 os true _ HO.out))).mono ?_); rintro e w3 ⟨v, rfl, hR, hb⟩; have HR3 := Aside0.mk hR; have HB3 := Aside0.mk hb; have ho3 := blk_below HOB.out hb; have q0 : w3.cell? ⟨g, 0, none⟩ = some (.string r.f0) := (blk_cell ho3 0).trans rfl; have q2 : w3.cell? ⟨g, 2, none⟩ = some (.int .i64 r.f2) := (blk_cell ho3 2).trans rfl; have q3 : w3.cell? ⟨g, 3, none⟩ = some (.int .i64 r.f3) := (blk_cell ho3 3).trans rfl; obtain ⟨c0, c1, c2, c3, c4, c5, c6, f0, f1, f2, f3, f4, f5, f6⟩ := (HS.out.step hb).cells; clear hR hb ho3; obtain ⟨Av, cv, rfl⟩ := Kd.R_slice HR3.out)
            | (refine ⟨trivial, ?_⟩; gi_at_call 84; (with_reducible refine (CallsIn.inRound L (callsIn_wide.2 (edns_number.calls _ _ _ _ (num_eq _ _)))).mono ?_); rintro e w4 ⟨rfl, hd⟩; obtain ⟨N4, rfl⟩ := hd; (first | rw [e1] | rw [e2])))
          refine ⟨(((keeps_below HB3.out).trans (show KeepsOthers w3 (w3.drewN _) from ⟨Nat.le_refl _, fun _ _ h _ => h⟩)).trans (OfHeld.keeps _ _ _ _ _ _ _)).from _, ?_⟩
          have hs3 : ∀ m, OfHeld (w3.drewN m) (w.heap.size + 1) 0 0 0 false (.slice none 0 0) false 0 := fun m => ⟨(HS.out.step HB3.out).c2, (HS.out.step HB3.out).c3, (HS.out.step HB3.out).c4⟩
          have hw1 := blk_lt HS.out.c4
          have hrow : ∀ m, Kd.R k82 82 (w3.drewN m) w.heap.size (fun q => w.heap.size + 1 + 1 + 1 + 1 ≤ q) (.slice Av os.length cv) os := fun m => Kd.R_drewN (Kd.R_lower (base' := w.heap.size) (Kd.R_mono (Kd.R_bound HR3.out) (fun k hk => by have := hk.2.1; omega)) (by omega)) m
          exact ⟨rfl, _, (hs3 _).stored r.f2 (r.f3 / 16777216) (r.f3 / 65536 % 256) (decide (r.f3 / 32768 % 2 = 1)) (.slice Av os.length cv) true 0, OfHeld.row (hrow _) (by omega) _ _ _ _ _ _ _, OfHeld.below (pw_below_drewN (HBB.out.trans (HB3.out.mono (by omega))) _) (by omega) _ _ _ _ _ _ _⟩
        · rw [if_neg hc] at HF2
          simp only [Option.some.injEq, Prod.mk.injEq] at HF2
          obtain ⟨rfl, rfl, rfl, rfl, rfl, rfl, rfl⟩ := HF2
          cases okk with
          | false =>
            clear hc
            gi_wp2_with (first | (refine ⟨trivial, ?_⟩; gi_at_call 88; (with_reducible refine (CallsIn.inRound L (callsIn_wide.2 (edns_options.calls r.f4 os false _ HO.out))).mono ?_); rintro e w3 ⟨v, rfl, hR, hb⟩; have HR3 := Aside0.mk hR; have HB3 := Aside0.mk hb; have ho3 := blk_below HOB.out hb; have q0 : w3.cell? ⟨g, 0, none⟩ = some (.string r.f0) := (blk_cell ho3 0).trans rfl; have q2 : w3.cell? ⟨g, 2, none⟩ = some (.int .i64 r.f2) := (blk_cell ho3 2).trans rfl; have q3 : w3.cell? ⟨g, 3, none⟩ = some (.int .i64 r.f3) := (blk_cell ho3 3).trans rfl; obtain ⟨c0, c1, c2, c3, c4, c5, c6, f0, f1, f2, f3, f4, f5, f6⟩ := (HS.out.step hb).cells; clear hR hb ho3; obtain ⟨Av, cv, rfl⟩ := Kd.R_slice HR3.out) | (refine ⟨trivial, ?_⟩))
            exact ⟨(keeps_below HB3.out).from _, rfl, HS.out.step HB3.out, HBB.out.trans (HB3.out.mono HBB.out.size)⟩
          | true =>
            by_cases hf0 : r.f0 = ⟨#[0]⟩
            · by_cases h2 : 0 ≤ r.f2 ∧ r.f2 ≤ 65535
              · have h3 : ¬ (0 ≤ r.f3 ∧ r.f3 ≤ 2147483647) := fun h => hc ⟨rfl, hf0, h2, h⟩
                have e1 : decide (0 ≤ r.f2 ∧ r.f2 ≤ 65535) = true := decide_eq_true h2
                have e2 : decide (0 ≤ r.f3 ∧ r.f3 ≤ 2147483647) = false := decide_eq_false h3
                clear hc h2 h3
                gi_wp2_with (first
                  | (refine ⟨trivial, ?_⟩; gi_at_call 88; (with_reducible refine (CallsIn.inRound L (callsIn_wide.2 (edns_options.calls r.f4 os true _ HO.out))).mono ?_); rintro e w3 ⟨v, rfl, hR, hb⟩; have HR3 := Aside0.mk hR; have HB3 := Aside0.mk hb; have ho3 := blk_below HOB.out hb; have q0 : w3.cell? ⟨g, 0, none⟩ = some (.string r.f0) := (blk_cell ho3 0).trans rfl; have q2 : w3.cell? ⟨g, 2, none⟩ = some (.int .i64 r.f2) := (blk_cell ho3 2).trans rfl; have q3 : w3.cell? ⟨g, 3, none⟩ = some (.int .i64 r.f3) := (blk_cell ho3 3).trans rfl; obtain ⟨c0, c1, c2, c3, c4, c5, c6, f0, f1, f2, f3, f4, f5, f6⟩ := (HS.out.step hb).cells; clear hR hb ho3; obtain ⟨Av, cv, rfl⟩ := Kd.R_slice HR3.out)
                  | (refine ⟨trivial, ?_⟩; gi_at_call 84; (with_reducible refine (CallsIn.inRound L (callsIn_wide.2 (edns_number.calls _ _ _ _ (num_eq _ _)))).mono ?_); rintro e w4 ⟨rfl, hd⟩; obtain ⟨N4, rfl⟩ := hd; (first | rw [e1] | rw [e2])) | (refine ⟨trivial, ?_⟩))
                exact ⟨((keeps_below HB3.out).trans (show KeepsOthers w3 (w3.drewN _) from ⟨Nat.le_refl _, fun _ _ h _ => h⟩)).from _, rfl, ⟨(HS.out.step HB3.out).c2, (HS.out.step HB3.out).c3, (HS.out.step HB3.out).c4⟩, pw_below_drewN (HBB.out.trans (HB3.out.mono HBB.out.size)) _⟩
              · have e1 : decide (0 ≤ r.f2 ∧ r.f2 ≤ 65535) = false := decide_eq_false h2
                have e2 : True := trivial
                clear hc h2
                gi_wp2_with (first
                  | (refine ⟨trivial, ?_⟩; gi_at_call 88; (with_reducible refine (CallsIn.inRound L (callsIn_wide.2 (edns_options.calls r.f4 os true _ HO.out))).mono ?_); rintro e w3 ⟨v, rfl, hR, hb⟩; have HR3 := Aside0.mk hR; have HB3 := Aside0.mk hb; have ho3 := blk_below HOB.out hb; have q0 : w3.cell? ⟨g, 0, none⟩ = some (.string r.f0) := (blk_cell ho3 0).trans rfl; have q2 : w3.cell? ⟨g, 2, none⟩ = some (.int .i64 r.f2) := (blk_cell ho3 2).trans rfl; have q3 : w3.cell? ⟨g, 3, none⟩ = some (.int .i64 r.f3) := (blk_cell ho3 3).trans rfl; obtain ⟨c0, c1, c2, c3, c4, c5, c6, f0, f1, f2, f3, f4, f5, f6⟩ := (HS.out.step hb).cells; clear hR hb ho3; obtain ⟨Av, cv, rfl⟩ := Kd.R_slice HR3.out)
                  | (refine ⟨trivial, ?_⟩; gi_at_call 84; (with_reducible refine (CallsIn.inRound L (callsIn_wide.2 (edns_number.calls _ _ _ _ (num_eq _ _)))).mono ?_); rintro e w4 ⟨rfl, hd⟩; obtain ⟨N4, rfl⟩ := hd; (first | rw [e1] | rw [e2])) | (refine ⟨trivial, ?_⟩))
                exact ⟨((keeps_below HB3.out).trans (show KeepsOthers w3 (w3.drewN _) from ⟨Nat.le_refl _, fun _ _ h _ => h⟩)).from _, rfl, ⟨(HS.out.step HB3.out).c2, (HS.out.step HB3.out).c3, (HS.out.step HB3.out).c4⟩, pw_below_drewN (HBB.out.trans (HB3.out.mono HBB.out.size)) _⟩
            · have hne : ¬ r.f0.toList = [0] := fun e => hf0 (by rw [ByteArray.toList_eq] at e; exact ByteArray.ext (Array.toList_inj.1 e))
              clear hc hf0
              gi_wp2_with (first | (refine ⟨trivial, ?_⟩; gi_at_call 88; (with_reducible refine (CallsIn.inRound L (callsIn_wide.2 (edns_options.calls r.f4 os true _ HO.out))).mono ?_); rintro e w3 ⟨v, rfl, hR, hb⟩; have HR3 := Aside0.mk hR; have HB3 := Aside0.mk hb; have ho3 := blk_below HOB.out hb; have q0 : w3.cell? ⟨g, 0, none⟩ = some (.string r.f0) := (blk_cell ho3 0).trans rfl; have q2 : w3.cell? ⟨g, 2, none⟩ = some (.int .i64 r.f2) := (blk_cell ho3 2).trans rfl; have q3 : w3.cell? ⟨g, 3, none⟩ = some (.int .i64 r.f3) := (blk_cell ho3 3).trans rfl; obtain ⟨c0, c1, c2, c3, c4, c5, c6, f0, f1, f2, f3, f4, f5, f6⟩ := (HS.out.step hb).cells; clear hR hb ho3; obtain ⟨Av, cv, rfl⟩ := Kd.R_slice HR3.out) | (refine ⟨trivial, ?_⟩))
              exact ⟨(keeps_below HB3.out).from _, rfl, HS.out.step HB3.out, HBB.out.trans (HB3.out.mono HBB.out.size)⟩
      case done =>
        rintro D W1 hD ⟨hk, _⟩
        rw [hx1] at hk; cases hk
      case stop =>
        rintro D c k W1 hD hk hIx hDK
        rcases hIx with ⟨rfl, h6, v, hs, hR, hB⟩ | ⟨rfl, ⟨rfl, rfl, rfl, rfl, rfl, rfl, rfl⟩, hs, hB⟩
        · gi_wp2
          exact of_leave rfl rfl rfl hs hR hB (by simp at hD; omega) hDK
        · refine wpIn_wide.2 ?_
          obtain ⟨c0, c1, c2, c3, c4, c5, c6, f0, f1, f2, f3, f4, f5, f6⟩ := hs.cells
          go_wp2
          exact of_leave rfl rfl rfl (hs.stored 0 0 0 false (.slice none 0 0) false 4) (Kd.R_nil _ _ _ _ (fun q => 0 ≤ q)) (OfHeld.below hB (by omega) _ _ _ _ _ _ _) (by simp at hD; omega) (OfHeld.keeps _ _ _ _ _ _ _ |>.same _ _ hDK rfl)
theorem edns_Of.calls (a0_0 : Int) (a0_1 : Int) (A0_2 : Option Addr) (c0_2 : Nat) (l0_2 : List (S79)) (A0_3 : Option Addr) (c0_3 : Nat) (l0_3 : List (S48)) (A0_4 : Option Addr) (c0_4 : Nat) (l0_4 : List (S48)) (A0_5 : Option Addr) (c0_5 : Nat) (l0_5 : List (S48)) (r1 : Int) (r2 : Int) (r3 : Int) (r4 : Bool) (r5 : List (S82)) (r6 : Bool) (r7 : Int) (w : World) (hr0_2 : Kd.C k79 w A0_2 l0_2.length l0_2) (hc0_2 : l0_2.length ≤ c0_2) (hr0_3 : Kd.C k48 w A0_3 l0_3.length l0_3) (hc0_3 : l0_3.length ≤ c0_3) (hr0_4 : Kd.C k48 w A0_4 l0_4.length l0_4) (hc0_4 : l0_4.length ≤ c0_4) (hr0_5 : Kd.C k48 w A0_5 l0_5.length l0_5) (hc0_5 : l0_5.length ≤ c0_5) (h : edns_Of.f a0_0 a0_1 l0_2 l0_3 l0_4 l0_5 = some (r1, r2, r3, r4, r5, r6, r7)) :
    Calls Try.prog 33 #[.agg #[.int .i64 a0_0, .int .i64 a0_1, .slice A0_2 l0_2.length c0_2, .slice A0_3 l0_3.length c0_3, .slice A0_4 l0_4.length c0_4, .slice A0_5 l0_5.length c0_5]] w fun e w' => ∃ v4_ : Value, e = .returned (.tuple #[.agg #[.int .i64 r1, .int .i64 r2, .int .i64 r3, .bool r4, v4_], .bool r6, .int .i64 r7]) ∧ Kd.R k82 82 w' w.heap.size (fun _ => True) v4_ r5 ∧ Below w.heap.size w w' := by
  unfold edns_Of.f at h
  split at h
  · exact of_walk a0_0 a0_1 A0_2 c0_2 l0_2 A0_3 c0_3 l0_3 A0_4 c0_4 l0_4 A0_5 c0_5 l0_5 r1 r2 r3 r4 r5 r6 r7 w hr0_3 hc0_3 hr0_4 hc0_4 hr0_5 hc0_5 (by assumption) h
  · cases h
end Go.Proofs.Yteahdaddbmhfgaa.P
end
section
-- Printed by the kit's print.py, driven by pall.py: one text a function. Lean checks it.
namespace Go.Proofs.Yteahdaddbmhfgaa.P
open Go.RowKit Go.Proofs.YteahdaddbmhfgaaW.PrintWords Go.Proofs.YteahdaddbmhfgaaW.PrintLast Go.Proofs.YteahdaddbmhfgaaW.PrintMore
attribute [local go_sem] max2_int min2_int max_two min_two max_three min_three max_four min_four
set_option linter.unusedVariables false
set_option linter.unusedSimpArgs false
def edns_Room.f (a0_0 : Int) (a0_1 : Int) (l0_2 : List (S79)) (l0_3 : List (S48)) (l0_4 : List (S48)) (l0_5 : List (S48)) : Option (Int) := (edns_Of.f a0_0 a0_1 l0_2 l0_3 l0_4 l0_5).bind fun bt102 => (some (mx 512 bt102.1))
set_option maxHeartbeats 8000000 in
set_option maxRecDepth 100000 in
theorem edns_Room.calls (a0_0 : Int) (a0_1 : Int) (A0_2 : Option Addr) (c0_2 : Nat) (l0_2 : List (S79)) (A0_3 : Option Addr) (c0_3 : Nat) (l0_3 : List (S48)) (A0_4 : Option Addr) (c0_4 : Nat) (l0_4 : List (S48)) (A0_5 : Option Addr) (c0_5 : Nat) (l0_5 : List (S48)) (r : Int) (w : World) (hr0_2 : Kd.C k79 w A0_2 l0_2.length l0_2) (hc0_2 : l0_2.length ≤ c0_2) (hr0_3 : Kd.C k48 w A0_3 l0_3.length l0_3) (hc0_3 : l0_3.length ≤ c0_3) (hr0_4 : Kd.C k48 w A0_4 l0_4.length l0_4) (hc0_4 : l0_4.length ≤ c0_4) (hr0_5 : Kd.C k48 w A0_5 l0_5.length l0_5) (hc0_5 : l0_5.length ≤ c0_5) (h : edns_Room.f a0_0 a0_1 l0_2 l0_3 l0_4 l0_5 = some r) :
    Calls Try.prog 39 #[.agg #[.int .i64 a0_0, .int .i64 a0_1, .slice A0_2 l0_2.length c0_2, .slice A0_3 l0_3.length c0_3, .slice A0_4 l0_4.length c0_4, .slice A0_5 l0_5.length c0_5]] w fun e w' => e = .returned (.int .i64 r) ∧ Below w.heap.size w w' := by
  have hu25 := Try.underlying25
  have hu28 := Try.underlying28
  have HR0_2 := Aside0.mk hr0_2
  have HC0_2 := Aside0.mk hc0_2
  clear hr0_2 hc0_2
  have HR0_3 := Aside0.mk hr0_3
  have HC0_3 := Aside0.mk hc0_3
  clear hr0_3 hc0_3
  have HR0_4 := Aside0.mk hr0_4
  have HC0_4 := Aside0.mk hc0_4
  clear hr0_4 hc0_4
  have HR0_5 := Aside0.mk hr0_5
  have HC0_5 := Aside0.mk hc0_5
  clear hr0_5 hc0_5
  have HB := Aside0.mk (Below.refl w.heap.size w)
  have H : ((edns_Of.f a0_0 a0_1 l0_2 l0_3 l0_4 l0_5).bind fun bt102 => (some (mx 512 bt102.1))) = some r := h
  clear h
  replace H := Option.bind_eq_some_iff.mp H
  obtain ⟨⟨t102, t103, t104, t105, t106, t109, t110⟩, A20, H⟩ := H
  replace H : (some (mx 512 t102)) = some r := H
  have A2 := Aside0.mk A20
  clear A20
  obtain ⟨ji3, hji3⟩ : ∃ j_ : Int, (mx 512 t102) = j_ := ⟨_, rfl⟩
  replace H : (some ji3) = some r := by first | (rw [hji3] at H; exact H) | (simp only [hji3] at H ⊢; exact H)
  (try rw [hji3] at A2)
  (try (have hji3l : 512 ≤ ji3 := by (rw [← hji3]; unfold mx; (repeat' split) <;> omega)))
  (try (have hji3m : 0 ≤ ji3 := by omega))
  have hji3_ : (if 512 < t102 then t102 else 512) = ji3 := hji3
  obtain rfl := Option.some.inj H
  go_enter Try.func39, Try.ntmps39
  go_wp2_with (first | ((with_reducible refine gate_dst (N := 1) rfl ?_); refine box_event ?hg (N := 1) ?hd (cs := #[.int .i64 a0_0, .int .i64 a0_1, .slice A0_2 l0_2.length c0_2, .slice A0_3 l0_3.length c0_3, .slice A0_4 l0_4.length c0_4, .slice A0_5 l0_5.length c0_5]) (t := 25) ?hr ?_; (case hd => rfl); (case hg => rfl); (case hr => first | (go_simp; done) | (go_simp; rfl)); intro gb101 hg w4 hbox hb; have n0_ := Aside0.mk (below_step (by repeat (first | (with_reducible first | exact HB.out | apply below_alloc | apply pw_below_drewN | apply below_drew1) | exact HB.out)) hb); have n1_ := Aside0.mk (hbox); have n2_ := Aside0.mk ((by rw [hg]; exact (below_size (by repeat (first | (with_reducible first | exact HB.out | apply below_alloc | apply pw_below_drewN | apply below_drew1) | exact HB.out))) : w.heap.size ≤ gb101)); have n3_ := Aside0.mk ((by rw [hg]; exact (below_size (by repeat (first | (with_reducible first | exact HB.out | apply below_alloc | apply pw_below_drewN | apply below_drew1) | exact HB.out))) : w.heap.size ≤ gb101)); clear HB; have HB := n0_; have BK101 := n1_; have GW101 := n2_; have GE101 := n3_; clear n0_ n1_ n2_ n3_; clear hb hbox hg; have hcz5_0 : w4.cell? ⟨gb101, 0, none⟩ = some (.int .i64 a0_0) := (blk_cell BK101.out 0).trans rfl; have hcz5_1 : w4.cell? ⟨gb101, 1, none⟩ = some (.int .i64 a0_1) := (blk_cell BK101.out 1).trans rfl; have hcz5_2 : w4.cell? ⟨gb101, 2, none⟩ = some (.slice A0_2 l0_2.length c0_2) := (blk_cell BK101.out 2).trans rfl; have hcz5_3 : w4.cell? ⟨gb101, 3, none⟩ = some (.slice A0_3 l0_3.length c0_3) := (blk_cell BK101.out 3).trans rfl; have hcz5_4 : w4.cell? ⟨gb101, 4, none⟩ = some (.slice A0_4 l0_4.length c0_4) := (blk_cell BK101.out 4).trans rfl; have hcz5_5 : w4.cell? ⟨gb101, 5, none⟩ = some (.slice A0_5 l0_5.length c0_5) := (blk_cell BK101.out 5).trans rfl; have hfz5_0 := blk_frozen BK101.out 0; have hfz5_1 := blk_frozen BK101.out 1; have hfz5_2 := blk_frozen BK101.out 2; have hfz5_3 := blk_frozen BK101.out 3; have hfz5_4 := blk_frozen BK101.out 4; have hfz5_5 := blk_frozen BK101.out 5) | ((with_reducible refine gate_callee (f := 33) rfl ?_); refine goesL_ (some 8) rfl rfl Try.func33 (by kernel_rfl) rfl #[.agg #[.int .i64 a0_0, .int .i64 a0_1, .slice A0_2 l0_2.length c0_2, .slice A0_3 l0_3.length c0_3, .slice A0_4 l0_4.length c0_4, .slice A0_5 l0_5.length c0_5]] rfl (by (try simp only [List.map_toArray, List.map_cons, List.map_nil]); first | done | rfl | (simp only [List.length_drop, List.length_take]; rfl)) ?_; (with_reducible refine (edns_Of.calls a0_0 a0_1 _ _ l0_2 _ _ l0_3 _ _ l0_4 _ _ l0_5 t102 t103 t104 t105 t106 t109 t110 _ ?side1 ?side2 ?side3 ?side4 ?side5 ?side6 ?side7 ?side8 A2.out).mono ?_); (case side1 => repeat (first | exact (Kd.C_below HR0_2.out HB.out) | (with_reducible refine Kd.C_alloc ?_ _) | (with_reducible refine Kd.C_drewN ?_ _) | (with_reducible refine Kd.C_drew ?_))); (case side2 => exact HC0_2.out); (case side3 => repeat (first | exact (Kd.C_below HR0_3.out HB.out) | (with_reducible refine Kd.C_alloc ?_ _) | (with_reducible refine Kd.C_drewN ?_ _) | (with_reducible refine Kd.C_drew ?_))); (case side4 => exact HC0_3.out); (case side5 => repeat (first | exact (Kd.C_below HR0_4.out HB.out) | (with_reducible refine Kd.C_alloc ?_ _) | (with_reducible refine Kd.C_drewN ?_ _) | (with_reducible refine Kd.C_drew ?_))); (case side6 => exact HC0_4.out); (case side7 => repeat (first | exact (Kd.C_below HR0_5.out HB.out) | (with_reducible refine Kd.C_alloc ?_ _) | (with_reducible refine Kd.C_drewN ?_ _) | (with_reducible refine Kd.C_drew ?_))); (case side8 => exact HC0_5.out); rintro e w6 ⟨v107, rfl, ho0, hb⟩; refine ⟨_, rfl, ?_⟩; have n0_ := Aside0.mk (Kd.R_lower ho0 (below_size (by repeat (first | (with_reducible first | exact HB.out | apply below_alloc | apply pw_below_drewN | apply below_drew1 | refine below_set ?_ GE101.out) | exact HB.out)))); have n1_ := Aside0.mk (blk_below (g := gb101) (o := .cells #[.int .i64 a0_0, .int .i64 a0_1, .slice A0_2 l0_2.length c0_2, .slice A0_3 l0_3.length c0_3, .slice A0_4 l0_4.length c0_4, .slice A0_5 l0_5.length c0_5] 25 (0, 0)) (by exact BK101.out) hb); have n2_ := Aside0.mk (below_step (by repeat (first | (with_reducible first | exact HB.out | apply below_alloc | apply pw_below_drewN | apply below_drew1 | refine below_set ?_ GE101.out) | exact HB.out)) hb); clear BK101; clear HB; have HO108 := n0_; have BK101 := n1_; have HB := n2_; clear n0_ n1_ n2_; (try clear hb); (try clear hb2); (try clear hk); (try clear hi); (try clear ho0)) | ((with_reducible refine gate_dst (N := 3) rfl ?_); refine box_event ?hg (N := 3) ?hd (cs := #[.int .i64 0, .int .i64 0, .int .i64 0, .bool false, .slice none 0 0]) (t := 28) ?hr ?_; (case hd => rfl); (case hg => rfl); (case hr => first | (go_simp; done) | (go_simp; rfl)); intro gb111 hg w7 hbox hb; have n0_ := Aside0.mk (Kd.R_below (by exact HO108.out) hb); have n1_ := Aside0.mk (blk_below (g := gb101) (o := .cells #[.int .i64 a0_0, .int .i64 a0_1, .slice A0_2 l0_2.length c0_2, .slice A0_3 l0_3.length c0_3, .slice A0_4 l0_4.length c0_4, .slice A0_5 l0_5.length c0_5] 25 (0, 0)) (by exact BK101.out) hb); have n2_ := Aside0.mk (below_step (by repeat (first | (with_reducible first | exact HB.out | apply below_alloc | apply pw_below_drewN | apply below_drew1 | refine below_set ?_ GE101.out) | exact HB.out)) hb); have n3_ := Aside0.mk (hbox); have n4_ := Aside0.mk ((by rw [hg]; exact (below_size (by repeat (first | (with_reducible first | exact HB.out | apply below_alloc | apply pw_below_drewN | apply below_drew1 | refine below_set ?_ GE101.out) | exact HB.out))) : w.heap.size ≤ gb111)); have n5_ := Aside0.mk ((by rw [hg]; exact (below_size (by repeat (first | (with_reducible first | exact HB.out | apply below_alloc | apply pw_below_drewN | apply below_drew1 | refine below_set ?_ GE101.out) | exact HB.out))) : w.heap.size ≤ gb111)); have n6_ := Aside0.mk ((by rw [hg]; exact Nat.ne_of_lt (blk_lt (g := gb101) (o := .cells #[.int .i64 a0_0, .int .i64 a0_1, .slice A0_2 l0_2.length c0_2, .slice A0_3 l0_3.length c0_3, .slice A0_4 l0_4.length c0_4, .slice A0_5 l0_5.length c0_5] 25 (0, 0)) (by exact BK101.out)) : gb101 ≠ gb111)); have n7_ := Aside0.mk ((by rw [hg]; exact Nat.ne_of_gt (blk_lt (g := gb101) (o := .cells #[.int .i64 a0_0, .int .i64 a0_1, .slice A0_2 l0_2.length c0_2, .slice A0_3 l0_3.length c0_3, .slice A0_4 l0_4.length c0_4, .slice A0_5 l0_5.length c0_5] 25 (0, 0)) (by exact BK101.out)) : gb111 ≠ gb101)); clear HO108; clear BK101; clear HB; have HO108 := n0_; have BK101 := n1_; have HB := n2_; have BK111 := n3_; have GW111 := n4_; have GE111 := n5_; have NB101_111 := n6_; have NB111_101 := n7_; clear n0_ n1_ n2_ n3_ n4_ n5_ n6_ n7_; clear hb hbox hg; have hnb8 := NB111_101.out; have hnc8 := NB101_111.out; have hcz9_0 : w7.cell? ⟨gb111, 0, none⟩ = some (.int .i64 0) := (blk_cell BK111.out 0).trans rfl; have hcz9_1 : w7.cell? ⟨gb111, 1, none⟩ = some (.int .i64 0) := (blk_cell BK111.out 1).trans rfl; have hcz9_2 : w7.cell? ⟨gb111, 2, none⟩ = some (.int .i64 0) := (blk_cell BK111.out 2).trans rfl; have hcz9_3 : w7.cell? ⟨gb111, 3, none⟩ = some (.bool false) := (blk_cell BK111.out 3).trans rfl; have hcz9_4 : w7.cell? ⟨gb111, 4, none⟩ = some (.slice none 0 0) := (blk_cell BK111.out 4).trans rfl; have hfz9_0 := blk_frozen BK111.out 0; have hfz9_1 := blk_frozen BK111.out 1; have hfz9_2 := blk_frozen BK111.out 2; have hfz9_3 := blk_frozen BK111.out 3; have hfz9_4 := blk_frozen BK111.out 4; obtain ⟨Ao10, co10, eo10⟩ := Kd.R_slice HO108.out; subst eo10))
  go_ret
  exact ⟨by first | rfl | (simp [errW_none, errW_some] <;> rfl) | (simp only [← hji3]; first | rfl | (simp [errW_none, errW_some] <;> rfl)) | (simp [*, errW_none, errW_some] <;> rfl), by repeat (first | (with_reducible first | exact HB.out | apply below_alloc | apply pw_below_drewN | apply below_drew1 | refine below_set ?_ GE101.out | refine below_set ?_ GE111.out) | exact HB.out)⟩
end Go.Proofs.Yteahdaddbmhfgaa.P
end
section
-- Printed by the kit's print.py, driven by pall.py: one text a function. Lean checks it.
namespace Go.Proofs.Yteahdaddbmhfgaa.P
open Go.RowKit Go.Proofs.YteahdaddbmhfgaaW.PrintWords Go.Proofs.YteahdaddbmhfgaaW.PrintLast Go.Proofs.YteahdaddbmhfgaaW.PrintMore
attribute [local go_sem] max2_int min2_int max_two min_two max_three min_three max_four min_four
set_option linter.unusedVariables false
set_option linter.unusedSimpArgs false
def edns_Code.f (a0_0 : Int) (a0_1 : Int) (l0_2 : List (S79)) (l0_3 : List (S48)) (l0_4 : List (S48)) (l0_5 : List (S48)) : Option (Int) := (edns_Of.f a0_0 a0_1 l0_2 l0_3 l0_4 l0_5).bind fun bt102 => ((msg_Code.f a0_1).bind fun t112 => (some (Go.bits .or .i64 (wrap64 (bt102.2.1 * 16)) t112)))
set_option maxHeartbeats 8000000 in
set_option maxRecDepth 100000 in
theorem edns_Code.calls (a0_0 : Int) (a0_1 : Int) (A0_2 : Option Addr) (c0_2 : Nat) (l0_2 : List (S79)) (A0_3 : Option Addr) (c0_3 : Nat) (l0_3 : List (S48)) (A0_4 : Option Addr) (c0_4 : Nat) (l0_4 : List (S48)) (A0_5 : Option Addr) (c0_5 : Nat) (l0_5 : List (S48)) (r : Int) (w : World) (hr0_2 : Kd.C k79 w A0_2 l0_2.length l0_2) (hc0_2 : l0_2.length ≤ c0_2) (hr0_3 : Kd.C k48 w A0_3 l0_3.length l0_3) (hc0_3 : l0_3.length ≤ c0_3) (hr0_4 : Kd.C k48 w A0_4 l0_4.length l0_4) (hc0_4 : l0_4.length ≤ c0_4) (hr0_5 : Kd.C k48 w A0_5 l0_5.length l0_5) (hc0_5 : l0_5.length ≤ c0_5) (h : edns_Code.f a0_0 a0_1 l0_2 l0_3 l0_4 l0_5 = some r) :
    Calls Try.prog 37 #[.agg #[.int .i64 a0_0, .int .i64 a0_1, .slice A0_2 l0_2.length c0_2, .slice A0_3 l0_3.length c0_3, .slice A0_4 l0_4.length c0_4, .slice A0_5 l0_5.length c0_5]] w fun e w' => e = .returned (.int .i64 r) ∧ Below w.heap.size w w' := by
  have hu25 := Try.underlying25
  have hu28 := Try.underlying28
  have HR0_2 := Aside0.mk hr0_2
  have HC0_2 := Aside0.mk hc0_2
  clear hr0_2 hc0_2
  have HR0_3 := Aside0.mk hr0_3
  have HC0_3 := Aside0.mk hc0_3
  clear hr0_3 hc0_3
  have HR0_4 := Aside0.mk hr0_4
  have HC0_4 := Aside0.mk hc0_4
  clear hr0_4 hc0_4
  have HR0_5 := Aside0.mk hr0_5
  have HC0_5 := Aside0.mk hc0_5
  clear hr0_5 hc0_5
  have HB := Aside0.mk (Below.refl w.heap.size w)
  have H : ((edns_Of.f a0_0 a0_1 l0_2 l0_3 l0_4 l0_5).bind fun bt102 => ((msg_Code.f a0_1).bind fun t112 => (some (Go.bits .or .i64 (wrap64 (bt102.2.1 * 16)) t112)))) = some r := h
  clear h
  replace H := Option.bind_eq_some_iff.mp H
  obtain ⟨⟨t102, t103, t104, t105, t106, t109, t110⟩, A20, H⟩ := H
  replace H : ((msg_Code.f a0_1).bind fun t112 => (some (Go.bits .or .i64 (wrap64 (t103 * 16)) t112))) = some r := H
  have A2 := Aside0.mk A20
  clear A20
  replace H := Option.bind_eq_some_iff.mp H
  obtain ⟨t112, A30, H⟩ := H
  replace H : (some (Go.bits .or .i64 (wrap64 (t103 * 16)) t112)) = some r := H
  have A3 := Aside0.mk A30
  clear A30
  obtain rfl := Option.some.inj H
  go_enter Try.func37, Try.ntmps37
  go_wp2_with (first | ((with_reducible refine gate_dst (N := 1) rfl ?_); refine box_event ?hg (N := 1) ?hd (cs := #[.int .i64 a0_0, .int .i64 a0_1, .slice A0_2 l0_2.length c0_2, .slice A0_3 l0_3.length c0_3, .slice A0_4 l0_4.length c0_4, .slice A0_5 l0_5.length c0_5]) (t := 25) ?hr ?_; (case hd => rfl); (case hg => rfl); (case hr => first | (go_simp; done) | (go_simp; rfl)); intro gb101 hg w4 hbox hb; have n0_ := Aside0.mk (below_step (by repeat (first | (with_reducible first | exact HB.out | apply below_alloc | apply pw_below_drewN | apply below_drew1) | exact HB.out)) hb); have n1_ := Aside0.mk (hbox); have n2_ := Aside0.mk ((by rw [hg]; exact (below_size (by repeat (first | (with_reducible first | exact HB.out | apply below_alloc | apply pw_below_drewN | apply below_drew1) | exact HB.out))) : w.heap.size ≤ gb101)); have n3_ := Aside0.mk ((by rw [hg]; exact (below_size (by repeat (first | (with_reducible first | exact HB.out | apply below_alloc | apply pw_below_drewN | apply below_drew1) | exact HB.out))) : w.heap.size ≤ gb101)); clear HB; have HB := n0_; have BK101 := n1_; have GW101 := n2_; have GE101 := n3_; clear n0_ n1_ n2_ n3_; clear hb hbox hg; have hcz5_0 : w4.cell? ⟨gb101, 0, none⟩ = some (.int .i64 a0_0) := (blk_cell BK101.out 0).trans rfl; have hcz5_1 : w4.cell? ⟨gb101, 1, none⟩ = some (.int .i64 a0_1) := (blk_cell BK101.out 1).trans rfl; have hcz5_2 : w4.cell? ⟨gb101, 2, none⟩ = some (.slice A0_2 l0_2.length c0_2) := (blk_cell BK101.out 2).trans rfl; have hcz5_3 : w4.cell? ⟨gb101, 3, none⟩ = some (.slice A0_3 l0_3.length c0_3) := (blk_cell BK101.out 3).trans rfl; have hcz5_4 : w4.cell? ⟨gb101, 4, none⟩ = some (.slice A0_4 l0_4.length c0_4) := (blk_cell BK101.out 4).trans rfl; have hcz5_5 : w4.cell? ⟨gb101, 5, none⟩ = some (.slice A0_5 l0_5.length c0_5) := (blk_cell BK101.out 5).trans rfl; have hfz5_0 := blk_frozen BK101.out 0; have hfz5_1 := blk_frozen BK101.out 1; have hfz5_2 := blk_frozen BK101.out 2; have hfz5_3 := blk_frozen BK101.out 3; have hfz5_4 := blk_frozen BK101.out 4; have hfz5_5 := blk_frozen BK101.out 5) | (go_at_call 33; (with_reducible refine (edns_Of.calls a0_0 a0_1 _ _ l0_2 _ _ l0_3 _ _ l0_4 _ _ l0_5 t102 t103 t104 t105 t106 t109 t110 _ ?side1 ?side2 ?side3 ?side4 ?side5 ?side6 ?side7 ?side8 A2.out).mono ?_); (case side1 => repeat (first | exact (Kd.C_below HR0_2.out HB.out) | (with_reducible refine Kd.C_alloc ?_ _) | (with_reducible refine Kd.C_drewN ?_ _) | (with_reducible refine Kd.C_drew ?_))); (case side2 => exact HC0_2.out); (case side3 => repeat (first | exact (Kd.C_below HR0_3.out HB.out) | (with_reducible refine Kd.C_alloc ?_ _) | (with_reducible refine Kd.C_drewN ?_ _) | (with_reducible refine Kd.C_drew ?_))); (case side4 => exact HC0_3.out); (case side5 => repeat (first | exact (Kd.C_below HR0_4.out HB.out) | (with_reducible refine Kd.C_alloc ?_ _) | (with_reducible refine Kd.C_drewN ?_ _) | (with_reducible refine Kd.C_drew ?_))); (case side6 => exact HC0_4.out); (case side7 => repeat (first | exact (Kd.C_below HR0_5.out HB.out) | (with_reducible refine Kd.C_alloc ?_ _) | (with_reducible refine Kd.C_drewN ?_ _) | (with_reducible refine Kd.C_drew ?_))); (case side8 => exact HC0_5.out); rintro e w6 ⟨v107, rfl, ho0, hb⟩; have n0_ := Aside0.mk (Kd.R_lower ho0 (below_size (by repeat (first | (with_reducible first | exact HB.out | apply below_alloc | apply pw_below_drewN | apply below_drew1 | refine below_set ?_ GE101.out) | exact HB.out)))); have n1_ := Aside0.mk (blk_below (g := gb101) (o := .cells #[.int .i64 a0_0, .int .i64 a0_1, .slice A0_2 l0_2.length c0_2, .slice A0_3 l0_3.length c0_3, .slice A0_4 l0_4.length c0_4, .slice A0_5 l0_5.length c0_5] 25 (0, 0)) (by exact BK101.out) hb); have n2_ := Aside0.mk (below_step (by repeat (first | (with_reducible first | exact HB.out | apply below_alloc | apply pw_below_drewN | apply below_drew1 | refine below_set ?_ GE101.out) | exact HB.out)) hb); clear BK101; clear HB; have HO108 := n0_; have BK101 := n1_; have HB := n2_; clear n0_ n1_ n2_; (try clear hb); (try clear hb2); (try clear hk); (try clear hi); (try clear ho0)) | ((with_reducible refine gate_dst (N := 3) rfl ?_); refine box_event ?hg (N := 3) ?hd (cs := #[.int .i64 0, .int .i64 0, .int .i64 0, .bool false, .slice none 0 0]) (t := 28) ?hr ?_; (case hd => rfl); (case hg => rfl); (case hr => first | (go_simp; done) | (go_simp; rfl)); intro gb111 hg w7 hbox hb; have n0_ := Aside0.mk (Kd.R_below (by exact HO108.out) hb); have n1_ := Aside0.mk (blk_below (g := gb101) (o := .cells #[.int .i64 a0_0, .int .i64 a0_1, .slice A0_2 l0_2.length c0_2, .slice A0_3 l0_3.length c0_3, .slice A0_4 l0_4.length c0_4, .slice A0_5 l0_5.length c0_5] 25 (0, 0)) (by exact BK101.out) hb); have n2_ := Aside0.mk (below_step (by repeat (first | (with_reducible first | exact HB.out | apply below_alloc | apply pw_below_drewN | apply below_drew1 | refine below_set ?_ GE101.out) | exact HB.out)) hb); have n3_ := Aside0.mk (hbox); have n4_ := Aside0.mk ((by rw [hg]; exact (below_size (by repeat (first | (with_reducible first | exact HB.out | apply below_alloc | apply pw_below_drewN | apply below_drew1 | refine below_set ?_ GE101.out) | exact HB.out))) : w.heap.size ≤ gb111)); have n5_ := Aside0.mk ((by rw [hg]; exact (below_size (by repeat (first | (with_reducible first | exact HB.out | apply below_alloc | apply pw_below_drewN | apply below_drew1 | refine below_set ?_ GE101.out) | exact HB.out))) : w.heap.size ≤ gb111)); have n6_ := Aside0.mk ((by rw [hg]; exact Nat.ne_of_lt (blk_lt (g := gb101) (o := .cells #[.int .i64 a0_0, .int .i64 a0_1, .slice A0_2 l0_2.length c0_2, .slice A0_3 l0_3.length c0_3, .slice A0_4 l0_4.length c0_4, .slice A0_5 l0_5.length c0_5] 25 (0, 0)) (by exact BK101.out)) : gb101 ≠ gb111)); have n7_ := Aside0.mk ((by rw [hg]; exact Nat.ne_of_gt (blk_lt (g := gb101) (o := .cells #[.int .i64 a0_0, .int .i64 a0_1, .slice A0_2 l0_2.length c0_2, .slice A0_3 l0_3.length c0_3, .slice A0_4 l0_4.length c0_4, .slice A0_5 l0_5.length c0_5] 25 (0, 0)) (by exact BK101.out)) : gb111 ≠ gb101)); clear HO108; clear BK101; clear HB; have HO108 := n0_; have BK101 := n1_; have HB := n2_; have BK111 := n3_; have GW111 := n4_; have GE111 := n5_; have NB101_111 := n6_; have NB111_101 := n7_; clear n0_ n1_ n2_ n3_ n4_ n5_ n6_ n7_; clear hb hbox hg; have hnb8 := NB111_101.out; have hnc8 := NB101_111.out; have hcz9_0 : w7.cell? ⟨gb111, 0, none⟩ = some (.int .i64 0) := (blk_cell BK111.out 0).trans rfl; have hcz9_1 : w7.cell? ⟨gb111, 1, none⟩ = some (.int .i64 0) := (blk_cell BK111.out 1).trans rfl; have hcz9_2 : w7.cell? ⟨gb111, 2, none⟩ = some (.int .i64 0) := (blk_cell BK111.out 2).trans rfl; have hcz9_3 : w7.cell? ⟨gb111, 3, none⟩ = some (.bool false) := (blk_cell BK111.out 3).trans rfl; have hcz9_4 : w7.cell? ⟨gb111, 4, none⟩ = some (.slice none 0 0) := (blk_cell BK111.out 4).trans rfl; have hfz9_0 := blk_frozen BK111.out 0; have hfz9_1 := blk_frozen BK111.out 1; have hfz9_2 := blk_frozen BK111.out 2; have hfz9_3 := blk_frozen BK111.out 3; have hfz9_4 := blk_frozen BK111.out 4; obtain ⟨Ao10, co10, eo10⟩ := Kd.R_slice HO108.out; subst eo10; have hcz11_0 : w7.cell? ⟨gb101, 0, none⟩ = some (.int .i64 a0_0) := (blk_cell BK101.out 0).trans rfl; have hcz11_1 : w7.cell? ⟨gb101, 1, none⟩ = some (.int .i64 a0_1) := (blk_cell BK101.out 1).trans rfl; have hcz11_2 : w7.cell? ⟨gb101, 2, none⟩ = some (.slice A0_2 l0_2.length c0_2) := (blk_cell BK101.out 2).trans rfl; have hcz11_3 : w7.cell? ⟨gb101, 3, none⟩ = some (.slice A0_3 l0_3.length c0_3) := (blk_cell BK101.out 3).trans rfl; have hcz11_4 : w7.cell? ⟨gb101, 4, none⟩ = some (.slice A0_4 l0_4.length c0_4) := (blk_cell BK101.out 4).trans rfl; have hcz11_5 : w7.cell? ⟨gb101, 5, none⟩ = some (.slice A0_5 l0_5.length c0_5) := (blk_cell BK101.out 5).trans rfl; have hfz11_0 := blk_frozen BK101.out 0; have hfz11_1 := blk_frozen BK101.out 1; have hfz11_2 := blk_frozen BK101.out 2; have hfz11_3 := blk_frozen BK101.out 3; have hfz11_4 := blk_frozen BK101.out 4; have hfz11_5 := blk_frozen BK101.out 5))
  repeat (go_quiet (first | (go_at_call 41; (with_reducible refine (msg_Code.calls a0_1 t112 _ A3.out).mono ?_); rintro e w' ⟨rfl, ⟨nd, rfl⟩⟩; (try first | exact ⟨rfl, _, World.drewN_drewN _ _ _⟩ | exact ⟨rfl, _, Eq.trans (World.drewN_drewN _ _ _) (congrArg (World.drewN _) (Nat.add_assoc _ _ _))⟩))); try go_wp2_with (first | ((with_reducible refine gate_dst (N := 1) rfl ?_); refine box_event ?hg (N := 1) ?hd (cs := #[.int .i64 a0_0, .int .i64 a0_1, .slice A0_2 l0_2.length c0_2, .slice A0_3 l0_3.length c0_3, .slice A0_4 l0_4.length c0_4, .slice A0_5 l0_5.length c0_5]) (t := 25) ?hr ?_; (case hd => rfl); (case hg => rfl); (case hr => first | (go_simp; done) | (go_simp; rfl)); intro gb101 hg w4 hbox hb; have n0_ := Aside0.mk (below_step (by repeat (first | (with_reducible first | exact HB.out | apply below_alloc | apply pw_below_drewN | apply below_drew1) | exact HB.out)) hb); have n1_ := Aside0.mk (hbox); have n2_ := Aside0.mk ((by rw [hg]; exact (below_size (by repeat (first | (with_reducible first | exact HB.out | apply below_alloc | apply pw_below_drewN | apply below_drew1) | exact HB.out))) : w.heap.size ≤ gb101)); have n3_ := Aside0.mk ((by rw [hg]; exact (below_size (by repeat (first | (with_reducible first | exact HB.out | apply below_alloc | apply pw_below_drewN | apply below_drew1) | exact HB.out))) : w.heap.size ≤ gb101)); clear HB; have HB := n0_; have BK101 := n1_; have GW101 := n2_; have GE101 := n3_; clear n0_ n1_ n2_ n3_; clear hb hbox hg; have hcz5_0 : w4.cell? ⟨gb101, 0, none⟩ = some (.int .i64 a0_0) := (blk_cell BK101.out 0).trans rfl; have hcz5_1 : w4.cell? ⟨gb101, 1, none⟩ = some (.int .i64 a0_1) := (blk_cell BK101.out 1).trans rfl; have hcz5_2 : w4.cell? ⟨gb101, 2, none⟩ = some (.slice A0_2 l0_2.length c0_2) := (blk_cell BK101.out 2).trans rfl; have hcz5_3 : w4.cell? ⟨gb101, 3, none⟩ = some (.slice A0_3 l0_3.length c0_3) := (blk_cell BK101.out 3).trans rfl; have hcz5_4 : w4.cell? ⟨gb101, 4, none⟩ = some (.slice A0_4 l0_4.length c0_4) := (blk_cell BK101.out 4).trans rfl; have hcz5_5 : w4.cell? ⟨gb101, 5, none⟩ = some (.slice A0_5 l0_5.length c0_5) := (blk_cell BK101.out 5).trans rfl; have hfz5_0 := blk_frozen BK101.out 0; have hfz5_1 := blk_frozen BK101.out 1; have hfz5_2 := blk_frozen BK101.out 2; have hfz5_3 := blk_frozen BK101.out 3; have hfz5_4 := blk_frozen BK101.out 4; have hfz5_5 := blk_frozen BK101.out 5) | (go_at_call 33; (with_reducible refine (edns_Of.calls a0_0 a0_1 _ _ l0_2 _ _ l0_3 _ _ l0_4 _ _ l0_5 t102 t103 t104 t105 t106 t109 t110 _ ?side1 ?side2 ?side3 ?side4 ?side5 ?side6 ?side7 ?side8 A2.out).mono ?_); (case side1 => repeat (first | exact (Kd.C_below HR0_2.out HB.out) | (with_reducible refine Kd.C_alloc ?_ _) | (with_reducible refine Kd.C_drewN ?_ _) | (with_reducible refine Kd.C_drew ?_))); (case side2 => exact HC0_2.out); (case side3 => repeat (first | exact (Kd.C_below HR0_3.out HB.out) | (with_reducible refine Kd.C_alloc ?_ _) | (with_reducible refine Kd.C_drewN ?_ _) | (with_reducible refine Kd.C_drew ?_))); (case side4 => exact HC0_3.out); (case side5 => repeat (first | exact (Kd.C_below HR0_4.out HB.out) | (with_reducible refine Kd.C_alloc ?_ _) | (with_reducible refine Kd.C_drewN ?_ _) | (with_reducible refine Kd.C_drew ?_))); (case side6 => exact HC0_4.out); (case side7 => repeat (first | exact (Kd.C_below HR0_5.out HB.out) | (with_reducible refine Kd.C_alloc ?_ _) | (with_reducible refine Kd.C_drewN ?_ _) | (with_reducible refine Kd.C_drew ?_))); (case side8 => exact HC0_5.out); rintro e w6 ⟨v107, rfl, ho0, hb⟩; have n0_ := Aside0.mk (Kd.R_lower ho0 (below_size (by repeat (first | (with_reducible first | exact HB.out | apply below_alloc | apply pw_below_drewN | apply below_drew1 | refine below_set ?_ GE101.out) | exact HB.out)))); have n1_ := Aside0.mk (blk_below (g := gb101) (o := .cells #[.int .i64 a0_0, .int .i64 a0_1, .slice A0_2 l0_2.length c0_2, .slice A0_3 l0_3.length c0_3, .slice A0_4 l0_4.length c0_4, .slice A0_5 l0_5.length c0_5] 25 (0, 0)) (by exact BK101.out) hb); have n2_ := Aside0.mk (below_step (by repeat (first | (with_reducible first | exact HB.out | apply below_alloc | apply pw_below_drewN | apply below_drew1 | refine below_set ?_ GE101.out) | exact HB.out)) hb); clear BK101; clear HB; have HO108 := n0_; have BK101 := n1_; have HB := n2_; clear n0_ n1_ n2_; (try clear hb); (try clear hb2); (try clear hk); (try clear hi); (try clear ho0)) | ((with_reducible refine gate_dst (N := 3) rfl ?_); refine box_event ?hg (N := 3) ?hd (cs := #[.int .i64 0, .int .i64 0, .int .i64 0, .bool false, .slice none 0 0]) (t := 28) ?hr ?_; (case hd => rfl); (case hg => rfl); (case hr => first | (go_simp; done) | (go_simp; rfl)); intro gb111 hg w7 hbox hb; have n0_ := Aside0.mk (Kd.R_below (by exact HO108.out) hb); have n1_ := Aside0.mk (blk_below (g := gb101) (o := .cells #[.int .i64 a0_0, .int .i64 a0_1, .slice A0_2 l0_2.length c0_2, .slice A0_3 l0_3.length c0_3, .slice A0_4 l0_4.length c0_4, .slice A0_5 l0_5.length c0_5] 25 (0, 0)) (by exact BK101.out) hb); have n2_ := Aside0.mk (below_step (by repeat (first | (with_reducible first | exact HB.out | apply below_alloc | apply pw_below_drewN | apply below_drew1 | refine below_set ?_ GE101.out) | exact HB.out)) hb); have n3_ := Aside0.mk (hbox); have n4_ := Aside0.mk ((by rw [hg]; exact (below_size (by repeat (first | (with_reducible first | exact HB.out | apply below_alloc | apply pw_below_drewN | apply below_drew1 | refine below_set ?_ GE101.out) | exact HB.out))) : w.heap.size ≤ gb111)); have n5_ := Aside0.mk ((by rw [hg]; exact (below_size (by repeat (first | (with_reducible first | exact HB.out | apply below_alloc | apply pw_below_drewN | apply below_drew1 | refine below_set ?_ GE101.out) | exact HB.out))) : w.heap.size ≤ gb111)); have n6_ := Aside0.mk ((by rw [hg]; exact Nat.ne_of_lt (blk_lt (g := gb101) (o := .cells #[.int .i64 a0_0, .int .i64 a0_1, .slice A0_2 l0_2.length c0_2, .slice A0_3 l0_3.length c0_3, .slice A0_4 l0_4.length c0_4, .slice A0_5 l0_5.length c0_5] 25 (0, 0)) (by exact BK101.out)) : gb101 ≠ gb111)); have n7_ := Aside0.mk ((by rw [hg]; exact Nat.ne_of_gt (blk_lt (g := gb101) (o := .cells #[.int .i64 a0_0, .int .i64 a0_1, .slice A0_2 l0_2.length c0_2, .slice A0_3 l0_3.length c0_3, .slice A0_4 l0_4.length c0_4, .slice A0_5 l0_5.length c0_5] 25 (0, 0)) (by exact BK101.out)) : gb111 ≠ gb101)); clear HO108; clear BK101; clear HB; have HO108 := n0_; have BK101 := n1_; have HB := n2_; have BK111 := n3_; have GW111 := n4_; have GE111 := n5_; have NB101_111 := n6_; have NB111_101 := n7_; clear n0_ n1_ n2_ n3_ n4_ n5_ n6_ n7_; clear hb hbox hg; have hnb8 := NB111_101.out; have hnc8 := NB101_111.out; have hcz9_0 : w7.cell? ⟨gb111, 0, none⟩ = some (.int .i64 0) := (blk_cell BK111.out 0).trans rfl; have hcz9_1 : w7.cell? ⟨gb111, 1, none⟩ = some (.int .i64 0) := (blk_cell BK111.out 1).trans rfl; have hcz9_2 : w7.cell? ⟨gb111, 2, none⟩ = some (.int .i64 0) := (blk_cell BK111.out 2).trans rfl; have hcz9_3 : w7.cell? ⟨gb111, 3, none⟩ = some (.bool false) := (blk_cell BK111.out 3).trans rfl; have hcz9_4 : w7.cell? ⟨gb111, 4, none⟩ = some (.slice none 0 0) := (blk_cell BK111.out 4).trans rfl; have hfz9_0 := blk_frozen BK111.out 0; have hfz9_1 := blk_frozen BK111.out 1; have hfz9_2 := blk_frozen BK111.out 2; have hfz9_3 := blk_frozen BK111.out 3; have hfz9_4 := blk_frozen BK111.out 4; obtain ⟨Ao10, co10, eo10⟩ := Kd.R_slice HO108.out; subst eo10; have hcz11_0 : w7.cell? ⟨gb101, 0, none⟩ = some (.int .i64 a0_0) := (blk_cell BK101.out 0).trans rfl; have hcz11_1 : w7.cell? ⟨gb101, 1, none⟩ = some (.int .i64 a0_1) := (blk_cell BK101.out 1).trans rfl; have hcz11_2 : w7.cell? ⟨gb101, 2, none⟩ = some (.slice A0_2 l0_2.length c0_2) := (blk_cell BK101.out 2).trans rfl; have hcz11_3 : w7.cell? ⟨gb101, 3, none⟩ = some (.slice A0_3 l0_3.length c0_3) := (blk_cell BK101.out 3).trans rfl; have hcz11_4 : w7.cell? ⟨gb101, 4, none⟩ = some (.slice A0_4 l0_4.length c0_4) := (blk_cell BK101.out 4).trans rfl; have hcz11_5 : w7.cell? ⟨gb101, 5, none⟩ = some (.slice A0_5 l0_5.length c0_5) := (blk_cell BK101.out 5).trans rfl; have hfz11_0 := blk_frozen BK101.out 0; have hfz11_1 := blk_frozen BK101.out 1; have hfz11_2 := blk_frozen BK101.out 2; have hfz11_3 := blk_frozen BK101.out 3; have hfz11_4 := blk_frozen BK101.out 4; have hfz11_5 := blk_frozen BK101.out 5) | (go_at_call 41; (with_reducible refine (msg_Code.calls a0_1 t112 _ A3.out).mono ?_); rintro e w' ⟨rfl, ⟨nd, rfl⟩⟩; (try first | exact ⟨rfl, _, World.drewN_drewN _ _ _⟩ | exact ⟨rfl, _, Eq.trans (World.drewN_drewN _ _ _) (congrArg (World.drewN _) (Nat.add_assoc _ _ _))⟩))))
  go_ret
  exact ⟨by first | rfl | (simp [errW_none, errW_some] <;> rfl) | (simp [*, errW_none, errW_some] <;> rfl), by repeat (first | (with_reducible first | exact HB.out | apply below_alloc | apply pw_below_drewN | apply below_drew1 | refine below_set ?_ GE101.out | refine below_set ?_ GE111.out) | exact HB.out)⟩
end Go.Proofs.Yteahdaddbmhfgaa.P
end
