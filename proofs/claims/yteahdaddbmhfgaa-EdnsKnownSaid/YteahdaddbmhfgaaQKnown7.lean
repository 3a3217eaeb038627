import Derived.Test.YteahdaddbmhfgaaQKnown1
import Derived.Test.YteahdaddbmhfgaaQKnown2
import Derived.Test.YteahdaddbmhfgaaQKnown3
import Derived.Test.YteahdaddbmhfgaaQKnown4
import Derived.Test.YteahdaddbmhfgaaQKnown5
import Derived.Test.YteahdaddbmhfgaaQKnown6
import Derived.RangeFuncNested
import Derived.RangeFuncBound
import Derived.RangeFuncCalls
import Derived.RangeFuncLeaves
import Derived.RangeFuncBox
import Derived.Shelf.Abstract
import Derived.Shelf.RegionOpen
import Derived.OwnWalkIn
import Derived.TacticsInMore
import Derived.LoopNIn
import Derived.LoopIn
section
namespace Go.Proofs.Yteahdaddbmhfgaa.P
open Go.RowKit Go.Shelf Go.Proofs.YteahdaddbmhfgaaW.PrintWords Go.Proofs.YteahdaddbmhfgaaW.PrintLast Go.Proofs.YteahdaddbmhfgaaW.PrintMore
set_option linter.unusedVariables false
attribute [local go_sem] Oper.semAt_some
def recV (r : S48) : Value := .agg #[.string r.f0, .int .i64 r.f1, .int .i64 r.f2, .int .i64 r.f3, .string r.f4]
def optsTo (l : List S48) (k : Nat) : List (Nat × S48) := ((List.range k).filter fun j => (l.getD j z48).f1 == 41).map fun j => (j, l.getD j z48)
theorem optsTo_yes {l : List S48} {k : Nat} {r : S48} (hr : l[k]? = some r) (h : r.f1 = 41) : optsTo l (k + 1) = optsTo l k ++ [(k, r)] := by
  simp [optsTo, List.range_succ, List.filter_append, hr, h]
theorem optsTo_no {l : List S48} {k : Nat} {r : S48} (hr : l[k]? = some r) (h : r.f1 ≠ 41) : optsTo l (k + 1) = optsTo l k := by
  simp [optsTo, List.range_succ, List.filter_append, hr, h]
theorem optsTo_len (l : List S48) (k : Nat) : (optsTo l k).length ≤ k := by
  have := List.length_filter_le (fun j => (l.getD j z48).f1 == 41) (List.range k)
  simpa [optsTo] using this
theorem optsTo_at {l : List S48} {k : Nat} {r : S48} (hr : l[k]? = some r) (h : r.f1 = 41) : (optsTo l l.length)[(optsTo l k).length]? = some (k, r) := by
  have hk := (List.getElem?_eq_some_iff.1 hr).1
  have hp : ∀ d, (optsTo l (k + 1 + d))[(optsTo l k).length]? = some (k, r) := by
    intro d
    induction d with
    | zero => rw [Nat.add_zero, optsTo_yes hr h, List.getElem?_append_right (Nat.le_refl _)]; simp
    | succ d ih =>
      have e : optsTo l (k + 1 + (d + 1)) = optsTo l (k + 1 + d) ++ (if (l.getD (k + 1 + d) z48).f1 == 41 then [(k + 1 + d, l.getD (k + 1 + d) z48)] else []) := by
        rw [← Nat.add_assoc]
        simp only [optsTo, List.range_succ, List.filter_append, List.map_append]
        congr 1
        simp only [List.filter_cons, List.filter_nil]
        split <;> simp
      rw [e, List.getElem?_append_left (by
        have := (List.getElem?_eq_some_iff.1 ih).1
        exact this)]
      exact ih
  have := hp (l.length - (k + 1))
  rwa [show k + 1 + (l.length - (k + 1)) = l.length by omega] at this
set_option maxRecDepth 100000 in
set_option maxHeartbeats 2000000 in
theorem all1_in (n : Nat) (hn : 1 ≤ n) (L Bs n₀ : Nat) (A : Option Addr) (c : Nat) (l : List S48) (w0 W : World) (hn0 : w0.heap.size ≤ n₀) (hnW : n₀ ≤ W.heap.size) (hC : Kd.C k48 w0 A l.length l) (J Jx : Nat → World → Prop) (hJ : AbidesFrom W.heap.size J)
    (hY : ∀ k x W, (optsTo l l.length)[k]? = some x → J k W → YieldAt Fence.wide (n - 1) Try.prog L #[.int .i64 (x.1 : Int), recV x.2] W fun e W' =>
      (e = .returned (.bool true) ∧ J (k + 1) W' ∧ Below n₀ W W') ∨ (e = .returned (.bool false) ∧ Jx (k + 1) W'))
    (hBs : W.cell? ⟨Bs, 0, none⟩ = some (.slice A l.length c)) (h00 : Below w0.heap.size w0 W) (h0 : J 0 W) :
    CallsIn Fence.wide n Try.prog 120 #[.func (.yield L) #[] #[], .pointer (some ⟨Bs, 0, none⟩)] W fun e W' => (∃ v, e = .returned v) ∧
      (J (optsTo l l.length).length W' ∨ ∃ k, k < (optsTo l l.length).length ∧ Jx (k + 1) W') := by
  have hlen : l.length ≤ 9223372036854775807 := hC.2.1
  have HC := Aside0.mk hC; clear hC
  refine callsIn_of_wp Try.func120 rfl trivial ?_ rfl
  simp only [Try.ntmps120, List.size_toArray, List.length_cons, List.length_nil, Nat.reduceAdd, Nat.reduceSub, Array.replicate_succ, Array.replicate_zero, List.push_toArray, List.append_toArray, List.nil_append, List.cons_append]
  gi_wp2
  gi_loopw [3, 4, 7] (fun _ _ i wr => ∃ k : Nat, k ≤ l.length ∧ i = .int .i64 k ∧ J (optsTo l k).length wr ∧ Aside0 (Below n₀ W wr) ∧ W.heap.size ≤ wr.heap.size) (fun _ _ i _ => l.length - (intOf i).toNat)
  case atStart => exact ⟨0, Nat.zero_le _, rfl, h0, ⟨Below.refl _ _⟩, Nat.le_refl _⟩
  case round =>
    obtain ⟨k, hk, rfl, hJs, HB, hsz⟩ := hrel
    by_cases hlt : k < l.length
    · obtain ⟨r, hr⟩ : ∃ r, l[k]? = some r := ⟨l[k], List.getElem?_eq_getElem hlt⟩
      have hb : Below w0.heap.size w0 wr := h00.trans (HB.out.mono hn0)
      obtain ⟨ad, rfl, x0, x1, x2, x3, x4⟩ := rec_at HC.out hb hr
      have Hb := Aside0.mk hb; clear hb
      have HR := Aside0.mk hr; clear hr
      have hJa : J (optsTo l k).length (wr.alloc (.cells #[.string r.f0, .int .i64 r.f1, .int .i64 r.f2, .int .i64 r.f3, .string r.f4] 48)) :=
        hJ _ _ _ none hJs (World.grownBy_alloc _ _ _) (fun r e => by cases e)
      by_cases h41 : r.f1 = 41
      · obtain ⟨fn, tmps, assign, body, hy, hR⟩ := hY _ (k, r) _ (optsTo_at HR.out h41) hJa
        dsimp only [recV] at hy
        have hT : (optsTo l (k + 1)).length = (optsTo l k).length + 1 := by rw [optsTo_yes HR.out h41]; simp
        have hlt2 := (List.getElem?_eq_some_iff.1 (optsTo_at HR.out h41)).1
        have HT := Aside0.mk hT; clear hT
        have h41b : (r.f1 == 41) = true := by simpa using h41
        clear h41
        gi_wp2
        refine hR.mono ?_
        rintro e W3 (⟨rfl, hJ3, hk3⟩ | ⟨rfl, hJx3⟩)
        · gi_wp2
          go_roundw
          case rel => exact ⟨k + 1, by omega, by simp, by rw [HT.out]; exact hJ3, ⟨(HB.out.alloc (Nat.le_trans hnW hsz) _).trans hk3⟩, by have := hk3.size; simp at this; omega⟩
          case measure => simp [intOf]; omega
        · gi_wp2
          refine bodyPost_ret (results_none rfl _ _ _) rfl ?_
          exact ⟨⟨_, rfl⟩, .inr ⟨_, hlt2, hJx3⟩⟩
      · have hT : (optsTo l (k + 1)).length = (optsTo l k).length := by rw [optsTo_no HR.out h41]
        have HT := Aside0.mk hT; clear hT
        have h41b : (r.f1 == 41) = false := by simpa using h41
        clear h41
        gi_wp2
        refine ⟨fun _ h => (by cases h), ?_⟩
        gi_wp2
        go_roundw
        case rel => exact ⟨k + 1, by omega, by simp, by rw [HT.out]; exact hJa, ⟨HB.out.alloc (Nat.le_trans hnW hsz) _⟩, by simp; omega⟩
        case measure => simp [intOf]; omega
    · obtain rfl : k = l.length := by omega
      gi_wp2
      go_end0
      exact ⟨⟨_, rfl⟩, .inl hJs⟩
set_option maxHeartbeats 1000000 in
theorem all_in (n : Nat) (A : Option Addr) (len cap : Nat) (w : World) :
    CallsIn Fence.wide n Try.prog 87 #[.slice A len cap] w fun e w' => e = .returned (.func (.func 120) #[] #[.pointer (some ⟨w.heap.size, 0, none⟩)]) ∧ w' = w.alloc (.cells #[.slice A len cap] 23) := by
  refine callsIn_of_wp Try.func87 rfl trivial ?_ rfl
  simp only [Try.ntmps87, List.size_toArray, List.length_cons, List.length_nil, Nat.reduceAdd, Nat.reduceSub, Array.replicate_succ, Array.replicate_zero, List.push_toArray, List.append_toArray, List.nil_append, List.cons_append]
  gi_wp2
  go_ret
  exact ⟨rfl, rfl⟩
def itemV (x : Nat × S48) : Array Value := #[Value.int .i64 (x.1 : Int), recV x.2]
theorem all_gives (n : Nat) (hn : 1 ≤ n) (Bs n₀ : Nat) (A : Option Addr) (c : Nat) (l : List S48) (w0 w : World) (hn0 : w0.heap.size ≤ n₀) (hBs : Bs < w.heap.size) (hnw : n₀ ≤ w.heap.size) (hC : Kd.C k48 w0 A l.length l) (h00 : Below w0.heap.size w0 w)
    (hc : w.cell? ⟨Bs, 0, none⟩ = some (.slice A l.length c)) :
    Gives n Try.prog 120 #[.pointer (some ⟨Bs, 0, none⟩)] itemV n₀ (optsTo l l.length) w := fun L J Jx W hW hJ hY h0 =>
  all1_in n hn L Bs n₀ A c l w0 W hn0 (Nat.le_trans hnw hW.size) hC J Jx hJ hY ((hW.cell (p := ⟨Bs, 0, none⟩) hBs).trans hc) (h00.trans (hW.mono (Nat.le_trans hn0 hnw))) h0
end Go.Proofs.Yteahdaddbmhfgaa.P
end
section
namespace Go.Proofs.Yteahdaddbmhfgaa.P
open Go.RowKit Go.Shelf Go.Proofs.YteahdaddbmhfgaaW.PrintWords Go.Proofs.YteahdaddbmhfgaaW.PrintLast Go.Proofs.YteahdaddbmhfgaaW.PrintMore
set_option linter.unusedVariables false
attribute [local go_sem] Oper.semAt_some
def isOpt (r : S48) : Bool := r.f1 == 41
theorem optsTo_count : ∀ (l : List S48), (optsTo l l.length).length = l.countP isOpt := by
  have h : ∀ (l : List S48) (k : Nat), k ≤ l.length → (optsTo l k).length = (l.take k).countP isOpt := by
    intro l k
    induction k with
    | zero => intro _; simp [optsTo]
    | succ k ih =>
      intro hk
      have hr : l[k]? = some l[k] := List.getElem?_eq_getElem (by omega)
      rw [List.take_succ_eq_append_getElem (by omega), List.countP_append]
      by_cases e : l[k].f1 = 41
      · rw [optsTo_yes hr e, List.length_append, ih (by omega)]; simp [isOpt, e]
      · rw [optsTo_no hr e, ih (by omega)]; simp [isOpt, e]
  intro l
  rw [h l l.length (Nat.le_refl _), List.take_length]
def edns_count.f (l0 : List S48) : Option Int := some (l0.countP isOpt : Nat)
set_option maxRecDepth 100000 in
set_option maxHeartbeats 2000000 in
theorem count_in (n : Nat) (hn : 3 ≤ n) (A : Option Addr) (c : Nat) (l : List S48) (w : World) (hC : Kd.C k48 w A l.length l) :
    CallsIn Fence.wide n Try.prog 79 #[.slice A l.length c] w fun e W' => e = .returned (.int .i64 (l.countP isOpt : Nat)) ∧ Below w.heap.size w W' := by
  have h1 : 1 ≤ n := by omega
  have hlen : l.length ≤ 9223372036854775807 := hC.2.1
  refine callsIn_of_wp_marks Try.func79 rfl trivial ?_ rfl
  simp only [Try.ntmps79, List.size_toArray, List.length_cons, List.length_nil, Nat.reduceAdd, Nat.reduceSub, Array.replicate_succ, Array.replicate_zero, List.push_toArray, List.append_toArray, List.nil_append, List.cons_append]
  gi_wp2_with (refine ⟨trivial, ?_⟩; gi_at_call 87; refine (all_in (n - 1) _ _ _ _).mono ?_; rintro e w' ⟨rfl, rfl⟩)
  have bS := Boxed.new w 3 (.int .i64 0)
  have bN := Boxed.new (w.alloc (.cells #[.int .i64 0] 3)) 23 (.slice A l.length c)
  rw [World.size_alloc] at bN
  have hB0 : Below w.heap.size w ((w.alloc (.cells #[.int .i64 0] 3)).alloc (.cells #[.slice A l.length c] 23)) := ((Below.refl _ w).alloc (Nat.le_refl _) _).alloc (by simp) _
  refine wp_range (gf := 120) (lb := #[.pointer (some ⟨w.heap.size + 1, 0, none⟩)]) (n₀ := w.heap.size) rfl (enters_of Try.func120 (by kernel_rfl) rfl) (by simp; omega) (encs := itemV) (fun _ => rfl)
    (all_gives (n - 1) (by omega) (w.heap.size + 1) w.heap.size A c l w _ (Nat.le_refl _) (by simp) (by simp; omega) hC hB0 bN.cell)
    (fun k W => (W.cell? ⟨w.heap.size, 0, none⟩ = some (.int .i64 (k : Nat)) ∧ W.frozen? ⟨w.heap.size, 0, none⟩ = false) ∧ Below w.heap.size w W)
    (fun _ _ _ => False)
    (OwnFrom.and (Own.from (fun s A B row hs hg hr => ⟨cell_kept hs.1 hg hr, (frozen_kept hs.1 hg hr).trans hs.2⟩) _) (ownFrom_below (Nat.le_refl _) (by simp; omega)))
    (fun _ _ _ _ _ hs _ _ => hs)
    ⟨⟨(bS.alloc _).cell, (bS.alloc _).frozen⟩, hB0⟩
    (fun x => { tmps := #[.slice A l.length c, undef, .int .i64 0, .pointer (some ⟨w.heap.size, 0, none⟩), .slice A l.length c, .func (.func 120) #[] #[.pointer (some ⟨w.heap.size + 1, 0, none⟩)], .int .i64 (x.1 : Int), recV x.2, undef, undef, undef], defers := [] }) ?assign ?body ?done ?stop
  case assign =>
    intro L x W K hK
    gi_wp2
    simpa [itemV] using hK
  case body =>
    rintro L k x W hx ⟨⟨hc, hf⟩, hB⟩
    have hk := (List.getElem?_eq_some_iff.1 hx).1
    have hk2 := optsTo_len l l.length
    clear hx
    gi_wp2
    exact ⟨(KeepsOthers.setCell _ _ _).from _, (Below.refl w.heap.size W).setCell (p := ⟨w.heap.size, 0, none⟩) (Nat.le_refl _) _, ⟨by rw [World.cell?_setCell_same' _ _ _ (by rw [hc]; rfl)]; simp, by rw [World.frozen?_setCell]; exact hf⟩, hB.setCell (p := ⟨w.heap.size, 0, none⟩) (Nat.le_refl _) _⟩
  case done =>
    rintro D W hD ⟨⟨hc, hf⟩, hB⟩ hK
    gi_wp2
    refine ⟨by simp, .inl ⟨_, _, rfl, run_takeDeferred hK, ?_⟩⟩
    refine ⟨_, results_tmp rfl _ _ _, ?_, hB.trans (belowK_b (w := w) (Nat.le_refl _) W D _ _ (by simp at hD; omega) hK rfl rfl)⟩
    simp [optsTo_count]
  case stop =>
    rintro D c k W _ _ h _
    exact h.elim
theorem edns_count.calls (A0 : Option Addr) (c0 : Nat) (l0 : List (S48)) (r : Int) (w : World) (hr0 : Kd.C k48 w A0 l0.length l0) (hc0 : l0.length ≤ c0) (h : edns_count.f l0 = some r) :
    Calls Try.prog 79 #[.slice A0 l0.length c0] w fun e w' => e = .returned (.int .i64 r) ∧ Below w.heap.size w w' := by
  obtain rfl := Option.some.inj h
  exact callsIn_wide.1 (count_in 3 (by omega) A0 c0 l0 w hr0)
end Go.Proofs.Yteahdaddbmhfgaa.P
end
section
namespace Go.Proofs.Yteahdaddbmhfgaa.P
open Go.RowKit Go.Shelf Go.Proofs.YteahdaddbmhfgaaW.PrintWords Go.Proofs.YteahdaddbmhfgaaW.PrintLast Go.Proofs.YteahdaddbmhfgaaW.PrintMore
set_option linter.unusedVariables false
attribute [local go_sem] Oper.semAt_some
def noOpt (l : List S48) : List S48 := l.filter fun r => !isOpt r
def nxt (p : List (Nat × S48)) : Nat := match p.getLast? with | none => 0 | some x => x.1 + 1
theorem nxt_snoc (p : List (Nat × S48)) (x : Nat × S48) : nxt (p ++ [x]) = x.1 + 1 := by simp [nxt]
theorem optsTo_get {l : List S48} : ∀ (m : Nat), m ≤ l.length → ∀ {k i : Nat} {r : S48}, (optsTo l m)[k]? = some (i, r) → i < m ∧ l[i]? = some r ∧ r.f1 = 41 ∧ (optsTo l m).take k = optsTo l i
  | 0, _, k, i, r, h => by simp [optsTo] at h
  | m + 1, hm, k, i, r, h => by
    have hr : l[m]? = some l[m] := List.getElem?_eq_getElem (by omega)
    by_cases e : l[m].f1 = 41
    · rw [optsTo_yes hr e] at h ⊢
      by_cases hk : k < (optsTo l m).length
      · rw [List.getElem?_append_left hk] at h
        obtain ⟨h1, h2, h3, h4⟩ := optsTo_get m (by omega) h
        exact ⟨by omega, h2, h3, by rw [List.take_append_of_le_length (by omega)]; exact h4⟩
      · rw [List.getElem?_append_right (by omega)] at h
        obtain rfl : k = (optsTo l m).length := by
          have := (List.getElem?_eq_some_iff.1 h).1
          simp at this; omega
        simp at h
        obtain ⟨rfl, rfl⟩ := h
        exact ⟨by omega, hr, e, by simp⟩
    · rw [optsTo_no hr e] at h ⊢
      obtain ⟨h1, h2, h3, h4⟩ := optsTo_get m (by omega) h
      exact ⟨by omega, h2, h3, h4⟩
theorem noOpt_upto {l : List S48} : ∀ (m : Nat), m ≤ l.length → nxt (optsTo l m) ≤ m ∧ noOpt (l.take m) = noOpt (l.take (nxt (optsTo l m))) ++ (l.take m).drop (nxt (optsTo l m))
  | 0, _ => by simp [optsTo, nxt, noOpt]
  | m + 1, hm => by
    have hr : l[m]? = some l[m] := List.getElem?_eq_getElem (by omega)
    obtain ⟨h1, h2⟩ := noOpt_upto (l := l) m (by omega)
    by_cases e : l[m].f1 = 41
    · rw [optsTo_yes hr e, nxt_snoc]
      refine ⟨by omega, ?_⟩
      rw [List.drop_of_length_le (by simp; omega), List.append_nil]
    · rw [optsTo_no hr e]
      refine ⟨by omega, ?_⟩
      rw [List.take_succ_eq_append_getElem (by omega), List.drop_append_of_le_length (by simp; omega), ← List.append_assoc, ← h2]
      unfold noOpt
      rw [List.filter_append]
      congr 1
      simp [isOpt, e]
theorem noOpt_opt {l : List S48} {i : Nat} {r : S48} (hr : l[i]? = some r) (h : r.f1 = 41) : noOpt (l.take (i + 1)) = noOpt (l.take i) := by
  obtain ⟨hlt, rfl⟩ := List.getElem?_eq_some_iff.1 hr
  rw [List.take_succ_eq_append_getElem hlt]
  unfold noOpt
  rw [List.filter_append]
  have : [l[i]].filter (fun r => !isOpt r) = [] := by simp [isOpt, h]
  rw [this, List.append_nil]
end Go.Proofs.Yteahdaddbmhfgaa.P
end
