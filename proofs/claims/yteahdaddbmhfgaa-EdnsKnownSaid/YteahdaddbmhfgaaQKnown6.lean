import Derived.OrdersIn
import Derived.OwnWalkIn
import Derived.RangeFuncNested
import Derived.RangeFuncCalls
import Derived.RegionTactic
import Derived.RangeFuncBound
import Derived.RangeFuncLeaves
import Derived.Shelf.Abstract
import Derived.TacticsInMore
import Derived.LoopNIn
import Derived.LoopIn
import Derived.Below
section
namespace Go.Proofs.Yteahdaddbmhfgaa.P
open Go.RowKit
variable {P : Program} {ops : Array Oper} {Q : Exit → Act → World → Prop} {md : Region.Mode} {l n : Nat}
theorem rowsIn_of_wide {row : String} {args : Array Value} {w : World} {R : Value → World → Prop} (h : Rows P row args w R) : RowsIn Fence.wide n P row args w R := fun c cs _ => by
  obtain ⟨v, w', r, s⟩ := h c cs
  exact ⟨v, w', r, stepsIn_wide.2 s⟩
theorem wpIn_of_wp_op {o : Oper} {a : Act} {w : World} {K K' : Act → World → Prop} (hd : ∀ c, o.op ≠ .defer c) (hK : ∀ a w, K a w → K' a w)
    (h : o.wp P a w K Q) : o.wpIn (Fence.wide.inRound l) n P a w K' Q := by
  refine ⟨fun _ _ => trivial, ?_⟩
  rw [Oper.semAt_plain _ _ _ hd]
  unfold Oper.wp at h
  generalize (execOp a.eval o).run P w = r at h
  cases r with
  | ok x w' =>
    cases x <;> simp only [Oper.upon] at h <;> simp only [Oper.uponIn] <;> first
      | exact hK _ _ h
      | exact h.elim
      | exact ⟨fun h => (by cases h), CallsIn.inRound l (callsIn_wide.2 (h.mono fun e w'' he => by cases e <;> first | exact hK _ _ he | exact he))⟩
      | exact ⟨fun h => (by cases h), rowsIn_of_wide (Rows.mono h (fun _ _ he => hK _ _ he))⟩
  | halt x w' => cases x <;> simp only [Oper.upon] at h <;> simp only [Oper.uponIn] <;> first | exact h | exact h.elim
theorem wpAnyIn_of_wpAny (hnd : ∀ (i : Nat) (o : Oper), ops[i]? = some o → ∀ c, o.op ≠ .defer c) (hL : ¬ LetsOut Q) : ∀ (fuel : Nat) (listed : Array Bool) (a : Act) (w : World), wpAny P md ops Q fuel listed a w → wpAnyIn (Fence.wide.inRound l) n P md ops Q fuel listed a w
  | 0, _, _, _, h => h
  | fuel + 1, listed, a, w, ⟨h0, h1⟩ => ⟨h0, fun i hi => by
    have hi := h1 i hi
    unfold wpOp at hi
    unfold wpOpIn
    cases ho : ops[i]? with
    | none =>
      simp only [ho] at hi
      exact wpAnyIn_of_wpAny hnd hL fuel _ a w hi
    | some o =>
      simp only [ho] at hi ⊢
      by_cases hw : Region.wanted o (yielded ops a.tmps) = true
      · rw [if_pos hw] at hi ⊢
        rcases hi with hi | ⟨_, hl⟩
        · exact wpIn_of_wp_op (hnd i o ho) (fun a w => wpAnyIn_of_wpAny hnd hL fuel _ a w) hi
        · exact (hL hl).elim
      · rw [if_neg hw] at hi ⊢
        exact ⟨fun _ _ => trivial, wpAnyIn_of_wpAny hnd hL fuel _ _ w hi⟩⟩
def noDefer (ops : Array Oper) : Bool := ops.all fun o => match o.op with | .defer _ => false | _ => true
theorem noDefer_spec (h : noDefer ops = true) : ∀ (i : Nat) (o : Oper), ops[i]? = some o → ∀ c, o.op ≠ .defer c := by
  intro i o hi c hc
  have := Array.all_eq_true'.1 h o (Array.mem_of_getElem? hi)
  rw [hc] at this
  cases this
theorem region_in_round {id : Nat} {a : Act} {w : World} (hm : P.follows .mixedOrders = true) (hd : noDefer ops = true) (hL : ¬ LetsOut Q)
    (h : wpAny P .any ops Q ops.size (Array.replicate ops.size false) a w.drew) : (Code.region id ops true).wpIn (Fence.wide.inRound l) n P Q a w :=
  wpIn_region_any hm (wpAnyIn_of_wpAny (noDefer_spec hd) hL _ _ _ _ h)
def onlyNormal (Q : Exit → Act → World → Prop) : Exit → Act → World → Prop
  | .normal, a, w => Q .normal a w
  | _, _, _ => False
theorem wp_only {c : Code} {a : Act} {w : World} (h : c.wp P (onlyNormal Q) a w) : c.wp P Q a w := wp_mono h (fun e a w hq => by cases e <;> first | exact hq | exact hq.elim)
def Gives {α : Type} (n : Nat) (P : Program) (gf : Nat) (lb : Array Value) (encs : α → Array Value) (n₀ : Nat) (xs : List α) (w : World) : Prop :=
  ∀ (L : Nat) (J Jx : Nat → World → Prop) (W : World), Below w.heap.size w W → AbidesFrom W.heap.size J →
    (∀ k x W1, xs[k]? = some x → J k W1 → YieldAt Fence.wide (n - 1) P L (encs x) W1 fun e W' =>
      (e = .returned (.bool true) ∧ J (k + 1) W' ∧ Below n₀ W1 W') ∨ (e = .returned (.bool false) ∧ Jx (k + 1) W')) →
    J 0 W →
    CallsIn Fence.wide n P gf (#[.func (.yield L) #[] #[]] ++ lb) W fun e W' => (∃ v, e = .returned v) ∧ (J xs.length W' ∨ ∃ k, k < xs.length ∧ Jx (k + 1) W')
def roundEnd (B n₀ : Nat) (I : Nat → World → Prop) (Ix : Code → Nat → World → Prop) (k : Nat) (W : World) : Exit → Act → World → Prop
  | .normal, _, W' => KeepsFrom B W W' ∧ Below n₀ W W' ∧ I k W'
  | .ret, _, W' => KeepsFrom B W W' ∧ Ix .ret k W'
  | .exit id, _, W' => KeepsFrom B W W' ∧ Ix (.exit id) k W'
  | .goto _, _, _ => False
  | .panic _, _, _ => False
  | .outgrown, _, _ => False
section
variable {α : Type} {g : Operand} {ps : Array Tmp} {assign body : Code} {a : Act} {w : World} {gf : Nat} {lb : Array Value} {encs : α → Array Value} {n₀ : Nat} {xs : List α}
def recOf (fn : FuncId) (ps : Array Tmp) (assign body : Code) (a : Act) (w : World) (st : LoopState) (pe : Option Code) : Loop := { state := st, pending := pe, fn, tmps := a.tmps, params := ps, assign, body, defers := w.heap.size }
theorem round_out {fn : FuncId} (jump : Option Code) {W3 : World} (hl : W3.heap[w.heap.size + 1]? = some (.loop (recOf fn ps assign body a w .busy none))) (hk : W3.heap[w.heap.size]? = some (.deferred (some []))) :
    (Instr.endRound (w.heap.size + 1) jump).run P W3 = .ok (.bool jump.isNone) (W3.putObj (w.heap.size + 1) (.loop (recOf fn ps assign body a w (if jump.isNone then .ready else .done) jump))) ∧
    (W3.putObj (w.heap.size + 1) (.loop (recOf fn ps assign body a w (if jump.isNone then .ready else .done) jump))).heap[w.heap.size + 1]? = some (.loop (recOf fn ps assign body a w (if jump.isNone then .ready else .done) jump)) ∧
    (W3.putObj (w.heap.size + 1) (.loop (recOf fn ps assign body a w (if jump.isNone then .ready else .done) jump))).heap[w.heap.size]? = some (.deferred (some [])) :=
  ⟨run_endRound (P := P) jump hl, World.putObj_heap_same (Array.getElem?_eq_some_iff.1 hl).1, (World.putObj_heap_other (by omega)).trans hk⟩
theorem wp_range (hg : a.eval g = .func (.func gf) #[] lb) (eg : ∀ args w, (callFunc gf args).run P w = .ok (.enter gf args) w)
    (hn0 : n₀ ≤ w.heap.size) (hps : ∀ x, (encs x).size = ps.size) (hgives : Gives (n - 1) P gf lb encs n₀ xs w)
    (I : Nat → World → Prop) (Ix : Code → Nat → World → Prop) (hI : OwnFrom w.heap.size I) (hIx : ∀ c, OwnFrom w.heap.size (Ix c)) (h0 : I 0 w) (a₁ : α → Act)
    (hassign : ∀ (l : Nat) (x : α) (W : World) (K : Act → World → Prop), K (a₁ x) W →
      assign.wpIn (Fence.wide.inRound l) (n - 1 - 1) P (Exit.then K (fun _ _ _ => False)) { tmps := (ps.zip (encs x)).foldl (fun t (p, v) => t.setIfInBounds p v) a.tmps, defers := [] } W)
    (hbody : ∀ (l k : Nat) (x : α) (W : World), xs[k]? = some x → I k W → body.wpIn (Fence.wide.inRound l) (n - 1 - 1) P (roundEnd w.heap.size n₀ I Ix (k + 1) W) (a₁ x) W)
    (hdone : ∀ (D : Nat) (W : World), w.heap.size ≤ D → I xs.length W → W.heap[D]? = some (.deferred (some [])) → Q .normal { a with defers := { target := .collected D, args := #[] } :: a.defers } W)
    (hstop : ∀ (D : Nat) (c : Code) (k : Nat) (W : World), w.heap.size ≤ D → k < xs.length → Ix c (k + 1) W → W.heap[D]? = some (.deferred (some [])) → c.wpIn Fence.wide n P Q { a with defers := { target := .collected D, args := #[] } :: a.defers } W) :
    (Code.rangeFunc g ps assign body).wpIn Fence.wide n P Q a w := by
  refine wpIn_rangeFunc (fun fn hfn => ?_)
  obtain ⟨W1, hW1⟩ : ∃ W1, (w.alloc (.deferred (some []))).alloc (.loop (recOf fn ps assign body a w .ready none)) = W1 := ⟨_, rfl⟩
  have hs1 : W1.heap.size = w.heap.size + 2 := by rw [← hW1]; simp
  have hL1 : W1.heap[w.heap.size + 1]? = some (.loop (recOf fn ps assign body a w .ready none)) := by
    rw [← hW1]; have := World.alloc_heap_new (w.alloc (.deferred (some []))) (.loop (recOf fn ps assign body a w .ready none)); rwa [World.size_alloc] at this
  have hK1 : W1.heap[w.heap.size]? = some (.deferred (some [])) := by
    rw [← hW1]; exact (Below.heap_alloc _ _ _ (by simp)).trans (World.alloc_heap_new w _)
  have hI1 : I 0 W1 := by rw [← hW1]; exact hI.alloc _ (hI.alloc _ h0)
  have hB1 : Below w.heap.size w W1 := by rw [← hW1]; exact ((Below.refl _ w).alloc (Nat.le_refl _) _).alloc (by simp) _
  refine ⟨w.heap.size + 1, [{ target := .collected w.heap.size, args := #[] }], W1, { target := .fn (.func gf) lb, args := #[.func (.yield (w.heap.size + 1)) #[] #[]] }, W1, gf,
    #[.func (.yield (w.heap.size + 1)) #[] #[]] ++ lb, W1, ?_, ?_, fun _ _ => trivial, ?_, fun h => (by cases h), ?_⟩
  · rw [← hW1]; exact run_enterLoop_outer _ _ _ _ _
  · simp only [resolve, hg]; simp [go_sem]
  · simp [invoke, go_sem, eg]
  have hgo := hgives (w.heap.size + 1)
    (fun k W => I k W ∧ W.heap[w.heap.size + 1]? = some (.loop (recOf fn ps assign body a w .ready none)) ∧ W.heap[w.heap.size]? = some (.deferred (some [])))
    (fun k W => ∃ c, Ix c k W ∧ W.heap[w.heap.size + 1]? = some (.loop (recOf fn ps assign body a w .done (some c))) ∧ W.heap[w.heap.size]? = some (.deferred (some [])))
    W1 hB1 ?abides ?round ⟨hI1, hL1, hK1⟩
  case abides =>
    intro s A B row hs hgr hr
    refine ⟨hI s A B row hs.1 hgr (fun r e => ?_), (grownBy_keeps hgr (fun r e => (hr r e).2) hs.2.1 rfl).trans hs.2.1, (grownBy_keeps hgr (fun r e => (hr r e).2) hs.2.2 rfl).trans hs.2.2⟩
    obtain ⟨h1, o, ho, hw⟩ := hr r e
    exact ⟨by omega, o, ho, Obj.not_cells_of_walk hw⟩
  case round =>
    rintro k x W hx ⟨hi, hl, hk⟩
    have hlt : w.heap.size + 1 < W.heap.size := (Array.getElem?_eq_some_iff.1 hl).1
    refine ⟨fn, _, assign, body, run_yield (P := P) (args := encs x) hl (hps x), roundIn_of_wpIn hfn (hassign _ x W _ ⟨_, run_beginRound hl rfl, ?_⟩)⟩
    have hbusy : { recOf fn ps assign body a w .ready none with state := LoopState.busy } = recOf fn ps assign body a w .busy none := rfl
    rw [hbusy]
    have hl2 : (W.putObj (w.heap.size + 1) (.loop (recOf fn ps assign body a w .busy none))).heap[w.heap.size + 1]? = some (.loop (recOf fn ps assign body a w .busy none)) := World.putObj_heap_same hlt
    have hk2 : (W.putObj (w.heap.size + 1) (.loop (recOf fn ps assign body a w .busy none))).heap[w.heap.size]? = some (.deferred (some [])) := (World.putObj_heap_other (by omega)).trans hk
    have hb2 : Below n₀ W (W.putObj (w.heap.size + 1) (.loop (recOf fn ps assign body a w .busy none))) := belowK_b hn0 W _ _ _ (by omega) hl rfl rfl
    refine wpIn_mono (hbody _ k x _ hx (hI.putObj _ hi (by omega) hl rfl)) ?_
    rintro e a3 W3 hp
    cases e with
    | normal =>
      obtain ⟨hkf, hbl, hi3⟩ := hp
      have hl3 := hkf.same _ _ (by omega) hl2 rfl
      obtain ⟨hr, hl4, hk4⟩ := round_out (P := P) none hl3 (hkf.same _ _ (Nat.le_refl _) hk2 rfl)
      exact ⟨_, _, hr, .inl ⟨rfl, ⟨hI.putObj _ hi3 (by omega) hl3 rfl, hl4, hk4⟩, (hb2.trans hbl).trans (belowK_b hn0 W3 _ _ _ (by omega) hl3 rfl rfl)⟩⟩
    | ret =>
      obtain ⟨hkf, hi3⟩ := hp
      have hl3 := hkf.same _ _ (by omega) hl2 rfl
      obtain ⟨hr, hl4, hk4⟩ := round_out (P := P) (some .ret) hl3 (hkf.same _ _ (Nat.le_refl _) hk2 rfl)
      exact ⟨_, _, hr, .inr ⟨rfl, .ret, (hIx _).putObj _ hi3 (by omega) hl3 rfl, hl4, hk4⟩⟩
    | exit id =>
      obtain ⟨hkf, hi3⟩ := hp
      have hl3 := hkf.same _ _ (by omega) hl2 rfl
      obtain ⟨hr, hl4, hk4⟩ := round_out (P := P) (some (.exit id)) hl3 (hkf.same _ _ (Nat.le_refl _) hk2 rfl)
      exact ⟨_, _, hr, .inr ⟨rfl, .exit id, (hIx _).putObj _ hi3 (by omega) hl3 rfl, hl4, hk4⟩⟩
    | goto t => exact hp.elim
    | panic ch => exact hp.elim
    | outgrown => exact hp.elim
  refine hgo.mono ?_
  rintro e W2 ⟨⟨v, rfl⟩, (⟨hi, hl, hk⟩ | ⟨k, hk', c, hi, hl, hk⟩)⟩
  · exact ⟨none, _, run_endLoop (P := P) hl (by simp [recOf]), hdone _ _ (Nat.le_refl _) (hI.putObj _ hi (by omega) hl rfl) ((World.putObj_heap_other (by omega)).trans hk)⟩
  · exact ⟨some c, _, run_endLoop (P := P) hl (by simp [recOf]), hstop _ c k _ (Nat.le_refl _) hk' ((hIx c).putObj _ hi (by omega) hl rfl) ((World.putObj_heap_other (by omega)).trans hk)⟩
end
end Go.Proofs.Yteahdaddbmhfgaa.P
end
section
namespace Go.Proofs.Yteahdaddbmhfgaa.P
open Go.RowKit
variable {P : Program} {ops : Array Oper} {Q : Exit → Act → World → Prop} {md : Region.Mode} {l n : Nat}
section
variable {α : Type} {g : Operand} {ps : Array Tmp} {assign body : Code} {a : Act} {w : World} {gf : Nat} {lb : Array Value} {encs : α → Array Value} {n₀ : Nat} {xs : List α}
theorem wp_range1 (hg : a.eval g = .func (.func gf) #[] lb) (eg : ∀ args w, (callFunc gf args).run P w = .ok (.enter gf args) w)
    (hn0 : n₀ ≤ w.heap.size) (hps : ∀ x, (encs x).size = ps.size) (hgives : Gives (n - 1) P gf lb encs n₀ xs w)
    (I : Nat → World → Prop) (Ix : Code → Nat → World → Prop) (hI : OwnFrom w.heap.size I) (hIx : ∀ c, OwnFrom w.heap.size (Ix c)) (h0 : I 0 w) (a₁ : α → Nat → Act) (o₁ : α → Obj)
    (hassign : ∀ (l : Nat) (x : α) (W : World) (K : Act → World → Prop), K (a₁ x W.heap.size) (W.alloc (o₁ x)) →
      assign.wpIn (Fence.wide.inRound l) (n - 1 - 1) P (Exit.then K (fun _ _ _ => False)) { tmps := (ps.zip (encs x)).foldl (fun t (p, v) => t.setIfInBounds p v) a.tmps, defers := [] } W)
    (hbody : ∀ (l k g : Nat) (x : α) (W : World), xs[k]? = some x → I k W → w.heap.size ≤ g → W.heap[g]? = some (o₁ x) → body.wpIn (Fence.wide.inRound l) (n - 1 - 1) P (roundEnd w.heap.size n₀ I Ix (k + 1) W) (a₁ x g) W)
    (hdone : ∀ (D : Nat) (W : World), w.heap.size ≤ D → I xs.length W → W.heap[D]? = some (.deferred (some [])) → Q .normal { a with defers := { target := .collected D, args := #[] } :: a.defers } W)
    (hstop : ∀ (D : Nat) (c : Code) (k : Nat) (W : World), w.heap.size ≤ D → k < xs.length → Ix c (k + 1) W → W.heap[D]? = some (.deferred (some [])) → c.wpIn Fence.wide n P Q { a with defers := { target := .collected D, args := #[] } :: a.defers } W) :
    (Code.rangeFunc g ps assign body).wpIn Fence.wide n P Q a w := by
  refine wpIn_rangeFunc (fun fn hfn => ?_)
  obtain ⟨W1, hW1⟩ : ∃ W1, (w.alloc (.deferred (some []))).alloc (.loop (recOf fn ps assign body a w .ready none)) = W1 := ⟨_, rfl⟩
  have hs1 : W1.heap.size = w.heap.size + 2 := by rw [← hW1]; simp
  have hL1 : W1.heap[w.heap.size + 1]? = some (.loop (recOf fn ps assign body a w .ready none)) := by
    rw [← hW1]; have := World.alloc_heap_new (w.alloc (.deferred (some []))) (.loop (recOf fn ps assign body a w .ready none)); rwa [World.size_alloc] at this
  have hK1 : W1.heap[w.heap.size]? = some (.deferred (some [])) := by
    rw [← hW1]; exact (Below.heap_alloc _ _ _ (by simp)).trans (World.alloc_heap_new w _)
  have hI1 : I 0 W1 := by rw [← hW1]; exact hI.alloc _ (hI.alloc _ h0)
  have hB1 : Below w.heap.size w W1 := by rw [← hW1]; exact ((Below.refl _ w).alloc (Nat.le_refl _) _).alloc (by simp) _
  refine ⟨w.heap.size + 1, [{ target := .collected w.heap.size, args := #[] }], W1, { target := .fn (.func gf) lb, args := #[.func (.yield (w.heap.size + 1)) #[] #[]] }, W1, gf,
    #[.func (.yield (w.heap.size + 1)) #[] #[]] ++ lb, W1, ?_, ?_, fun _ _ => trivial, ?_, fun h => (by cases h), ?_⟩
  · rw [← hW1]; exact run_enterLoop_outer _ _ _ _ _
  · simp only [resolve, hg]; simp [go_sem]
  · simp [invoke, go_sem, eg]
  have hgo := hgives (w.heap.size + 1)
    (fun k W => I k W ∧ W.heap[w.heap.size + 1]? = some (.loop (recOf fn ps assign body a w .ready none)) ∧ W.heap[w.heap.size]? = some (.deferred (some [])))
    (fun k W => ∃ c, Ix c k W ∧ W.heap[w.heap.size + 1]? = some (.loop (recOf fn ps assign body a w .done (some c))) ∧ W.heap[w.heap.size]? = some (.deferred (some [])))
    W1 hB1 ?abides ?round ⟨hI1, hL1, hK1⟩
  case abides =>
    intro s A B row hs hgr hr
    refine ⟨hI s A B row hs.1 hgr (fun r e => ?_), (grownBy_keeps hgr (fun r e => (hr r e).2) hs.2.1 rfl).trans hs.2.1, (grownBy_keeps hgr (fun r e => (hr r e).2) hs.2.2 rfl).trans hs.2.2⟩
    obtain ⟨h1, o, ho, hw⟩ := hr r e
    exact ⟨by omega, o, ho, Obj.not_cells_of_walk hw⟩
  case round =>
    rintro k x W0 hx ⟨hi0, hl0, hk0⟩
    have hlt0 : w.heap.size + 1 < W0.heap.size := (Array.getElem?_eq_some_iff.1 hl0).1
    obtain ⟨W, hWd⟩ : ∃ W, W0.alloc (o₁ x) = W := ⟨_, rfl⟩
    have hi : I k W := by rw [← hWd]; exact hI.alloc _ hi0
    have hl : W.heap[w.heap.size + 1]? = some (.loop (recOf fn ps assign body a w .ready none)) := by rw [← hWd]; exact (Below.heap_alloc _ _ _ hlt0).trans hl0
    have hk : W.heap[w.heap.size]? = some (.deferred (some [])) := by rw [← hWd]; exact (Below.heap_alloc _ _ _ (by omega)).trans hk0
    have ho : W.heap[W0.heap.size]? = some (o₁ x) := by rw [← hWd]; exact World.alloc_heap_new _ _
    have hb0 : Below n₀ W0 W := by rw [← hWd]; exact (Below.refl n₀ W0).alloc (by omega) _
    have hlt : w.heap.size + 1 < W.heap.size := (Array.getElem?_eq_some_iff.1 hl).1
    refine ⟨fn, _, assign, body, run_yield (P := P) (args := encs x) hl0 (hps x), roundIn_of_wpIn hfn (hassign _ x W0 _ ⟨_, run_beginRound (by rw [hWd]; exact hl) rfl, ?_⟩)⟩
    rw [hWd]
    have hbusy : { recOf fn ps assign body a w .ready none with state := LoopState.busy } = recOf fn ps assign body a w .busy none := rfl
    rw [hbusy]
    have hl2 : (W.putObj (w.heap.size + 1) (.loop (recOf fn ps assign body a w .busy none))).heap[w.heap.size + 1]? = some (.loop (recOf fn ps assign body a w .busy none)) := World.putObj_heap_same hlt
    have hk2 : (W.putObj (w.heap.size + 1) (.loop (recOf fn ps assign body a w .busy none))).heap[w.heap.size]? = some (.deferred (some [])) := (World.putObj_heap_other (by omega)).trans hk
    have hb2 : Below n₀ W0 (W.putObj (w.heap.size + 1) (.loop (recOf fn ps assign body a w .busy none))) := hb0.trans (belowK_b hn0 W _ _ _ (by omega) hl rfl rfl)
    refine wpIn_mono (hbody _ k W0.heap.size x _ hx (hI.putObj _ hi (by omega) hl rfl) (by omega) ((World.putObj_heap_other (by omega)).trans ho)) ?_
    rintro e a3 W3 hp
    cases e with
    | normal =>
      obtain ⟨hkf, hbl, hi3⟩ := hp
      have hl3 := hkf.same _ _ (by omega) hl2 rfl
      obtain ⟨hr, hl4, hk4⟩ := round_out (P := P) none hl3 (hkf.same _ _ (Nat.le_refl _) hk2 rfl)
      exact ⟨_, _, hr, .inl ⟨rfl, ⟨hI.putObj _ hi3 (by omega) hl3 rfl, hl4, hk4⟩, (hb2.trans hbl).trans (belowK_b hn0 W3 _ _ _ (by omega) hl3 rfl rfl)⟩⟩
    | ret =>
      obtain ⟨hkf, hi3⟩ := hp
      have hl3 := hkf.same _ _ (by omega) hl2 rfl
      obtain ⟨hr, hl4, hk4⟩ := round_out (P := P) (some .ret) hl3 (hkf.same _ _ (Nat.le_refl _) hk2 rfl)
      exact ⟨_, _, hr, .inr ⟨rfl, .ret, (hIx _).putObj _ hi3 (by omega) hl3 rfl, hl4, hk4⟩⟩
    | exit id =>
      obtain ⟨hkf, hi3⟩ := hp
      have hl3 := hkf.same _ _ (by omega) hl2 rfl
      obtain ⟨hr, hl4, hk4⟩ := round_out (P := P) (some (.exit id)) hl3 (hkf.same _ _ (Nat.le_refl _) hk2 rfl)
      exact ⟨_, _, hr, .inr ⟨rfl, .exit id, (hIx _).putObj _ hi3 (by omega) hl3 rfl, hl4, hk4⟩⟩
    | goto t => exact hp.elim
    | panic ch => exact hp.elim
    | outgrown => exact hp.elim
  refine hgo.mono ?_
  rintro e W2 ⟨⟨v, rfl⟩, (⟨hi, hl, hk⟩ | ⟨k, hk', c, hi, hl, hk⟩)⟩
  · exact ⟨none, _, run_endLoop (P := P) hl (by simp [recOf]), hdone _ _ (Nat.le_refl _) (hI.putObj _ hi (by omega) hl rfl) ((World.putObj_heap_other (by omega)).trans hk)⟩
  · exact ⟨some c, _, run_endLoop (P := P) hl (by simp [recOf]), hstop _ c k _ (Nat.le_refl _) hk' ((hIx c).putObj _ hi (by omega) hl rfl) ((World.putObj_heap_other (by omega)).trans hk)⟩
end
end Go.Proofs.Yteahdaddbmhfgaa.P
end
