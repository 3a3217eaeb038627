import Derived.Test.YteahdaddbmhfgaaQKnown1
import Derived.Test.YteahdaddbmhfgaaQKnown2
import Derived.Test.YteahdaddbmhfgaaQKnown3
import Derived.Test.YteahdaddbmhfgaaQKnown4
import Derived.Test.YteahdaddbmhfgaaQKnown5
import Derived.Test.YteahdaddbmhfgaaQKnown6
section
namespace Go.Proofs.Yteahdaddbmhfgaa.P
open Go.RowKit Go.Proofs.YteahdaddbmhfgaaW.PrintWords Go.Proofs.YteahdaddbmhfgaaW.PrintLast Go.Proofs.YteahdaddbmhfgaaW.PrintMore
set_option linter.unusedVariables false
set_option linter.unusedSimpArgs false
theorem append_run {P : Program} {α : Type} (d : Kd α) {w0 W : World} {base : Nat} {e t ty : TypeId} {z : Value} {bytes : Nat}
    (ht : P.underlying t = some (.slice e)) (hinfo : (P.info? e).map (fun i => (i.zero, i.size, i.bytes)) = some (some z, d.sz, bytes)) (hz : z.cells.size = d.sz) (hs0 : 0 < d.sz) (hb0 : 0 < bytes)
    {v : Value} {xs ys : List α} {A : Option Addr} {m c : Nat} {ok : Nat → Prop} (HO : d.R e W base ok v xs) (HR : Kd.C d W A m ys) (hKM : ∀ x cs, d.K W x cs → d.M W base (fun _ => False) x cs) (hfresh : ∀ k, W.heap.size ≤ k → ok k)
    (HB : Below base w0 W) (hbase : base ≤ W.heap.size) (hl : (xs.length + m) * bytes ≤ 140737488355328) :
    ∃ v1 w1, (Builtin.append_ #[t, t] ty #[v, .slice A m c]).run P W = .ok v1 w1 ∧ d.R e w1 base ok v1 (xs ++ ys) ∧ Below base w0 w1 ∧ W.grownBy w1 v.ownBlock := by
  have H := Kd.R_append_rows (P := P) (ops := #[]) (rest := []) (o := { dst := some 0, op := .call { callee := .builtin .append, args := #[.const v, .const (.slice A m c)], argTypes := #[t, t] }, type := ty, pos := "", after := #[], guard := none })
    (a := { tmps := #[undef], defers := [] }) (Q := fun e' a' w' => e' = .normal ∧ ∃ v1, a'.tmps[0]? = some v1 ∧ d.R e w' base ok v1 (xs ++ ys) ∧ Below base w0 w' ∧ W.grownBy w' v.ownBlock) d (w0 := w0) base rfl (.const v) (.const (.slice A m c)) t e z bytes rfl ht hinfo hz hs0 hb0
    v xs ys A m c ok (fun _ => False) rfl rfl HO HR hKM (fun _ hk => hk.elim) hfresh HB hbase hl (fun v1 w1 h1 h2 h3 _ => ⟨rfl, v1, rfl, h1, h2, h3⟩)
  unfold wpList at H
  simp only [Region.wanted, Oper.wp] at H
  cases hr : (Builtin.append_ #[t, t] ty #[v, .slice A m c]).run P W with
  | ok v1 w1 =>
    simp [execOp, resolve, invoke, builtin, hr, Result.andThen, Act.eval, Oper.upon, wpList, Act.put, LetsOut] at H
    exact ⟨v1, w1, rfl, H⟩
  | halt x w1 =>
    exfalso
    cases x <;> simp [execOp, resolve, invoke, builtin, hr, Result.andThen, Act.eval, Oper.upon, wpList, Act.put, LetsOut] at H
theorem step_append_rows {P : Program} {ops : Array Oper} {o : Oper} {a : Act} {K : Act → World → Prop} {Q : Exit → Act → World → Prop} {E : Prop} {α : Type} (d : Kd α) {w0 W : World} {base : Nat} {e t : TypeId} {z : Value} {bytes : Nat} (s x : Operand)
    (hg : o.guard = none) (hop : o.op = .call { callee := .builtin .append, args := #[s, x], argTypes := #[t, t] })
    (ht : P.underlying t = some (.slice e)) (hinfo : (P.info? e).map (fun i => (i.zero, i.size, i.bytes)) = some (some z, d.sz, bytes)) (hz : z.cells.size = d.sz) (hs0 : 0 < d.sz) (hb0 : 0 < bytes)
    {v : Value} {xs ys : List α} {A : Option Addr} {m c : Nat} {ok : Nat → Prop} (hs : a.eval s = v) (hx : a.eval x = .slice A m c) (HO : d.R e W base ok v xs) (HR : Kd.C d W A m ys) (hKM : ∀ x cs, d.K W x cs → d.M W base (fun _ => False) x cs) (hfresh : ∀ k, W.heap.size ≤ k → ok k)
    (HB : Below base w0 W) (hbase : base ≤ W.heap.size) (hl : (xs.length + m) * bytes ≤ 140737488355328)
    (hK : ∀ v1 w1, d.R e w1 base ok v1 (xs ++ ys) → Below base w0 w1 → W.grownBy w1 v.ownBlock → K (a.put o.dst v1) w1) :
    if Region.wanted o (yielded ops a.tmps) = true then Oper.wp P o a W K Q else E := by
  have hw : Region.wanted o (yielded ops a.tmps) = true := by simp [Region.wanted, hg]
  rw [if_pos hw]
  obtain ⟨v1, w1, hrun, h1, h2, h3⟩ := append_run (ty := o.type) d ht hinfo hz hs0 hb0 HO HR hKM hfresh HB hbase hl
  unfold Oper.wp
  simp [execOp, hop, resolve, invoke, builtin, hs, hx, hrun, Result.andThen]
  rw [hrun]
  exact hK v1 w1 h1 h2 h3
theorem R_far2' {α : Type} {d : Kd α} {e : Nat} {w : World} {base B : Nat} {v : Value} {xs : List α} (h : d.R e w base (fun q => B ≤ q) v xs) {g : Nat} (hg : g < B) (j : Nat) (u : Value) : d.R e (w.setCell ⟨g, j, none⟩ u) base (fun q => B ≤ q) v xs :=
  Kd.R_far (p := ⟨g, j, none⟩) h (fun k hk => by simp; omega) u
theorem own_C_take {α : Type} {d : Kd α} {w : World} {A : Option Addr} {n : Nat} {xs : List α} (h : Kd.C d w A n xs) {i : Nat} (hi : i ≤ n) : Kd.C d w A i (xs.take i) := by
  obtain ⟨h1, h2, h3⟩ := h
  refine ⟨by rw [List.length_take]; omega, by omega, fun h0 => ?_⟩
  obtain ⟨ad, e, hc⟩ := h3 (by omega)
  refine ⟨ad, e, fun j p hj => hc j p ?_⟩
  rw [List.getElem?_take] at hj
  split at hj
  · exact hj
  · cases hj
theorem C_cut3 {α : Type} {d : Kd α} {w : World} {A : Option Addr} {n : Nat} {xs : List α} (h : Kd.C d w A n xs) {lo hi : Nat} (h1 : lo ≤ hi) (h2 : hi ≤ n) : Kd.C d w (if hi = lo then A else A.map (fun x => x.add (lo * d.sz))) (hi - lo) ((xs.take hi).drop lo) := by
  have hl := h.1
  have ht := own_C_take h h2
  have hlen : (xs.take hi).length = hi := by rw [List.length_take]; omega
  have := Kd.C_mid (k := d) (lo := lo) (hi := hi) (c := hi) (xs := xs.take hi) (A := A) (w := w) (by rw [hlen]; exact ht) h1 (by omega) (by omega)
  rw [List.take_take, Nat.min_self] at this
  have hl2 : ((xs.take hi).drop lo).length = hi - lo := by rw [List.length_drop, hlen]
  rw [hl2] at this
  exact this
end Go.Proofs.Yteahdaddbmhfgaa.P
end
section
namespace Go.Proofs.Yteahdaddbmhfgaa.P
open Go.RowKit Go.Proofs.YteahdaddbmhfgaaW.PrintWords Go.Proofs.YteahdaddbmhfgaaW.PrintLast Go.Proofs.YteahdaddbmhfgaaW.PrintMore
open Go.Proofs.YteahdaddbmhfgaaW
set_option linter.unusedVariables false
set_option linter.unusedSimpArgs false
theorem grown_none {W w1 : World} {g : Nat} {o : Obj} (h : W.heap[g]? = some o) (hg : W.grownBy w1 none) : w1.heap[g]? = some o := (hg.block g (blk_lt h) (by simp)).trans h
theorem grown_row {α : Type} {d : Kd α} {e : Nat} {W w1 : World} {base : Nat} {ok : Nat → Prop} {v : Value} {xs : List α} (h : Kd.R d e W base ok v xs) {g t : Nat} {cells : Array Value} (hb : W.heap[g]? = some (.cells cells t (0, 0))) (ht : e ≠ t) (hg : W.grownBy w1 v.ownBlock) : w1.heap[g]? = some (.cells cells t (0, 0)) :=
  own_blk_grown h hb ht hg
theorem ne_own {α : Type} {d : Kd α} {e : Nat} {W : World} {base : Nat} {ok : Nat → Prop} {v : Value} {xs : List α} (h : Kd.R d e W base ok v xs) : some W.heap.size ≠ v.ownBlock := fun e => Nat.lt_irrefl _ (Kd.R_lt h _ e.symm)
theorem R_store {α : Type} {d : Kd α} {e : Nat} {W : World} {base : Nat} {v : Value} {xs : List α} {g t j : Nat} {cells : Array Value} {u : Value} (h : Kd.R d e W base (fun _ => True) v xs) (hb : W.heap[g]? = some (.cells cells t (0, 0))) (ht : ∀ q, q ∈ e :: d.E → q ≠ t) :
    Kd.R d e (W.setCell ⟨g, j, none⟩ u) base (fun _ => True) v xs := Kd.R_mono (Kd.R_far (p := ⟨g, j, none⟩) (Kd.R_types h hb ht) (fun _ hk => hk.2) u) (fun _ _ => trivial)
section
variable {W : World} {g : Nat}
abbrev six (W : World) (g : Nat) (a b c d e f : Value) : World := (((((W.setCell ⟨g, 0, none⟩ a).setCell ⟨g, 1, none⟩ b).setCell ⟨g, 2, none⟩ c).setCell ⟨g, 3, none⟩ d).setCell ⟨g, 4, none⟩ e).setCell ⟨g, 5, none⟩ f
theorem six_blk {x0 x1 x2 x3 x4 x5 : Value} {t : Nat} (h : W.heap[g]? = some (.cells #[x0, x1, x2, x3, x4, x5] t (0, 0))) (a b c d e f : Value) : (six W g a b c d e f).heap[g]? = some (.cells #[a, b, c, d, e, f] t (0, 0)) :=
  blk_put (blk_put (blk_put (blk_put (blk_put (blk_put h 0 a rfl) 1 b rfl) 2 c rfl) 3 d rfl) 4 e rfl) 5 f rfl
theorem six_row {α : Type} {k : Kd α} {ty : Nat} {base : Nat} {v : Value} {xs : List α} {t : Nat} {x0 x1 x2 x3 x4 x5 : Value} (h : Kd.R k ty W base (fun _ => True) v xs) (hb : W.heap[g]? = some (.cells #[x0, x1, x2, x3, x4, x5] t (0, 0))) (ht : ∀ q, q ∈ ty :: k.E → q ≠ t) (a b c d e f : Value) :
    Kd.R k ty (six W g a b c d e f) base (fun _ => True) v xs :=
  R_store (R_store (R_store (R_store (R_store (R_store h hb ht) (blk_put hb 0 a rfl) ht) (blk_put (blk_put hb 0 a rfl) 1 b rfl) ht) (blk_put (blk_put (blk_put hb 0 a rfl) 1 b rfl) 2 c rfl) ht) (blk_put (blk_put (blk_put (blk_put hb 0 a rfl) 1 b rfl) 2 c rfl) 3 d rfl) ht) (blk_put (blk_put (blk_put (blk_put (blk_put hb 0 a rfl) 1 b rfl) 2 c rfl) 3 d rfl) 4 e rfl) ht
theorem six_below {w : World} {B : Nat} (h : Below B w W) (hg : B ≤ g) (a b c d e f : Value) : Below B w (six W g a b c d e f) :=
  (((((h.setCell hg _).setCell hg _).setCell hg _).setCell hg _).setCell hg _).setCell hg _
end
section
variable {ops : Array Oper} {o : Oper} {a : Act} {K : Act → World → Prop} {Q : Exit → Act → World → Prop} {w0 W : World}
end
def CopyMsg.T1 : Bool × List (List Nat × List Nat) := (true, [([], []), ([0], [0]), ([1], [1]), ([2], [2]), ([3], [3]), ([], []), ([5], [5]), ([4, 6], [4, 6]), ([], []), ([8], [8]), ([7, 9, 7], [7, 9]), ([], []), ([11], [11]), ([12], [12]), ([10, 13], [10, 13]), ([0, 1, 2, 3, 4, 5, 6, 7, 8, 9, 10, 11, 12, 13, 14], []), ([15, 14, 10, 0, 1, 2, 3, 4, 5, 6, 7, 8, 9, 10, 11, 12, 13, 14], [14, 15])])
def CopyMsg.B1 : List Nat := [0, 1, 3, 7, 15, 0, 32, 127, 0, 256, 1023, 0, 2048, 6144, 16383, 32767, 65535]
theorem CopyMsg.tab1 : rtab .any (opsOf Try.f22 1) = CopyMsg.T1 := by kernel_rfl
theorem CopyMsg.bits1 : waitsOk CopyMsg.T1.2 CopyMsg.B1 = true := by kernel_rfl
end Go.Proofs.Yteahdaddbmhfgaa.P
end
