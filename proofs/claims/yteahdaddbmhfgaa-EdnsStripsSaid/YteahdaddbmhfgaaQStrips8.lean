import Derived.Test.YteahdaddbmhfgaaQStrips1
import Derived.Test.YteahdaddbmhfgaaQStrips2
import Derived.Test.YteahdaddbmhfgaaQStrips3
import Derived.Test.YteahdaddbmhfgaaQStrips4
import Derived.Test.YteahdaddbmhfgaaQStrips5
import Derived.Test.YteahdaddbmhfgaaQStrips6
section
namespace Go.Proofs.Yteahdaddbmhfgaa.P
open Go.RowKit Go.Proofs.YteahdaddbmhfgaaW.PrintWords Go.Proofs.YteahdaddbmhfgaaW.PrintLast Go.Proofs.YteahdaddbmhfgaaW.PrintMore
set_option linter.unusedVariables false
set_option linter.unusedSimpArgs false
theorem append_run {P : Program} {α : Type} (d : Kd α) {w0 W : World} {base : Nat} {e t ty : TypeId} {z : Value} {bytes : Nat}
    (ht : P.underlying t = some (.slice e)) (hinfo : (P.info? e).map (fun i => (i.zero, i.size, i.bytes)) = some (some z, d.sz, bytes)) (hz : z.cells.size = d.sz) (hs0 : 0 < d.sz) (hb0 : 0 < bytes)
    {v : Value} {xs ys : List α} {A : Option Addr} {m c : Nat} {ok : Nat → Prop} (HO : d.R e W base ok v xs) (HR : Kd.C d W A m ys) (hKM : ∀ x cs, d.K W x cs → d.M W base (fun _ => False) x cs) (hfresh : ∀ k, W.heap.size ≤ k → ok k)
    (HB : Below base w0 W) (hbase : base ≤ W.heap.size) (hl : (xs.length + m) * bytes ≤ 140737488355328) :
    ∃ v1 w1, (Builtin.append_ #[t, t] ty #[v, .slice A m c]).run P W = .ok v1 w1 ∧ d.R e w1 base ok v1 (xs ++ ys) ∧ Below base w0 w1 ∧ W.grownBy w1 v.ownBlock := by
  have H := Kd.R_append_rows (P := P) (ops := #[]) (rest := []) (o := { dst := some 0, op := .call { callee := .builtin .append, args := #[.const v, .const (.slice A m c)], argTypes := #[t, t] }, type := ty, pos := "", after := #[], guard := none })
    (a := { tmps := #[undef], defers := [] }) (Q := fun e' a' w' => e' = .normal ∧ ∃ v1, a'.tmps[0]? = some v1 ∧ d.R e w' base ok v1 (xs ++ ys) ∧ Below base w0 w' ∧ W.grownBy w' v.ownBlock) d (w0 := w0) base rfl (.const v) (.const (.slice A m c)) t e z bytes rfl ht hinfo hz hs0 hb0
    v xs ys A m c ok (fun _ => False) rfl rfl HO HR hKM (fun _ hk => hk.elim) hfresh HB hbase hl (fun v1 w1 h1 h2 h3 _ => ⟨rfl, v1, rfl, h1, h2, h3⟩)
  unfold wpList at H
  simp only [Region.wanted, Oper.wp] at H
  cases hr : (Builtin.append_ #[t, t] ty #[v, .slice A m c]).run P W with
  | ok v1 w1 =>
    simp [execOp, resolve, invoke, builtin, hr, Result.andThen, Act.eval, Oper.upon, wpList, Act.put, LetsOut] at H
    exact ⟨v1, w1, rfl, H⟩
  | halt x w1 =>
    exfalso
    cases x <;> simp [execOp, resolve, invoke, builtin, hr, Result.andThen, Act.eval, Oper.upon, wpList, Act.put, LetsOut] at H
theorem step_append_rows {P : Program} {ops : Array Oper} {o : Oper} {a : Act} {K : Act → World → Prop} {Q : Exit → Act → World → Prop} {E : Prop} {α : Type} (d : Kd α) {w0 W : World} {base : Nat} {e t : TypeId} {z : Value} {bytes : Nat} (s x : Operand)
    (hg : o.guard = none) (hop : o.op = .call { callee := .builtin .append, args := #[s, x], argTypes := #[t, t] })
    (ht : P.underlying t = some (.slice e)) (hinfo : (P.info? e).map (fun i => (i.zero, i.size, i.bytes)) = some (some z, d.sz, bytes)) (hz : z.cells.size = d.sz) (hs0 : 0 < d.sz) (hb0 : 0 < bytes)
    {v : Value} {xs ys : List α} {A : Option Addr} {m c : Nat} {ok : Nat → Prop} (hs : a.eval s = v) (hx : a.eval x = .slice A m c) (HO : d.R e W base ok v xs) (HR : Kd.C d W A m ys) (hKM : ∀ x cs, d.K W x cs → d.M W base (fun _ => False) x cs) (hfresh : ∀ k, W.heap.size ≤ k → ok k)
    (HB : Below base w0 W) (hbase : base ≤ W.heap.size) (hl : (xs.length + m) * bytes ≤ 140737488355328)
    (hK : ∀ v1 w1, d.R e w1 base ok v1 (xs ++ ys) → Below base w0 w1 → W.grownBy w1 v.ownBlock → K (a.put o.dst v1) w1) :
    if Region.wanted o (yielded ops a.tmps) = true then Oper.wp P o a W K Q else E := by
  have hw : Region.wanted o (yielded ops a.tmps) = true := by simp [Region.wanted, hg]
  rw [if_pos hw]
  obtain ⟨v1, w1, hrun, h1, h2, h3⟩ := append_run (ty := o.type) d ht hinfo hz hs0 hb0 HO HR hKM hfresh HB hbase hl
  unfold Oper.wp
  simp [execOp, hop, resolve, invoke, builtin, hs, hx, hrun, Result.andThen]
  rw [hrun]
  exact hK v1 w1 h1 h2 h3
theorem R_far2' {α : Type} {d : Kd α} {e : Nat} {w : World} {base B : Nat} {v : Value} {xs : List α} (h : d.R e w base (fun q => B ≤ q) v xs) {g : Nat} (hg : g < B) (j : Nat) (u : Value) : d.R e (w.setCell ⟨g, j, none⟩ u) base (fun q => B ≤ q) v xs :=
  Kd.R_far (p := ⟨g, j, none⟩) h (fun k hk => by simp; omega) u
theorem own_C_take {α : Type} {d : Kd α} {w : World} {A : Option Addr} {n : Nat} {xs : List α} (h : Kd.C d w A n xs) {i : Nat} (hi : i ≤ n) : Kd.C d w A i (xs.take i) := by
  obtain ⟨h1, h2, h3⟩ := h
  refine ⟨by rw [List.length_take]; omega, by omega, fun h0 => ?_⟩
  obtain ⟨ad, e, hc⟩ := h3 (by omega)
  refine ⟨ad, e, fun j p hj => hc j p ?_⟩
  rw [List.getElem?_take] at hj
  split at hj
  · exact hj
  · cases hj
theorem C_cut3 {α : Type} {d : Kd α} {w : World} {A : Option Addr} {n : Nat} {xs : List α} (h : Kd.C d w A n xs) {lo hi : Nat} (h1 : lo ≤ hi) (h2 : hi ≤ n) : Kd.C d w (if hi = lo then A else A.map (fun x => x.add (lo * d.sz))) (hi - lo) ((xs.take hi).drop lo) := by
  have hl := h.1
  have ht := own_C_take h h2
  have hlen : (xs.take hi).length = hi := by rw [List.length_take]; omega
  have := Kd.C_mid (k := d) (lo := lo) (hi := hi) (c := hi) (xs := xs.take hi) (A := A) (w := w) (by rw [hlen]; exact ht) h1 (by omega) (by omega)
  rw [List.take_take, Nat.min_self] at this
  have hl2 : ((xs.take hi).drop lo).length = hi - lo := by rw [List.length_drop, hlen]
  rw [hl2] at this
  exact this
end Go.Proofs.Yteahdaddbmhfgaa.P
end
