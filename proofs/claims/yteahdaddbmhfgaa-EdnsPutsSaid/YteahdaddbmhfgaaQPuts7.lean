import Derived.Test.YteahdaddbmhfgaaQPuts1
import Derived.Test.YteahdaddbmhfgaaQPuts2
import Derived.Test.YteahdaddbmhfgaaQPuts3
import Derived.Test.YteahdaddbmhfgaaQPuts4
import Derived.Test.YteahdaddbmhfgaaQPuts5
import Derived.Test.YteahdaddbmhfgaaQPuts6
section
namespace Go.Proofs.Yteahdaddbmhfgaa.P
open Go.RowKit Go.Proofs.YteahdaddbmhfgaaW.PrintWords Go.Proofs.YteahdaddbmhfgaaW.PrintLast Go.Proofs.YteahdaddbmhfgaaW.PrintMore
open Go.Proofs.YteahdaddbmhfgaaW
set_option linter.unusedVariables false
set_option linter.unusedSimpArgs false
theorem grown_none {W w1 : World} {g : Nat} {o : Obj} (h : W.heap[g]? = some o) (hg : W.grownBy w1 none) : w1.heap[g]? = some o := (hg.block g (blk_lt h) (by simp)).trans h
theorem grown_row {α : Type} {d : Kd α} {e : Nat} {W w1 : World} {base : Nat} {ok : Nat → Prop} {v : Value} {xs : List α} (h : Kd.R d e W base ok v xs) {g t : Nat} {cells : Array Value} (hb : W.heap[g]? = some (.cells cells t (0, 0))) (ht : e ≠ t) (hg : W.grownBy w1 v.ownBlock) : w1.heap[g]? = some (.cells cells t (0, 0)) :=
  own_blk_grown h hb ht hg
theorem ne_own {α : Type} {d : Kd α} {e : Nat} {W : World} {base : Nat} {ok : Nat → Prop} {v : Value} {xs : List α} (h : Kd.R d e W base ok v xs) : some W.heap.size ≠ v.ownBlock := fun e => Nat.lt_irrefl _ (Kd.R_lt h _ e.symm)
theorem ne_new {W : World} {b n : Nat} {o : Obj} (h : W.heap[b]? = some o) : some b ≠ (Value.slice (some ⟨W.heap.size, 0, none⟩) 0 n).ownBlock := by
  have := blk_lt h
  simp [Value.ownBlock]; omega
theorem mark_C {W : World} {b : Nat} (h : W.heap[b]? = some (.cells #[.string ⟨#[]⟩, .int .i64 7, .int .i64 0] 79 (0, 0))) : Kd.C k79 W (some ⟨b, 0, none⟩) 1 [mark79] := by
  refine ⟨rfl, by omega, fun _ => ⟨_, rfl, fun j p hj => ?_⟩⟩
  have hlt := (List.getElem?_eq_some_iff.1 hj).1
  simp at hlt
  subst hlt
  simp at hj
  subst hj
  refine ⟨_, rfl, k79_mk W mark79, fun i u hu => ?_⟩
  have hadd : (⟨b, 0, none⟩ : Addr).add (0 * k79.sz + i) = ⟨b, i, none⟩ := by unfold Addr.add; split <;> simp_all
  rw [hadd, own_blk_cell h]
  simpa [mark79] using hu
theorem R_store {α : Type} {d : Kd α} {e : Nat} {W : World} {base : Nat} {v : Value} {xs : List α} {g t j : Nat} {cells : Array Value} {u : Value} (h : Kd.R d e W base (fun _ => True) v xs) (hb : W.heap[g]? = some (.cells cells t (0, 0))) (ht : ∀ q, q ∈ e :: d.E → q ≠ t) :
    Kd.R d e (W.setCell ⟨g, j, none⟩ u) base (fun _ => True) v xs := Kd.R_mono (Kd.R_far (p := ⟨g, j, none⟩) (Kd.R_types h hb ht) (fun _ hk => hk.2) u) (fun _ _ => trivial)
section
variable {W : World} {g : Nat}
abbrev six (W : World) (g : Nat) (a b c d e f : Value) : World := (((((W.setCell ⟨g, 0, none⟩ a).setCell ⟨g, 1, none⟩ b).setCell ⟨g, 2, none⟩ c).setCell ⟨g, 3, none⟩ d).setCell ⟨g, 4, none⟩ e).setCell ⟨g, 5, none⟩ f
theorem six_blk {x0 x1 x2 x3 x4 x5 : Value} {t : Nat} (h : W.heap[g]? = some (.cells #[x0, x1, x2, x3, x4, x5] t (0, 0))) (a b c d e f : Value) : (six W g a b c d e f).heap[g]? = some (.cells #[a, b, c, d, e, f] t (0, 0)) :=
  blk_put (blk_put (blk_put (blk_put (blk_put (blk_put h 0 a rfl) 1 b rfl) 2 c rfl) 3 d rfl) 4 e rfl) 5 f rfl
theorem six_row {α : Type} {k : Kd α} {ty : Nat} {base : Nat} {v : Value} {xs : List α} {t : Nat} {x0 x1 x2 x3 x4 x5 : Value} (h : Kd.R k ty W base (fun _ => True) v xs) (hb : W.heap[g]? = some (.cells #[x0, x1, x2, x3, x4, x5] t (0, 0))) (ht : ∀ q, q ∈ ty :: k.E → q ≠ t) (a b c d e f : Value) :
    Kd.R k ty (six W g a b c d e f) base (fun _ => True) v xs :=
  R_store (R_store (R_store (R_store (R_store (R_store h hb ht) (blk_put hb 0 a rfl) ht) (blk_put (blk_put hb 0 a rfl) 1 b rfl) ht) (blk_put (blk_put (blk_put hb 0 a rfl) 1 b rfl) 2 c rfl) ht) (blk_put (blk_put (blk_put (blk_put hb 0 a rfl) 1 b rfl) 2 c rfl) 3 d rfl) ht) (blk_put (blk_put (blk_put (blk_put (blk_put hb 0 a rfl) 1 b rfl) 2 c rfl) 3 d rfl) 4 e rfl) ht
theorem six_below {w : World} {B : Nat} (h : Below B w W) (hg : B ≤ g) (a b c d e f : Value) : Below B w (six W g a b c d e f) :=
  (((((h.setCell hg _).setCell hg _).setCell hg _).setCell hg _).setCell hg _).setCell hg _
end
section
variable {ops : Array Oper} {o : Oper} {a : Act} {K : Act → World → Prop} {Q : Exit → Act → World → Prop} {w0 W : World}
theorem make_quests_step {C : Int} {n : Nat} (hw : Region.wanted o (yielded ops a.tmps) = true) (l c : Operand) (hop : o.op = .makeSlice 22 l c) (hl : a.eval l = .int .i64 0) (hc : a.eval c = .int .i64 C) (hC : C = (n : Int)) (hn : n ≤ 2513169434916) (HB : Aside0 (Below w0.heap.size w0 W))
    (h : ∀ w1, Aside0 (Kd.R k79 79 w1 w0.heap.size (fun _ => True) (.slice (some ⟨W.heap.size, 0, none⟩) 0 n) []) → Aside0 (Below w0.heap.size w0 w1) → Aside0 (W.grownBy w1 none) → K (a.put o.dst (.slice (some ⟨W.heap.size, 0, none⟩) 0 n)) w1) :
    if Region.wanted o (yielded ops a.tmps) = true then Oper.wp Try.prog o a W K Q else K (a.put o.dst undef) W := by
  obtain ⟨i0, hi, hzz⟩ := Option.map_eq_some_iff.1 info79
  simp only [Prod.mk.injEq] at hzz
  obtain ⟨hz0, hz1, hz2⟩ := hzz
  obtain ⟨w', hrun, ho, hg⟩ := run_make_own (P := Try.prog) W w0.heap.size 22 79 i0 _ 3 Try.underlying22 hi hz0 hz1 .i64 .i64 n (by rw [hz2]; omega) (by unfold maxLen; omega) HB.out.size
  subst hC
  refine event_step (v := .slice (some ⟨W.heap.size, 0, none⟩) 0 n) (w1 := w') hw (by simp [execOp, hop, hl, hc, hrun, Result.andThen]) ?_
  exact h w' ⟨⟨fun _ _ => trivial, [], ho, ⟨rfl, fun j p hj => by simp at hj⟩⟩⟩ ⟨HB.out.grown hg HB.out.size (fun q e => by cases e)⟩ ⟨hg⟩
end
def CopyMsg.T1 : Bool × List (List Nat × List Nat) := (true, [([], []), ([0], [0]), ([1], [1]), ([2], [2]), ([3], [3]), ([], []), ([5], [5]), ([4, 6], [4, 6]), ([], []), ([8], [8]), ([7, 9, 7], [7, 9]), ([], []), ([11], [11]), ([12], [12]), ([10, 13], [10, 13]), ([0, 1, 2, 3, 4, 5, 6, 7, 8, 9, 10, 11, 12, 13, 14], []), ([15, 14, 10, 0, 1, 2, 3, 4, 5, 6, 7, 8, 9, 10, 11, 12, 13, 14], [14, 15])])
def CopyMsg.B1 : List Nat := [0, 1, 3, 7, 15, 0, 32, 127, 0, 256, 1023, 0, 2048, 6144, 16383, 32767, 65535]
theorem CopyMsg.tab1 : rtab .any (opsOf Try.f22 1) = CopyMsg.T1 := by kernel_rfl
theorem CopyMsg.bits1 : waitsOk CopyMsg.T1.2 CopyMsg.B1 = true := by kernel_rfl
def CopyTold (w : World) (i f : Int) (q : List S79) (an ns ar : List S48) : Ending → World → Prop := fun e w' => ∃ (A1 : Option Addr) (c1 : Nat) (A2 : Option Addr) (c2 : Nat) (A3 : Option Addr) (c3 : Nat) (A4 : Option Addr) (c4 : Nat),
  e = .returned (.agg #[.int .i64 i, .int .i64 f, .slice A1 q.length c1, .slice A2 an.length c2, .slice A3 ns.length c3, .slice A4 ar.length c4]) ∧
  Kd.R k79 79 w' w.heap.size (fun _ => True) (.slice A1 (q ++ [mark79]).length c1) (q ++ [mark79]) ∧ Kd.R k48 48 w' w.heap.size (fun _ => True) (.slice A2 (an ++ [mark48]).length c2) (an ++ [mark48]) ∧
  Kd.R k48 48 w' w.heap.size (fun _ => True) (.slice A3 (ns ++ [mark48]).length c3) (ns ++ [mark48]) ∧ Kd.R k48 48 w' w.heap.size (fun _ => True) (.slice A4 (ar ++ [mark48]).length c4) (ar ++ [mark48]) ∧ Below w.heap.size w w'
set_option maxRecDepth 100000 in
set_option maxHeartbeats 4000000 in
theorem copyMessage_calls (i f : Int) (Aq : Option Addr) (cq : Nat) (q : List S79) (Aa : Option Addr) (ca : Nat) (an : List S48) (An : Option Addr) (cn : Nat) (ns : List S48) (Ar : Option Addr) (cr : Nat) (ar : List S48) (w : World)
    (hq : Kd.C k79 w Aq q.length q) (lq : q.length ≤ cq) (ha : Kd.C k48 w Aa an.length an) (la : an.length ≤ ca) (hn : Kd.C k48 w An ns.length ns) (ln : ns.length ≤ cn) (hr : Kd.C k48 w Ar ar.length ar) (lr : ar.length ≤ cr) (hs : q.length + an.length + ns.length + ar.length ≤ 1000000) :
    Calls Try.prog 22 #[.agg #[.int .i64 i, .int .i64 f, .slice Aq q.length cq, .slice Aa an.length ca, .slice An ns.length cn, .slice Ar ar.length cr]] w (CopyTold w i f q an ns ar) := by
  have hu25 := Try.underlying25
  have HQ := Aside0.mk hq
  have HA := Aside0.mk ha
  have HN := Aside0.mk hn
  have HR := Aside0.mk hr
  clear hq ha hn hr
  go_enter Try.func22, Try.ntmps22
  go_wp2
  have BK1 := Aside0.mk (blk_alloc (blk_new w (.cells #[.int .i64 i, .int .i64 f, .slice Aq q.length cq, .slice Aa an.length ca, .slice An ns.length cn, .slice Ar ar.length cr] 25)) (.cells #[.int .i64 0, .int .i64 0, .slice none 0 0, .slice none 0 0, .slice none 0 0, .slice none 0 0] 25))
  have BK2 := Aside0.mk (blk_new (w.alloc (.cells #[.int .i64 i, .int .i64 f, .slice Aq q.length cq, .slice Aa an.length ca, .slice An ns.length cn, .slice Ar ar.length cr] 25)) (.cells #[.int .i64 0, .int .i64 0, .slice none 0 0, .slice none 0 0, .slice none 0 0, .slice none 0 0] 25))
  have HB := Aside0.mk (below_alloc (below_alloc (Below.refl w.heap.size w) (.cells #[.int .i64 i, .int .i64 f, .slice Aq q.length cq, .slice Aa an.length ca, .slice An ns.length cn, .slice Ar ar.length cr] 25)) (.cells #[.int .i64 0, .int .i64 0, .slice none 0 0, .slice none 0 0, .slice none 0 0, .slice none 0 0] 25))
  simp only [World.size_alloc] at BK2
  generalize (w.alloc (.cells #[.int .i64 i, .int .i64 f, .slice Aq q.length cq, .slice Aa an.length ca, .slice An ns.length cn, .slice Ar ar.length cr] 25)).alloc (.cells #[.int .i64 0, .int .i64 0, .slice none 0 0, .slice none 0 0, .slice none 0 0, .slice none 0 0] 25) = W1 at BK1 BK2 HB ⊢
  refine wp_only ?_
  refine start_ (n := 17) (S := fun w' => w'.cell? ⟨w.heap.size, 2, none⟩ = some (.slice Aq q.length cq)) (ds := [16]) #[false, false, false, false, false, false, false, false, false, false, false, false, false, false, false, false, false] (by kernel_rfl) rfl rfl ((blk_cell BK1.out 2).trans rfl) (fun hHeld => ?_)
  refine with_tabW CopyMsg.tab1 CopyMsg.bits1 (fun HT_ HW_ => ?_)
  replace BK1 := Aside0.mk (blk_drew BK1.out)
  replace BK2 := Aside0.mk (blk_drew BK2.out)
  replace HB := Aside0.mk (below_drew1 HB.out)
  generalize W1.drew = W2 at BK1 BK2 HB hHeld ⊢
  refine pure_ (i := 0) (N := some 3) (v := ?_) (a' := ?_) #[true, false, false, false, false, false, false, false, false, false, false, false, false, false, false, false, false] rfl rfl (any_of HT_.out (by kernel_rfl)) (fun _ _ _ h => h) (Or.inl ⟨by rfl, ?_⟩) ?_ ?_
  rotate_left
  · intro w'
    go_simp
    with_reducible rfl
  rotate_left
  · simp only [Act.put, List.setIfInBounds_toArray, List.set_cons_zero, List.set_cons_succ, i64_w, i32_w]
    rfl
  refine pure_ (i := 5) (N := some 8) (v := ?_) (a' := ?_) #[true, false, false, false, false, true, false, false, false, false, false, false, false, false, false, false, false] rfl rfl (any_of HT_.out (by kernel_rfl)) (fun _ _ _ h => h) (Or.inl ⟨by rfl, ?_⟩) ?_ ?_
  rotate_left
  · intro w'
    go_simp
    with_reducible rfl
  rotate_left
  · simp only [Act.put, List.setIfInBounds_toArray, List.set_cons_zero, List.set_cons_succ, i64_w, i32_w]
    rfl
  refine pure_ (i := 8) (N := some 11) (v := ?_) (a' := ?_) #[true, false, false, false, false, true, false, false, true, false, false, false, false, false, false, false, false] rfl rfl (any_of HT_.out (by kernel_rfl)) (fun _ _ _ h => h) (Or.inl ⟨by rfl, ?_⟩) ?_ ?_
  rotate_left
  · intro w'
    go_simp
    with_reducible rfl
  rotate_left
  · simp only [Act.put, List.setIfInBounds_toArray, List.set_cons_zero, List.set_cons_succ, i64_w, i32_w]
    rfl
  refine pure_ (i := 11) (N := some 14) (v := ?_) (a' := ?_) #[true, false, false, false, false, true, false, false, true, false, false, true, false, false, false, false, false] rfl rfl (any_of HT_.out (by kernel_rfl)) (fun _ _ _ h => h) (Or.inl ⟨by rfl, ?_⟩) ?_ ?_
  rotate_left
  · intro w'
    go_simp
    with_reducible rfl
  rotate_left
  · simp only [Act.put, List.setIfInBounds_toArray, List.set_cons_zero, List.set_cons_succ, i64_w, i32_w]
    rfl
  refine take_ (i := 1) (N := some 4) (v := ?_) (a' := ?_) #[true, true, false, false, false, true, false, false, true, false, false, true, false, false, false, false, false] rfl rfl (take_ofW HT_.out HW_.out (by kernel_rfl)) (fun _ _ _ h => h) (Or.inl ⟨by rfl, ?_⟩) hHeld ?_ ?_
  rotate_left
  · rintro w' s2
    go_simp
    with_reducible rfl
  rotate_left
  · simp only [Act.put, List.setIfInBounds_toArray, List.set_cons_zero, List.set_cons_succ, i64_w, i32_w]
    rfl
  refine take_ (i := 6) (N := some 9) (v := ?_) (a' := ?_) #[true, true, false, false, false, true, true, false, true, false, false, true, false, false, false, false, false] rfl rfl (take_ofW HT_.out HW_.out (by kernel_rfl)) (fun _ _ _ h => h) (Or.inl ⟨by rfl, ?_⟩) hHeld ?_ ?_
  rotate_left
  · rintro w' s2
    go_simp
    with_reducible rfl
  rotate_left
  · simp only [Act.put, List.setIfInBounds_toArray, List.set_cons_zero, List.set_cons_succ, i64_w, i32_w]
    rfl
  refine take_ (i := 12) (N := some 15) (v := ?_) (a' := ?_) #[true, true, false, false, false, true, true, false, true, false, false, true, true, false, false, false, false] rfl rfl (take_ofW HT_.out HW_.out (by kernel_rfl)) (fun _ _ _ h => h) (Or.inl ⟨by rfl, ?_⟩) hHeld ?_ ?_
  rotate_left
  · rintro w' s2
    go_simp
    with_reducible rfl
  rotate_left
  · simp only [Act.put, List.setIfInBounds_toArray, List.set_cons_zero, List.set_cons_succ, i64_w, i32_w]
    rfl
  refine pure_ (i := 2) (N := some 5) (v := ?_) (a' := ?_) #[true, true, true, false, false, true, true, false, true, false, false, true, true, false, false, false, false] rfl rfl (any_of HT_.out (by kernel_rfl)) (fun _ _ _ h => h) (Or.inl ⟨by rfl, ?_⟩) ?_ ?_
  rotate_left
  · intro w'
    go_simp
    with_reducible rfl
  rotate_left
  · simp only [Act.put, List.setIfInBounds_toArray, List.set_cons_zero, List.set_cons_succ, i64_w, i32_w]
    rfl
  refine pure_ (i := 3) (N := some 6) (v := ?_) (a' := ?_) #[true, true, true, true, false, true, true, false, true, false, false, true, true, false, false, false, false] rfl rfl (any_of HT_.out (by kernel_rfl)) (fun _ _ _ h => h) (Or.inl ⟨by rfl, ?_⟩) ?_ ?_
  rotate_left
  · intro w'
    go_simp
    with_reducible rfl
  rotate_left
  · simp only [Act.put, List.setIfInBounds_toArray, List.set_cons_zero, List.set_cons_succ, i64_w, i32_w]
    rfl
  refine pure_ (i := 13) (N := some 16) (v := ?_) (a' := ?_) #[true, true, true, true, false, true, true, false, true, false, false, true, true, true, false, false, false] rfl rfl (any_of HT_.out (by kernel_rfl)) (fun _ _ _ h => h) (Or.inl ⟨by rfl, ?_⟩) ?_ ?_
  rotate_left
  · intro w'
    go_simp
    with_reducible rfl
  rotate_left
  · simp only [Act.put, List.setIfInBounds_toArray, List.set_cons_zero, List.set_cons_succ, i64_w, i32_w]
    rfl
  refine two_ (i := 4) (j := 9) (Ni := some 7) (Nj := some 12) #[true, true, true, true, true, true, true, false, true, false, false, true, true, true, false, false, false] #[true, true, true, true, false, true, true, false, true, true, false, true, true, true, false, false, false] rfl rfl rfl rfl (two_of HT_.out (by kernel_rfl)) (by decide) (by decide) (fun K hK => ?_) (fun K hK => ?_)
  ·
    refine make_quests_step (w0 := w) (C := wrap64 ((q.length : Int) + 2)) (n := q.length + 2) rfl (.const (.int .i64 0)) (.tmp 6) rfl rfl rfl (by unfold wrap64; omega) (by omega) HB ?_
    intro w4 HV HB4 HG4
    replace BK1 := Aside0.mk (grown_none BK1.out HG4.out)
    replace BK2 := Aside0.mk (grown_none BK2.out HG4.out)
    replace HB := HB4
    clear HB4
    refine hK.out _ _ ((blk_cell BK1.out 2).trans rfl) (fun hHeld => ?_)
    clear hK K
    refine norm_ (a' := ?_) ?_ ?_
    rotate_left
    · show Act.put _ (some 7) _ = _
      simp only [Act.put, List.setIfInBounds_toArray, List.set_cons_zero, List.set_cons_succ, i64_w, i32_w]
      rfl
    refine two_ (i := 7) (j := 9) (Ni := some 10) (Nj := some 12) #[true, true, true, true, true, true, true, true, true, false, false, true, true, true, false, false, false] #[true, true, true, true, true, true, true, false, true, true, false, true, true, true, false, false, false] rfl rfl rfl rfl (two_of HT_.out (by kernel_rfl)) (by decide) (by decide) (fun K hK => ?_) (fun K hK => ?_)
    ·
      refine Kd.R_append_rows_step k79 (w0 := w) w.heap.size rfl (.tmp 7) (.tmp 9) 22 79 (.agg #[(.string ⟨#[]⟩), (.int .i64 0), (.int .i64 0)]) 32 rfl Try.underlying22 info79 rfl (by decide) (by omega) _ [] q Aq q.length cq (fun _ => True) (fun _ => False) rfl rfl HV.out (Kd.C_below HQ.out HB.out) (fun _ _ h => k79_KM h) (fun _ h => h.elim) (fun _ _ => trivial) HB.out HB.out.size (by simp; omega) ?_
      intro v6 w6 h1 h2 h3 h4
      rw [List.nil_append] at h1
      replace BK1 := Aside0.mk (grown_row HV.out BK1.out (by decide) h3)
      replace BK2 := Aside0.mk (grown_row HV.out BK2.out (by decide) h3)
      replace HV := Aside0.mk h1
      replace HB := Aside0.mk h2
      clear h1 h2 h3 h4
      obtain ⟨A6, c6, e6, hle6, _⟩ := Kd.R_reads HV.out
      subst e6
      refine hK.out _ _ ((blk_cell BK1.out 2).trans rfl) (fun hHeld => ?_)
      clear hK K
      refine norm_ (a' := ?_) ?_ ?_
      rotate_left
      · show Act.put _ (some 10) _ = _
        simp only [Act.put, List.setIfInBounds_toArray, List.set_cons_zero, List.set_cons_succ, i64_w, i32_w]
        rfl
      refine one_ (i := 9) (N := some 12) #[true, true, true, true, true, true, true, true, true, true, false, true, true, true, false, false, false] rfl rfl (one_of HT_.out (by kernel_rfl)) (by decide) (fun K hK => ?_)
      have HNE := Aside0.mk (ne_own HV.out)
      have HM := Aside0.mk (blk_new w6 (.cells #[.string ⟨#[]⟩, .int .i64 7, .int .i64 0] 79))
      replace BK1 := Aside0.mk (blk_alloc BK1.out (.cells #[.string ⟨#[]⟩, .int .i64 7, .int .i64 0] 79))
      replace BK2 := Aside0.mk (blk_alloc BK2.out (.cells #[.string ⟨#[]⟩, .int .i64 7, .int .i64 0] 79))
      replace HV := Aside0.mk (Kd.R_alloc HV.out (.cells #[.string ⟨#[]⟩, .int .i64 7, .int .i64 0] 79))
      replace HB := Aside0.mk (below_alloc HB.out (.cells #[.string ⟨#[]⟩, .int .i64 7, .int .i64 0] 79))
      refine event_step (w1 := w6.alloc (.cells #[.string ⟨#[]⟩, .int .i64 7, .int .i64 0] 79)) (v := .slice (some ⟨w6.heap.size, 0, none⟩) 1 1) ?hgk ?hrk ?_
      (case hgk => rfl)
      (case hrk => first | (go_simp; done) | (go_simp; rfl))
      obtain ⟨w5, hw5⟩ : ∃ w5, w6.alloc (.cells #[.string ⟨#[]⟩, .int .i64 7, .int .i64 0] 79) = w5 := ⟨_, rfl⟩
      obtain ⟨b5, hb5⟩ : ∃ b5, w6.heap.size = b5 := ⟨_, rfl⟩
      rw [hw5] at BK1 BK2 HB HM HV ⊢
      rw [hb5] at HM HNE ⊢
      clear hw5 hb5
      refine hK.out _ _ ((blk_cell BK1.out 2).trans rfl) (fun hHeld => ?_)
      clear hK K
      refine norm_ (a' := ?_) ?_ ?_
      rotate_left
      · show Act.put _ (some 12) _ = _
        simp only [Act.put, List.setIfInBounds_toArray, List.set_cons_zero, List.set_cons_succ, i64_w, i32_w]
        rfl
      refine one_ (i := 10) (N := some 13) #[true, true, true, true, true, true, true, true, true, true, true, true, true, true, false, false, false] rfl rfl (one_of HT_.out (by kernel_rfl)) (by decide) (fun K hK => ?_)
      refine Kd.R_append_rows_step k79 (w0 := w) w.heap.size rfl (.tmp 10) (.tmp 12) 22 79 (.agg #[(.string ⟨#[]⟩), (.int .i64 0), (.int .i64 0)]) 32 rfl Try.underlying22 info79 rfl (by decide) (by omega) _ q [mark79] _ 1 1 (fun _ => True) (fun _ => False) rfl rfl HV.out (mark_C HM.out) (fun _ _ h => k79_KM h) (fun _ h => h.elim) (fun _ _ => trivial) HB.out HB.out.size (by omega) ?_
      intro v7 w7 h1 h2 h3 h4
      replace BK1 := Aside0.mk (grown_row HV.out BK1.out (by decide) h3)
      replace BK2 := Aside0.mk (grown_row HV.out BK2.out (by decide) h3)
      replace HV := Aside0.mk h1
      replace HB := Aside0.mk h2
      clear h1 h2 h3 h4 HM
      obtain ⟨A7, c7, e7, hle7, _⟩ := Kd.R_reads HV.out
      subst e7
      have hle8 : q.length ≤ c7 := by (simp at hle7; omega)
      refine hK.out _ _ ((blk_cell BK1.out 2).trans rfl) (fun hHeld => ?_)
      clear hK K
      refine norm_ (a' := ?_) ?_ ?_
      rotate_left
      · show Act.put _ (some 13) _ = _
        simp only [Act.put, List.setIfInBounds_toArray, List.set_cons_zero, List.set_cons_succ, i64_w, i32_w]
        rfl
      refine pure_ (i := 14) (N := some 17) (v := ?_) (a' := ?_) #[true, true, true, true, true, true, true, true, true, true, true, true, true, true, true, false, false] rfl rfl (any_of HT_.out (by kernel_rfl)) (fun _ _ _ h => h) (Or.inl ⟨by rfl, ?_⟩) ?_ ?_
      rotate_left
      · intro w'
        go_simp
        with_reducible rfl
      rotate_left
      · simp only [Act.put, List.setIfInBounds_toArray, List.set_cons_zero, List.set_cons_succ, i64_w, i32_w]
        rfl
      refine pure_ (i := 15) (N := some 18) (v := ?_) (a' := ?_) #[true, true, true, true, true, true, true, true, true, true, true, true, true, true, true, true, false] rfl rfl (any_of HT_.out (by kernel_rfl)) (fun _ _ _ h => h) (Or.inl ⟨by rfl, ?_⟩) ?_ ?_
      rotate_left
      · intro w'
        go_simp
        with_reducible rfl
      rotate_left
      · simp only [Act.put, List.setIfInBounds_toArray, List.set_cons_zero, List.set_cons_succ, i64_w, i32_w]
        rfl
      refine last_ (i := 16) (N := none) #[true, true, true, true, true, true, true, true, true, true, true, true, true, true, true, true, true] rfl rfl (one_of HT_.out (by kernel_rfl)) (by decide) (fun K hK => ?_)
      have hs : w7.cell? ⟨w.heap.size, 2, none⟩ = some (.slice Aq q.length cq) := (blk_cell BK1.out 2).trans rfl
      have hfs := blk_frozen BK1.out 2
      refine skip_ (w1 := ?_) (by rfl) rfl ?_ ?_
      rotate_left
      · go_simp
        rfl
      refine hK.out _ _ ?_
      clear hK K
      refine done_ (done_of HT_.out (by kernel_rfl)) ?_
      dsimp only [onlyNormal]
      clear HT_ HW_ hHeld hs hfs
      have hcs : (#[.int .i64 i, .int .i64 f, .slice Aq q.length cq, .slice Aa an.length ca, .slice An ns.length cn, .slice Ar ar.length cr] : Array Value).setIfInBounds 2 (.slice A7 q.length c7) = #[.int .i64 i, .int .i64 f, .slice A7 q.length c7, .slice Aa an.length ca, .slice An ns.length cn, .slice Ar ar.length cr] := rfl
      replace HV := Aside0.mk (R_store (j := 2) (u := .slice A7 q.length c7) HV.out BK1.out (by decide))
      replace BK2 := Aside0.mk (blk_far (p := ⟨w.heap.size, 2, none⟩) BK2.out (by simp) (.slice A7 q.length c7))
      replace BK1 := Aside0.mk (blk_put BK1.out 2 (.slice A7 q.length c7) hcs)
      replace HB := Aside0.mk (HB.out.setCell (p := ⟨w.heap.size, 2, none⟩) (Nat.le_refl _) (.slice A7 q.length c7))
      generalize w7.setCell ⟨w.heap.size, 2, none⟩ (.slice A7 q.length c7) = w8 at BK1 BK2 HV HB ⊢
      have y3 : w8.cell? ⟨w.heap.size, 3, none⟩ = some (.slice Aa an.length ca) := (blk_cell BK1.out 3).trans rfl
      go_wp2_with (first
        | (go_at_call 78; (with_reducible refine (copyRecs_calls Aa ca an _ (Kd.C_below HA.out HB.out) la (by omega)).mono ?_); rintro e w9 ⟨A9, c9, rfl, hR, hb⟩; have B9 := Aside0.mk (below_step HB.out hb); have b1 := blk_below BK1.out hb; have b2 := blk_below BK2.out hb; have R9_0 := Kd.R_below HV.out hb; have R9_n := Kd.R_lower hR HB.out.size; have S9 := Aside0.mk (B9.out.setCell (p := ⟨w.heap.size, 3, none⟩) (Nat.le_refl _) (.slice A9 an.length c9)); have K9 := Aside0.mk (blk_put b1 3 (.slice A9 an.length c9) rfl); have L9 := Aside0.mk (blk_far (p := ⟨w.heap.size, 3, none⟩) b2 (by simp) (.slice A9 an.length c9)); have T9_0 := Aside0.mk (R_store (j := 3) (u := (.slice A9 an.length c9)) R9_0 b1 (by decide)); have T9_1 := Aside0.mk (R_store (j := 3) (u := (.slice A9 an.length c9)) R9_n b1 (by decide)); have z9_3 : w9.cell? ⟨w.heap.size, 3, none⟩ = some _ := (blk_cell b1 3).trans rfl; have zf9 := blk_frozen b1 3; have z9_n : w9.cell? ⟨w.heap.size, 4, none⟩ = some _ := (blk_cell b1 4).trans rfl; clear hb hR b1 b2)
        | (go_at_call 78; (with_reducible refine (copyRecs_calls An cn ns _ (Kd.C_below HN.out S9.out) ln (by omega)).mono ?_); rintro e w10 ⟨A10, c10, rfl, hR, hb⟩; have B10 := Aside0.mk (below_step S9.out hb); have b1 := blk_below K9.out hb; have b2 := blk_below L9.out hb; have R10_0 := Kd.R_below T9_0.out hb; have R10_1 := Kd.R_below T9_1.out hb; have R10_n := Kd.R_lower hR S9.out.size; have S10 := Aside0.mk (B10.out.setCell (p := ⟨w.heap.size, 4, none⟩) (Nat.le_refl _) (.slice A10 ns.length c10)); have K10 := Aside0.mk (blk_put b1 4 (.slice A10 ns.length c10) rfl); have L10 := Aside0.mk (blk_far (p := ⟨w.heap.size, 4, none⟩) b2 (by simp) (.slice A10 ns.length c10)); have T10_0 := Aside0.mk (R_store (j := 4) (u := (.slice A10 ns.length c10)) R10_0 b1 (by decide)); have T10_1 := Aside0.mk (R_store (j := 4) (u := (.slice A10 ns.length c10)) R10_1 b1 (by decide)); have T10_2 := Aside0.mk (R_store (j := 4) (u := (.slice A10 ns.length c10)) R10_n b1 (by decide)); have z10_4 : w10.cell? ⟨w.heap.size, 4, none⟩ = some _ := (blk_cell b1 4).trans rfl; have zf10 := blk_frozen b1 4; have z10_n : w10.cell? ⟨w.heap.size, 5, none⟩ = some _ := (blk_cell b1 5).trans rfl; clear hb hR b1 b2)
        | (go_at_call 78; (with_reducible refine (copyRecs_calls Ar cr ar _ (Kd.C_below HR.out S10.out) lr (by omega)).mono ?_); rintro e w11 ⟨A11, c11, rfl, hR, hb⟩; have B11 := Aside0.mk (below_step S10.out hb); have b1 := blk_below K10.out hb; have b2 := blk_below L10.out hb; have R11_0 := Kd.R_below T10_0.out hb; have R11_1 := Kd.R_below T10_1.out hb; have R11_2 := Kd.R_below T10_2.out hb; have R11_n := Kd.R_lower hR S10.out.size; have S11 := Aside0.mk (B11.out.setCell (p := ⟨w.heap.size, 5, none⟩) (Nat.le_refl _) (.slice A11 ar.length c11)); have K11 := Aside0.mk (blk_put b1 5 (.slice A11 ar.length c11) rfl); have L11 := Aside0.mk (blk_far (p := ⟨w.heap.size, 5, none⟩) b2 (by simp) (.slice A11 ar.length c11)); have T11_0 := Aside0.mk (R_store (j := 5) (u := (.slice A11 ar.length c11)) R11_0 b1 (by decide)); have T11_1 := Aside0.mk (R_store (j := 5) (u := (.slice A11 ar.length c11)) R11_1 b1 (by decide)); have T11_2 := Aside0.mk (R_store (j := 5) (u := (.slice A11 ar.length c11)) R11_2 b1 (by decide)); have T11_3 := Aside0.mk (R_store (j := 5) (u := (.slice A11 ar.length c11)) R11_n b1 (by decide)); have z11_5 : w11.cell? ⟨w.heap.size, 5, none⟩ = some _ := (blk_cell b1 5).trans rfl; have zf11 := blk_frozen b1 5; have z11_0_ : w11.cell? ⟨w.heap.size, 0, none⟩ = some _ := (blk_cell b1 0).trans rfl; have z11_1_ : w11.cell? ⟨w.heap.size, 1, none⟩ = some _ := (blk_cell b1 1).trans rfl; have z11_2_ : w11.cell? ⟨w.heap.size, 2, none⟩ = some _ := (blk_cell b1 2).trans rfl; have z11_3_ : w11.cell? ⟨w.heap.size, 3, none⟩ = some _ := (blk_cell b1 3).trans rfl; have z11_4_ : w11.cell? ⟨w.heap.size, 4, none⟩ = some _ := (blk_cell b1 4).trans rfl; have q0 : w11.cell? ⟨w.heap.size + 1, 0, none⟩ = some _ := (blk_cell b2 0).trans rfl; have q1 : w11.cell? ⟨w.heap.size + 1, 1, none⟩ = some _ := (blk_cell b2 1).trans rfl; have q2 : w11.cell? ⟨w.heap.size + 1, 2, none⟩ = some _ := (blk_cell b2 2).trans rfl; have q3 : w11.cell? ⟨w.heap.size + 1, 3, none⟩ = some _ := (blk_cell b2 3).trans rfl; have q4 : w11.cell? ⟨w.heap.size + 1, 4, none⟩ = some _ := (blk_cell b2 4).trans rfl; have q5 : w11.cell? ⟨w.heap.size + 1, 5, none⟩ = some _ := (blk_cell b2 5).trans rfl; have qf0 := blk_frozen b2 0; have qf1 := blk_frozen b2 1; have qf2 := blk_frozen b2 2; have qf3 := blk_frozen b2 3; have qf4 := blk_frozen b2 4; have qf5 := blk_frozen b2 5; clear hb hR b1 b2))
      exact bodyPost_ret (results_cell_row rfl _ _ (w.heap.size + 1) 25 #[.int .i64 i, .int .i64 f, .slice A7 q.length c7, .slice A9 an.length c9, .slice A10 ns.length c10, .slice A11 ar.length c11] (0, 0) _ rfl (six_blk L11.out _ _ _ _ _ _) Try.underlying25 rfl (by kernel_rfl)) rfl ⟨A7, c7, A9, c9, A10, c10, A11, c11, rfl, six_row T11_0.out L11.out (by decide) _ _ _ _ _ _, six_row T11_1.out L11.out (by decide) _ _ _ _ _ _, six_row T11_2.out L11.out (by decide) _ _ _ _ _ _, six_row T11_3.out L11.out (by decide) _ _ _ _ _ _, six_below S11.out (Nat.le_add_right _ _) _ _ _ _ _ _⟩
    ·
      have HNE := Aside0.mk (ne_own HV.out)
      have HM := Aside0.mk (blk_new w4 (.cells #[.string ⟨#[]⟩, .int .i64 7, .int .i64 0] 79))
      replace BK1 := Aside0.mk (blk_alloc BK1.out (.cells #[.string ⟨#[]⟩, .int .i64 7, .int .i64 0] 79))
      replace BK2 := Aside0.mk (blk_alloc BK2.out (.cells #[.string ⟨#[]⟩, .int .i64 7, .int .i64 0] 79))
      replace HV := Aside0.mk (Kd.R_alloc HV.out (.cells #[.string ⟨#[]⟩, .int .i64 7, .int .i64 0] 79))
      replace HB := Aside0.mk (below_alloc HB.out (.cells #[.string ⟨#[]⟩, .int .i64 7, .int .i64 0] 79))
      refine event_step (w1 := w4.alloc (.cells #[.string ⟨#[]⟩, .int .i64 7, .int .i64 0] 79)) (v := .slice (some ⟨w4.heap.size, 0, none⟩) 1 1) ?hgk ?hrk ?_
      (case hgk => rfl)
      (case hrk => first | (go_simp; done) | (go_simp; rfl))
      obtain ⟨w5, hw5⟩ : ∃ w5, w4.alloc (.cells #[.string ⟨#[]⟩, .int .i64 7, .int .i64 0] 79) = w5 := ⟨_, rfl⟩
      obtain ⟨b5, hb5⟩ : ∃ b5, w4.heap.size = b5 := ⟨_, rfl⟩
      rw [hw5] at BK1 BK2 HB HM HV ⊢
      rw [hb5] at HM HNE ⊢
      clear hw5 hb5
      refine hK.out _ _ ((blk_cell BK1.out 2).trans rfl) (fun hHeld => ?_)
      clear hK K
      refine norm_ (a' := ?_) ?_ ?_
      rotate_left
      · show Act.put _ (some 12) _ = _
        simp only [Act.put, List.setIfInBounds_toArray, List.set_cons_zero, List.set_cons_succ, i64_w, i32_w]
        rfl
      refine one_ (i := 7) (N := some 10) #[true, true, true, true, true, true, true, true, true, true, false, true, true, true, false, false, false] rfl rfl (one_of HT_.out (by kernel_rfl)) (by decide) (fun K hK => ?_)
      refine Kd.R_append_rows_step k79 (w0 := w) w.heap.size rfl (.tmp 7) (.tmp 9) 22 79 (.agg #[(.string ⟨#[]⟩), (.int .i64 0), (.int .i64 0)]) 32 rfl Try.underlying22 info79 rfl (by decide) (by omega) _ [] q Aq q.length cq (fun _ => True) (fun _ => False) rfl rfl HV.out (Kd.C_below HQ.out HB.out) (fun _ _ h => k79_KM h) (fun _ h => h.elim) (fun _ _ => trivial) HB.out HB.out.size (by simp; omega) ?_
      intro v6 w6 h1 h2 h3 h4
      rw [List.nil_append] at h1
      replace BK1 := Aside0.mk (grown_row HV.out BK1.out (by decide) h3)
      replace BK2 := Aside0.mk (grown_row HV.out BK2.out (by decide) h3)
      replace HM := Aside0.mk ((h3.block _ (blk_lt HM.out) HNE.out).trans HM.out)
      clear HNE
      replace HV := Aside0.mk h1
      replace HB := Aside0.mk h2
      clear h1 h2 h3 h4
      obtain ⟨A6, c6, e6, hle6, _⟩ := Kd.R_reads HV.out
      subst e6
      refine hK.out _ _ ((blk_cell BK1.out 2).trans rfl) (fun hHeld => ?_)
      clear hK K
      refine norm_ (a' := ?_) ?_ ?_
      rotate_left
      · show Act.put _ (some 10) _ = _
        simp only [Act.put, List.setIfInBounds_toArray, List.set_cons_zero, List.set_cons_succ, i64_w, i32_w]
        rfl
      refine one_ (i := 10) (N := some 13) #[true, true, true, true, true, true, true, true, true, true, true, true, true, true, false, false, false] rfl rfl (one_of HT_.out (by kernel_rfl)) (by decide) (fun K hK => ?_)
      refine Kd.R_append_rows_step k79 (w0 := w) w.heap.size rfl (.tmp 10) (.tmp 12) 22 79 (.agg #[(.string ⟨#[]⟩), (.int .i64 0), (.int .i64 0)]) 32 rfl Try.underlying22 info79 rfl (by decide) (by omega) _ q [mark79] _ 1 1 (fun _ => True) (fun _ => False) rfl rfl HV.out (mark_C HM.out) (fun _ _ h => k79_KM h) (fun _ h => h.elim) (fun _ _ => trivial) HB.out HB.out.size (by omega) ?_
      intro v7 w7 h1 h2 h3 h4
      replace BK1 := Aside0.mk (grown_row HV.out BK1.out (by decide) h3)
      replace BK2 := Aside0.mk (grown_row HV.out BK2.out (by decide) h3)
      replace HV := Aside0.mk h1
      replace HB := Aside0.mk h2
      clear h1 h2 h3 h4 HM
      obtain ⟨A7, c7, e7, hle7, _⟩ := Kd.R_reads HV.out
      subst e7
      have hle8 : q.length ≤ c7 := by (simp at hle7; omega)
      refine hK.out _ _ ((blk_cell BK1.out 2).trans rfl) (fun hHeld => ?_)
      clear hK K
      refine norm_ (a' := ?_) ?_ ?_
      rotate_left
      · show Act.put _ (some 13) _ = _
        simp only [Act.put, List.setIfInBounds_toArray, List.set_cons_zero, List.set_cons_succ, i64_w, i32_w]
        rfl
      refine pure_ (i := 14) (N := some 17) (v := ?_) (a' := ?_) #[true, true, true, true, true, true, true, true, true, true, true, true, true, true, true, false, false] rfl rfl (any_of HT_.out (by kernel_rfl)) (fun _ _ _ h => h) (Or.inl ⟨by rfl, ?_⟩) ?_ ?_
      rotate_left
      · intro w'
        go_simp
        with_reducible rfl
      rotate_left
      · simp only [Act.put, List.setIfInBounds_toArray, List.set_cons_zero, List.set_cons_succ, i64_w, i32_w]
        rfl
      refine pure_ (i := 15) (N := some 18) (v := ?_) (a' := ?_) #[true, true, true, true, true, true, true, true, true, true, true, true, true, true, true, true, false] rfl rfl (any_of HT_.out (by kernel_rfl)) (fun _ _ _ h => h) (Or.inl ⟨by rfl, ?_⟩) ?_ ?_
      rotate_left
      · intro w'
        go_simp
        with_reducible rfl
      rotate_left
      · simp only [Act.put, List.setIfInBounds_toArray, List.set_cons_zero, List.set_cons_succ, i64_w, i32_w]
        rfl
      refine last_ (i := 16) (N := none) #[true, true, true, true, true, true, true, true, true, true, true, true, true, true, true, true, true] rfl rfl (one_of HT_.out (by kernel_rfl)) (by decide) (fun K hK => ?_)
      have hs : w7.cell? ⟨w.heap.size, 2, none⟩ = some (.slice Aq q.length cq) := (blk_cell BK1.out 2).trans rfl
      have hfs := blk_frozen BK1.out 2
      refine skip_ (w1 := ?_) (by rfl) rfl ?_ ?_
      rotate_left
      · go_simp
        rfl
      refine hK.out _ _ ?_
      clear hK K
      refine done_ (done_of HT_.out (by kernel_rfl)) ?_
      dsimp only [onlyNormal]
      clear HT_ HW_ hHeld hs hfs
      have hcs : (#[.int .i64 i, .int .i64 f, .slice Aq q.length cq, .slice Aa an.length ca, .slice An ns.length cn, .slice Ar ar.length cr] : Array Value).setIfInBounds 2 (.slice A7 q.length c7) = #[.int .i64 i, .int .i64 f, .slice A7 q.length c7, .slice Aa an.length ca, .slice An ns.length cn, .slice Ar ar.length cr] := rfl
      replace HV := Aside0.mk (R_store (j := 2) (u := .slice A7 q.length c7) HV.out BK1.out (by decide))
      replace BK2 := Aside0.mk (blk_far (p := ⟨w.heap.size, 2, none⟩) BK2.out (by simp) (.slice A7 q.length c7))
      replace BK1 := Aside0.mk (blk_put BK1.out 2 (.slice A7 q.length c7) hcs)
      replace HB := Aside0.mk (HB.out.setCell (p := ⟨w.heap.size, 2, none⟩) (Nat.le_refl _) (.slice A7 q.length c7))
      generalize w7.setCell ⟨w.heap.size, 2, none⟩ (.slice A7 q.length c7) = w8 at BK1 BK2 HV HB ⊢
      have y3 : w8.cell? ⟨w.heap.size, 3, none⟩ = some (.slice Aa an.length ca) := (blk_cell BK1.out 3).trans rfl
      go_wp2_with (first
        | (go_at_call 78; (with_reducible refine (copyRecs_calls Aa ca an _ (Kd.C_below HA.out HB.out) la (by omega)).mono ?_); rintro e w9 ⟨A9, c9, rfl, hR, hb⟩; have B9 := Aside0.mk (below_step HB.out hb); have b1 := blk_below BK1.out hb; have b2 := blk_below BK2.out hb; have R9_0 := Kd.R_below HV.out hb; have R9_n := Kd.R_lower hR HB.out.size; have S9 := Aside0.mk (B9.out.setCell (p := ⟨w.heap.size, 3, none⟩) (Nat.le_refl _) (.slice A9 an.length c9)); have K9 := Aside0.mk (blk_put b1 3 (.slice A9 an.length c9) rfl); have L9 := Aside0.mk (blk_far (p := ⟨w.heap.size, 3, none⟩) b2 (by simp) (.slice A9 an.length c9)); have T9_0 := Aside0.mk (R_store (j := 3) (u := (.slice A9 an.length c9)) R9_0 b1 (by decide)); have T9_1 := Aside0.mk (R_store (j := 3) (u := (.slice A9 an.length c9)) R9_n b1 (by decide)); have z9_3 : w9.cell? ⟨w.heap.size, 3, none⟩ = some _ := (blk_cell b1 3).trans rfl; have zf9 := blk_frozen b1 3; have z9_n : w9.cell? ⟨w.heap.size, 4, none⟩ = some _ := (blk_cell b1 4).trans rfl; clear hb hR b1 b2)
        | (go_at_call 78; (with_reducible refine (copyRecs_calls An cn ns _ (Kd.C_below HN.out S9.out) ln (by omega)).mono ?_); rintro e w10 ⟨A10, c10, rfl, hR, hb⟩; have B10 := Aside0.mk (below_step S9.out hb); have b1 := blk_below K9.out hb; have b2 := blk_below L9.out hb; have R10_0 := Kd.R_below T9_0.out hb; have R10_1 := Kd.R_below T9_1.out hb; have R10_n := Kd.R_lower hR S9.out.size; have S10 := Aside0.mk (B10.out.setCell (p := ⟨w.heap.size, 4, none⟩) (Nat.le_refl _) (.slice A10 ns.length c10)); have K10 := Aside0.mk (blk_put b1 4 (.slice A10 ns.length c10) rfl); have L10 := Aside0.mk (blk_far (p := ⟨w.heap.size, 4, none⟩) b2 (by simp) (.slice A10 ns.length c10)); have T10_0 := Aside0.mk (R_store (j := 4) (u := (.slice A10 ns.length c10)) R10_0 b1 (by decide)); have T10_1 := Aside0.mk (R_store (j := 4) (u := (.slice A10 ns.length c10)) R10_1 b1 (by decide)); have T10_2 := Aside0.mk (R_store (j := 4) (u := (.slice A10 ns.length c10)) R10_n b1 (by decide)); have z10_4 : w10.cell? ⟨w.heap.size, 4, none⟩ = some _ := (blk_cell b1 4).trans rfl; have zf10 := blk_frozen b1 4; have z10_n : w10.cell? ⟨w.heap.size, 5, none⟩ = some _ := (blk_cell b1 5).trans rfl; clear hb hR b1 b2)
        | (go_at_call 78; (with_reducible refine (copyRecs_calls Ar cr ar _ (Kd.C_below HR.out S10.out) lr (by omega)).mono ?_); rintro e w11 ⟨A11, c11, rfl, hR, hb⟩; have B11 := Aside0.mk (below_step S10.out hb); have b1 := blk_below K10.out hb; have b2 := blk_below L10.out hb; have R11_0 := Kd.R_below T10_0.out hb; have R11_1 := Kd.R_below T10_1.out hb; have R11_2 := Kd.R_below T10_2.out hb; have R11_n := Kd.R_lower hR S10.out.size; have S11 := Aside0.mk (B11.out.setCell (p := ⟨w.heap.size, 5, none⟩) (Nat.le_refl _) (.slice A11 ar.length c11)); have K11 := Aside0.mk (blk_put b1 5 (.slice A11 ar.length c11) rfl); have L11 := Aside0.mk (blk_far (p := ⟨w.heap.size, 5, none⟩) b2 (by simp) (.slice A11 ar.length c11)); have T11_0 := Aside0.mk (R_store (j := 5) (u := (.slice A11 ar.length c11)) R11_0 b1 (by decide)); have T11_1 := Aside0.mk (R_store (j := 5) (u := (.slice A11 ar.length c11)) R11_1 b1 (by decide)); have T11_2 := Aside0.mk (R_store (j := 5) (u := (.slice A11 ar.length c11)) R11_2 b1 (by decide)); have T11_3 := Aside0.mk (R_store (j := 5) (u := (.slice A11 ar.length c11)) R11_n b1 (by decide)); have z11_5 : w11.cell? ⟨w.heap.size, 5, none⟩ = some _ := (blk_cell b1 5).trans rfl; have zf11 := blk_frozen b1 5; have z11_0_ : w11.cell? ⟨w.heap.size, 0, none⟩ = some _ := (blk_cell b1 0).trans rfl; have z11_1_ : w11.cell? ⟨w.heap.size, 1, none⟩ = some _ := (blk_cell b1 1).trans rfl; have z11_2_ : w11.cell? ⟨w.heap.size, 2, none⟩ = some _ := (blk_cell b1 2).trans rfl; have z11_3_ : w11.cell? ⟨w.heap.size, 3, none⟩ = some _ := (blk_cell b1 3).trans rfl; have z11_4_ : w11.cell? ⟨w.heap.size, 4, none⟩ = some _ := (blk_cell b1 4).trans rfl; have q0 : w11.cell? ⟨w.heap.size + 1, 0, none⟩ = some _ := (blk_cell b2 0).trans rfl; have q1 : w11.cell? ⟨w.heap.size + 1, 1, none⟩ = some _ := (blk_cell b2 1).trans rfl; have q2 : w11.cell? ⟨w.heap.size + 1, 2, none⟩ = some _ := (blk_cell b2 2).trans rfl; have q3 : w11.cell? ⟨w.heap.size + 1, 3, none⟩ = some _ := (blk_cell b2 3).trans rfl; have q4 : w11.cell? ⟨w.heap.size + 1, 4, none⟩ = some _ := (blk_cell b2 4).trans rfl; have q5 : w11.cell? ⟨w.heap.size + 1, 5, none⟩ = some _ := (blk_cell b2 5).trans rfl; have qf0 := blk_frozen b2 0; have qf1 := blk_frozen b2 1; have qf2 := blk_frozen b2 2; have qf3 := blk_frozen b2 3; have qf4 := blk_frozen b2 4; have qf5 := blk_frozen b2 5; clear hb hR b1 b2))
      exact bodyPost_ret (results_cell_row rfl _ _ (w.heap.size + 1) 25 #[.int .i64 i, .int .i64 f, .slice A7 q.length c7, .slice A9 an.length c9, .slice A10 ns.length c10, .slice A11 ar.length c11] (0, 0) _ rfl (six_blk L11.out _ _ _ _ _ _) Try.underlying25 rfl (by kernel_rfl)) rfl ⟨A7, c7, A9, c9, A10, c10, A11, c11, rfl, six_row T11_0.out L11.out (by decide) _ _ _ _ _ _, six_row T11_1.out L11.out (by decide) _ _ _ _ _ _, six_row T11_2.out L11.out (by decide) _ _ _ _ _ _, six_row T11_3.out L11.out (by decide) _ _ _ _ _ _, six_below S11.out (Nat.le_add_right _ _) _ _ _ _ _ _⟩
  ·
    have HM := Aside0.mk (blk_new W2 (.cells #[.string ⟨#[]⟩, .int .i64 7, .int .i64 0] 79))
    replace BK1 := Aside0.mk (blk_alloc BK1.out (.cells #[.string ⟨#[]⟩, .int .i64 7, .int .i64 0] 79))
    replace BK2 := Aside0.mk (blk_alloc BK2.out (.cells #[.string ⟨#[]⟩, .int .i64 7, .int .i64 0] 79))
    replace HB := Aside0.mk (below_alloc HB.out (.cells #[.string ⟨#[]⟩, .int .i64 7, .int .i64 0] 79))
    refine event_step (w1 := W2.alloc (.cells #[.string ⟨#[]⟩, .int .i64 7, .int .i64 0] 79)) (v := .slice (some ⟨W2.heap.size, 0, none⟩) 1 1) ?hgk ?hrk ?_
    (case hgk => rfl)
    (case hrk => first | (go_simp; done) | (go_simp; rfl))
    obtain ⟨w5, hw5⟩ : ∃ w5, W2.alloc (.cells #[.string ⟨#[]⟩, .int .i64 7, .int .i64 0] 79) = w5 := ⟨_, rfl⟩
    obtain ⟨b5, hb5⟩ : ∃ b5, W2.heap.size = b5 := ⟨_, rfl⟩
    rw [hw5] at BK1 BK2 HB HM ⊢
    rw [hb5] at HM ⊢
    clear hw5 hb5
    refine hK.out _ _ ((blk_cell BK1.out 2).trans rfl) (fun hHeld => ?_)
    clear hK K
    refine norm_ (a' := ?_) ?_ ?_
    rotate_left
    · show Act.put _ (some 12) _ = _
      simp only [Act.put, List.setIfInBounds_toArray, List.set_cons_zero, List.set_cons_succ, i64_w, i32_w]
      rfl
    refine one_ (i := 4) (N := some 7) #[true, true, true, true, true, true, true, false, true, true, false, true, true, true, false, false, false] rfl rfl (one_of HT_.out (by kernel_rfl)) (by decide) (fun K hK => ?_)
    have HNE := Aside0.mk (ne_new (n := q.length + 2) HM.out)
    refine make_quests_step (w0 := w) (C := wrap64 ((q.length : Int) + 2)) (n := q.length + 2) rfl (.const (.int .i64 0)) (.tmp 6) rfl rfl rfl (by unfold wrap64; omega) (by omega) HB ?_
    intro w4 HV HB4 HG4
    replace BK1 := Aside0.mk (grown_none BK1.out HG4.out)
    replace BK2 := Aside0.mk (grown_none BK2.out HG4.out)
    replace HB := HB4
    clear HB4
    replace HM := Aside0.mk (grown_none HM.out HG4.out)
    refine hK.out _ _ ((blk_cell BK1.out 2).trans rfl) (fun hHeld => ?_)
    clear hK K
    refine norm_ (a' := ?_) ?_ ?_
    rotate_left
    · show Act.put _ (some 7) _ = _
      simp only [Act.put, List.setIfInBounds_toArray, List.set_cons_zero, List.set_cons_succ, i64_w, i32_w]
      rfl
    refine one_ (i := 7) (N := some 10) #[true, true, true, true, true, true, true, true, true, true, false, true, true, true, false, false, false] rfl rfl (one_of HT_.out (by kernel_rfl)) (by decide) (fun K hK => ?_)
    refine Kd.R_append_rows_step k79 (w0 := w) w.heap.size rfl (.tmp 7) (.tmp 9) 22 79 (.agg #[(.string ⟨#[]⟩), (.int .i64 0), (.int .i64 0)]) 32 rfl Try.underlying22 info79 rfl (by decide) (by omega) _ [] q Aq q.length cq (fun _ => True) (fun _ => False) rfl rfl HV.out (Kd.C_below HQ.out HB.out) (fun _ _ h => k79_KM h) (fun _ h => h.elim) (fun _ _ => trivial) HB.out HB.out.size (by simp; omega) ?_
    intro v6 w6 h1 h2 h3 h4
    rw [List.nil_append] at h1
    replace BK1 := Aside0.mk (grown_row HV.out BK1.out (by decide) h3)
    replace BK2 := Aside0.mk (grown_row HV.out BK2.out (by decide) h3)
    replace HM := Aside0.mk ((h3.block _ (blk_lt HM.out) HNE.out).trans HM.out)
    clear HNE
    replace HV := Aside0.mk h1
    replace HB := Aside0.mk h2
    clear h1 h2 h3 h4
    obtain ⟨A6, c6, e6, hle6, _⟩ := Kd.R_reads HV.out
    subst e6
    refine hK.out _ _ ((blk_cell BK1.out 2).trans rfl) (fun hHeld => ?_)
    clear hK K
    refine norm_ (a' := ?_) ?_ ?_
    rotate_left
    · show Act.put _ (some 10) _ = _
      simp only [Act.put, List.setIfInBounds_toArray, List.set_cons_zero, List.set_cons_succ, i64_w, i32_w]
      rfl
    refine one_ (i := 10) (N := some 13) #[true, true, true, true, true, true, true, true, true, true, true, true, true, true, false, false, false] rfl rfl (one_of HT_.out (by kernel_rfl)) (by decide) (fun K hK => ?_)
    refine Kd.R_append_rows_step k79 (w0 := w) w.heap.size rfl (.tmp 10) (.tmp 12) 22 79 (.agg #[(.string ⟨#[]⟩), (.int .i64 0), (.int .i64 0)]) 32 rfl Try.underlying22 info79 rfl (by decide) (by omega) _ q [mark79] _ 1 1 (fun _ => True) (fun _ => False) rfl rfl HV.out (mark_C HM.out) (fun _ _ h => k79_KM h) (fun _ h => h.elim) (fun _ _ => trivial) HB.out HB.out.size (by omega) ?_
    intro v7 w7 h1 h2 h3 h4
    replace BK1 := Aside0.mk (grown_row HV.out BK1.out (by decide) h3)
    replace BK2 := Aside0.mk (grown_row HV.out BK2.out (by decide) h3)
    replace HV := Aside0.mk h1
    replace HB := Aside0.mk h2
    clear h1 h2 h3 h4 HM
    obtain ⟨A7, c7, e7, hle7, _⟩ := Kd.R_reads HV.out
    subst e7
    have hle8 : q.length ≤ c7 := by (simp at hle7; omega)
    refine hK.out _ _ ((blk_cell BK1.out 2).trans rfl) (fun hHeld => ?_)
    clear hK K
    refine norm_ (a' := ?_) ?_ ?_
    rotate_left
    · show Act.put _ (some 13) _ = _
      simp only [Act.put, List.setIfInBounds_toArray, List.set_cons_zero, List.set_cons_succ, i64_w, i32_w]
      rfl
    refine pure_ (i := 14) (N := some 17) (v := ?_) (a' := ?_) #[true, true, true, true, true, true, true, true, true, true, true, true, true, true, true, false, false] rfl rfl (any_of HT_.out (by kernel_rfl)) (fun _ _ _ h => h) (Or.inl ⟨by rfl, ?_⟩) ?_ ?_
    rotate_left
    · intro w'
      go_simp
      with_reducible rfl
    rotate_left
    · simp only [Act.put, List.setIfInBounds_toArray, List.set_cons_zero, List.set_cons_succ, i64_w, i32_w]
      rfl
    refine pure_ (i := 15) (N := some 18) (v := ?_) (a' := ?_) #[true, true, true, true, true, true, true, true, true, true, true, true, true, true, true, true, false] rfl rfl (any_of HT_.out (by kernel_rfl)) (fun _ _ _ h => h) (Or.inl ⟨by rfl, ?_⟩) ?_ ?_
    rotate_left
    · intro w'
      go_simp
      with_reducible rfl
    rotate_left
    · simp only [Act.put, List.setIfInBounds_toArray, List.set_cons_zero, List.set_cons_succ, i64_w, i32_w]
      rfl
    refine last_ (i := 16) (N := none) #[true, true, true, true, true, true, true, true, true, true, true, true, true, true, true, true, true] rfl rfl (one_of HT_.out (by kernel_rfl)) (by decide) (fun K hK => ?_)
    have hs : w7.cell? ⟨w.heap.size, 2, none⟩ = some (.slice Aq q.length cq) := (blk_cell BK1.out 2).trans rfl
    have hfs := blk_frozen BK1.out 2
    refine skip_ (w1 := ?_) (by rfl) rfl ?_ ?_
    rotate_left
    · go_simp
      rfl
    refine hK.out _ _ ?_
    clear hK K
    refine done_ (done_of HT_.out (by kernel_rfl)) ?_
    dsimp only [onlyNormal]
    clear HT_ HW_ hHeld hs hfs
    have hcs : (#[.int .i64 i, .int .i64 f, .slice Aq q.length cq, .slice Aa an.length ca, .slice An ns.length cn, .slice Ar ar.length cr] : Array Value).setIfInBounds 2 (.slice A7 q.length c7) = #[.int .i64 i, .int .i64 f, .slice A7 q.length c7, .slice Aa an.length ca, .slice An ns.length cn, .slice Ar ar.length cr] := rfl
    replace HV := Aside0.mk (R_store (j := 2) (u := .slice A7 q.length c7) HV.out BK1.out (by decide))
    replace BK2 := Aside0.mk (blk_far (p := ⟨w.heap.size, 2, none⟩) BK2.out (by simp) (.slice A7 q.length c7))
    replace BK1 := Aside0.mk (blk_put BK1.out 2 (.slice A7 q.length c7) hcs)
    replace HB := Aside0.mk (HB.out.setCell (p := ⟨w.heap.size, 2, none⟩) (Nat.le_refl _) (.slice A7 q.length c7))
    generalize w7.setCell ⟨w.heap.size, 2, none⟩ (.slice A7 q.length c7) = w8 at BK1 BK2 HV HB ⊢
    have y3 : w8.cell? ⟨w.heap.size, 3, none⟩ = some (.slice Aa an.length ca) := (blk_cell BK1.out 3).trans rfl
    go_wp2_with (first
      | (go_at_call 78; (with_reducible refine (copyRecs_calls Aa ca an _ (Kd.C_below HA.out HB.out) la (by omega)).mono ?_); rintro e w9 ⟨A9, c9, rfl, hR, hb⟩; have B9 := Aside0.mk (below_step HB.out hb); have b1 := blk_below BK1.out hb; have b2 := blk_below BK2.out hb; have R9_0 := Kd.R_below HV.out hb; have R9_n := Kd.R_lower hR HB.out.size; have S9 := Aside0.mk (B9.out.setCell (p := ⟨w.heap.size, 3, none⟩) (Nat.le_refl _) (.slice A9 an.length c9)); have K9 := Aside0.mk (blk_put b1 3 (.slice A9 an.length c9) rfl); have L9 := Aside0.mk (blk_far (p := ⟨w.heap.size, 3, none⟩) b2 (by simp) (.slice A9 an.length c9)); have T9_0 := Aside0.mk (R_store (j := 3) (u := (.slice A9 an.length c9)) R9_0 b1 (by decide)); have T9_1 := Aside0.mk (R_store (j := 3) (u := (.slice A9 an.length c9)) R9_n b1 (by decide)); have z9_3 : w9.cell? ⟨w.heap.size, 3, none⟩ = some _ := (blk_cell b1 3).trans rfl; have zf9 := blk_frozen b1 3; have z9_n : w9.cell? ⟨w.heap.size, 4, none⟩ = some _ := (blk_cell b1 4).trans rfl; clear hb hR b1 b2)
      | (go_at_call 78; (with_reducible refine (copyRecs_calls An cn ns _ (Kd.C_below HN.out S9.out) ln (by omega)).mono ?_); rintro e w10 ⟨A10, c10, rfl, hR, hb⟩; have B10 := Aside0.mk (below_step S9.out hb); have b1 := blk_below K9.out hb; have b2 := blk_below L9.out hb; have R10_0 := Kd.R_below T9_0.out hb; have R10_1 := Kd.R_below T9_1.out hb; have R10_n := Kd.R_lower hR S9.out.size; have S10 := Aside0.mk (B10.out.setCell (p := ⟨w.heap.size, 4, none⟩) (Nat.le_refl _) (.slice A10 ns.length c10)); have K10 := Aside0.mk (blk_put b1 4 (.slice A10 ns.length c10) rfl); have L10 := Aside0.mk (blk_far (p := ⟨w.heap.size, 4, none⟩) b2 (by simp) (.slice A10 ns.length c10)); have T10_0 := Aside0.mk (R_store (j := 4) (u := (.slice A10 ns.length c10)) R10_0 b1 (by decide)); have T10_1 := Aside0.mk (R_store (j := 4) (u := (.slice A10 ns.length c10)) R10_1 b1 (by decide)); have T10_2 := Aside0.mk (R_store (j := 4) (u := (.slice A10 ns.length c10)) R10_n b1 (by decide)); have z10_4 : w10.cell? ⟨w.heap.size, 4, none⟩ = some _ := (blk_cell b1 4).trans rfl; have zf10 := blk_frozen b1 4; have z10_n : w10.cell? ⟨w.heap.size, 5, none⟩ = some _ := (blk_cell b1 5).trans rfl; clear hb hR b1 b2)
      | (go_at_call 78; (with_reducible refine (copyRecs_calls Ar cr ar _ (Kd.C_below HR.out S10.out) lr (by omega)).mono ?_); rintro e w11 ⟨A11, c11, rfl, hR, hb⟩; have B11 := Aside0.mk (below_step S10.out hb); have b1 := blk_below K10.out hb; have b2 := blk_below L10.out hb; have R11_0 := Kd.R_below T10_0.out hb; have R11_1 := Kd.R_below T10_1.out hb; have R11_2 := Kd.R_below T10_2.out hb; have R11_n := Kd.R_lower hR S10.out.size; have S11 := Aside0.mk (B11.out.setCell (p := ⟨w.heap.size, 5, none⟩) (Nat.le_refl _) (.slice A11 ar.length c11)); have K11 := Aside0.mk (blk_put b1 5 (.slice A11 ar.length c11) rfl); have L11 := Aside0.mk (blk_far (p := ⟨w.heap.size, 5, none⟩) b2 (by simp) (.slice A11 ar.length c11)); have T11_0 := Aside0.mk (R_store (j := 5) (u := (.slice A11 ar.length c11)) R11_0 b1 (by decide)); have T11_1 := Aside0.mk (R_store (j := 5) (u := (.slice A11 ar.length c11)) R11_1 b1 (by decide)); have T11_2 := Aside0.mk (R_store (j := 5) (u := (.slice A11 ar.length c11)) R11_2 b1 (by decide)); have T11_3 := Aside0.mk (R_store (j := 5) (u := (.slice A11 ar.length c11)) R11_n b1 (by decide)); have z11_5 : w11.cell? ⟨w.heap.size, 5, none⟩ = some _ := (blk_cell b1 5).trans rfl; have zf11 := blk_frozen b1 5; have z11_0_ : w11.cell? ⟨w.heap.size, 0, none⟩ = some _ := (blk_cell b1 0).trans rfl; have z11_1_ : w11.cell? ⟨w.heap.size, 1, none⟩ = some _ := (blk_cell b1 1).trans rfl; have z11_2_ : w11.cell? ⟨w.heap.size, 2, none⟩ = some _ := (blk_cell b1 2).trans rfl; have z11_3_ : w11.cell? ⟨w.heap.size, 3, none⟩ = some _ := (blk_cell b1 3).trans rfl; have z11_4_ : w11.cell? ⟨w.heap.size, 4, none⟩ = some _ := (blk_cell b1 4).trans rfl; have q0 : w11.cell? ⟨w.heap.size + 1, 0, none⟩ = some _ := (blk_cell b2 0).trans rfl; have q1 : w11.cell? ⟨w.heap.size + 1, 1, none⟩ = some _ := (blk_cell b2 1).trans rfl; have q2 : w11.cell? ⟨w.heap.size + 1, 2, none⟩ = some _ := (blk_cell b2 2).trans rfl; have q3 : w11.cell? ⟨w.heap.size + 1, 3, none⟩ = some _ := (blk_cell b2 3).trans rfl; have q4 : w11.cell? ⟨w.heap.size + 1, 4, none⟩ = some _ := (blk_cell b2 4).trans rfl; have q5 : w11.cell? ⟨w.heap.size + 1, 5, none⟩ = some _ := (blk_cell b2 5).trans rfl; have qf0 := blk_frozen b2 0; have qf1 := blk_frozen b2 1; have qf2 := blk_frozen b2 2; have qf3 := blk_frozen b2 3; have qf4 := blk_frozen b2 4; have qf5 := blk_frozen b2 5; clear hb hR b1 b2))
    exact bodyPost_ret (results_cell_row rfl _ _ (w.heap.size + 1) 25 #[.int .i64 i, .int .i64 f, .slice A7 q.length c7, .slice A9 an.length c9, .slice A10 ns.length c10, .slice A11 ar.length c11] (0, 0) _ rfl (six_blk L11.out _ _ _ _ _ _) Try.underlying25 rfl (by kernel_rfl)) rfl ⟨A7, c7, A9, c9, A10, c10, A11, c11, rfl, six_row T11_0.out L11.out (by decide) _ _ _ _ _ _, six_row T11_1.out L11.out (by decide) _ _ _ _ _ _, six_row T11_2.out L11.out (by decide) _ _ _ _ _ _, six_row T11_3.out L11.out (by decide) _ _ _ _ _ _, six_below S11.out (Nat.le_add_right _ _) _ _ _ _ _ _⟩
end Go.Proofs.Yteahdaddbmhfgaa.P
end
section
namespace Go.Proofs.Yteahdaddbmhfgaa.P
open Go.RowKit Go.Proofs.YteahdaddbmhfgaaW.PrintWords Go.Proofs.YteahdaddbmhfgaaW.PrintLast Go.Proofs.YteahdaddbmhfgaaW.PrintMore
set_option linter.unusedVariables false
set_option linter.unusedSimpArgs false
theorem append_run {P : Program} {α : Type} (d : Kd α) {w0 W : World} {base : Nat} {e t ty : TypeId} {z : Value} {bytes : Nat}
    (ht : P.underlying t = some (.slice e)) (hinfo : (P.info? e).map (fun i => (i.zero, i.size, i.bytes)) = some (some z, d.sz, bytes)) (hz : z.cells.size = d.sz) (hs0 : 0 < d.sz) (hb0 : 0 < bytes)
    {v : Value} {xs ys : List α} {A : Option Addr} {m c : Nat} {ok : Nat → Prop} (HO : d.R e W base ok v xs) (HR : Kd.C d W A m ys) (hKM : ∀ x cs, d.K W x cs → d.M W base (fun _ => False) x cs) (hfresh : ∀ k, W.heap.size ≤ k → ok k)
    (HB : Below base w0 W) (hbase : base ≤ W.heap.size) (hl : (xs.length + m) * bytes ≤ 140737488355328) :
    ∃ v1 w1, (Builtin.append_ #[t, t] ty #[v, .slice A m c]).run P W = .ok v1 w1 ∧ d.R e w1 base ok v1 (xs ++ ys) ∧ Below base w0 w1 ∧ W.grownBy w1 v.ownBlock := by
  have H := Kd.R_append_rows (P := P) (ops := #[]) (rest := []) (o := { dst := some 0, op := .call { callee := .builtin .append, args := #[.const v, .const (.slice A m c)], argTypes := #[t, t] }, type := ty, pos := "", after := #[], guard := none })
    (a := { tmps := #[undef], defers := [] }) (Q := fun e' a' w' => e' = .normal ∧ ∃ v1, a'.tmps[0]? = some v1 ∧ d.R e w' base ok v1 (xs ++ ys) ∧ Below base w0 w' ∧ W.grownBy w' v.ownBlock) d (w0 := w0) base rfl (.const v) (.const (.slice A m c)) t e z bytes rfl ht hinfo hz hs0 hb0
    v xs ys A m c ok (fun _ => False) rfl rfl HO HR hKM (fun _ hk => hk.elim) hfresh HB hbase hl (fun v1 w1 h1 h2 h3 _ => ⟨rfl, v1, rfl, h1, h2, h3⟩)
  unfold wpList at H
  simp only [Region.wanted, Oper.wp] at H
  cases hr : (Builtin.append_ #[t, t] ty #[v, .slice A m c]).run P W with
  | ok v1 w1 =>
    simp [execOp, resolve, invoke, builtin, hr, Result.andThen, Act.eval, Oper.upon, wpList, Act.put, LetsOut] at H
    exact ⟨v1, w1, rfl, H⟩
  | halt x w1 =>
    exfalso
    cases x <;> simp [execOp, resolve, invoke, builtin, hr, Result.andThen, Act.eval, Oper.upon, wpList, Act.put, LetsOut] at H
theorem step_append_rows {P : Program} {ops : Array Oper} {o : Oper} {a : Act} {K : Act → World → Prop} {Q : Exit → Act → World → Prop} {E : Prop} {α : Type} (d : Kd α) {w0 W : World} {base : Nat} {e t : TypeId} {z : Value} {bytes : Nat} (s x : Operand)
    (hg : o.guard = none) (hop : o.op = .call { callee := .builtin .append, args := #[s, x], argTypes := #[t, t] })
    (ht : P.underlying t = some (.slice e)) (hinfo : (P.info? e).map (fun i => (i.zero, i.size, i.bytes)) = some (some z, d.sz, bytes)) (hz : z.cells.size = d.sz) (hs0 : 0 < d.sz) (hb0 : 0 < bytes)
    {v : Value} {xs ys : List α} {A : Option Addr} {m c : Nat} {ok : Nat → Prop} (hs : a.eval s = v) (hx : a.eval x = .slice A m c) (HO : d.R e W base ok v xs) (HR : Kd.C d W A m ys) (hKM : ∀ x cs, d.K W x cs → d.M W base (fun _ => False) x cs) (hfresh : ∀ k, W.heap.size ≤ k → ok k)
    (HB : Below base w0 W) (hbase : base ≤ W.heap.size) (hl : (xs.length + m) * bytes ≤ 140737488355328)
    (hK : ∀ v1 w1, d.R e w1 base ok v1 (xs ++ ys) → Below base w0 w1 → W.grownBy w1 v.ownBlock → K (a.put o.dst v1) w1) :
    if Region.wanted o (yielded ops a.tmps) = true then Oper.wp P o a W K Q else E := by
  have hw : Region.wanted o (yielded ops a.tmps) = true := by simp [Region.wanted, hg]
  rw [if_pos hw]
  obtain ⟨v1, w1, hrun, h1, h2, h3⟩ := append_run (ty := o.type) d ht hinfo hz hs0 hb0 HO HR hKM hfresh HB hbase hl
  unfold Oper.wp
  simp [execOp, hop, resolve, invoke, builtin, hs, hx, hrun, Result.andThen]
  rw [hrun]
  exact hK v1 w1 h1 h2 h3
theorem R_far2' {α : Type} {d : Kd α} {e : Nat} {w : World} {base B : Nat} {v : Value} {xs : List α} (h : d.R e w base (fun q => B ≤ q) v xs) {g : Nat} (hg : g < B) (j : Nat) (u : Value) : d.R e (w.setCell ⟨g, j, none⟩ u) base (fun q => B ≤ q) v xs :=
  Kd.R_far (p := ⟨g, j, none⟩) h (fun k hk => by simp; omega) u
theorem own_C_take {α : Type} {d : Kd α} {w : World} {A : Option Addr} {n : Nat} {xs : List α} (h : Kd.C d w A n xs) {i : Nat} (hi : i ≤ n) : Kd.C d w A i (xs.take i) := by
  obtain ⟨h1, h2, h3⟩ := h
  refine ⟨by rw [List.length_take]; omega, by omega, fun h0 => ?_⟩
  obtain ⟨ad, e, hc⟩ := h3 (by omega)
  refine ⟨ad, e, fun j p hj => hc j p ?_⟩
  rw [List.getElem?_take] at hj
  split at hj
  · exact hj
  · cases hj
theorem C_cut3 {α : Type} {d : Kd α} {w : World} {A : Option Addr} {n : Nat} {xs : List α} (h : Kd.C d w A n xs) {lo hi : Nat} (h1 : lo ≤ hi) (h2 : hi ≤ n) : Kd.C d w (if hi = lo then A else A.map (fun x => x.add (lo * d.sz))) (hi - lo) ((xs.take hi).drop lo) := by
  have hl := h.1
  have ht := own_C_take h h2
  have hlen : (xs.take hi).length = hi := by rw [List.length_take]; omega
  have := Kd.C_mid (k := d) (lo := lo) (hi := hi) (c := hi) (xs := xs.take hi) (A := A) (w := w) (by rw [hlen]; exact ht) h1 (by omega) (by omega)
  rw [List.take_take, Nat.min_self] at this
  have hl2 : ((xs.take hi).drop lo).length = hi - lo := by rw [List.length_drop, hlen]
  rw [hl2] at this
  exact this
end Go.Proofs.Yteahdaddbmhfgaa.P
end
section
namespace Go.Proofs.Yteahdaddbmhfgaa.P
open Go.RowKit Go.Proofs.YteahdaddbmhfgaaW.PrintWords Go.Proofs.YteahdaddbmhfgaaW.PrintLast Go.Proofs.YteahdaddbmhfgaaW.PrintMore
set_option linter.unusedVariables false
set_option linter.unusedSimpArgs false
set_option maxRecDepth 100000 in
set_option maxHeartbeats 2000000 in
theorem keptRecs_calls (A0 : Option Addr) (c0 : Nat) (l0 : List (S48)) (x : S48) (w : World) (hr0 : Kd.C k48 w A0 (l0.length + 1) (l0 ++ [x])) (hc0 : l0.length + 1 ≤ c0) (hl : l0.length ≤ 1000000) :
    Calls Try.prog 86 #[.slice A0 l0.length c0] w fun e w' => e = .returned (.bool (x.f1 == 7)) ∧ Drawn0 w w' := by
  have hx : (l0 ++ [x])[l0.length]? = some x := by simp
  obtain ⟨ad, rfl, x0, x1, x2, x3, x4⟩ := rec_at hr0 (Below.refl _ _) hx
  clear hr0 hx
  have hw2 : IntKind.i64.wrap ((l0.length : Int) + 1) = (l0.length : Int) + 1 := by rw [IntKind.wrap_i64]; omega
  have hw3 : IntKind.i64.wrap ((l0.length : Int) + 1 - 1) = (l0.length : Int) := by rw [IntKind.wrap_i64]; omega
  have hi1 : ((l0.length : Int) + 1).toNat = l0.length + 1 := by omega
  generalize l0.length = n at *
  go_enter Try.func86, Try.ntmps86
  go_wp2
  go_ret
  exact ⟨rfl, 0, rfl⟩
theorem C_short {α : Type} {d : Kd α} {w : World} {A : Option Addr} {l : List α} {x : α} (h : Kd.C d w A (l.length + 1) (l ++ [x])) : Kd.C d w A l.length l := by
  have := own_C_take h (i := l.length) (by omega)
  rwa [List.take_left'  rfl] at this
set_option maxRecDepth 100000 in
set_option maxHeartbeats 4000000 in
theorem keptMessage_calls (k : Nat) (i f j g : Int) (Aq : Option Addr) (cq : Nat) (q : List S79) (Aa : Option Addr) (ca : Nat) (an : List S48) (An : Option Addr) (cn : Nat) (ns : List S48) (Ar : Option Addr) (cr : Nat) (ar : List S48)
    (Bq : Option Addr) (dq : Nat) (q' : List S79) (Ba : Option Addr) (da : Nat) (an' : List S48) (Bn : Option Addr) (dn : Nat) (ns' : List S48) (Br : Option Addr) (dr : Nat) (ar' : List S48) (r : Bool) (w : World)
    (hq : Kd.C k79 w Aq (q.length + 1) (q ++ [mark79])) (lq : q.length + 1 ≤ cq) (ha : Kd.C k48 w Aa (an.length + 1) (an ++ [mark48])) (la : an.length + 1 ≤ ca) (hn : Kd.C k48 w An (ns.length + 1) (ns ++ [mark48])) (ln : ns.length + 1 ≤ cn) (hr : Kd.C k48 w Ar (ar.length + 1) (ar ++ [mark48])) (lr : ar.length + 1 ≤ cr)
    (hq' : Kd.C k79 w Bq q'.length q') (lq' : q'.length ≤ dq) (ha' : Kd.C k48 w Ba an'.length an') (la' : an'.length ≤ da) (hn' : Kd.C k48 w Bn ns'.length ns') (ln' : ns'.length ≤ dn) (hr' : Kd.C k48 w Br ar'.length ar') (lr' : ar'.length ≤ dr)
    (hs : q.length + an.length + ns.length + ar.length ≤ 1000000)
    (hf : ostiarykit_SameMessage.f k i f q an ns ar j g q' an' ns' ar' = some r) :
    Calls Try.prog 30 #[.agg #[.int .i64 i, .int .i64 f, .slice Aq q.length cq, .slice Aa an.length ca, .slice An ns.length cn, .slice Ar ar.length cr], .agg #[.int .i64 j, .int .i64 g, .slice Bq q'.length dq, .slice Ba an'.length da, .slice Bn ns'.length dn, .slice Br ar'.length dr]] w
      fun e w' => e = .returned (.bool r) ∧ Below w.heap.size w w' := by
  have hS := fun W (hb : Below w.heap.size w W) => ostiarykit_SameMessage.calls k i f Aq cq q Aa ca an An cn ns Ar cr ar j g Bq dq q' Ba da an' Bn dn ns' Br dr ar' r W (Kd.C_below (C_short hq) hb) (by omega) (Kd.C_below (C_short ha) hb) (by omega) (Kd.C_below (C_short hn) hb) (by omega) (Kd.C_below (C_short hr) hb) (by omega) (Kd.C_below hq' hb) lq' (Kd.C_below ha' hb) la' (Kd.C_below hn' hb) ln' (Kd.C_below hr' hb) lr' hf
  cases r with
  | false =>
    go_enter Try.func30, Try.ntmps30
    go_wp2_with (go_at_call 26; (with_reducible refine (hS _ ?hb).mono ?_); (case hb => exact below_alloc (below_alloc (Below.refl _ _) _) _); rintro e w2 ⟨rfl, hb2⟩; have HB2 := Aside0.mk (below_step (below_alloc (below_alloc (Below.refl w.heap.size w) _) _) hb2); have b2 := blk_below (blk_alloc (blk_new w (.cells #[.int .i64 i, .int .i64 f, .slice Aq q.length cq, .slice Aa an.length ca, .slice An ns.length cn, .slice Ar ar.length cr] 25)) (.cells #[.int .i64 j, .int .i64 g, .slice Bq q'.length dq, .slice Ba an'.length da, .slice Bn ns'.length dn, .slice Br ar'.length dr] 25)) hb2; have y2 : w2.cell? ⟨w.heap.size, 2, none⟩ = some (.slice Aq q.length cq) := (blk_cell b2 2).trans rfl; have y3 : w2.cell? ⟨w.heap.size, 3, none⟩ = some (.slice Aa an.length ca) := (blk_cell b2 3).trans rfl; have y4 : w2.cell? ⟨w.heap.size, 4, none⟩ = some (.slice An ns.length cn) := (blk_cell b2 4).trans rfl; have y5 : w2.cell? ⟨w.heap.size, 5, none⟩ = some (.slice Ar ar.length cr) := (blk_cell b2 5).trans rfl; clear b2 hb2)
    go_ret
    exact ⟨rfl, HB2.out⟩
  | true =>
    have hq1 : IntKind.i64.wrap ((q.length : Int) + 1) = (q.length : Int) + 1 := by rw [IntKind.wrap_i64]; omega
    have hq2 : IntKind.i64.wrap ((q.length : Int) + 1 - 1) = (q.length : Int) := by rw [IntKind.wrap_i64]; omega
    have hi1 : ((q.length : Int) + 1).toNat = q.length + 1 := by omega
    have hA := fun W (hb : Below w.heap.size w W) => keptRecs_calls Aa ca an mark48 W (Kd.C_below ha hb) la (by omega)
    have hN := fun W (hb : Below w.heap.size w W) => keptRecs_calls An cn ns mark48 W (Kd.C_below hn hb) ln (by omega)
    have hR := fun W (hb : Below w.heap.size w W) => keptRecs_calls Ar cr ar mark48 W (Kd.C_below hr hb) lr (by omega)
    have HQ := Aside0.mk hq
    clear ha hn hr hq' ha' hn' hr' hf
    go_enter Try.func30, Try.ntmps30
    go_wp2_with (first
      | (go_at_call 26; (with_reducible refine (hS _ ?hb).mono ?_); (case hb => exact below_alloc (below_alloc (Below.refl _ _) _) _); rintro e w2 ⟨rfl, hb2⟩; have HB2 := Aside0.mk (below_step (below_alloc (below_alloc (Below.refl w.heap.size w) _) _) hb2); have b2 := blk_below (blk_alloc (blk_new w (.cells #[.int .i64 i, .int .i64 f, .slice Aq q.length cq, .slice Aa an.length ca, .slice An ns.length cn, .slice Ar ar.length cr] 25)) (.cells #[.int .i64 j, .int .i64 g, .slice Bq q'.length dq, .slice Ba an'.length da, .slice Bn ns'.length dn, .slice Br ar'.length dr] 25)) hb2; have y2 : w2.cell? ⟨w.heap.size, 2, none⟩ = some (.slice Aq q.length cq) := (blk_cell b2 2).trans rfl; have y3 : w2.cell? ⟨w.heap.size, 3, none⟩ = some (.slice Aa an.length ca) := (blk_cell b2 3).trans rfl; have y4 : w2.cell? ⟨w.heap.size, 4, none⟩ = some (.slice An ns.length cn) := (blk_cell b2 4).trans rfl; have y5 : w2.cell? ⟨w.heap.size, 5, none⟩ = some (.slice Ar ar.length cr) := (blk_cell b2 5).trans rfl; clear b2 hb2; obtain ⟨ad, hAq, x0, x1, x2⟩ := quest_at HQ.out HB2.out (k := q.length) (r := mark79) (by simp); subst hAq; have x1' : w2.cell? ⟨(ad.add (q.length * 3)).block, (ad.add (q.length * 3)).off + 1, none⟩ = some (.int .i64 7) := x1; clear x0 x1 x2)
      | (go_at_call 86; (with_reducible refine (hA _ ?hb).mono ?_); (case hb => exact HB2.out); rintro e w3 ⟨rfl, hd⟩; obtain ⟨n3, rfl⟩ := hd)
      | (go_at_call 86; (with_reducible refine (hN _ ?hb).mono ?_); (case hb => exact pw_below_drewN HB2.out _); rintro e w4 ⟨rfl, hd⟩; obtain ⟨n4, rfl⟩ := hd)
      | (go_at_call 86; (with_reducible refine (hR _ ?hb).mono ?_); (case hb => first | exact pw_below_drewN HB2.out _ | exact pw_below_drewN (pw_below_drewN HB2.out _) _); rintro e w5 ⟨rfl, hd⟩; obtain ⟨n5, rfl⟩ := hd))
    go_ret
    exact ⟨rfl, pw_below_drewN HB2.out _⟩
end Go.Proofs.Yteahdaddbmhfgaa.P
end
section
namespace Go.Proofs.Yteahdaddbmhfgaa.P
open Go.RowKit Go.Proofs.YteahdaddbmhfgaaW.PrintWords Go.Proofs.YteahdaddbmhfgaaW.PrintLast Go.Proofs.YteahdaddbmhfgaaW.PrintMore
set_option linter.unusedVariables false
set_option linter.unusedSimpArgs false
def Wide (B t sz : Nat) (W : World) (A : Option Addr) (n : Nat) : Prop := n = 0 ∨ ∃ b cur, A = some ⟨b, 0, none⟩ ∧ B ≤ b ∧ W.heap[b]? = some (.cells cur t (0, 0)) ∧ n * sz ≤ cur.size
theorem Wide.of_R {α : Type} {d : Kd α} {e : Nat} {W : World} {B : Nat} {ok : Nat → Prop} {A : Option Addr} {n c : Nat} {xs : List α} (h : Kd.R d e W B ok (.slice A n c) xs) : Wide B e d.sz W A n := by
  obtain ⟨_, inner, ho, _⟩ := h
  rcases ho.2 with ⟨h1, _⟩ | ⟨g, cap, cur, h1, h2⟩
  · cases h1; exact .inl rfl
  · cases h1
    exact .inr ⟨g, cur, rfl, h2.1, h2.2.1, by rw [h2.2.2.2.2.1]; exact Nat.mul_le_mul_right _ h2.2.2.1⟩
theorem Wide.set {B t sz : Nat} {W : World} {A : Option Addr} {n : Nat} (h : Wide B t sz W A n) (g j : Nat) (u : Value) : Wide B t sz (W.setCell ⟨g, j, none⟩ u) A n := by
  rcases h with h | ⟨b, cur, h1, h2, h3, h4⟩
  · exact .inl h
  · by_cases e : b = g
    · subst e
      exact .inr ⟨_, cur.setIfInBounds j u, h1, h2, own_blk_set h3 j u, by simpa using h4⟩
    · exact .inr ⟨b, cur, h1, h2, blk_far (p := ⟨g, j, none⟩) h3 e u, h4⟩
theorem Wide.alloc {B t sz : Nat} {W : World} {A : Option Addr} {n : Nat} (h : Wide B t sz W A n) (o : Obj) : Wide B t sz (W.alloc o) A n := by
  rcases h with h | ⟨b, cur, h1, h2, h3, h4⟩
  · exact .inl h
  · exact .inr ⟨b, cur, h1, h2, blk_alloc h3 o, h4⟩
theorem Wide.cells {B t sz : Nat} {W : World} {A : Option Addr} {n : Nat} (h : Wide B t sz W A n) {i : Nat} (hi : i < n) : ∃ ad, A = some ad ∧ B ≤ ad.block ∧ ad.off = 0 ∧ ad.add (i * sz) = ⟨ad.block, i * sz, none⟩ ∧ (∃ cur, W.heap[ad.block]? = some (.cells cur t (0, 0))) ∧
    ∀ j, j < sz → (∃ v, W.cell? ⟨ad.block, i * sz + j, none⟩ = some v) ∧ W.frozen? ⟨ad.block, i * sz + j, none⟩ = false := by
  rcases h with h | ⟨b, cur, h1, h2, h3, h4⟩
  · omega
  · refine ⟨_, h1, h2, rfl, by unfold Addr.add; split <;> simp_all, ⟨cur, h3⟩, fun j hj => ?_⟩
    have hle : i * sz + sz ≤ n * sz := by rw [← Nat.succ_mul]; exact Nat.mul_le_mul_right _ hi
    refine ⟨⟨cur[i * sz + j]'(by omega), ?_⟩, blk_frozen h3 _⟩
    rw [own_blk_cell h3]
    exact Array.getElem?_eq_getElem (by omega)
structure OverInv (B : Nat) (w W : World) (g : Nat) (i f : Int) (Aq : Option Addr) (nq cq : Nat) (Aa : Option Addr) (na ca : Nat) (An : Option Addr) (nn cn : Nat) (Ar : Option Addr) (nr cr : Nat) : Prop where
  blk : W.heap[g]? = some (.cells #[.int .i64 i, .int .i64 f, .slice Aq nq cq, .slice Aa na ca, .slice An nn cn, .slice Ar nr cr] 25 (0, 0))
  q : Wide B 79 3 W Aq nq
  an : Wide B 48 5 W Aa na
  ns : Wide B 48 5 W An nn
  ar : Wide B 48 5 W Ar nr
  bel : Below B w W
section
variable {B : Nat} {w W : World} {g : Nat} {i f : Int} {Aq : Option Addr} {nq cq : Nat} {Aa : Option Addr} {na ca : Nat} {An : Option Addr} {nn cn : Nat} {Ar : Option Addr} {nr cr : Nat}
theorem OverInv.set (h : OverInv B w W g i f Aq nq cq Aa na ca An nn cn Ar nr cr) {b : Nat} (hp : B ≤ b) (hg : g ≠ b) (j : Nat) (u : Value) : OverInv B w (W.setCell ⟨b, j, none⟩ u) g i f Aq nq cq Aa na ca An nn cn Ar nr cr :=
  ⟨blk_far (p := ⟨b, j, none⟩) h.blk hg u, h.q.set b j u, h.an.set b j u, h.ns.set b j u, h.ar.set b j u, h.bel.setCell (p := ⟨b, j, none⟩) hp u⟩
theorem OverInv.alloc (h : OverInv B w W g i f Aq nq cq Aa na ca An nn cn Ar nr cr) (hB : B ≤ w.heap.size) (o : Obj) : OverInv B w (W.alloc o) g i f Aq nq cq Aa na ca An nn cn Ar nr cr :=
  ⟨blk_alloc h.blk o, h.q.alloc o, h.an.alloc o, h.ns.alloc o, h.ar.alloc o, h.bel.alloc (Nat.le_trans hB h.bel.size) o⟩
theorem blk_off {t : Nat} {cs : Array Value} (h : W.heap[g]? = some (.cells cs t (0, 0))) {b : Nat} (hne : g ≠ b) (j : Nat) (u : Value) : (W.setCell ⟨b, j, none⟩ u).heap[g]? = some (.cells cs t (0, 0)) := blk_far (p := ⟨b, j, none⟩) h hne u
theorem ne_types {b t t' : Nat} {cs cs' : Array Value} (h : W.heap[g]? = some (.cells cs t (0, 0))) (h' : W.heap[b]? = some (.cells cs' t' (0, 0))) (ht : t ≠ t') : g ≠ b := fun e => by
  subst e
  rw [h] at h'
  cases h'
  exact ht rfl
end
set_option maxRecDepth 100000 in
set_option maxHeartbeats 800000 in
theorem overMessage_calls (B : Nat) (i f : Int) (Aq : Option Addr) (nq cq : Nat) (Aa : Option Addr) (na ca : Nat) (An : Option Addr) (nn cn : Nat) (Ar : Option Addr) (nr cr : Nat) (w : World) (hB : B ≤ w.heap.size)
    (hq : Wide B 79 3 w Aq nq) (ha : Wide B 48 5 w Aa na) (hn : Wide B 48 5 w An nn) (hr : Wide B 48 5 w Ar nr) (lq : nq ≤ 1000000) (la : na ≤ 1000000) (ln : nn ≤ 1000000) (lr : nr ≤ 1000000) (mq : nq ≤ cq) (ma : na ≤ ca) (mn : nn ≤ cn) (mr : nr ≤ cr) :
    Calls Try.prog 29 #[.agg #[.int .i64 i, .int .i64 f, .slice Aq nq cq, .slice Aa na ca, .slice An nn cn, .slice Ar nr cr]] w fun e w' => (∃ v, e = .returned v) ∧ Below B w w' := by
  have hu25 := Try.underlying25
  have HI : Aside0 (OverInv B w (w.alloc (.cells #[.int .i64 i, .int .i64 f, .slice Aq nq cq, .slice Aa na ca, .slice An nn cn, .slice Ar nr cr] 25)) w.heap.size i f Aq nq cq Aa na ca An nn cn Ar nr cr) := ⟨⟨blk_new _ _, hq.alloc _, ha.alloc _, hn.alloc _, hr.alloc _, (Below.refl B w).alloc hB _⟩⟩
  clear hq ha hn hr
  go_enter Try.func29, Try.ntmps29
  go_wp2
  generalize w.alloc (.cells #[.int .i64 i, .int .i64 f, .slice Aq nq cq, .slice Aa na ca, .slice An nn cn, .slice Ar nr cr] 25) = W1 at HI ⊢
  go_loopw [2] (fun iv wr => ∃ j : Nat, j ≤ nq ∧ iv = .int .i64 j ∧ Aside0 (OverInv B w wr w.heap.size i f Aq nq cq Aa na ca An nn cn Ar nr cr)) (fun iv _ => nq - (intOf iv).toNat)
  case atStart => exact ⟨0, Nat.zero_le _, rfl, HI⟩
  case round =>
    obtain ⟨j, hj, rfl, HJ⟩ := hrel
    have y2 : wr.cell? ⟨w.heap.size, 2, none⟩ = some (.slice Aq nq cq) := (blk_cell HJ.out.blk 2).trans rfl
    by_cases hlt : j < nq
    · obtain ⟨ad, rfl, hbk, hoff, hadd, ⟨cur, hcur⟩, hcell⟩ := HJ.out.q.cells hlt
      obtain ⟨⟨v0, c0⟩, f0⟩ := hcell 0 (by omega)
      obtain ⟨⟨v1, c1⟩, f1⟩ := hcell 1 (by omega)
      obtain ⟨⟨v2, c2⟩, f2⟩ := hcell 2 (by omega)
      have hne := ne_types HJ.out.blk hcur (by decide)
      clear hcell
      rw [Nat.add_zero] at c0 f0
      go_wp2
      go_roundw
      case rel => exact ⟨j + 1, by omega, by simp, ⟨((HJ.out.set hbk hne _ _).set hbk hne _ _).set hbk hne _ _⟩⟩
      case measure => simp [intOf]; omega
    · obtain rfl : j = nq := by omega
      have y3 : wr.cell? ⟨w.heap.size, 3, none⟩ = some (.slice Aa na ca) := (blk_cell HJ.out.blk 3).trans rfl
      have y4 : wr.cell? ⟨w.heap.size, 4, none⟩ = some (.slice An nn cn) := (blk_cell HJ.out.blk 4).trans rfl
      have y5 : wr.cell? ⟨w.heap.size, 5, none⟩ = some (.slice Ar nr cr) := (blk_cell HJ.out.blk 5).trans rfl
      go_wp2
      have HL := Aside0.mk (blk_new wr (.cells #[.slice Aa na ca, .slice An nn cn, .slice Ar nr cr] 23))
      have HJ2 := Aside0.mk (HJ.out.alloc hB (.cells #[.slice Aa na ca, .slice An nn cn, .slice Ar nr cr] 23))
      generalize wr.heap.size = hb at *
      clear y2 y3 y4 y5 HJ
      generalize wr.alloc (.cells #[.slice Aa na ca, .slice An nn cn, .slice Ar nr cr] 23) = W3 at HL HJ2 ⊢
      go_loopw [4] (fun kv wr => ∃ k : Nat, k ≤ 3 ∧ kv = .int .i64 k ∧ Aside0 (OverInv B w wr w.heap.size i f Aq j cq Aa na ca An nn cn Ar nr cr) ∧ Aside0 (wr.heap[hb]? = some (.cells #[.slice Aa na ca, .slice An nn cn, .slice Ar nr cr] 23 (0, 0)))) (fun kv _ => 3 - (intOf kv).toNat)
      case atStart => exact ⟨0, by omega, rfl, HJ2, HL⟩
      case round =>
        obtain ⟨k, hk, rfl, HK, HLk⟩ := hrel
        by_cases hk3 : k < 3
        · obtain ⟨A, n, c, hAnc, hln, hlc, hW⟩ : ∃ (A : Option Addr) (n c : Nat), #[Value.slice Aa na ca, Value.slice An nn cn, Value.slice Ar nr cr][k]? = some (.slice A n c) ∧ n ≤ 1000000 ∧ n ≤ c ∧ Wide B 48 5 wr A n := by
            have : k = 0 ∨ k = 1 ∨ k = 2 := by omega
            rcases this with rfl | rfl | rfl
            · exact ⟨_, _, _, rfl, la, ma, HK.out.an⟩
            · exact ⟨_, _, _, rfl, ln, mn, HK.out.ns⟩
            · exact ⟨_, _, _, rfl, lr, mr, HK.out.ar⟩
          have HAnc := Aside0.mk hAnc; clear hAnc
          have HW := Aside0.mk hW; clear hW
          go_wp2
          go_loopw [5] (fun iv wx => ∃ m : Nat, m ≤ n ∧ iv = .int .i64 m ∧ Aside0 (OverInv B w wx w.heap.size i f Aq j cq Aa na ca An nn cn Ar nr cr) ∧ Aside0 (wx.heap[hb]? = some (.cells #[.slice Aa na ca, .slice An nn cn, .slice Ar nr cr] 23 (0, 0))) ∧ Aside0 (Wide B 48 5 wx A n)) (fun iv _ => n - (intOf iv).toNat)
          case atStart => exact ⟨0, Nat.zero_le _, rfl, HK, HLk, HW⟩
          case round =>
            obtain ⟨m, hm, rfl, HX, HLx, HWx⟩ := hrel
            have zc : wr.cell? ⟨hb, k, none⟩ = some (.slice A n c) := (blk_cell HLx.out k).trans HAnc.out
            by_cases hlt : m < n
            · obtain ⟨ad, rfl, hbk, hoff, hadd, ⟨cur, hcur⟩, hcell⟩ := HWx.out.cells hlt
              obtain ⟨⟨v0, c0⟩, f0⟩ := hcell 0 (by omega)
              obtain ⟨⟨v1, c1⟩, f1⟩ := hcell 1 (by omega)
              obtain ⟨⟨v2, c2⟩, f2⟩ := hcell 2 (by omega)
              obtain ⟨⟨v3, c3⟩, f3⟩ := hcell 3 (by omega)
              obtain ⟨⟨v4, c4⟩, f4⟩ := hcell 4 (by omega)
              have hne := ne_types HX.out.blk hcur (by decide)
              have hne2 := ne_types HLx.out hcur (by decide)
              clear hcell
              rw [Nat.add_zero] at c0 f0
              go_wp2
              go_roundw
              case rel => exact ⟨m + 1, by omega, by simp, ⟨((((HX.out.set hbk hne _ _).set hbk hne _ _).set hbk hne _ _).set hbk hne _ _).set hbk hne _ _⟩, ⟨blk_off (blk_off (blk_off (blk_off (blk_off HLx.out hne2 _ _) hne2 _ _) hne2 _ _) hne2 _ _) hne2 _ _⟩, ⟨((((HWx.out.set _ _ _).set _ _ _).set _ _ _).set _ _ _).set _ _ _⟩⟩
              case measure => simp [intOf]; omega
            · obtain rfl : m = n := by omega
              go_wp2
              go_roundw
              case rel => exact ⟨k + 1, by omega, by simp, HX, HLx⟩
              case measure => simp [intOf]; omega
        · obtain rfl : k = 3 := by omega
          go_wp2
          go_end0
          exact ⟨⟨_, rfl⟩, HK.out.bel⟩
end Go.Proofs.Yteahdaddbmhfgaa.P
end
