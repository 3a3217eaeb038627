import Derived.Test.YteahdaddbmhfgaaQPuts1
import Derived.Test.YteahdaddbmhfgaaQPuts2
import Derived.Test.YteahdaddbmhfgaaQPuts3
import Derived.Test.YteahdaddbmhfgaaQPuts4
import Derived.Test.YteahdaddbmhfgaaQPuts5
import Derived.Test.YteahdaddbmhfgaaQPuts6
import Derived.Test.YteahdaddbmhfgaaQPuts7
import Derived.Test.YteahdaddbmhfgaaQPuts8
import Derived.Test.YteahdaddbmhfgaaQPuts9
import Derived.Test.YteahdaddbmhfgaaQPuts10
import Derived.Test.YteahdaddbmhfgaaQPuts11
import Derived.Test.YteahdaddbmhfgaaQPuts12
import Derived.Test.YteahdaddbmhfgaaQPuts13
section
-- Printed by the kit's print.py, driven by pall.py: one text a function. Lean checks it.
namespace Go.Proofs.Yteahdaddbmhfgaa.P
open Go.RowKit Go.Proofs.YteahdaddbmhfgaaW.PrintWords Go.Proofs.YteahdaddbmhfgaaW.PrintLast Go.Proofs.YteahdaddbmhfgaaW.PrintMore
attribute [local go_sem] max2_int min2_int max_two min_two max_three min_three max_four min_four
set_option linter.unusedVariables false
set_option linter.unusedSimpArgs false
def ostiarylaw09_awake.f (k : Nat)  : Option (Bool) := (edns_Put.f k 7 0 ([] : List (S79)) ([] : List (S48)) ([] : List (S48)) ([] : List (S48)) 1232 0 0 true ([] : List (S82))).bind fun bt101 => ((edns_Of.f bt101.1 bt101.2.1 bt101.2.2.1 bt101.2.2.2.1 bt101.2.2.2.2.1 bt101.2.2.2.2.2.1).bind fun bt117 => (if bt101.2.2.2.2.2.2 = 0 then ((ostiarykit_SameRecs.f k bt101.2.2.2.2.2.1 (([(⟨(⟨#[0]⟩ : ByteArray), 41, 1232, 32768, (⟨#[]⟩ : ByteArray)⟩ : S48)] : List (S48)))).bind fun t130 => (if t130 = true then (if bt117.2.2.2.2.2.1 = true then (if bt117.2.2.2.2.2.2 = 0 then ((ostiarykit_SameEdns.f k bt117.1 bt117.2.1 bt117.2.2.1 bt117.2.2.2.1 bt117.2.2.2.2.1 1232 0 0 true ([] : List (S82))).bind fun t131 => (if t131 = true then ((edns_Room.f bt101.1 bt101.2.1 bt101.2.2.1 bt101.2.2.2.1 bt101.2.2.2.2.1 bt101.2.2.2.2.2.1).bind fun t132 => (some (t132 == 1232))) else (none))) else (none)) else (none)) else (none))) else (none)))
theorem ostiarylaw09_awake.mono : ∀ k, LeO (ostiarylaw09_awake.f k ) (ostiarylaw09_awake.f (k + 1) ) := by
  intro  k
  unfold ostiarylaw09_awake.f
  repeat' first
      | (with_reducible exact edns_Put.mono _ _ _ _ _ _ _ _ _ _ _ _)
      | (with_reducible exact ostiarykit_SameEdns.mono _ _ _ _ _ _ _ _ _ _ _)
      | (with_reducible exact ostiarykit_SameRecs.mono _ _ _)
      | (with_reducible exact LeO.refl _)
      | (with_reducible exact LeO.none _)
      | (with_reducible refine LeO.ite ?_ ?_)
      | (with_reducible refine LeO.bind ?_ (fun _ => ?_))
      | exact edns_Put.mono _ _ _ _ _ _ _ _ _ _ _ _
      | exact ostiarykit_SameEdns.mono _ _ _ _ _ _ _ _ _ _ _
      | exact ostiarykit_SameRecs.mono _ _ _
      | exact LeO.none _
      | refine LeO.ite ?_ ?_
      | refine LeO.bind ?_ (fun _ => ?_)
set_option maxHeartbeats 8000000 in
set_option maxRecDepth 100000 in
theorem ostiarylaw09_awake.calls (k : Nat)  (r : Bool) (w : World) (h : ostiarylaw09_awake.f k  = some r) :
    Calls Try.prog 32 #[] w fun e w' => e = .returned (.bool r) ∧ Below w.heap.size w w' := by
  have hu25 := Try.underlying25
  have hu28 := Try.underlying28
  have hu48 := Try.underlying48
  have HB := Aside0.mk (Below.refl w.heap.size w)
  have H : ((edns_Put.f k 7 0 ([] : List (S79)) ([] : List (S48)) ([] : List (S48)) ([] : List (S48)) 1232 0 0 true ([] : List (S82))).bind fun bt101 => ((edns_Of.f bt101.1 bt101.2.1 bt101.2.2.1 bt101.2.2.2.1 bt101.2.2.2.2.1 bt101.2.2.2.2.2.1).bind fun bt117 => (if bt101.2.2.2.2.2.2 = 0 then ((ostiarykit_SameRecs.f k bt101.2.2.2.2.2.1 (([(⟨(⟨#[0]⟩ : ByteArray), 41, 1232, 32768, (⟨#[]⟩ : ByteArray)⟩ : S48)] : List (S48)))).bind fun t130 => (if t130 = true then (if bt117.2.2.2.2.2.1 = true then (if bt117.2.2.2.2.2.2 = 0 then ((ostiarykit_SameEdns.f k bt117.1 bt117.2.1 bt117.2.2.1 bt117.2.2.2.1 bt117.2.2.2.2.1 1232 0 0 true ([] : List (S82))).bind fun t131 => (if t131 = true then ((edns_Room.f bt101.1 bt101.2.1 bt101.2.2.1 bt101.2.2.2.1 bt101.2.2.2.2.1 bt101.2.2.2.2.2.1).bind fun t132 => (some (t132 == 1232))) else (none))) else (none)) else (none)) else (none))) else (none)))) = some r := h
  clear h
  replace H := Option.bind_eq_some_iff.mp H
  obtain ⟨⟨t101, t102, t103, t106, t109, t112, t115⟩, A10, H⟩ := H
  replace H : ((edns_Of.f t101 t102 t103 t106 t109 t112).bind fun bt117 => (if t115 = 0 then ((ostiarykit_SameRecs.f k t112 (([(⟨(⟨#[0]⟩ : ByteArray), 41, 1232, 32768, (⟨#[]⟩ : ByteArray)⟩ : S48)] : List (S48)))).bind fun t130 => (if t130 = true then (if bt117.2.2.2.2.2.1 = true then (if bt117.2.2.2.2.2.2 = 0 then ((ostiarykit_SameEdns.f k bt117.1 bt117.2.1 bt117.2.2.1 bt117.2.2.2.1 bt117.2.2.2.2.1 1232 0 0 true ([] : List (S82))).bind fun t131 => (if t131 = true then ((edns_Room.f t101 t102 t103 t106 t109 t112).bind fun t132 => (some (t132 == 1232))) else (none))) else (none)) else (none)) else (none))) else (none))) = some r := H
  have A1 := Aside0.mk A10
  clear A10
  replace H := Option.bind_eq_some_iff.mp H
  obtain ⟨⟨t117, t118, t119, t120, t121, t124, t125⟩, A20, H⟩ := H
  replace H : (if t115 = 0 then ((ostiarykit_SameRecs.f k t112 (([(⟨(⟨#[0]⟩ : ByteArray), 41, 1232, 32768, (⟨#[]⟩ : ByteArray)⟩ : S48)] : List (S48)))).bind fun t130 => (if t130 = true then (if t124 = true then (if t125 = 0 then ((ostiarykit_SameEdns.f k t117 t118 t119 t120 t121 1232 0 0 true ([] : List (S82))).bind fun t131 => (if t131 = true then ((edns_Room.f t101 t102 t103 t106 t109 t112).bind fun t132 => (some (t132 == 1232))) else (none))) else (none)) else (none)) else (none))) else (none)) = some r := H
  have A2 := Aside0.mk A20
  clear A20
  obtain ⟨y127, hy127⟩ : ∃ y_ : List (S48), y_ = (([(⟨(⟨#[0]⟩ : ByteArray), 41, 1232, 32768, (⟨#[]⟩ : ByteArray)⟩ : S48)] : List (S48))) := ⟨_, rfl⟩
  replace H : (if t115 = 0 then ((ostiarykit_SameRecs.f k t112 y127).bind fun t130 => (if t130 = true then (if t124 = true then (if t125 = 0 then ((ostiarykit_SameEdns.f k t117 t118 t119 t120 t121 1232 0 0 true ([] : List (S82))).bind fun t131 => (if t131 = true then ((edns_Room.f t101 t102 t103 t106 t109 t112).bind fun t132 => (some (t132 == 1232))) else (none))) else (none)) else (none)) else (none))) else (none)) = some r := by first | (rw [hy127]; with_reducible exact H) | (have H2_ := (Option.bind_some _ _).symm.trans H; rw [hy127]; with_reducible exact H2_) | (have H2_ := (Option.bind_some _ _).symm.trans H; with_reducible exact H2_) | with_reducible exact H | (rw [hy127]; exact H) | exact H
  have Ny127 := Aside0.mk hy127
  clear hy127
  by_cases c3 : t115 = 0
  · rw [if_pos c3] at H
    have c3b0 : (t115 == 0) = true := beq_iff_eq.mpr c3
    have c3b1 : (t115 != 0) = false := bne_eq_false_iff_eq.mpr c3
    clear c3
    replace H := Option.bind_eq_some_iff.mp H
    obtain ⟨t130, A40, H⟩ := H
    replace H : (if t130 = true then (if t124 = true then (if t125 = 0 then ((ostiarykit_SameEdns.f k t117 t118 t119 t120 t121 1232 0 0 true ([] : List (S82))).bind fun t131 => (if t131 = true then ((edns_Room.f t101 t102 t103 t106 t109 t112).bind fun t132 => (some (t132 == 1232))) else (none))) else (none)) else (none)) else (none)) = some r := H
    have A4 := Aside0.mk A40
    clear A40
    by_cases c5 : t130 = true
    · subst c5
      have H1 : (if t124 = true then (if t125 = 0 then ((ostiarykit_SameEdns.f k t117 t118 t119 t120 t121 1232 0 0 true ([] : List (S82))).bind fun t131 => (if t131 = true then ((edns_Room.f t101 t102 t103 t106 t109 t112).bind fun t132 => (some (t132 == 1232))) else (none))) else (none)) else (none)) = some r := by rw [if_pos rfl] at H; exact H
      clear H
      have H := H1
      clear H1
      by_cases c6 : t124 = true
      · subst c6
        have H1 : (if t125 = 0 then ((ostiarykit_SameEdns.f k t117 t118 t119 t120 t121 1232 0 0 true ([] : List (S82))).bind fun t131 => (if t131 = true then ((edns_Room.f t101 t102 t103 t106 t109 t112).bind fun t132 => (some (t132 == 1232))) else (none))) else (none)) = some r := by rw [if_pos rfl] at H; exact H
        clear H
        have H := H1
        clear H1
        by_cases c7 : t125 = 0
        · rw [if_pos c7] at H
          have c7b0 : (t125 == 0) = true := beq_iff_eq.mpr c7
          have c7b1 : (t125 != 0) = false := bne_eq_false_iff_eq.mpr c7
          clear c7
          replace H := Option.bind_eq_some_iff.mp H
          obtain ⟨t131, A80, H⟩ := H
          replace H : (if t131 = true then ((edns_Room.f t101 t102 t103 t106 t109 t112).bind fun t132 => (some (t132 == 1232))) else (none)) = some r := H
          have A8 := Aside0.mk A80
          clear A80
          by_cases c9 : t131 = true
          · subst c9
            have H1 : ((edns_Room.f t101 t102 t103 t106 t109 t112).bind fun t132 => (some (t132 == 1232))) = some r := by rw [if_pos rfl] at H; exact H
            clear H
            have H := H1
            clear H1
            replace H := Option.bind_eq_some_iff.mp H
            obtain ⟨t132, A100, H⟩ := H
            replace H : (some (t132 == 1232)) = some r := H
            have A10 := Aside0.mk A100
            clear A100
            obtain rfl := Option.some.inj H
            go_enter Try.func32, Try.ntmps32
            go_wp2_with (first | ((with_reducible refine gate_callee (f := 24) rfl ?_); refine goesL_ (some 10) rfl rfl Try.func24 (by kernel_rfl) rfl #[.agg #[.int .i64 7, .int .i64 0, .slice none 0 0, .slice none 0 0, .slice none 0 0, .slice none 0 0], .agg #[.int .i64 1232, .int .i64 0, .int .i64 0, .bool true, .slice none 0 0]] rfl (by (try simp only [List.map_toArray, List.map_cons, List.map_nil]); first | done | rfl | (simp only [List.length_drop, List.length_take]; rfl)) ?_; (refine (edns_Put.calls k 7 0 _ _ ([] : List (S79)) _ _ ([] : List (S48)) _ _ ([] : List (S48)) _ _ ([] : List (S48)) 1232 0 0 true _ _ ([] : List (S82)) t101 t102 t103 t106 t109 t112 t115 _ ?side1 ?side2 ?side3 ?side4 ?side5 ?side6 ?side7 ?side8 ?side9 ?side10 A1.out).mono ?_); (case side1 => exact Kd.C_nil _ _); (case side2 => exact Nat.le_refl _); (case side3 => exact Kd.C_nil _ _); (case side4 => exact Nat.le_refl _); (case side5 => exact Kd.C_nil _ _); (case side6 => exact Nat.le_refl _); (case side7 => exact Kd.C_nil _ _); (case side8 => exact Nat.le_refl _); (case side9 => exact Kd.C_nil _ _); (case side10 => exact Nat.le_refl _); rintro e w11 ⟨v104, v107, v110, v113, rfl, ho0, ho1, ho2, ho3, hb⟩; refine ⟨_, rfl, ?_⟩; have n0_ := Aside0.mk (Kd.R_lower ho0 (below_size (by repeat (first | (with_reducible first | exact HB.out | apply below_alloc | apply pw_below_drewN | apply below_drew1) | exact HB.out)))); have n1_ := Aside0.mk (Kd.R_lower ho1 (below_size (by repeat (first | (with_reducible first | exact HB.out | apply below_alloc | apply pw_below_drewN | apply below_drew1) | exact HB.out)))); have n2_ := Aside0.mk (Kd.R_lower ho2 (below_size (by repeat (first | (with_reducible first | exact HB.out | apply below_alloc | apply pw_below_drewN | apply below_drew1) | exact HB.out)))); have n3_ := Aside0.mk (Kd.R_lower ho3 (below_size (by repeat (first | (with_reducible first | exact HB.out | apply below_alloc | apply pw_below_drewN | apply below_drew1) | exact HB.out)))); have n4_ := Aside0.mk (below_step (by repeat (first | (with_reducible first | exact HB.out | apply below_alloc | apply pw_below_drewN | apply below_drew1) | exact HB.out)) hb); clear HB; have HO105 := n0_; have HO108 := n1_; have HO111 := n2_; have HO114 := n3_; have HB := n4_; clear n0_ n1_ n2_ n3_ n4_; (try clear hb); (try clear hb2); (try clear hk); (try clear hi); (try clear ho0); (try clear ho1); (try clear ho2); (try clear ho3)) | ((with_reducible refine gate_dst (N := 1) rfl ?_); refine box_event ?hg (N := 1) ?hd (cs := #[.int .i64 0, .int .i64 0, .slice none 0 0, .slice none 0 0, .slice none 0 0, .slice none 0 0]) (t := 25) ?hr ?_; (case hd => rfl); (case hg => rfl); (case hr => first | (go_simp; done) | (go_simp; rfl)); intro gb116 hg w12 hbox hb; have n0_ := Aside0.mk (Kd.R_below (by exact HO105.out) hb); have n1_ := Aside0.mk (Kd.R_below (by exact HO108.out) hb); have n2_ := Aside0.mk (Kd.R_below (by exact HO111.out) hb); have n3_ := Aside0.mk (Kd.R_below (by exact HO114.out) hb); have n4_ := Aside0.mk (below_step (by repeat (first | (with_reducible first | exact HB.out | apply below_alloc | apply pw_below_drewN | apply below_drew1) | exact HB.out)) hb); have n5_ := Aside0.mk (hbox); have n6_ := Aside0.mk ((by rw [hg]; exact (below_size (by repeat (first | (with_reducible first | exact HB.out | apply below_alloc | apply pw_below_drewN | apply below_drew1) | exact HB.out))) : w.heap.size ≤ gb116)); have n7_ := Aside0.mk ((by rw [hg]; exact (below_size (by repeat (first | (with_reducible first | exact HB.out | apply below_alloc | apply pw_below_drewN | apply below_drew1) | exact HB.out))) : w.heap.size ≤ gb116)); clear HO105; clear HO108; clear HO111; clear HO114; clear HB; have HO105 := n0_; have HO108 := n1_; have HO111 := n2_; have HO114 := n3_; have HB := n4_; have BK116 := n5_; have GW116 := n6_; have GE116 := n7_; clear n0_ n1_ n2_ n3_ n4_ n5_ n6_ n7_; clear hb hbox hg; have hcz13_0 : w12.cell? ⟨gb116, 0, none⟩ = some (.int .i64 0) := (blk_cell BK116.out 0).trans rfl; have hcz13_1 : w12.cell? ⟨gb116, 1, none⟩ = some (.int .i64 0) := (blk_cell BK116.out 1).trans rfl; have hcz13_2 : w12.cell? ⟨gb116, 2, none⟩ = some (.slice none 0 0) := (blk_cell BK116.out 2).trans rfl; have hcz13_3 : w12.cell? ⟨gb116, 3, none⟩ = some (.slice none 0 0) := (blk_cell BK116.out 3).trans rfl; have hcz13_4 : w12.cell? ⟨gb116, 4, none⟩ = some (.slice none 0 0) := (blk_cell BK116.out 4).trans rfl; have hcz13_5 : w12.cell? ⟨gb116, 5, none⟩ = some (.slice none 0 0) := (blk_cell BK116.out 5).trans rfl; have hfz13_0 := blk_frozen BK116.out 0; have hfz13_1 := blk_frozen BK116.out 1; have hfz13_2 := blk_frozen BK116.out 2; have hfz13_3 := blk_frozen BK116.out 3; have hfz13_4 := blk_frozen BK116.out 4; have hfz13_5 := blk_frozen BK116.out 5; obtain ⟨Ao14, co14, eo14⟩ := Kd.R_slice HO105.out; subst eo14; obtain ⟨Ao15, co15, eo15⟩ := Kd.R_slice HO108.out; subst eo15; obtain ⟨Ao16, co16, eo16⟩ := Kd.R_slice HO111.out; subst eo16; obtain ⟨Ao17, co17, eo17⟩ := Kd.R_slice HO114.out; subst eo17) | ((with_reducible refine gate_callee (f := 33) rfl ?_); refine goesL_ (some 15) rfl rfl Try.func33 (by kernel_rfl) rfl #[.agg #[.int .i64 t101, .int .i64 t102, .slice Ao14 t103.length co14, .slice Ao15 t106.length co15, .slice Ao16 t109.length co16, .slice Ao17 t112.length co17]] rfl (by (try simp only [List.map_toArray, List.map_cons, List.map_nil]); first | done | rfl | (simp only [List.length_drop, List.length_take]; rfl)) ?_; (with_reducible refine (edns_Of.calls t101 t102 _ _ t103 _ _ t106 _ _ t109 _ _ t112 t117 t118 t119 t120 t121 true t125 _ ?side1 ?side2 ?side3 ?side4 ?side5 ?side6 ?side7 ?side8 A2.out).mono ?_); (case side1 => refine (Kd.R_reads' (e := 79) (base := w.heap.size) (ok := fun k_ => True) (n := t103.length) (c := co14) ?_).2.2; exact (by exact (Kd.R_mono (Kd.R_far (p := ⟨gb116, 5, none⟩) (Kd.R_far (p := ⟨gb116, 4, none⟩) (Kd.R_far (p := ⟨gb116, 3, none⟩) (Kd.R_far (p := ⟨gb116, 2, none⟩) (Kd.R_far (p := ⟨gb116, 1, none⟩) (Kd.R_far (p := ⟨gb116, 0, none⟩) (Kd.R_types HO105.out BK116.out (by decide)) (fun _ hk => hk.2) (.int .i64 t101)) (fun _ hk => hk.2) (.int .i64 t102)) (fun _ hk => hk.2) (.slice Ao14 t103.length co14)) (fun _ hk => hk.2) (.slice Ao15 t106.length co15)) (fun _ hk => hk.2) (.slice Ao16 t109.length co16)) (fun _ hk => hk.2) (.slice Ao17 t112.length co17)) (fun _ h_ => h_.1)))); (case side2 => exact (Kd.R_reads' HO105.out).2.1); (case side3 => refine (Kd.R_reads' (e := 48) (base := w.heap.size) (ok := fun k_ => (some k_ ≠ (.slice Ao16 t109.length co16 : Value).ownBlock ∧ some k_ ≠ (.slice Ao17 t112.length co17 : Value).ownBlock)) (n := t106.length) (c := co15) ?_).2.2; exact (by exact (Kd.R_mono (Kd.R_far (p := ⟨gb116, 5, none⟩) (Kd.R_far (p := ⟨gb116, 4, none⟩) (Kd.R_far (p := ⟨gb116, 3, none⟩) (Kd.R_far (p := ⟨gb116, 2, none⟩) (Kd.R_far (p := ⟨gb116, 1, none⟩) (Kd.R_far (p := ⟨gb116, 0, none⟩) (Kd.R_types HO108.out BK116.out (by decide)) (fun _ hk => hk.2) (.int .i64 t101)) (fun _ hk => hk.2) (.int .i64 t102)) (fun _ hk => hk.2) (.slice Ao14 t103.length co14)) (fun _ hk => hk.2) (.slice Ao15 t106.length co15)) (fun _ hk => hk.2) (.slice Ao16 t109.length co16)) (fun _ hk => hk.2) (.slice Ao17 t112.length co17)) (fun _ h_ => h_.1)))); (case side4 => exact (Kd.R_reads' HO108.out).2.1); (case side5 => refine (Kd.R_reads' (e := 48) (base := w.heap.size) (ok := fun k_ => (some k_ ≠ (.slice Ao15 t106.length co15 : Value).ownBlock ∧ some k_ ≠ (.slice Ao17 t112.length co17 : Value).ownBlock)) (n := t109.length) (c := co16) ?_).2.2; exact (by exact (Kd.R_mono (Kd.R_far (p := ⟨gb116, 5, none⟩) (Kd.R_far (p := ⟨gb116, 4, none⟩) (Kd.R_far (p := ⟨gb116, 3, none⟩) (Kd.R_far (p := ⟨gb116, 2, none⟩) (Kd.R_far (p := ⟨gb116, 1, none⟩) (Kd.R_far (p := ⟨gb116, 0, none⟩) (Kd.R_types HO111.out BK116.out (by decide)) (fun _ hk => hk.2) (.int .i64 t101)) (fun _ hk => hk.2) (.int .i64 t102)) (fun _ hk => hk.2) (.slice Ao14 t103.length co14)) (fun _ hk => hk.2) (.slice Ao15 t106.length co15)) (fun _ hk => hk.2) (.slice Ao16 t109.length co16)) (fun _ hk => hk.2) (.slice Ao17 t112.length co17)) (fun _ h_ => h_.1)))); (case side6 => exact (Kd.R_reads' HO111.out).2.1); (case side7 => refine (Kd.R_reads' (e := 48) (base := w.heap.size) (ok := fun k_ => (some k_ ≠ (.slice Ao15 t106.length co15 : Value).ownBlock ∧ some k_ ≠ (.slice Ao16 t109.length co16 : Value).ownBlock)) (n := t112.length) (c := co17) ?_).2.2; exact (by exact (Kd.R_mono (Kd.R_far (p := ⟨gb116, 5, none⟩) (Kd.R_far (p := ⟨gb116, 4, none⟩) (Kd.R_far (p := ⟨gb116, 3, none⟩) (Kd.R_far (p := ⟨gb116, 2, none⟩) (Kd.R_far (p := ⟨gb116, 1, none⟩) (Kd.R_far (p := ⟨gb116, 0, none⟩) (Kd.R_types HO114.out BK116.out (by decide)) (fun _ hk => hk.2) (.int .i64 t101)) (fun _ hk => hk.2) (.int .i64 t102)) (fun _ hk => hk.2) (.slice Ao14 t103.length co14)) (fun _ hk => hk.2) (.slice Ao15 t106.length co15)) (fun _ hk => hk.2) (.slice Ao16 t109.length co16)) (fun _ hk => hk.2) (.slice Ao17 t112.length co17)) (fun _ h_ => h_.1)))); (case side8 => exact (Kd.R_reads' HO114.out).2.1); rintro e w18 ⟨v122, rfl, ho0, hb⟩; refine ⟨_, rfl, ?_⟩; have n0_ := Aside0.mk (Kd.R_below (by exact (Kd.R_mono (Kd.R_far (p := ⟨gb116, 5, none⟩) (Kd.R_far (p := ⟨gb116, 4, none⟩) (Kd.R_far (p := ⟨gb116, 3, none⟩) (Kd.R_far (p := ⟨gb116, 2, none⟩) (Kd.R_far (p := ⟨gb116, 1, none⟩) (Kd.R_far (p := ⟨gb116, 0, none⟩) (Kd.R_types HO105.out BK116.out (by decide)) (fun _ hk => hk.2) (.int .i64 t101)) (fun _ hk => hk.2) (.int .i64 t102)) (fun _ hk => hk.2) (.slice Ao14 t103.length co14)) (fun _ hk => hk.2) (.slice Ao15 t106.length co15)) (fun _ hk => hk.2) (.slice Ao16 t109.length co16)) (fun _ hk => hk.2) (.slice Ao17 t112.length co17)) (fun _ h_ => h_.1))) hb); have n1_ := Aside0.mk (Kd.R_below (by exact (Kd.R_mono (Kd.R_far (p := ⟨gb116, 5, none⟩) (Kd.R_far (p := ⟨gb116, 4, none⟩) (Kd.R_far (p := ⟨gb116, 3, none⟩) (Kd.R_far (p := ⟨gb116, 2, none⟩) (Kd.R_far (p := ⟨gb116, 1, none⟩) (Kd.R_far (p := ⟨gb116, 0, none⟩) (Kd.R_types HO108.out BK116.out (by decide)) (fun _ hk => hk.2) (.int .i64 t101)) (fun _ hk => hk.2) (.int .i64 t102)) (fun _ hk => hk.2) (.slice Ao14 t103.length co14)) (fun _ hk => hk.2) (.slice Ao15 t106.length co15)) (fun _ hk => hk.2) (.slice Ao16 t109.length co16)) (fun _ hk => hk.2) (.slice Ao17 t112.length co17)) (fun _ h_ => h_.1))) hb); have n2_ := Aside0.mk (Kd.R_below (by exact (Kd.R_mono (Kd.R_far (p := ⟨gb116, 5, none⟩) (Kd.R_far (p := ⟨gb116, 4, none⟩) (Kd.R_far (p := ⟨gb116, 3, none⟩) (Kd.R_far (p := ⟨gb116, 2, none⟩) (Kd.R_far (p := ⟨gb116, 1, none⟩) (Kd.R_far (p := ⟨gb116, 0, none⟩) (Kd.R_types HO111.out BK116.out (by decide)) (fun _ hk => hk.2) (.int .i64 t101)) (fun _ hk => hk.2) (.int .i64 t102)) (fun _ hk => hk.2) (.slice Ao14 t103.length co14)) (fun _ hk => hk.2) (.slice Ao15 t106.length co15)) (fun _ hk => hk.2) (.slice Ao16 t109.length co16)) (fun _ hk => hk.2) (.slice Ao17 t112.length co17)) (fun _ h_ => h_.1))) hb); have n3_ := Aside0.mk (Kd.R_below (by exact (Kd.R_mono (Kd.R_far (p := ⟨gb116, 5, none⟩) (Kd.R_far (p := ⟨gb116, 4, none⟩) (Kd.R_far (p := ⟨gb116, 3, none⟩) (Kd.R_far (p := ⟨gb116, 2, none⟩) (Kd.R_far (p := ⟨gb116, 1, none⟩) (Kd.R_far (p := ⟨gb116, 0, none⟩) (Kd.R_types HO114.out BK116.out (by decide)) (fun _ hk => hk.2) (.int .i64 t101)) (fun _ hk => hk.2) (.int .i64 t102)) (fun _ hk => hk.2) (.slice Ao14 t103.length co14)) (fun _ hk => hk.2) (.slice Ao15 t106.length co15)) (fun _ hk => hk.2) (.slice Ao16 t109.length co16)) (fun _ hk => hk.2) (.slice Ao17 t112.length co17)) (fun _ h_ => h_.1))) hb); have n4_ := Aside0.mk (Kd.R_lower ho0 (below_size (by repeat (first | (with_reducible first | exact HB.out | apply below_alloc | apply pw_below_drewN | apply below_drew1 | refine below_set ?_ GE116.out) | exact HB.out)))); have n5_ := Aside0.mk (blk_below (g := gb116) (o := .cells #[.int .i64 t101, .int .i64 t102, .slice Ao14 t103.length co14, .slice Ao15 t106.length co15, .slice Ao16 t109.length co16, .slice Ao17 t112.length co17] 25 (0, 0)) (by refine blk_put (cs := #[.int .i64 t101, .int .i64 t102, .slice Ao14 t103.length co14, .slice Ao15 t106.length co15, .slice Ao16 t109.length co16, .slice none 0 0]) ?_ 5 _ rfl; refine blk_put (cs := #[.int .i64 t101, .int .i64 t102, .slice Ao14 t103.length co14, .slice Ao15 t106.length co15, .slice none 0 0, .slice none 0 0]) ?_ 4 _ rfl; refine blk_put (cs := #[.int .i64 t101, .int .i64 t102, .slice Ao14 t103.length co14, .slice none 0 0, .slice none 0 0, .slice none 0 0]) ?_ 3 _ rfl; refine blk_put (cs := #[.int .i64 t101, .int .i64 t102, .slice none 0 0, .slice none 0 0, .slice none 0 0, .slice none 0 0]) ?_ 2 _ rfl; refine blk_put (cs := #[.int .i64 t101, .int .i64 0, .slice none 0 0, .slice none 0 0, .slice none 0 0, .slice none 0 0]) ?_ 1 _ rfl; refine blk_put (cs := #[.int .i64 0, .int .i64 0, .slice none 0 0, .slice none 0 0, .slice none 0 0, .slice none 0 0]) ?_ 0 _ rfl; exact BK116.out) hb); have n6_ := Aside0.mk (below_step (by repeat (first | (with_reducible first | exact HB.out | apply below_alloc | apply pw_below_drewN | apply below_drew1 | refine below_set ?_ GE116.out) | exact HB.out)) hb); clear HO105; clear HO108; clear HO111; clear HO114; clear BK116; clear HB; have HO105 := n0_; have HO108 := n1_; have HO111 := n2_; have HO114 := n3_; have HO123 := n4_; have BK116 := n5_; have HB := n6_; clear n0_ n1_ n2_ n3_ n4_ n5_ n6_; (try clear hb); (try clear hb2); (try clear hk); (try clear hi); (try clear ho0)) | ((with_reducible refine gate_dst (N := 3) rfl ?_); refine box_event ?hg (N := 3) ?hd (cs := #[.int .i64 0, .int .i64 0, .int .i64 0, .bool false, .slice none 0 0]) (t := 28) ?hr ?_; (case hd => rfl); (case hg => rfl); (case hr => first | (go_simp; done) | (go_simp; rfl)); intro gb126 hg w19 hbox hb; have n0_ := Aside0.mk (Kd.R_below (by exact HO105.out) hb); have n1_ := Aside0.mk (Kd.R_below (by exact HO108.out) hb); have n2_ := Aside0.mk (Kd.R_below (by exact HO111.out) hb); have n3_ := Aside0.mk (Kd.R_below (by exact HO114.out) hb); have n4_ := Aside0.mk (Kd.R_below (by exact HO123.out) hb); have n5_ := Aside0.mk (blk_below (g := gb116) (o := .cells #[.int .i64 t101, .int .i64 t102, .slice Ao14 t103.length co14, .slice Ao15 t106.length co15, .slice Ao16 t109.length co16, .slice Ao17 t112.length co17] 25 (0, 0)) (by exact BK116.out) hb); have n6_ := Aside0.mk (below_step (by repeat (first | (with_reducible first | exact HB.out | apply below_alloc | apply pw_below_drewN | apply below_drew1 | refine below_set ?_ GE116.out) | exact HB.out)) hb); have n7_ := Aside0.mk (hbox); have n8_ := Aside0.mk ((by rw [hg]; exact (below_size (by repeat (first | (with_reducible first | exact HB.out | apply below_alloc | apply pw_below_drewN | apply below_drew1 | refine below_set ?_ GE116.out) | exact HB.out))) : w.heap.size ≤ gb126)); have n9_ := Aside0.mk ((by rw [hg]; exact (below_size (by repeat (first | (with_reducible first | exact HB.out | apply below_alloc | apply pw_below_drewN | apply below_drew1 | refine below_set ?_ GE116.out) | exact HB.out))) : w.heap.size ≤ gb126)); have n10_ := Aside0.mk ((by rw [hg]; exact Nat.ne_of_lt (blk_lt (g := gb116) (o := .cells #[.int .i64 t101, .int .i64 t102, .slice Ao14 t103.length co14, .slice Ao15 t106.length co15, .slice Ao16 t109.length co16, .slice Ao17 t112.length co17] 25 (0, 0)) (by exact BK116.out)) : gb116 ≠ gb126)); have n11_ := Aside0.mk ((by rw [hg]; exact Nat.ne_of_gt (blk_lt (g := gb116) (o := .cells #[.int .i64 t101, .int .i64 t102, .slice Ao14 t103.length co14, .slice Ao15 t106.length co15, .slice Ao16 t109.length co16, .slice Ao17 t112.length co17] 25 (0, 0)) (by exact BK116.out)) : gb126 ≠ gb116)); clear HO105; clear HO108; clear HO111; clear HO114; clear HO123; clear BK116; clear HB; have HO105 := n0_; have HO108 := n1_; have HO111 := n2_; have HO114 := n3_; have HO123 := n4_; have BK116 := n5_; have HB := n6_; have BK126 := n7_; have GW126 := n8_; have GE126 := n9_; have NB116_126 := n10_; have NB126_116 := n11_; clear n0_ n1_ n2_ n3_ n4_ n5_ n6_ n7_ n8_ n9_ n10_ n11_; clear hb hbox hg; have hnb20 := NB126_116.out; have hnc20 := NB116_126.out; have hcz21_0 : w19.cell? ⟨gb126, 0, none⟩ = some (.int .i64 0) := (blk_cell BK126.out 0).trans rfl; have hcz21_1 : w19.cell? ⟨gb126, 1, none⟩ = some (.int .i64 0) := (blk_cell BK126.out 1).trans rfl; have hcz21_2 : w19.cell? ⟨gb126, 2, none⟩ = some (.int .i64 0) := (blk_cell BK126.out 2).trans rfl; have hcz21_3 : w19.cell? ⟨gb126, 3, none⟩ = some (.bool false) := (blk_cell BK126.out 3).trans rfl; have hcz21_4 : w19.cell? ⟨gb126, 4, none⟩ = some (.slice none 0 0) := (blk_cell BK126.out 4).trans rfl; have hfz21_0 := blk_frozen BK126.out 0; have hfz21_1 := blk_frozen BK126.out 1; have hfz21_2 := blk_frozen BK126.out 2; have hfz21_3 := blk_frozen BK126.out 3; have hfz21_4 := blk_frozen BK126.out 4; obtain ⟨Ao22, co22, eo22⟩ := Kd.R_slice HO123.out; subst eo22) | ((with_reducible refine gate_dst (N := 20) rfl ?_); refine Kd.R_lit k48 _ 48 ?hg (N := 20) ?hd (xs := ([(⟨(⟨#[0]⟩ : ByteArray), 41, 1232, 32768, (⟨#[]⟩ : ByteArray)⟩ : S48)] : List (S48))) (inner := [.string (⟨#[0]⟩ : ByteArray), .int .i64 41, .int .i64 1232, .int .i64 32768, .string (⟨#[]⟩ : ByteArray)]) (ok := fun _ => True) (okp := fun _ => True) ?hr ?hp (fun _ hk => hk) trivial (Below.refl _ _) (Nat.le_refl _) (by simp) ?_; (case hd => rfl); (case hg => rfl); (case hr => first | (go_simp; done) | (go_simp; rfl)); (case hp => exact (Reps.c5 (show Kd.M k48 _ _ _ (⟨(⟨#[0]⟩ : ByteArray), 41, 1232, 32768, (⟨#[]⟩ : ByteArray)⟩ : S48) [.string (⟨#[0]⟩ : ByteArray), .int .i64 41, .int .i64 1232, .int .i64 32768, .string (⟨#[]⟩ : ByteArray)] from (k48_mkM _ _ _ (⟨(⟨#[0]⟩ : ByteArray), 41, 1232, 32768, (⟨#[]⟩ : ByteArray)⟩ : S48) )) (Reps.none _ _))); intro v128 w23 ho24 hb hg_ hnew_; clear hg_ hnew_; (first | rw [← Ny127.out] at ho24 | (simp only [Int.reduceToNat] at ho24; rw [← Ny127.out] at ho24)); have n0_ := Aside0.mk (Kd.R_below (by exact (Kd.R_mono (Kd.R_far (p := ⟨gb126, 4, none⟩) (Kd.R_far (p := ⟨gb126, 3, none⟩) (Kd.R_far (p := ⟨gb126, 2, none⟩) (Kd.R_far (p := ⟨gb126, 1, none⟩) (Kd.R_far (p := ⟨gb126, 0, none⟩) (Kd.R_types HO105.out BK126.out (by decide)) (fun _ hk => hk.2) (.int .i64 t117)) (fun _ hk => hk.2) (.int .i64 t118)) (fun _ hk => hk.2) (.int .i64 t119)) (fun _ hk => hk.2) (.bool t120)) (fun _ hk => hk.2) (.slice Ao22 t121.length co22)) (fun _ h_ => h_.1))) hb); have n1_ := Aside0.mk (Kd.R_elder' (by exact (Kd.R_mono (Kd.R_far (p := ⟨gb126, 4, none⟩) (Kd.R_far (p := ⟨gb126, 3, none⟩) (Kd.R_far (p := ⟨gb126, 2, none⟩) (Kd.R_far (p := ⟨gb126, 1, none⟩) (Kd.R_far (p := ⟨gb126, 0, none⟩) (Kd.R_types HO108.out BK126.out (by decide)) (fun _ hk => hk.2) (.int .i64 t117)) (fun _ hk => hk.2) (.int .i64 t118)) (fun _ hk => hk.2) (.int .i64 t119)) (fun _ hk => hk.2) (.bool t120)) (fun _ hk => hk.2) (.slice Ao22 t121.length co22)) (fun _ h_ => h_.1))) (Kd.R_base ho24) hb); have n2_ := Aside0.mk (Kd.R_elder' (by exact (Kd.R_mono (Kd.R_far (p := ⟨gb126, 4, none⟩) (Kd.R_far (p := ⟨gb126, 3, none⟩) (Kd.R_far (p := ⟨gb126, 2, none⟩) (Kd.R_far (p := ⟨gb126, 1, none⟩) (Kd.R_far (p := ⟨gb126, 0, none⟩) (Kd.R_types HO111.out BK126.out (by decide)) (fun _ hk => hk.2) (.int .i64 t117)) (fun _ hk => hk.2) (.int .i64 t118)) (fun _ hk => hk.2) (.int .i64 t119)) (fun _ hk => hk.2) (.bool t120)) (fun _ hk => hk.2) (.slice Ao22 t121.length co22)) (fun _ h_ => h_.1))) (Kd.R_base ho24) hb); have n3_ := Aside0.mk (Kd.R_elder' (by exact (Kd.R_mono (Kd.R_far (p := ⟨gb126, 4, none⟩) (Kd.R_far (p := ⟨gb126, 3, none⟩) (Kd.R_far (p := ⟨gb126, 2, none⟩) (Kd.R_far (p := ⟨gb126, 1, none⟩) (Kd.R_far (p := ⟨gb126, 0, none⟩) (Kd.R_types HO114.out BK126.out (by decide)) (fun _ hk => hk.2) (.int .i64 t117)) (fun _ hk => hk.2) (.int .i64 t118)) (fun _ hk => hk.2) (.int .i64 t119)) (fun _ hk => hk.2) (.bool t120)) (fun _ hk => hk.2) (.slice Ao22 t121.length co22)) (fun _ h_ => h_.1))) (Kd.R_base ho24) hb); have n4_ := Aside0.mk (Kd.R_below (by exact (Kd.R_mono (Kd.R_far (p := ⟨gb126, 4, none⟩) (Kd.R_far (p := ⟨gb126, 3, none⟩) (Kd.R_far (p := ⟨gb126, 2, none⟩) (Kd.R_far (p := ⟨gb126, 1, none⟩) (Kd.R_far (p := ⟨gb126, 0, none⟩) (Kd.R_types HO123.out BK126.out (by decide)) (fun _ hk => hk.2) (.int .i64 t117)) (fun _ hk => hk.2) (.int .i64 t118)) (fun _ hk => hk.2) (.int .i64 t119)) (fun _ hk => hk.2) (.bool t120)) (fun _ hk => hk.2) (.slice Ao22 t121.length co22)) (fun _ h_ => h_.1))) hb); have n5_ := Aside0.mk (Kd.R_lower (Kd.R_new' (Kd.R_new' (Kd.R_new' ho24 (Kd.R_lt (by exact (Kd.R_mono (Kd.R_far (p := ⟨gb126, 4, none⟩) (Kd.R_far (p := ⟨gb126, 3, none⟩) (Kd.R_far (p := ⟨gb126, 2, none⟩) (Kd.R_far (p := ⟨gb126, 1, none⟩) (Kd.R_far (p := ⟨gb126, 0, none⟩) (Kd.R_types HO108.out BK126.out (by decide)) (fun _ hk => hk.2) (.int .i64 t117)) (fun _ hk => hk.2) (.int .i64 t118)) (fun _ hk => hk.2) (.int .i64 t119)) (fun _ hk => hk.2) (.bool t120)) (fun _ hk => hk.2) (.slice Ao22 t121.length co22)) (fun _ h_ => h_.1))))) (Kd.R_lt (by exact (Kd.R_mono (Kd.R_far (p := ⟨gb126, 4, none⟩) (Kd.R_far (p := ⟨gb126, 3, none⟩) (Kd.R_far (p := ⟨gb126, 2, none⟩) (Kd.R_far (p := ⟨gb126, 1, none⟩) (Kd.R_far (p := ⟨gb126, 0, none⟩) (Kd.R_types HO111.out BK126.out (by decide)) (fun _ hk => hk.2) (.int .i64 t117)) (fun _ hk => hk.2) (.int .i64 t118)) (fun _ hk => hk.2) (.int .i64 t119)) (fun _ hk => hk.2) (.bool t120)) (fun _ hk => hk.2) (.slice Ao22 t121.length co22)) (fun _ h_ => h_.1))))) (Kd.R_lt (by exact (Kd.R_mono (Kd.R_far (p := ⟨gb126, 4, none⟩) (Kd.R_far (p := ⟨gb126, 3, none⟩) (Kd.R_far (p := ⟨gb126, 2, none⟩) (Kd.R_far (p := ⟨gb126, 1, none⟩) (Kd.R_far (p := ⟨gb126, 0, none⟩) (Kd.R_types HO114.out BK126.out (by decide)) (fun _ hk => hk.2) (.int .i64 t117)) (fun _ hk => hk.2) (.int .i64 t118)) (fun _ hk => hk.2) (.int .i64 t119)) (fun _ hk => hk.2) (.bool t120)) (fun _ hk => hk.2) (.slice Ao22 t121.length co22)) (fun _ h_ => h_.1))))) (below_size (by repeat (first | (with_reducible first | exact HB.out | apply below_alloc | apply pw_below_drewN | apply below_drew1 | refine below_set ?_ GE116.out | refine below_set ?_ GE126.out) | exact HB.out)))); have n6_ := Aside0.mk (blk_below (g := gb116) (o := .cells #[.int .i64 t101, .int .i64 t102, .slice Ao14 t103.length co14, .slice Ao15 t106.length co15, .slice Ao16 t109.length co16, .slice Ao17 t112.length co17] 25 (0, 0)) (by refine blk_far ?_ NB116_126.out _; refine blk_far ?_ NB116_126.out _; refine blk_far ?_ NB116_126.out _; refine blk_far ?_ NB116_126.out _; refine blk_far ?_ NB116_126.out _; exact BK116.out) hb); have n7_ := Aside0.mk (blk_below (g := gb126) (o := .cells #[.int .i64 t117, .int .i64 t118, .int .i64 t119, .bool t120, .slice Ao22 t121.length co22] 28 (0, 0)) (by refine blk_put (cs := #[.int .i64 t117, .int .i64 t118, .int .i64 t119, .bool t120, .slice none 0 0]) ?_ 4 _ rfl; refine blk_put (cs := #[.int .i64 t117, .int .i64 t118, .int .i64 t119, .bool false, .slice none 0 0]) ?_ 3 _ rfl; refine blk_put (cs := #[.int .i64 t117, .int .i64 t118, .int .i64 0, .bool false, .slice none 0 0]) ?_ 2 _ rfl; refine blk_put (cs := #[.int .i64 t117, .int .i64 0, .int .i64 0, .bool false, .slice none 0 0]) ?_ 1 _ rfl; refine blk_put (cs := #[.int .i64 0, .int .i64 0, .int .i64 0, .bool false, .slice none 0 0]) ?_ 0 _ rfl; exact BK126.out) hb); have n8_ := Aside0.mk (below_step (by repeat (first | (with_reducible first | exact HB.out | apply below_alloc | apply pw_below_drewN | apply below_drew1 | refine below_set ?_ GE116.out | refine below_set ?_ GE126.out) | exact HB.out)) hb); clear HO105; clear HO108; clear HO111; clear HO114; clear HO123; clear BK116; clear BK126; clear HB; have HO105 := n0_; have HO108 := n1_; have HO111 := n2_; have HO114 := n3_; have HO123 := n4_; have HO129 := n5_; have BK116 := n6_; have BK126 := n7_; have HB := n8_; clear n0_ n1_ n2_ n3_ n4_ n5_ n6_ n7_ n8_; clear hb ho24; have hcz25_0 : w23.cell? ⟨gb116, 0, none⟩ = some (.int .i64 t101) := (blk_cell BK116.out 0).trans rfl; have hcz25_1 : w23.cell? ⟨gb116, 1, none⟩ = some (.int .i64 t102) := (blk_cell BK116.out 1).trans rfl; have hcz25_2 : w23.cell? ⟨gb116, 2, none⟩ = some (.slice Ao14 t103.length co14) := (blk_cell BK116.out 2).trans rfl; have hcz25_3 : w23.cell? ⟨gb116, 3, none⟩ = some (.slice Ao15 t106.length co15) := (blk_cell BK116.out 3).trans rfl; have hcz25_4 : w23.cell? ⟨gb116, 4, none⟩ = some (.slice Ao16 t109.length co16) := (blk_cell BK116.out 4).trans rfl; have hcz25_5 : w23.cell? ⟨gb116, 5, none⟩ = some (.slice Ao17 t112.length co17) := (blk_cell BK116.out 5).trans rfl; have hfz25_0 := blk_frozen BK116.out 0; have hfz25_1 := blk_frozen BK116.out 1; have hfz25_2 := blk_frozen BK116.out 2; have hfz25_3 := blk_frozen BK116.out 3; have hfz25_4 := blk_frozen BK116.out 4; have hfz25_5 := blk_frozen BK116.out 5; obtain ⟨Ao26, co26, eo26⟩ := Kd.R_slice HO129.out; subst eo26) | (go_at_call 83; (with_reducible refine (ostiarykit_SameRecs.calls k _ _ t112 _ _ y127 true _ ?side1 ?side2 ?side3 ?side4 A4.out).mono ?_); (case side1 => repeat (first | exact (Kd.R_reads' HO114.out).2.2 | (with_reducible refine Kd.C_alloc ?_ _) | (with_reducible refine Kd.C_drewN ?_ _) | (with_reducible refine Kd.C_drew ?_))); (case side2 => exact (Kd.R_reads' HO114.out).2.1); (case side3 => repeat (first | exact (Kd.R_reads' HO129.out).2.2 | (with_reducible refine Kd.C_alloc ?_ _) | (with_reducible refine Kd.C_drewN ?_ _) | (with_reducible refine Kd.C_drew ?_))); (case side4 => exact (Kd.R_reads' HO129.out).2.1); rintro e w' ⟨rfl, ⟨nd, rfl⟩⟩; have hcz27_0 : w23.cell? ⟨gb126, 0, none⟩ = some (.int .i64 t117) := (blk_cell BK126.out 0).trans rfl; have hcz27_1 : w23.cell? ⟨gb126, 1, none⟩ = some (.int .i64 t118) := (blk_cell BK126.out 1).trans rfl; have hcz27_2 : w23.cell? ⟨gb126, 2, none⟩ = some (.int .i64 t119) := (blk_cell BK126.out 2).trans rfl; have hcz27_3 : w23.cell? ⟨gb126, 3, none⟩ = some (.bool t120) := (blk_cell BK126.out 3).trans rfl; have hcz27_4 : w23.cell? ⟨gb126, 4, none⟩ = some (.slice Ao22 t121.length co22) := (blk_cell BK126.out 4).trans rfl; have hfz27_0 := blk_frozen BK126.out 0; have hfz27_1 := blk_frozen BK126.out 1; have hfz27_2 := blk_frozen BK126.out 2; have hfz27_3 := blk_frozen BK126.out 3; have hfz27_4 := blk_frozen BK126.out 4) | (go_at_call 31; (refine (ostiarykit_SameEdns.calls k t117 t118 t119 t120 _ _ t121 1232 0 0 true _ _ ([] : List (S82)) true _ ?side1 ?side2 ?side3 ?side4 A8.out).mono ?_); (case side1 => repeat (first | exact (Kd.R_reads' HO123.out).2.2 | (with_reducible refine Kd.C_alloc ?_ _) | (with_reducible refine Kd.C_drewN ?_ _) | (with_reducible refine Kd.C_drew ?_))); (case side2 => exact (Kd.R_reads' HO123.out).2.1); (case side3 => exact Kd.C_nil _ _); (case side4 => exact Nat.le_refl _); rintro e w28 ⟨rfl, hb⟩; have n0_ := Aside0.mk (Kd.R_below (by (with_reducible repeat (first | apply Kd.R_alloc | apply Kd.R_drewN | apply Kd.R_drew)); exact HO105.out) hb); have n1_ := Aside0.mk (Kd.R_below (by (with_reducible repeat (first | apply Kd.R_alloc | apply Kd.R_drewN | apply Kd.R_drew)); exact HO108.out) hb); have n2_ := Aside0.mk (Kd.R_below (by (with_reducible repeat (first | apply Kd.R_alloc | apply Kd.R_drewN | apply Kd.R_drew)); exact HO111.out) hb); have n3_ := Aside0.mk (Kd.R_below (by (with_reducible repeat (first | apply Kd.R_alloc | apply Kd.R_drewN | apply Kd.R_drew)); exact HO114.out) hb); have n4_ := Aside0.mk (Kd.R_below (by (with_reducible repeat (first | apply Kd.R_alloc | apply Kd.R_drewN | apply Kd.R_drew)); exact HO123.out) hb); have n5_ := Aside0.mk (Kd.R_below (by (with_reducible repeat (first | apply Kd.R_alloc | apply Kd.R_drewN | apply Kd.R_drew)); exact HO129.out) hb); have n6_ := Aside0.mk (blk_below (g := gb116) (o := .cells #[.int .i64 t101, .int .i64 t102, .slice Ao14 t103.length co14, .slice Ao15 t106.length co15, .slice Ao16 t109.length co16, .slice Ao17 t112.length co17] 25 (0, 0)) (by (with_reducible repeat (first | refine blk_drewN ?_ _ | refine blk_drew ?_ | refine blk_alloc ?_ _)); exact BK116.out) hb); have n7_ := Aside0.mk (blk_below (g := gb126) (o := .cells #[.int .i64 t117, .int .i64 t118, .int .i64 t119, .bool t120, .slice Ao22 t121.length co22] 28 (0, 0)) (by (with_reducible repeat (first | refine blk_drewN ?_ _ | refine blk_drew ?_ | refine blk_alloc ?_ _)); exact BK126.out) hb); have n8_ := Aside0.mk (below_step (by repeat (first | (with_reducible first | exact HB.out | apply below_alloc | apply pw_below_drewN | apply below_drew1 | refine below_set ?_ GE116.out | refine below_set ?_ GE126.out) | exact HB.out)) hb); clear HO105; clear HO108; clear HO111; clear HO114; clear HO123; clear HO129; clear BK116; clear BK126; clear HB; have HO105 := n0_; have HO108 := n1_; have HO111 := n2_; have HO114 := n3_; have HO123 := n4_; have HO129 := n5_; have BK116 := n6_; have BK126 := n7_; have HB := n8_; clear n0_ n1_ n2_ n3_ n4_ n5_ n6_ n7_ n8_; (try clear hb); (try clear hb2); (try clear hk); (try clear hi); have hcz29_0 : w28.cell? ⟨gb116, 0, none⟩ = some (.int .i64 t101) := (blk_cell BK116.out 0).trans rfl; have hcz29_1 : w28.cell? ⟨gb116, 1, none⟩ = some (.int .i64 t102) := (blk_cell BK116.out 1).trans rfl; have hcz29_2 : w28.cell? ⟨gb116, 2, none⟩ = some (.slice Ao14 t103.length co14) := (blk_cell BK116.out 2).trans rfl; have hcz29_3 : w28.cell? ⟨gb116, 3, none⟩ = some (.slice Ao15 t106.length co15) := (blk_cell BK116.out 3).trans rfl; have hcz29_4 : w28.cell? ⟨gb116, 4, none⟩ = some (.slice Ao16 t109.length co16) := (blk_cell BK116.out 4).trans rfl; have hcz29_5 : w28.cell? ⟨gb116, 5, none⟩ = some (.slice Ao17 t112.length co17) := (blk_cell BK116.out 5).trans rfl; have hfz29_0 := blk_frozen BK116.out 0; have hfz29_1 := blk_frozen BK116.out 1; have hfz29_2 := blk_frozen BK116.out 2; have hfz29_3 := blk_frozen BK116.out 3; have hfz29_4 := blk_frozen BK116.out 4; have hfz29_5 := blk_frozen BK116.out 5) | (go_at_call 39; (with_reducible refine (edns_Room.calls t101 t102 _ _ t103 _ _ t106 _ _ t109 _ _ t112 t132 _ ?side1 ?side2 ?side3 ?side4 ?side5 ?side6 ?side7 ?side8 A10.out).mono ?_); (case side1 => repeat (first | exact (Kd.R_reads' HO105.out).2.2 | (with_reducible refine Kd.C_alloc ?_ _) | (with_reducible refine Kd.C_drewN ?_ _) | (with_reducible refine Kd.C_drew ?_))); (case side2 => exact (Kd.R_reads' HO105.out).2.1); (case side3 => repeat (first | exact (Kd.R_reads' HO108.out).2.2 | (with_reducible refine Kd.C_alloc ?_ _) | (with_reducible refine Kd.C_drewN ?_ _) | (with_reducible refine Kd.C_drew ?_))); (case side4 => exact (Kd.R_reads' HO108.out).2.1); (case side5 => repeat (first | exact (Kd.R_reads' HO111.out).2.2 | (with_reducible refine Kd.C_alloc ?_ _) | (with_reducible refine Kd.C_drewN ?_ _) | (with_reducible refine Kd.C_drew ?_))); (case side6 => exact (Kd.R_reads' HO111.out).2.1); (case side7 => repeat (first | exact (Kd.R_reads' HO114.out).2.2 | (with_reducible refine Kd.C_alloc ?_ _) | (with_reducible refine Kd.C_drewN ?_ _) | (with_reducible refine Kd.C_drew ?_))); (case side8 => exact (Kd.R_reads' HO114.out).2.1); rintro e w30 ⟨rfl, hb⟩; have n0_ := Aside0.mk (Kd.R_below (by exact HO105.out) hb); have n1_ := Aside0.mk (Kd.R_below (by exact HO108.out) hb); have n2_ := Aside0.mk (Kd.R_below (by exact HO111.out) hb); have n3_ := Aside0.mk (Kd.R_below (by exact HO114.out) hb); have n4_ := Aside0.mk (Kd.R_below (by exact HO123.out) hb); have n5_ := Aside0.mk (Kd.R_below (by exact HO129.out) hb); have n6_ := Aside0.mk (blk_below (g := gb116) (o := .cells #[.int .i64 t101, .int .i64 t102, .slice Ao14 t103.length co14, .slice Ao15 t106.length co15, .slice Ao16 t109.length co16, .slice Ao17 t112.length co17] 25 (0, 0)) (by exact BK116.out) hb); have n7_ := Aside0.mk (blk_below (g := gb126) (o := .cells #[.int .i64 t117, .int .i64 t118, .int .i64 t119, .bool t120, .slice Ao22 t121.length co22] 28 (0, 0)) (by exact BK126.out) hb); have n8_ := Aside0.mk (below_step (by repeat (first | (with_reducible first | exact HB.out | apply below_alloc | apply pw_below_drewN | apply below_drew1 | refine below_set ?_ GE116.out | refine below_set ?_ GE126.out) | exact HB.out)) hb); clear HO105; clear HO108; clear HO111; clear HO114; clear HO123; clear HO129; clear BK116; clear BK126; clear HB; have HO105 := n0_; have HO108 := n1_; have HO111 := n2_; have HO114 := n3_; have HO123 := n4_; have HO129 := n5_; have BK116 := n6_; have BK126 := n7_; have HB := n8_; clear n0_ n1_ n2_ n3_ n4_ n5_ n6_ n7_ n8_; (try clear hb); (try clear hb2); (try clear hk); (try clear hi)))
            go_ret
            exact ⟨by first | rfl | (simp [errW_none, errW_some] <;> rfl) | (simp [*, errW_none, errW_some] <;> rfl), by repeat (first | (with_reducible first | exact HB.out | apply below_alloc | apply pw_below_drewN | apply below_drew1 | refine below_set ?_ GE116.out | refine below_set ?_ GE126.out) | exact HB.out)⟩
          · replace c9 := Bool.eq_false_iff.mpr c9
            subst c9
            have H1 : (none) = some r := by rw [if_neg (show ¬ (false = true) by decide)] at H; exact H
            clear H
            have H := H1
            clear H1
            exact absurd H (by simp)
        · rw [if_neg c7] at H
          exact absurd H (by simp)
      · replace c6 := Bool.eq_false_iff.mpr c6
        subst c6
        have H1 : (none) = some r := by rw [if_neg (show ¬ (false = true) by decide)] at H; exact H
        clear H
        have H := H1
        clear H1
        exact absurd H (by simp)
    · replace c5 := Bool.eq_false_iff.mpr c5
      subst c5
      have H1 : (none) = some r := by rw [if_neg (show ¬ (false = true) by decide)] at H; exact H
      clear H
      have H := H1
      clear H1
      exact absurd H (by simp)
  · rw [if_neg c3] at H
    exact absurd H (by simp)
end Go.Proofs.Yteahdaddbmhfgaa.P
end
section
namespace Go.Proofs.Yteahdaddbmhfgaa.P
set_option maxRecDepth 100000
theorem awake_true : ostiarylaw09_awake.f 20 = some true := by kernel_rfl
end Go.Proofs.Yteahdaddbmhfgaa.P
end
section
namespace Go.Proofs.Yteahdaddbmhfgaa.P
open Go.RowKit Go.Proofs.YteahdaddbmhfgaaW.PrintWords Go.Proofs.YteahdaddbmhfgaaW.PrintLast Go.Proofs.YteahdaddbmhfgaaW.PrintMore
open Go.Proofs.YteahdaddbmhfgaaW
set_option linter.unusedVariables false
set_option linter.unusedSimpArgs false
def Puts.T3 : Bool × List (List Nat × List Nat) := (true, [([], []), ([0], [0]), ([], []), ([2, 1], [2]), ([], []), ([], []), ([4, 1, 3, 0, 1, 4, 5], [1, 4]), ([5, 3, 6, 0, 1, 2, 3, 4, 5, 6], [3, 5])])
def Puts.B3 : List Nat := [0, 1, 0, 7, 0, 0, 63, 127]
theorem Puts.tab3 : rtab .any (opsOf Try.f3 3) = Puts.T3 := by kernel_rfl
theorem Puts.bits3 : waitsOk Puts.T3.2 Puts.B3 = true := by kernel_rfl
def Puts.T6 : Bool × List (List Nat × List Nat) := (true, [([], []), ([], []), ([0, 1], [0, 1]), ([2, 2], [2]), ([3], [3]), ([3], [3]), ([4, 5, 3], [3, 4, 5]), ([3, 6], [3, 6]), ([7, 3], [7]), ([8], [8]), ([9, 8, 8], [8, 9]), ([8], [8]), ([11, 10, 8], [8, 11]), ([10, 12, 8], [8, 10, 12]), ([8, 13], [8, 13]), ([14, 12, 0, 1, 2, 3, 4, 5, 6, 7, 8, 9, 10, 11, 12, 13, 14], [14])])
def Puts.B6 : List Nat := [0, 0, 3, 7, 15, 15, 63, 127, 255, 511, 1023, 511, 4095, 8191, 16383, 32767]
theorem Puts.tab6 : rtab .any (opsOf Try.f3 6) = Puts.T6 := by kernel_rfl
theorem Puts.bits6 : waitsOk Puts.T6.2 Puts.B6 = true := by kernel_rfl
abbrev Z28 : Obj := .cells #[.int .i64 0, .int .i64 0, .int .i64 0, .bool false, .slice none 0 0] 28
structure T3 where
  b5 : Nat
  b6 : Nat
  A1 : Option Addr
  c1 : Nat
  A2 : Option Addr
  c2 : Nat
  A3 : Option Addr
  c3 : Nat
  A4 : Option Addr
  c4 : Nat
  Ao : Option Addr
  co : Nat
structure T3F (W w' : World) (q : List S79) (an ns ar : List S48) (eo : List S82) (s : T3) : Prop where
  bel : Below W.heap.size W w'
  k5 : w'.heap[s.b5]? = some (.cells #[.int .i64 0, .int .i64 0, .slice none 0 0, .slice none 0 0, .slice none 0 0, .slice none 0 0] 25 (0, 0))
  k6 : w'.heap[s.b6]? = some (.cells #[.int .i64 0, .int .i64 0, .int .i64 0, .bool false, .slice none 0 0] 28 (0, 0))
  g5 : W.heap.size ≤ s.b5
  g6 : W.heap.size ≤ s.b6
  m : Row4 W.heap.size w' (q ++ [mark79]) (an ++ [mark48]) (ns ++ [mark48]) (ar ++ [mark48]) s.A1 s.c1 s.A2 s.c2 s.A3 s.c3 s.A4 s.c4
  e : Kd.R k82 82 w' W.heap.size (fun _ => True) (.slice s.Ao eo.length s.co) eo
section
variable {W : World} {g : Nat}
abbrev five (W : World) (g : Nat) (a b c d e : Value) : World := ((((W.setCell ⟨g, 0, none⟩ a).setCell ⟨g, 1, none⟩ b).setCell ⟨g, 2, none⟩ c).setCell ⟨g, 3, none⟩ d).setCell ⟨g, 4, none⟩ e
theorem five_blk {x0 x1 x2 x3 x4 : Value} {t : Nat} (h : W.heap[g]? = some (.cells #[x0, x1, x2, x3, x4] t (0, 0))) (a b c d e : Value) : (five W g a b c d e).heap[g]? = some (.cells #[a, b, c, d, e] t (0, 0)) :=
  blk_put (blk_put (blk_put (blk_put (blk_put h 0 a rfl) 1 b rfl) 2 c rfl) 3 d rfl) 4 e rfl
theorem five_off {g' : Nat} {t : Nat} {cs : Array Value} (h : W.heap[g]? = some (.cells cs t (0, 0))) (hne : g ≠ g') (a b c d e : Value) : (five W g' a b c d e).heap[g]? = some (.cells cs t (0, 0)) :=
  blk_far (p := ⟨g', 4, none⟩) (blk_far (p := ⟨g', 3, none⟩) (blk_far (p := ⟨g', 2, none⟩) (blk_far (p := ⟨g', 1, none⟩) (blk_far (p := ⟨g', 0, none⟩) h hne a) hne b) hne c) hne d) hne e
theorem five_row {α : Type} {k : Kd α} {ty : Nat} {base : Nat} {v : Value} {xs : List α} {t : Nat} {x0 x1 x2 x3 x4 : Value} (h : Kd.R k ty W base (fun _ => True) v xs) (hb : W.heap[g]? = some (.cells #[x0, x1, x2, x3, x4] t (0, 0))) (ht : ∀ q, q ∈ ty :: k.E → q ≠ t) (a b c d e : Value) :
    Kd.R k ty (five W g a b c d e) base (fun _ => True) v xs :=
  R_store (R_store (R_store (R_store (R_store h hb ht) (blk_put hb 0 a rfl) ht) (blk_put (blk_put hb 0 a rfl) 1 b rfl) ht) (blk_put (blk_put (blk_put hb 0 a rfl) 1 b rfl) 2 c rfl) ht) (blk_put (blk_put (blk_put (blk_put hb 0 a rfl) 1 b rfl) 2 c rfl) 3 d rfl) ht
theorem five_below {w : World} {B : Nat} (h : Below B w W) (hg : B ≤ g) (a b c d e : Value) : Below B w (five W g a b c d e) :=
  ((((h.setCell hg _).setCell hg _).setCell hg _).setCell hg _).setCell hg _
end
set_option maxRecDepth 100000 in
set_option maxHeartbeats 8000000 in
theorem puts_walk (k : Nat) (i f : Int) (Aq : Option Addr) (cq : Nat) (q : List S79) (Aa : Option Addr) (ca : Nat) (an : List S48) (An : Option Addr) (cn : Nat) (ns : List S48) (Ar : Option Addr) (cr : Nat) (ar : List S48) (e1 e2 e3 : Int) (e4 : Bool) (Ae : Option Addr) (ce : Nat) (eo : List S82) (w : World)
    (hq : Kd.C k79 w Aq q.length q) (lq : q.length ≤ cq) (ha : Kd.C k48 w Aa an.length an) (la : an.length ≤ ca) (hn : Kd.C k48 w An ns.length ns) (ln : ns.length ≤ cn) (hr : Kd.C k48 w Ar ar.length ar) (lr : ar.length ≤ cr) (he : Kd.C k82 w Ae eo.length eo) (le : eo.length ≤ ce)
    (hs : q.length + an.length + ns.length + ar.length ≤ 200) (hbig : ostiarykit_BigMessage.f k i f q an ns ar 200 66000 = some false) (hbe : ostiarykit_BigEdns.f k e1 e2 e3 e4 eo 100 66000 = some false) (hce : ostiarykit_CopyEdns.f e1 e2 e3 e4 eo = some (e1, e2, e3, e4, eo))
    (r1 r2 : Int) (r3 : List S79) (r4 r5 r6 : List S48) (r7 : Int) (hpu : edns_Put.f k i f q an ns ar e1 e2 e3 e4 eo = some (r1, r2, r3, r4, r5, r6, r7)) (hrp : ostiaryref09_Put.f k i f q an ns ar e1 e2 e3 e4 eo = some (r1, r2, r3, r4, r5, r6, r7))
    (sz : r3.length + r4.length + r5.length + r6.length ≤ 201) (hsm : ostiarykit_SameMessage.f k r1 r2 r3 r4 r5 r6 r1 r2 r3 r4 r5 r6 = some true) (v1 : Int) (hck : edns_Check.f k e1 e2 e3 e4 eo = some v1) (hrc : ostiaryref09_Check.f k e1 e2 e3 e4 eo = some v1)
    (hkm : ostiarykit_SameMessage.f k i f q an ns ar i f q an ns ar = some true) (hke : ostiarykit_SameEdns.f k e1 e2 e3 e4 eo e1 e2 e3 e4 eo = some true) :
    Calls Try.prog 3 #[.agg #[.int .i64 i, .int .i64 f, .slice Aq q.length cq, .slice Aa an.length ca, .slice An ns.length cn, .slice Ar ar.length cr], .agg #[.int .i64 e1, .int .i64 e2, .int .i64 e3, .bool e4, .slice Ae eo.length ce]] w fun e w' => e = .returned (.bool true) ∧ Below w.heap.size w w' := by
  have HQ := Aside0.mk hq
  have HA := Aside0.mk ha
  have HN := Aside0.mk hn
  have HR := Aside0.mk hr
  have HE := Aside0.mk he
  have HBIG_ := Aside0.mk hbig
  have HBE_ := Aside0.mk hbe
  have HCE_ := Aside0.mk hce
  have HPU_ := Aside0.mk hpu
  have HRP_ := Aside0.mk hrp
  have HSM_ := Aside0.mk hsm
  have HCK_ := Aside0.mk hck
  have HRC_ := Aside0.mk hrc
  have HKM_ := Aside0.mk hkm
  have HKE_ := Aside0.mk hke
  clear hq ha hn hr he hbig hbe hce hpu hrp hsm hck hrc hkm hke
  have hBM := fun W (hb : Below w.heap.size w W) => ostiarykit_BigMessage.calls k i f Aq cq q Aa ca an An cn ns Ar cr ar 200 66000 false W (Kd.C_below HQ.out hb) lq (Kd.C_below HA.out hb) la (Kd.C_below HN.out hb) ln (Kd.C_below HR.out hb) lr HBIG_.out
  have hBE := fun W (hb : Below w.heap.size w W) => ostiarykit_BigEdns.calls k e1 e2 e3 e4 Ae ce eo 100 66000 false W (Kd.C_below HE.out hb) le HBE_.out
  have hCP := fun W (hb : Below w.heap.size w W) => copyMessage_calls i f Aq cq q Aa ca an An cn ns Ar cr ar W (Kd.C_below HQ.out hb) lq (Kd.C_below HA.out hb) la (Kd.C_below HN.out hb) ln (Kd.C_below HR.out hb) lr (by omega)
  have hCE := fun W (hb : Below w.heap.size w W) => ostiarykit_CopyEdns.calls e1 e2 e3 e4 Ae ce eo e1 e2 e3 e4 eo W (Kd.C_below HE.out hb) le HCE_.out
  go_enter Try.func3, Try.ntmps3
  go_upto_region 3 with (first
    | (go_at_call 20; (with_reducible refine (hBM _ ?hb).mono ?_); (case hb => exact below_alloc (below_alloc (Below.refl _ _) _) _); rintro e w1 ⟨rfl, hd⟩; have HB1 := Aside0.mk (below_step (below_alloc (below_alloc (Below.refl w.heap.size w) (.cells #[.int .i64 i, .int .i64 f, .slice Aq q.length cq, .slice Aa an.length ca, .slice An ns.length cn, .slice Ar ar.length cr] 25)) (.cells #[.int .i64 e1, .int .i64 e2, .int .i64 e3, .bool e4, .slice Ae eo.length ce] 28)) hd); have K2 := Aside0.mk (blk_below (blk_alloc (blk_new w (.cells #[.int .i64 i, .int .i64 f, .slice Aq q.length cq, .slice Aa an.length ca, .slice An ns.length cn, .slice Ar ar.length cr] 25)) (.cells #[.int .i64 e1, .int .i64 e2, .int .i64 e3, .bool e4, .slice Ae eo.length ce] 28)) hd); have K3 := Aside0.mk (blk_below (blk_new (w.alloc (.cells #[.int .i64 i, .int .i64 f, .slice Aq q.length cq, .slice Aa an.length ca, .slice An ns.length cn, .slice Ar ar.length cr] 25)) (.cells #[.int .i64 e1, .int .i64 e2, .int .i64 e3, .bool e4, .slice Ae eo.length ce] 28)) hd); simp only [World.size_alloc] at K3; have z0 : w1.cell? ⟨w.heap.size + 1, 0, none⟩ = some _ := (blk_cell K3.out 0).trans rfl; have z1 : w1.cell? ⟨w.heap.size + 1, 1, none⟩ = some _ := (blk_cell K3.out 1).trans rfl; have z2 : w1.cell? ⟨w.heap.size + 1, 2, none⟩ = some _ := (blk_cell K3.out 2).trans rfl; have z3 : w1.cell? ⟨w.heap.size + 1, 3, none⟩ = some _ := (blk_cell K3.out 3).trans rfl; have z4 : w1.cell? ⟨w.heap.size + 1, 4, none⟩ = some _ := (blk_cell K3.out 4).trans rfl; clear hd)
    | (go_at_call 21; (with_reducible refine (hBE _ ?hb).mono ?_); (case hb => exact HB1.out); rintro e w2 ⟨rfl, hd⟩; have HB2 := Aside0.mk (below_step HB1.out hd); have J2 := Aside0.mk (blk_below K2.out hd); have J3 := Aside0.mk (blk_below K3.out hd); clear hd))
  clear hBM hBE HBIG_ HBE_ HB1 K2 K3 z0 z1 z2 z3 z4
  refine wp_only ?_
  refine start_ (n := 8) (S := fun w' => w'.heap[w.heap.size]? = some (.cells #[.int .i64 i, .int .i64 f, .slice Aq q.length cq, .slice Aa an.length ca, .slice An ns.length cn, .slice Ar ar.length cr] 25 (0, 0)) ∧ w'.heap[w.heap.size + 1]? = some (.cells #[.int .i64 e1, .int .i64 e2, .int .i64 e3, .bool e4, .slice Ae eo.length ce] 28 (0, 0))) (ds := [6, 7]) #[false, false, false, false, false, false, false, false] (by kernel_rfl) rfl rfl ⟨blk_drew J2.out, blk_drew J3.out⟩ (fun hHeld => ?_)
  refine with_tabW Puts.tab3 Puts.bits3 (fun HT_ HW_ => ?_)
  have HB := Aside0.mk (below_drew1 (Below.refl w2.heap.size w2))
  generalize w2.drew = W6 at HB hHeld ⊢
  refine take_ (i := 0) (N := some 18) (v := ?_) (a' := ?_) #[true, false, false, false, false, false, false, false] rfl rfl (take_ofW HT_.out HW_.out (by kernel_rfl)) (fun _ _ _ h => h) (Or.inl ⟨by rfl, ?_⟩) hHeld ?_ ?_
  rotate_left
  · rintro w' ⟨s1, s2⟩
    have x0 := (blk_cell s1 0).trans rfl
    have x1 := (blk_cell s1 1).trans rfl
    have x2 := (blk_cell s1 2).trans rfl
    have x3 := (blk_cell s1 3).trans rfl
    have x4 := (blk_cell s1 4).trans rfl
    have x5 := (blk_cell s1 5).trans rfl
    clear s1 s2
    go_simp
    with_reducible rfl
  rotate_left
  · simp only [Act.put, List.setIfInBounds_toArray, List.set_cons_zero, List.set_cons_succ, i64_w, i32_w]
    rfl
  refine take_ (i := 2) (N := some 20) (v := ?_) (a' := ?_) #[true, false, true, false, false, false, false, false] rfl rfl (take_ofW HT_.out HW_.out (by kernel_rfl)) (fun _ _ _ h => h) (Or.inl ⟨by rfl, ?_⟩) hHeld ?_ ?_
  rotate_left
  · rintro w' ⟨s1, s2⟩
    have x0 := (blk_cell s2 0).trans rfl
    have x1 := (blk_cell s2 1).trans rfl
    have x2 := (blk_cell s2 2).trans rfl
    have x3 := (blk_cell s2 3).trans rfl
    have x4 := (blk_cell s2 4).trans rfl
    clear s1 s2
    go_simp
    with_reducible rfl
  rotate_left
  · simp only [Act.put, List.setIfInBounds_toArray, List.set_cons_zero, List.set_cons_succ, i64_w, i32_w]
    rfl
  refine join_ (σ := T3) 2 #[true, true, true, true, true, true, false, false] (fun s => [(19, .agg #[.int .i64 i, .int .i64 f, .slice s.A1 q.length s.c1, .slice s.A2 an.length s.c2, .slice s.A3 ns.length s.c3, .slice s.A4 ar.length s.c4]), (21, .agg #[.int .i64 e1, .int .i64 e2, .int .i64 e3, .bool e4, .slice s.Ao eo.length s.co]), (5, .pointer (some ⟨s.b5, 0, none⟩)), (6, .pointer (some ⟨s.b6, 0, none⟩))]) (fun s w' => T3F w2 w' q an ns ar eo s) ?cont ?orders
  case orders =>
    intro hJ
    refine three_ (i := 1) (j := 4) (k := 5) (Ni := some 19) (Nj := some 5) (Nk := some 6) #[true, true, true, false, false, false, false, false] #[true, false, true, false, true, false, false, false] #[true, false, true, false, false, true, false, false] rfl rfl rfl rfl rfl rfl (three_of HT_.out (by kernel_rfl)) (by decide) (by decide) (by decide) (fun K hK => ?_) (fun K hK => ?_) (fun K hK => ?_)
    ·
      refine goes_ Try.func22 (by kernel_rfl) rfl #[.agg #[.int .i64 i, .int .i64 f, .slice Aq q.length cq, .slice Aa an.length ca, .slice An ns.length cn, .slice Ar ar.length cr]] (by rfl) rfl rfl (by (try simp only [List.map_toArray, List.map_cons, List.map_nil]); first | done | rfl) ?_
      with_reducible refine (hCP _ (below_step HB2.out HB.out)).mono ?_
      rintro e W6 ⟨A1, c1, A2, c2, A3, c3, A4, c4, rfl, hr1, hr2, hr3, hr4, hb⟩
      refine ⟨_, rfl, ?_⟩
      have HM := Aside0.mk (Row4.mk (Kd.R_lower hr1 HB.out.size) (Kd.R_lower hr2 HB.out.size) (Kd.R_lower hr3 HB.out.size) (Kd.R_lower hr4 HB.out.size))
      replace HB := Aside0.mk (below_step HB.out hb)
      clear hb hr1 hr2 hr3 hr4
      refine hK.out _ _ ⟨blk_below J2.out HB.out, blk_below J3.out HB.out⟩ (fun hHeld => ?_)
      clear hK K
      refine norm_ (a' := ?_) ?_ ?_
      rotate_left
      · show Act.put _ (some 19) _ = _
        simp only [Act.put, List.setIfInBounds_toArray, List.set_cons_zero, List.set_cons_succ, i64_w, i32_w]
        rfl
      refine three_ (i := 3) (j := 4) (k := 5) (Ni := some 21) (Nj := some 5) (Nk := some 6) #[true, true, true, true, false, false, false, false] #[true, true, true, false, true, false, false, false] #[true, true, true, false, false, true, false, false] rfl rfl rfl rfl rfl rfl (three_of HT_.out (by kernel_rfl)) (by decide) (by decide) (by decide) (fun K hK => ?_) (fun K hK => ?_) (fun K hK => ?_)
      ·
        refine goes_ Try.func23 (by kernel_rfl) rfl #[.agg #[.int .i64 e1, .int .i64 e2, .int .i64 e3, .bool e4, .slice Ae eo.length ce]] (by rfl) rfl rfl (by (try simp only [List.map_toArray, List.map_cons, List.map_nil]); first | done | rfl) ?_
        with_reducible refine (hCE _ (below_step HB2.out HB.out)).mono ?_
        rintro e W7 ⟨u1, rfl, hr1, hb⟩
        obtain ⟨Ao, co, rfl⟩ := Kd.R_slice hr1
        refine ⟨_, rfl, ?_⟩
        replace HM := Aside0.mk (HM.out.below hb)
        have HO := Aside0.mk (Kd.R_lower hr1 HB.out.size)
        replace HB := Aside0.mk (below_step HB.out hb)
        clear hb hr1
        refine hK.out _ _ ⟨blk_below J2.out HB.out, blk_below J3.out HB.out⟩ (fun hHeld => ?_)
        clear hK K
        refine norm_ (a' := ?_) ?_ ?_
        rotate_left
        · show Act.put _ (some 21) _ = _
          simp only [Act.put, List.setIfInBounds_toArray, List.set_cons_zero, List.set_cons_succ, i64_w, i32_w]
          rfl
        refine two_ (i := 4) (j := 5) (Ni := some 5) (Nj := some 6) #[true, true, true, true, true, false, false, false] #[true, true, true, true, false, true, false, false] rfl rfl rfl rfl (two_of HT_.out (by kernel_rfl)) (by decide) (by decide) (fun K hK => ?_) (fun K hK => ?_)
        ·
          have HG5 := Aside0.mk (HB.out.size)
          replace HM := Aside0.mk (HM.out.alloc Z25)
          replace HO := Aside0.mk (Kd.R_alloc HO.out Z25)
          have K5 := Aside0.mk (blk_new W7 Z25)
          replace HB := Aside0.mk (below_alloc HB.out Z25)
          refine event_step (w1 := W7.alloc Z25) (v := .pointer (some ⟨W7.heap.size, 0, none⟩)) ?hgk ?hrk ?_
          (case hgk => rfl)
          (case hrk => first | (go_simp; done) | (go_simp; rfl))
          obtain ⟨W8, hw5⟩ : ∃ w5, W7.alloc Z25 = w5 := ⟨_, rfl⟩
          obtain ⟨b8, hb5⟩ : ∃ b5, W7.heap.size = b5 := ⟨_, rfl⟩
          rw [hw5] at HM HO K5 HB ⊢
          rw [hb5] at K5 HG5 ⊢
          clear hw5 hb5
          refine hK.out _ _ ⟨blk_below J2.out HB.out, blk_below J3.out HB.out⟩ (fun hHeld => ?_)
          clear hK K
          refine norm_ (a' := ?_) ?_ ?_
          rotate_left
          · show Act.put _ (some 5) _ = _
            simp only [Act.put, List.setIfInBounds_toArray, List.set_cons_zero, List.set_cons_succ, i64_w, i32_w]
            rfl
          refine one_ (i := 5) (N := some 6) #[true, true, true, true, true, true, false, false] rfl rfl (one_of HT_.out (by kernel_rfl)) (by decide) (fun K hK => ?_)
          have HG6 := Aside0.mk (HB.out.size)
          replace HM := Aside0.mk (HM.out.alloc Z28)
          replace HO := Aside0.mk (Kd.R_alloc HO.out Z28)
          replace K5 := Aside0.mk (blk_alloc K5.out Z28)
          have K6 := Aside0.mk (blk_new W8 Z28)
          replace HB := Aside0.mk (below_alloc HB.out Z28)
          refine event_step (w1 := W8.alloc Z28) (v := .pointer (some ⟨W8.heap.size, 0, none⟩)) ?hgk ?hrk ?_
          (case hgk => rfl)
          (case hrk => first | (go_simp; done) | (go_simp; rfl))
          obtain ⟨W9, hw5⟩ : ∃ w5, W8.alloc Z28 = w5 := ⟨_, rfl⟩
          obtain ⟨b9, hb5⟩ : ∃ b5, W8.heap.size = b5 := ⟨_, rfl⟩
          rw [hw5] at HM HO K5 K6 HB ⊢
          rw [hb5] at K6 HG6 ⊢
          clear hw5 hb5
          refine hK.out _ _ ⟨blk_below J2.out HB.out, blk_below J3.out HB.out⟩ (fun hHeld => ?_)
          clear hK K
          refine norm_ (a' := ?_) ?_ ?_
          rotate_left
          · show Act.put _ (some 6) _ = _
            simp only [Act.put, List.setIfInBounds_toArray, List.set_cons_zero, List.set_cons_succ, i64_w, i32_w]
            rfl
          exact hJ (T3.mk _ _ A1 c1 A2 c2 A3 c3 A4 c4 Ao co) _ ⟨HB.out, K5.out, K6.out, HG5.out, HG6.out, HM.out, HO.out⟩
        ·
          have HG6 := Aside0.mk (HB.out.size)
          replace HM := Aside0.mk (HM.out.alloc Z28)
          replace HO := Aside0.mk (Kd.R_alloc HO.out Z28)
          have K6 := Aside0.mk (blk_new W7 Z28)
          replace HB := Aside0.mk (below_alloc HB.out Z28)
          refine event_step (w1 := W7.alloc Z28) (v := .pointer (some ⟨W7.heap.size, 0, none⟩)) ?hgk ?hrk ?_
          (case hgk => rfl)
          (case hrk => first | (go_simp; done) | (go_simp; rfl))
          obtain ⟨W10, hw5⟩ : ∃ w5, W7.alloc Z28 = w5 := ⟨_, rfl⟩
          obtain ⟨b10, hb5⟩ : ∃ b5, W7.heap.size = b5 := ⟨_, rfl⟩
          rw [hw5] at HM HO K6 HB ⊢
          rw [hb5] at K6 HG6 ⊢
          clear hw5 hb5
          refine hK.out _ _ ⟨blk_below J2.out HB.out, blk_below J3.out HB.out⟩ (fun hHeld => ?_)
          clear hK K
          refine norm_ (a' := ?_) ?_ ?_
          rotate_left
          · show Act.put _ (some 6) _ = _
            simp only [Act.put, List.setIfInBounds_toArray, List.set_cons_zero, List.set_cons_succ, i64_w, i32_w]
            rfl
          refine one_ (i := 4) (N := some 5) #[true, true, true, true, true, true, false, false] rfl rfl (one_of HT_.out (by kernel_rfl)) (by decide) (fun K hK => ?_)
          have HG5 := Aside0.mk (HB.out.size)
          replace HM := Aside0.mk (HM.out.alloc Z25)
          replace HO := Aside0.mk (Kd.R_alloc HO.out Z25)
          replace K6 := Aside0.mk (blk_alloc K6.out Z25)
          have K5 := Aside0.mk (blk_new W10 Z25)
          replace HB := Aside0.mk (below_alloc HB.out Z25)
          refine event_step (w1 := W10.alloc Z25) (v := .pointer (some ⟨W10.heap.size, 0, none⟩)) ?hgk ?hrk ?_
          (case hgk => rfl)
          (case hrk => first | (go_simp; done) | (go_simp; rfl))
          obtain ⟨W11, hw5⟩ : ∃ w5, W10.alloc Z25 = w5 := ⟨_, rfl⟩
          obtain ⟨b11, hb5⟩ : ∃ b5, W10.heap.size = b5 := ⟨_, rfl⟩
          rw [hw5] at HM HO K6 K5 HB ⊢
          rw [hb5] at K5 HG5 ⊢
          clear hw5 hb5
          refine hK.out _ _ ⟨blk_below J2.out HB.out, blk_below J3.out HB.out⟩ (fun hHeld => ?_)
          clear hK K
          refine norm_ (a' := ?_) ?_ ?_
          rotate_left
          · show Act.put _ (some 5) _ = _
            simp only [Act.put, List.setIfInBounds_toArray, List.set_cons_zero, List.set_cons_succ, i64_w, i32_w]
            rfl
          exact hJ (T3.mk _ _ A1 c1 A2 c2 A3 c3 A4 c4 Ao co) _ ⟨HB.out, K5.out, K6.out, HG5.out, HG6.out, HM.out, HO.out⟩
      ·
        have HG5 := Aside0.mk (HB.out.size)
        replace HM := Aside0.mk (HM.out.alloc Z25)
        have K5 := Aside0.mk (blk_new W6 Z25)
        replace HB := Aside0.mk (below_alloc HB.out Z25)
        refine event_step (w1 := W6.alloc Z25) (v := .pointer (some ⟨W6.heap.size, 0, none⟩)) ?hgk ?hrk ?_
        (case hgk => rfl)
        (case hrk => first | (go_simp; done) | (go_simp; rfl))
        obtain ⟨W12, hw5⟩ : ∃ w5, W6.alloc Z25 = w5 := ⟨_, rfl⟩
        obtain ⟨b12, hb5⟩ : ∃ b5, W6.heap.size = b5 := ⟨_, rfl⟩
        rw [hw5] at HM K5 HB ⊢
        rw [hb5] at K5 HG5 ⊢
        clear hw5 hb5
        refine hK.out _ _ ⟨blk_below J2.out HB.out, blk_below J3.out HB.out⟩ (fun hHeld => ?_)
        clear hK K
        refine norm_ (a' := ?_) ?_ ?_
        rotate_left
        · show Act.put _ (some 5) _ = _
          simp only [Act.put, List.setIfInBounds_toArray, List.set_cons_zero, List.set_cons_succ, i64_w, i32_w]
          rfl
        refine two_ (i := 3) (j := 5) (Ni := some 21) (Nj := some 6) #[true, true, true, true, true, false, false, false] #[true, true, true, false, true, true, false, false] rfl rfl rfl rfl (two_of HT_.out (by kernel_rfl)) (by decide) (by decide) (fun K hK => ?_) (fun K hK => ?_)
        ·
          refine goes_ Try.func23 (by kernel_rfl) rfl #[.agg #[.int .i64 e1, .int .i64 e2, .int .i64 e3, .bool e4, .slice Ae eo.length ce]] (by rfl) rfl rfl (by (try simp only [List.map_toArray, List.map_cons, List.map_nil]); first | done | rfl) ?_
          with_reducible refine (hCE _ (below_step HB2.out HB.out)).mono ?_
          rintro e W13 ⟨u1, rfl, hr1, hb⟩
          obtain ⟨Ao, co, rfl⟩ := Kd.R_slice hr1
          refine ⟨_, rfl, ?_⟩
          replace HM := Aside0.mk (HM.out.below hb)
          replace K5 := Aside0.mk (blk_below K5.out hb)
          have HO := Aside0.mk (Kd.R_lower hr1 HB.out.size)
          replace HB := Aside0.mk (below_step HB.out hb)
          clear hb hr1
          refine hK.out _ _ ⟨blk_below J2.out HB.out, blk_below J3.out HB.out⟩ (fun hHeld => ?_)
          clear hK K
          refine norm_ (a' := ?_) ?_ ?_
          rotate_left
          · show Act.put _ (some 21) _ = _
            simp only [Act.put, List.setIfInBounds_toArray, List.set_cons_zero, List.set_cons_succ, i64_w, i32_w]
            rfl
          refine one_ (i := 5) (N := some 6) #[true, true, true, true, true, true, false, false] rfl rfl (one_of HT_.out (by kernel_rfl)) (by decide) (fun K hK => ?_)
          have HG6 := Aside0.mk (HB.out.size)
          replace HM := Aside0.mk (HM.out.alloc Z28)
          replace K5 := Aside0.mk (blk_alloc K5.out Z28)
          replace HO := Aside0.mk (Kd.R_alloc HO.out Z28)
          have K6 := Aside0.mk (blk_new W13 Z28)
          replace HB := Aside0.mk (below_alloc HB.out Z28)
          refine event_step (w1 := W13.alloc Z28) (v := .pointer (some ⟨W13.heap.size, 0, none⟩)) ?hgk ?hrk ?_
          (case hgk => rfl)
          (case hrk => first | (go_simp; done) | (go_simp; rfl))
          obtain ⟨W14, hw5⟩ : ∃ w5, W13.alloc Z28 = w5 := ⟨_, rfl⟩
          obtain ⟨b14, hb5⟩ : ∃ b5, W13.heap.size = b5 := ⟨_, rfl⟩
          rw [hw5] at HM K5 HO K6 HB ⊢
          rw [hb5] at K6 HG6 ⊢
          clear hw5 hb5
          refine hK.out _ _ ⟨blk_below J2.out HB.out, blk_below J3.out HB.out⟩ (fun hHeld => ?_)
          clear hK K
          refine norm_ (a' := ?_) ?_ ?_
          rotate_left
          · show Act.put _ (some 6) _ = _
            simp only [Act.put, List.setIfInBounds_toArray, List.set_cons_zero, List.set_cons_succ, i64_w, i32_w]
            rfl
          exact hJ (T3.mk _ _ A1 c1 A2 c2 A3 c3 A4 c4 Ao co) _ ⟨HB.out, K5.out, K6.out, HG5.out, HG6.out, HM.out, HO.out⟩
        ·
          have HG6 := Aside0.mk (HB.out.size)
          replace HM := Aside0.mk (HM.out.alloc Z28)
          replace K5 := Aside0.mk (blk_alloc K5.out Z28)
          have K6 := Aside0.mk (blk_new W12 Z28)
          replace HB := Aside0.mk (below_alloc HB.out Z28)
          refine event_step (w1 := W12.alloc Z28) (v := .pointer (some ⟨W12.heap.size, 0, none⟩)) ?hgk ?hrk ?_
          (case hgk => rfl)
          (case hrk => first | (go_simp; done) | (go_simp; rfl))
          obtain ⟨W15, hw5⟩ : ∃ w5, W12.alloc Z28 = w5 := ⟨_, rfl⟩
          obtain ⟨b15, hb5⟩ : ∃ b5, W12.heap.size = b5 := ⟨_, rfl⟩
          rw [hw5] at HM K5 K6 HB ⊢
          rw [hb5] at K6 HG6 ⊢
          clear hw5 hb5
          refine hK.out _ _ ⟨blk_below J2.out HB.out, blk_below J3.out HB.out⟩ (fun hHeld => ?_)
          clear hK K
          refine norm_ (a' := ?_) ?_ ?_
          rotate_left
          · show Act.put _ (some 6) _ = _
            simp only [Act.put, List.setIfInBounds_toArray, List.set_cons_zero, List.set_cons_succ, i64_w, i32_w]
            rfl
          refine one_ (i := 3) (N := some 21) #[true, true, true, true, true, true, false, false] rfl rfl (one_of HT_.out (by kernel_rfl)) (by decide) (fun K hK => ?_)
          refine goes_ Try.func23 (by kernel_rfl) rfl #[.agg #[.int .i64 e1, .int .i64 e2, .int .i64 e3, .bool e4, .slice Ae eo.length ce]] (by rfl) rfl rfl (by (try simp only [List.map_toArray, List.map_cons, List.map_nil]); first | done | rfl) ?_
          with_reducible refine (hCE _ (below_step HB2.out HB.out)).mono ?_
          rintro e W16 ⟨u1, rfl, hr1, hb⟩
          obtain ⟨Ao, co, rfl⟩ := Kd.R_slice hr1
          refine ⟨_, rfl, ?_⟩
          replace HM := Aside0.mk (HM.out.below hb)
          replace K5 := Aside0.mk (blk_below K5.out hb)
          replace K6 := Aside0.mk (blk_below K6.out hb)
          have HO := Aside0.mk (Kd.R_lower hr1 HB.out.size)
          replace HB := Aside0.mk (below_step HB.out hb)
          clear hb hr1
          refine hK.out _ _ ⟨blk_below J2.out HB.out, blk_below J3.out HB.out⟩ (fun hHeld => ?_)
          clear hK K
          refine norm_ (a' := ?_) ?_ ?_
          rotate_left
          · show Act.put _ (some 21) _ = _
            simp only [Act.put, List.setIfInBounds_toArray, List.set_cons_zero, List.set_cons_succ, i64_w, i32_w]
            rfl
          exact hJ (T3.mk _ _ A1 c1 A2 c2 A3 c3 A4 c4 Ao co) _ ⟨HB.out, K5.out, K6.out, HG5.out, HG6.out, HM.out, HO.out⟩
      ·
        have HG6 := Aside0.mk (HB.out.size)
        replace HM := Aside0.mk (HM.out.alloc Z28)
        have K6 := Aside0.mk (blk_new W6 Z28)
        replace HB := Aside0.mk (below_alloc HB.out Z28)
        refine event_step (w1 := W6.alloc Z28) (v := .pointer (some ⟨W6.heap.size, 0, none⟩)) ?hgk ?hrk ?_
        (case hgk => rfl)
        (case hrk => first | (go_simp; done) | (go_simp; rfl))
        obtain ⟨W17, hw5⟩ : ∃ w5, W6.alloc Z28 = w5 := ⟨_, rfl⟩
        obtain ⟨b17, hb5⟩ : ∃ b5, W6.heap.size = b5 := ⟨_, rfl⟩
        rw [hw5] at HM K6 HB ⊢
        rw [hb5] at K6 HG6 ⊢
        clear hw5 hb5
        refine hK.out _ _ ⟨blk_below J2.out HB.out, blk_below J3.out HB.out⟩ (fun hHeld => ?_)
        clear hK K
        refine norm_ (a' := ?_) ?_ ?_
        rotate_left
        · show Act.put _ (some 6) _ = _
          simp only [Act.put, List.setIfInBounds_toArray, List.set_cons_zero, List.set_cons_succ, i64_w, i32_w]
          rfl
        refine two_ (i := 3) (j := 4) (Ni := some 21) (Nj := some 5) #[true, true, true, true, false, true, false, false] #[true, true, true, false, true, true, false, false] rfl rfl rfl rfl (two_of HT_.out (by kernel_rfl)) (by decide) (by decide) (fun K hK => ?_) (fun K hK => ?_)
        ·
          refine goes_ Try.func23 (by kernel_rfl) rfl #[.agg #[.int .i64 e1, .int .i64 e2, .int .i64 e3, .bool e4, .slice Ae eo.length ce]] (by rfl) rfl rfl (by (try simp only [List.map_toArray, List.map_cons, List.map_nil]); first | done | rfl) ?_
          with_reducible refine (hCE _ (below_step HB2.out HB.out)).mono ?_
          rintro e W18 ⟨u1, rfl, hr1, hb⟩
          obtain ⟨Ao, co, rfl⟩ := Kd.R_slice hr1
          refine ⟨_, rfl, ?_⟩
          replace HM := Aside0.mk (HM.out.below hb)
          replace K6 := Aside0.mk (blk_below K6.out hb)
          have HO := Aside0.mk (Kd.R_lower hr1 HB.out.size)
          replace HB := Aside0.mk (below_step HB.out hb)
          clear hb hr1
          refine hK.out _ _ ⟨blk_below J2.out HB.out, blk_below J3.out HB.out⟩ (fun hHeld => ?_)
          clear hK K
          refine norm_ (a' := ?_) ?_ ?_
          rotate_left
          · show Act.put _ (some 21) _ = _
            simp only [Act.put, List.setIfInBounds_toArray, List.set_cons_zero, List.set_cons_succ, i64_w, i32_w]
            rfl
          refine one_ (i := 4) (N := some 5) #[true, true, true, true, true, true, false, false] rfl rfl (one_of HT_.out (by kernel_rfl)) (by decide) (fun K hK => ?_)
          have HG5 := Aside0.mk (HB.out.size)
          replace HM := Aside0.mk (HM.out.alloc Z25)
          replace K6 := Aside0.mk (blk_alloc K6.out Z25)
          replace HO := Aside0.mk (Kd.R_alloc HO.out Z25)
          have K5 := Aside0.mk (blk_new W18 Z25)
          replace HB := Aside0.mk (below_alloc HB.out Z25)
          refine event_step (w1 := W18.alloc Z25) (v := .pointer (some ⟨W18.heap.size, 0, none⟩)) ?hgk ?hrk ?_
          (case hgk => rfl)
          (case hrk => first | (go_simp; done) | (go_simp; rfl))
          obtain ⟨W19, hw5⟩ : ∃ w5, W18.alloc Z25 = w5 := ⟨_, rfl⟩
          obtain ⟨b19, hb5⟩ : ∃ b5, W18.heap.size = b5 := ⟨_, rfl⟩
          rw [hw5] at HM K6 HO K5 HB ⊢
          rw [hb5] at K5 HG5 ⊢
          clear hw5 hb5
          refine hK.out _ _ ⟨blk_below J2.out HB.out, blk_below J3.out HB.out⟩ (fun hHeld => ?_)
          clear hK K
          refine norm_ (a' := ?_) ?_ ?_
          rotate_left
          · show Act.put _ (some 5) _ = _
            simp only [Act.put, List.setIfInBounds_toArray, List.set_cons_zero, List.set_cons_succ, i64_w, i32_w]
            rfl
          exact hJ (T3.mk _ _ A1 c1 A2 c2 A3 c3 A4 c4 Ao co) _ ⟨HB.out, K5.out, K6.out, HG5.out, HG6.out, HM.out, HO.out⟩
        ·
          have HG5 := Aside0.mk (HB.out.size)
          replace HM := Aside0.mk (HM.out.alloc Z25)
          replace K6 := Aside0.mk (blk_alloc K6.out Z25)
          have K5 := Aside0.mk (blk_new W17 Z25)
          replace HB := Aside0.mk (below_alloc HB.out Z25)
          refine event_step (w1 := W17.alloc Z25) (v := .pointer (some ⟨W17.heap.size, 0, none⟩)) ?hgk ?hrk ?_
          (case hgk => rfl)
          (case hrk => first | (go_simp; done) | (go_simp; rfl))
          obtain ⟨W20, hw5⟩ : ∃ w5, W17.alloc Z25 = w5 := ⟨_, rfl⟩
          obtain ⟨b20, hb5⟩ : ∃ b5, W17.heap.size = b5 := ⟨_, rfl⟩
          rw [hw5] at HM K6 K5 HB ⊢
          rw [hb5] at K5 HG5 ⊢
          clear hw5 hb5
          refine hK.out _ _ ⟨blk_below J2.out HB.out, blk_below J3.out HB.out⟩ (fun hHeld => ?_)
          clear hK K
          refine norm_ (a' := ?_) ?_ ?_
          rotate_left
          · show Act.put _ (some 5) _ = _
            simp only [Act.put, List.setIfInBounds_toArray, List.set_cons_zero, List.set_cons_succ, i64_w, i32_w]
            rfl
          refine one_ (i := 3) (N := some 21) #[true, true, true, true, true, true, false, false] rfl rfl (one_of HT_.out (by kernel_rfl)) (by decide) (fun K hK => ?_)
          refine goes_ Try.func23 (by kernel_rfl) rfl #[.agg #[.int .i64 e1, .int .i64 e2, .int .i64 e3, .bool e4, .slice Ae eo.length ce]] (by rfl) rfl rfl (by (try simp only [List.map_toArray, List.map_cons, List.map_nil]); first | done | rfl) ?_
          with_reducible refine (hCE _ (below_step HB2.out HB.out)).mono ?_
          rintro e W21 ⟨u1, rfl, hr1, hb⟩
          obtain ⟨Ao, co, rfl⟩ := Kd.R_slice hr1
          refine ⟨_, rfl, ?_⟩
          replace HM := Aside0.mk (HM.out.below hb)
          replace K6 := Aside0.mk (blk_below K6.out hb)
          replace K5 := Aside0.mk (blk_below K5.out hb)
          have HO := Aside0.mk (Kd.R_lower hr1 HB.out.size)
          replace HB := Aside0.mk (below_step HB.out hb)
          clear hb hr1
          refine hK.out _ _ ⟨blk_below J2.out HB.out, blk_below J3.out HB.out⟩ (fun hHeld => ?_)
          clear hK K
          refine norm_ (a' := ?_) ?_ ?_
          rotate_left
          · show Act.put _ (some 21) _ = _
            simp only [Act.put, List.setIfInBounds_toArray, List.set_cons_zero, List.set_cons_succ, i64_w, i32_w]
            rfl
          exact hJ (T3.mk _ _ A1 c1 A2 c2 A3 c3 A4 c4 Ao co) _ ⟨HB.out, K5.out, K6.out, HG5.out, HG6.out, HM.out, HO.out⟩
    ·
      have HG5 := Aside0.mk (HB.out.size)
      have K5 := Aside0.mk (blk_new W6 Z25)
      replace HB := Aside0.mk (below_alloc HB.out Z25)
      refine event_step (w1 := W6.alloc Z25) (v := .pointer (some ⟨W6.heap.size, 0, none⟩)) ?hgk ?hrk ?_
      (case hgk => rfl)
      (case hrk => first | (go_simp; done) | (go_simp; rfl))
      obtain ⟨W22, hw5⟩ : ∃ w5, W6.alloc Z25 = w5 := ⟨_, rfl⟩
      obtain ⟨b22, hb5⟩ : ∃ b5, W6.heap.size = b5 := ⟨_, rfl⟩
      rw [hw5] at K5 HB ⊢
      rw [hb5] at K5 HG5 ⊢
      clear hw5 hb5
      refine hK.out _ _ ⟨blk_below J2.out HB.out, blk_below J3.out HB.out⟩ (fun hHeld => ?_)
      clear hK K
      refine norm_ (a' := ?_) ?_ ?_
      rotate_left
      · show Act.put _ (some 5) _ = _
        simp only [Act.put, List.setIfInBounds_toArray, List.set_cons_zero, List.set_cons_succ, i64_w, i32_w]
        rfl
      refine two_ (i := 1) (j := 5) (Ni := some 19) (Nj := some 6) #[true, true, true, false, true, false, false, false] #[true, false, true, false, true, true, false, false] rfl rfl rfl rfl (two_of HT_.out (by kernel_rfl)) (by decide) (by decide) (fun K hK => ?_) (fun K hK => ?_)
      ·
        refine goes_ Try.func22 (by kernel_rfl) rfl #[.agg #[.int .i64 i, .int .i64 f, .slice Aq q.length cq, .slice Aa an.length ca, .slice An ns.length cn, .slice Ar ar.length cr]] (by rfl) rfl rfl (by (try simp only [List.map_toArray, List.map_cons, List.map_nil]); first | done | rfl) ?_
        with_reducible refine (hCP _ (below_step HB2.out HB.out)).mono ?_
        rintro e W23 ⟨A1, c1, A2, c2, A3, c3, A4, c4, rfl, hr1, hr2, hr3, hr4, hb⟩
        refine ⟨_, rfl, ?_⟩
        replace K5 := Aside0.mk (blk_below K5.out hb)
        have HM := Aside0.mk (Row4.mk (Kd.R_lower hr1 HB.out.size) (Kd.R_lower hr2 HB.out.size) (Kd.R_lower hr3 HB.out.size) (Kd.R_lower hr4 HB.out.size))
        replace HB := Aside0.mk (below_step HB.out hb)
        clear hb hr1 hr2 hr3 hr4
        refine hK.out _ _ ⟨blk_below J2.out HB.out, blk_below J3.out HB.out⟩ (fun hHeld => ?_)
        clear hK K
        refine norm_ (a' := ?_) ?_ ?_
        rotate_left
        · show Act.put _ (some 19) _ = _
          simp only [Act.put, List.setIfInBounds_toArray, List.set_cons_zero, List.set_cons_succ, i64_w, i32_w]
          rfl
        refine two_ (i := 3) (j := 5) (Ni := some 21) (Nj := some 6) #[true, true, true, true, true, false, false, false] #[true, true, true, false, true, true, false, false] rfl rfl rfl rfl (two_of HT_.out (by kernel_rfl)) (by decide) (by decide) (fun K hK => ?_) (fun K hK => ?_)
        ·
          refine goes_ Try.func23 (by kernel_rfl) rfl #[.agg #[.int .i64 e1, .int .i64 e2, .int .i64 e3, .bool e4, .slice Ae eo.length ce]] (by rfl) rfl rfl (by (try simp only [List.map_toArray, List.map_cons, List.map_nil]); first | done | rfl) ?_
          with_reducible refine (hCE _ (below_step HB2.out HB.out)).mono ?_
          rintro e W24 ⟨u1, rfl, hr1, hb⟩
          obtain ⟨Ao, co, rfl⟩ := Kd.R_slice hr1
          refine ⟨_, rfl, ?_⟩
          replace K5 := Aside0.mk (blk_below K5.out hb)
          replace HM := Aside0.mk (HM.out.below hb)
          have HO := Aside0.mk (Kd.R_lower hr1 HB.out.size)
          replace HB := Aside0.mk (below_step HB.out hb)
          clear hb hr1
          refine hK.out _ _ ⟨blk_below J2.out HB.out, blk_below J3.out HB.out⟩ (fun hHeld => ?_)
          clear hK K
          refine norm_ (a' := ?_) ?_ ?_
          rotate_left
          · show Act.put _ (some 21) _ = _
            simp only [Act.put, List.setIfInBounds_toArray, List.set_cons_zero, List.set_cons_succ, i64_w, i32_w]
            rfl
          refine one_ (i := 5) (N := some 6) #[true, true, true, true, true, true, false, false] rfl rfl (one_of HT_.out (by kernel_rfl)) (by decide) (fun K hK => ?_)
          have HG6 := Aside0.mk (HB.out.size)
          replace K5 := Aside0.mk (blk_alloc K5.out Z28)
          replace HM := Aside0.mk (HM.out.alloc Z28)
          replace HO := Aside0.mk (Kd.R_alloc HO.out Z28)
          have K6 := Aside0.mk (blk_new W24 Z28)
          replace HB := Aside0.mk (below_alloc HB.out Z28)
          refine event_step (w1 := W24.alloc Z28) (v := .pointer (some ⟨W24.heap.size, 0, none⟩)) ?hgk ?hrk ?_
          (case hgk => rfl)
          (case hrk => first | (go_simp; done) | (go_simp; rfl))
          obtain ⟨W25, hw5⟩ : ∃ w5, W24.alloc Z28 = w5 := ⟨_, rfl⟩
          obtain ⟨b25, hb5⟩ : ∃ b5, W24.heap.size = b5 := ⟨_, rfl⟩
          rw [hw5] at K5 HM HO K6 HB ⊢
          rw [hb5] at K6 HG6 ⊢
          clear hw5 hb5
          refine hK.out _ _ ⟨blk_below J2.out HB.out, blk_below J3.out HB.out⟩ (fun hHeld => ?_)
          clear hK K
          refine norm_ (a' := ?_) ?_ ?_
          rotate_left
          · show Act.put _ (some 6) _ = _
            simp only [Act.put, List.setIfInBounds_toArray, List.set_cons_zero, List.set_cons_succ, i64_w, i32_w]
            rfl
          exact hJ (T3.mk _ _ A1 c1 A2 c2 A3 c3 A4 c4 Ao co) _ ⟨HB.out, K5.out, K6.out, HG5.out, HG6.out, HM.out, HO.out⟩
        ·
          have HG6 := Aside0.mk (HB.out.size)
          replace K5 := Aside0.mk (blk_alloc K5.out Z28)
          replace HM := Aside0.mk (HM.out.alloc Z28)
          have K6 := Aside0.mk (blk_new W23 Z28)
          replace HB := Aside0.mk (below_alloc HB.out Z28)
          refine event_step (w1 := W23.alloc Z28) (v := .pointer (some ⟨W23.heap.size, 0, none⟩)) ?hgk ?hrk ?_
          (case hgk => rfl)
          (case hrk => first | (go_simp; done) | (go_simp; rfl))
          obtain ⟨W26, hw5⟩ : ∃ w5, W23.alloc Z28 = w5 := ⟨_, rfl⟩
          obtain ⟨b26, hb5⟩ : ∃ b5, W23.heap.size = b5 := ⟨_, rfl⟩
          rw [hw5] at K5 HM K6 HB ⊢
          rw [hb5] at K6 HG6 ⊢
          clear hw5 hb5
          refine hK.out _ _ ⟨blk_below J2.out HB.out, blk_below J3.out HB.out⟩ (fun hHeld => ?_)
          clear hK K
          refine norm_ (a' := ?_) ?_ ?_
          rotate_left
          · show Act.put _ (some 6) _ = _
            simp only [Act.put, List.setIfInBounds_toArray, List.set_cons_zero, List.set_cons_succ, i64_w, i32_w]
            rfl
          refine one_ (i := 3) (N := some 21) #[true, true, true, true, true, true, false, false] rfl rfl (one_of HT_.out (by kernel_rfl)) (by decide) (fun K hK => ?_)
          refine goes_ Try.func23 (by kernel_rfl) rfl #[.agg #[.int .i64 e1, .int .i64 e2, .int .i64 e3, .bool e4, .slice Ae eo.length ce]] (by rfl) rfl rfl (by (try simp only [List.map_toArray, List.map_cons, List.map_nil]); first | done | rfl) ?_
          with_reducible refine (hCE _ (below_step HB2.out HB.out)).mono ?_
          rintro e W27 ⟨u1, rfl, hr1, hb⟩
          obtain ⟨Ao, co, rfl⟩ := Kd.R_slice hr1
          refine ⟨_, rfl, ?_⟩
          replace K5 := Aside0.mk (blk_below K5.out hb)
          replace HM := Aside0.mk (HM.out.below hb)
          replace K6 := Aside0.mk (blk_below K6.out hb)
          have HO := Aside0.mk (Kd.R_lower hr1 HB.out.size)
          replace HB := Aside0.mk (below_step HB.out hb)
          clear hb hr1
          refine hK.out _ _ ⟨blk_below J2.out HB.out, blk_below J3.out HB.out⟩ (fun hHeld => ?_)
          clear hK K
          refine norm_ (a' := ?_) ?_ ?_
          rotate_left
          · show Act.put _ (some 21) _ = _
            simp only [Act.put, List.setIfInBounds_toArray, List.set_cons_zero, List.set_cons_succ, i64_w, i32_w]
            rfl
          exact hJ (T3.mk _ _ A1 c1 A2 c2 A3 c3 A4 c4 Ao co) _ ⟨HB.out, K5.out, K6.out, HG5.out, HG6.out, HM.out, HO.out⟩
      ·
        have HG6 := Aside0.mk (HB.out.size)
        replace K5 := Aside0.mk (blk_alloc K5.out Z28)
        have K6 := Aside0.mk (blk_new W22 Z28)
        replace HB := Aside0.mk (below_alloc HB.out Z28)
        refine event_step (w1 := W22.alloc Z28) (v := .pointer (some ⟨W22.heap.size, 0, none⟩)) ?hgk ?hrk ?_
        (case hgk => rfl)
        (case hrk => first | (go_simp; done) | (go_simp; rfl))
        obtain ⟨W28, hw5⟩ : ∃ w5, W22.alloc Z28 = w5 := ⟨_, rfl⟩
        obtain ⟨b28, hb5⟩ : ∃ b5, W22.heap.size = b5 := ⟨_, rfl⟩
        rw [hw5] at K5 K6 HB ⊢
        rw [hb5] at K6 HG6 ⊢
        clear hw5 hb5
        refine hK.out _ _ ⟨blk_below J2.out HB.out, blk_below J3.out HB.out⟩ (fun hHeld => ?_)
        clear hK K
        refine norm_ (a' := ?_) ?_ ?_
        rotate_left
        · show Act.put _ (some 6) _ = _
          simp only [Act.put, List.setIfInBounds_toArray, List.set_cons_zero, List.set_cons_succ, i64_w, i32_w]
          rfl
        refine one_ (i := 1) (N := some 19) #[true, true, true, false, true, true, false, false] rfl rfl (one_of HT_.out (by kernel_rfl)) (by decide) (fun K hK => ?_)
        refine goes_ Try.func22 (by kernel_rfl) rfl #[.agg #[.int .i64 i, .int .i64 f, .slice Aq q.length cq, .slice Aa an.length ca, .slice An ns.length cn, .slice Ar ar.length cr]] (by rfl) rfl rfl (by (try simp only [List.map_toArray, List.map_cons, List.map_nil]); first | done | rfl) ?_
        with_reducible refine (hCP _ (below_step HB2.out HB.out)).mono ?_
        rintro e W29 ⟨A1, c1, A2, c2, A3, c3, A4, c4, rfl, hr1, hr2, hr3, hr4, hb⟩
        refine ⟨_, rfl, ?_⟩
        replace K5 := Aside0.mk (blk_below K5.out hb)
        replace K6 := Aside0.mk (blk_below K6.out hb)
        have HM := Aside0.mk (Row4.mk (Kd.R_lower hr1 HB.out.size) (Kd.R_lower hr2 HB.out.size) (Kd.R_lower hr3 HB.out.size) (Kd.R_lower hr4 HB.out.size))
        replace HB := Aside0.mk (below_step HB.out hb)
        clear hb hr1 hr2 hr3 hr4
        refine hK.out _ _ ⟨blk_below J2.out HB.out, blk_below J3.out HB.out⟩ (fun hHeld => ?_)
        clear hK K
        refine norm_ (a' := ?_) ?_ ?_
        rotate_left
        · show Act.put _ (some 19) _ = _
          simp only [Act.put, List.setIfInBounds_toArray, List.set_cons_zero, List.set_cons_succ, i64_w, i32_w]
          rfl
        refine one_ (i := 3) (N := some 21) #[true, true, true, true, true, true, false, false] rfl rfl (one_of HT_.out (by kernel_rfl)) (by decide) (fun K hK => ?_)
        refine goes_ Try.func23 (by kernel_rfl) rfl #[.agg #[.int .i64 e1, .int .i64 e2, .int .i64 e3, .bool e4, .slice Ae eo.length ce]] (by rfl) rfl rfl (by (try simp only [List.map_toArray, List.map_cons, List.map_nil]); first | done | rfl) ?_
        with_reducible refine (hCE _ (below_step HB2.out HB.out)).mono ?_
        rintro e W30 ⟨u1, rfl, hr1, hb⟩
        obtain ⟨Ao, co, rfl⟩ := Kd.R_slice hr1
        refine ⟨_, rfl, ?_⟩
        replace K5 := Aside0.mk (blk_below K5.out hb)
        replace K6 := Aside0.mk (blk_below K6.out hb)
        replace HM := Aside0.mk (HM.out.below hb)
        have HO := Aside0.mk (Kd.R_lower hr1 HB.out.size)
        replace HB := Aside0.mk (below_step HB.out hb)
        clear hb hr1
        refine hK.out _ _ ⟨blk_below J2.out HB.out, blk_below J3.out HB.out⟩ (fun hHeld => ?_)
        clear hK K
        refine norm_ (a' := ?_) ?_ ?_
        rotate_left
        · show Act.put _ (some 21) _ = _
          simp only [Act.put, List.setIfInBounds_toArray, List.set_cons_zero, List.set_cons_succ, i64_w, i32_w]
          rfl
        exact hJ (T3.mk _ _ A1 c1 A2 c2 A3 c3 A4 c4 Ao co) _ ⟨HB.out, K5.out, K6.out, HG5.out, HG6.out, HM.out, HO.out⟩
    ·
      have HG6 := Aside0.mk (HB.out.size)
      have K6 := Aside0.mk (blk_new W6 Z28)
      replace HB := Aside0.mk (below_alloc HB.out Z28)
      refine event_step (w1 := W6.alloc Z28) (v := .pointer (some ⟨W6.heap.size, 0, none⟩)) ?hgk ?hrk ?_
      (case hgk => rfl)
      (case hrk => first | (go_simp; done) | (go_simp; rfl))
      obtain ⟨W31, hw5⟩ : ∃ w5, W6.alloc Z28 = w5 := ⟨_, rfl⟩
      obtain ⟨b31, hb5⟩ : ∃ b5, W6.heap.size = b5 := ⟨_, rfl⟩
      rw [hw5] at K6 HB ⊢
      rw [hb5] at K6 HG6 ⊢
      clear hw5 hb5
      refine hK.out _ _ ⟨blk_below J2.out HB.out, blk_below J3.out HB.out⟩ (fun hHeld => ?_)
      clear hK K
      refine norm_ (a' := ?_) ?_ ?_
      rotate_left
      · show Act.put _ (some 6) _ = _
        simp only [Act.put, List.setIfInBounds_toArray, List.set_cons_zero, List.set_cons_succ, i64_w, i32_w]
        rfl
      refine two_ (i := 1) (j := 4) (Ni := some 19) (Nj := some 5) #[true, true, true, false, false, true, false, false] #[true, false, true, false, true, true, false, false] rfl rfl rfl rfl (two_of HT_.out (by kernel_rfl)) (by decide) (by decide) (fun K hK => ?_) (fun K hK => ?_)
      ·
        refine goes_ Try.func22 (by kernel_rfl) rfl #[.agg #[.int .i64 i, .int .i64 f, .slice Aq q.length cq, .slice Aa an.length ca, .slice An ns.length cn, .slice Ar ar.length cr]] (by rfl) rfl rfl (by (try simp only [List.map_toArray, List.map_cons, List.map_nil]); first | done | rfl) ?_
        with_reducible refine (hCP _ (below_step HB2.out HB.out)).mono ?_
        rintro e W32 ⟨A1, c1, A2, c2, A3, c3, A4, c4, rfl, hr1, hr2, hr3, hr4, hb⟩
        refine ⟨_, rfl, ?_⟩
        replace K6 := Aside0.mk (blk_below K6.out hb)
        have HM := Aside0.mk (Row4.mk (Kd.R_lower hr1 HB.out.size) (Kd.R_lower hr2 HB.out.size) (Kd.R_lower hr3 HB.out.size) (Kd.R_lower hr4 HB.out.size))
        replace HB := Aside0.mk (below_step HB.out hb)
        clear hb hr1 hr2 hr3 hr4
        refine hK.out _ _ ⟨blk_below J2.out HB.out, blk_below J3.out HB.out⟩ (fun hHeld => ?_)
        clear hK K
        refine norm_ (a' := ?_) ?_ ?_
        rotate_left
        · show Act.put _ (some 19) _ = _
          simp only [Act.put, List.setIfInBounds_toArray, List.set_cons_zero, List.set_cons_succ, i64_w, i32_w]
          rfl
        refine two_ (i := 3) (j := 4) (Ni := some 21) (Nj := some 5) #[true, true, true, true, false, true, false, false] #[true, true, true, false, true, true, false, false] rfl rfl rfl rfl (two_of HT_.out (by kernel_rfl)) (by decide) (by decide) (fun K hK => ?_) (fun K hK => ?_)
        ·
          refine goes_ Try.func23 (by kernel_rfl) rfl #[.agg #[.int .i64 e1, .int .i64 e2, .int .i64 e3, .bool e4, .slice Ae eo.length ce]] (by rfl) rfl rfl (by (try simp only [List.map_toArray, List.map_cons, List.map_nil]); first | done | rfl) ?_
          with_reducible refine (hCE _ (below_step HB2.out HB.out)).mono ?_
          rintro e W33 ⟨u1, rfl, hr1, hb⟩
          obtain ⟨Ao, co, rfl⟩ := Kd.R_slice hr1
          refine ⟨_, rfl, ?_⟩
          replace K6 := Aside0.mk (blk_below K6.out hb)
          replace HM := Aside0.mk (HM.out.below hb)
          have HO := Aside0.mk (Kd.R_lower hr1 HB.out.size)
          replace HB := Aside0.mk (below_step HB.out hb)
          clear hb hr1
          refine hK.out _ _ ⟨blk_below J2.out HB.out, blk_below J3.out HB.out⟩ (fun hHeld => ?_)
          clear hK K
          refine norm_ (a' := ?_) ?_ ?_
          rotate_left
          · show Act.put _ (some 21) _ = _
            simp only [Act.put, List.setIfInBounds_toArray, List.set_cons_zero, List.set_cons_succ, i64_w, i32_w]
            rfl
          refine one_ (i := 4) (N := some 5) #[true, true, true, true, true, true, false, false] rfl rfl (one_of HT_.out (by kernel_rfl)) (by decide) (fun K hK => ?_)
          have HG5 := Aside0.mk (HB.out.size)
          replace K6 := Aside0.mk (blk_alloc K6.out Z25)
          replace HM := Aside0.mk (HM.out.alloc Z25)
          replace HO := Aside0.mk (Kd.R_alloc HO.out Z25)
          have K5 := Aside0.mk (blk_new W33 Z25)
          replace HB := Aside0.mk (below_alloc HB.out Z25)
          refine event_step (w1 := W33.alloc Z25) (v := .pointer (some ⟨W33.heap.size, 0, none⟩)) ?hgk ?hrk ?_
          (case hgk => rfl)
          (case hrk => first | (go_simp; done) | (go_simp; rfl))
          obtain ⟨W34, hw5⟩ : ∃ w5, W33.alloc Z25 = w5 := ⟨_, rfl⟩
          obtain ⟨b34, hb5⟩ : ∃ b5, W33.heap.size = b5 := ⟨_, rfl⟩
          rw [hw5] at K6 HM HO K5 HB ⊢
          rw [hb5] at K5 HG5 ⊢
          clear hw5 hb5
          refine hK.out _ _ ⟨blk_below J2.out HB.out, blk_below J3.out HB.out⟩ (fun hHeld => ?_)
          clear hK K
          refine norm_ (a' := ?_) ?_ ?_
          rotate_left
          · show Act.put _ (some 5) _ = _
            simp only [Act.put, List.setIfInBounds_toArray, List.set_cons_zero, List.set_cons_succ, i64_w, i32_w]
            rfl
          exact hJ (T3.mk _ _ A1 c1 A2 c2 A3 c3 A4 c4 Ao co) _ ⟨HB.out, K5.out, K6.out, HG5.out, HG6.out, HM.out, HO.out⟩
        ·
          have HG5 := Aside0.mk (HB.out.size)
          replace K6 := Aside0.mk (blk_alloc K6.out Z25)
          replace HM := Aside0.mk (HM.out.alloc Z25)
          have K5 := Aside0.mk (blk_new W32 Z25)
          replace HB := Aside0.mk (below_alloc HB.out Z25)
          refine event_step (w1 := W32.alloc Z25) (v := .pointer (some ⟨W32.heap.size, 0, none⟩)) ?hgk ?hrk ?_
          (case hgk => rfl)
          (case hrk => first | (go_simp; done) | (go_simp; rfl))
          obtain ⟨W35, hw5⟩ : ∃ w5, W32.alloc Z25 = w5 := ⟨_, rfl⟩
          obtain ⟨b35, hb5⟩ : ∃ b5, W32.heap.size = b5 := ⟨_, rfl⟩
          rw [hw5] at K6 HM K5 HB ⊢
          rw [hb5] at K5 HG5 ⊢
          clear hw5 hb5
          refine hK.out _ _ ⟨blk_below J2.out HB.out, blk_below J3.out HB.out⟩ (fun hHeld => ?_)
          clear hK K
          refine norm_ (a' := ?_) ?_ ?_
          rotate_left
          · show Act.put _ (some 5) _ = _
            simp only [Act.put, List.setIfInBounds_toArray, List.set_cons_zero, List.set_cons_succ, i64_w, i32_w]
            rfl
          refine one_ (i := 3) (N := some 21) #[true, true, true, true, true, true, false, false] rfl rfl (one_of HT_.out (by kernel_rfl)) (by decide) (fun K hK => ?_)
          refine goes_ Try.func23 (by kernel_rfl) rfl #[.agg #[.int .i64 e1, .int .i64 e2, .int .i64 e3, .bool e4, .slice Ae eo.length ce]] (by rfl) rfl rfl (by (try simp only [List.map_toArray, List.map_cons, List.map_nil]); first | done | rfl) ?_
          with_reducible refine (hCE _ (below_step HB2.out HB.out)).mono ?_
          rintro e W36 ⟨u1, rfl, hr1, hb⟩
          obtain ⟨Ao, co, rfl⟩ := Kd.R_slice hr1
          refine ⟨_, rfl, ?_⟩
          replace K6 := Aside0.mk (blk_below K6.out hb)
          replace HM := Aside0.mk (HM.out.below hb)
          replace K5 := Aside0.mk (blk_below K5.out hb)
          have HO := Aside0.mk (Kd.R_lower hr1 HB.out.size)
          replace HB := Aside0.mk (below_step HB.out hb)
          clear hb hr1
          refine hK.out _ _ ⟨blk_below J2.out HB.out, blk_below J3.out HB.out⟩ (fun hHeld => ?_)
          clear hK K
          refine norm_ (a' := ?_) ?_ ?_
          rotate_left
          · show Act.put _ (some 21) _ = _
            simp only [Act.put, List.setIfInBounds_toArray, List.set_cons_zero, List.set_cons_succ, i64_w, i32_w]
            rfl
          exact hJ (T3.mk _ _ A1 c1 A2 c2 A3 c3 A4 c4 Ao co) _ ⟨HB.out, K5.out, K6.out, HG5.out, HG6.out, HM.out, HO.out⟩
      ·
        have HG5 := Aside0.mk (HB.out.size)
        replace K6 := Aside0.mk (blk_alloc K6.out Z25)
        have K5 := Aside0.mk (blk_new W31 Z25)
        replace HB := Aside0.mk (below_alloc HB.out Z25)
        refine event_step (w1 := W31.alloc Z25) (v := .pointer (some ⟨W31.heap.size, 0, none⟩)) ?hgk ?hrk ?_
        (case hgk => rfl)
        (case hrk => first | (go_simp; done) | (go_simp; rfl))
        obtain ⟨W37, hw5⟩ : ∃ w5, W31.alloc Z25 = w5 := ⟨_, rfl⟩
        obtain ⟨b37, hb5⟩ : ∃ b5, W31.heap.size = b5 := ⟨_, rfl⟩
        rw [hw5] at K6 K5 HB ⊢
        rw [hb5] at K5 HG5 ⊢
        clear hw5 hb5
        refine hK.out _ _ ⟨blk_below J2.out HB.out, blk_below J3.out HB.out⟩ (fun hHeld => ?_)
        clear hK K
        refine norm_ (a' := ?_) ?_ ?_
        rotate_left
        · show Act.put _ (some 5) _ = _
          simp only [Act.put, List.setIfInBounds_toArray, List.set_cons_zero, List.set_cons_succ, i64_w, i32_w]
          rfl
        refine one_ (i := 1) (N := some 19) #[true, true, true, false, true, true, false, false] rfl rfl (one_of HT_.out (by kernel_rfl)) (by decide) (fun K hK => ?_)
        refine goes_ Try.func22 (by kernel_rfl) rfl #[.agg #[.int .i64 i, .int .i64 f, .slice Aq q.length cq, .slice Aa an.length ca, .slice An ns.length cn, .slice Ar ar.length cr]] (by rfl) rfl rfl (by (try simp only [List.map_toArray, List.map_cons, List.map_nil]); first | done | rfl) ?_
        with_reducible refine (hCP _ (below_step HB2.out HB.out)).mono ?_
        rintro e W38 ⟨A1, c1, A2, c2, A3, c3, A4, c4, rfl, hr1, hr2, hr3, hr4, hb⟩
        refine ⟨_, rfl, ?_⟩
        replace K6 := Aside0.mk (blk_below K6.out hb)
        replace K5 := Aside0.mk (blk_below K5.out hb)
        have HM := Aside0.mk (Row4.mk (Kd.R_lower hr1 HB.out.size) (Kd.R_lower hr2 HB.out.size) (Kd.R_lower hr3 HB.out.size) (Kd.R_lower hr4 HB.out.size))
        replace HB := Aside0.mk (below_step HB.out hb)
        clear hb hr1 hr2 hr3 hr4
        refine hK.out _ _ ⟨blk_below J2.out HB.out, blk_below J3.out HB.out⟩ (fun hHeld => ?_)
        clear hK K
        refine norm_ (a' := ?_) ?_ ?_
        rotate_left
        · show Act.put _ (some 19) _ = _
          simp only [Act.put, List.setIfInBounds_toArray, List.set_cons_zero, List.set_cons_succ, i64_w, i32_w]
          rfl
        refine one_ (i := 3) (N := some 21) #[true, true, true, true, true, true, false, false] rfl rfl (one_of HT_.out (by kernel_rfl)) (by decide) (fun K hK => ?_)
        refine goes_ Try.func23 (by kernel_rfl) rfl #[.agg #[.int .i64 e1, .int .i64 e2, .int .i64 e3, .bool e4, .slice Ae eo.length ce]] (by rfl) rfl rfl (by (try simp only [List.map_toArray, List.map_cons, List.map_nil]); first | done | rfl) ?_
        with_reducible refine (hCE _ (below_step HB2.out HB.out)).mono ?_
        rintro e W39 ⟨u1, rfl, hr1, hb⟩
        obtain ⟨Ao, co, rfl⟩ := Kd.R_slice hr1
        refine ⟨_, rfl, ?_⟩
        replace K6 := Aside0.mk (blk_below K6.out hb)
        replace K5 := Aside0.mk (blk_below K5.out hb)
        replace HM := Aside0.mk (HM.out.below hb)
        have HO := Aside0.mk (Kd.R_lower hr1 HB.out.size)
        replace HB := Aside0.mk (below_step HB.out hb)
        clear hb hr1
        refine hK.out _ _ ⟨blk_below J2.out HB.out, blk_below J3.out HB.out⟩ (fun hHeld => ?_)
        clear hK K
        refine norm_ (a' := ?_) ?_ ?_
        rotate_left
        · show Act.put _ (some 21) _ = _
          simp only [Act.put, List.setIfInBounds_toArray, List.set_cons_zero, List.set_cons_succ, i64_w, i32_w]
          rfl
        exact hJ (T3.mk _ _ A1 c1 A2 c2 A3 c3 A4 c4 Ao co) _ ⟨HB.out, K5.out, K6.out, HG5.out, HG6.out, HM.out, HO.out⟩
  case cont =>
    intro s V hF
    have x0 : V.cell? ⟨s.b5, 0, none⟩ = some (.int .i64 0) := (blk_cell hF.k5 0).trans rfl
    have x1 : V.cell? ⟨s.b5, 1, none⟩ = some (.int .i64 0) := (blk_cell hF.k5 1).trans rfl
    have x2 : V.cell? ⟨s.b5, 2, none⟩ = some (.slice none 0 0) := (blk_cell hF.k5 2).trans rfl
    have x3 : V.cell? ⟨s.b5, 3, none⟩ = some (.slice none 0 0) := (blk_cell hF.k5 3).trans rfl
    have x4 : V.cell? ⟨s.b5, 4, none⟩ = some (.slice none 0 0) := (blk_cell hF.k5 4).trans rfl
    have x5 : V.cell? ⟨s.b5, 5, none⟩ = some (.slice none 0 0) := (blk_cell hF.k5 5).trans rfl
    have fz := blk_frozen hF.k5
    have HF := Aside0.mk hF
    have HNE := Aside0.mk (ne_types hF.k5 hF.k6 (by decide))
    clear hF
    refine norm_ (a' := ?_) ?_ ?_
    rotate_left
    · simp only [putAll, Act.put, List.setIfInBounds_toArray, List.set_cons_zero, List.set_cons_succ, i64_w, i32_w]
      rfl
    refine last_ (i := 6) (N := none) #[true, true, true, true, true, true, true, false] rfl rfl (one_of HT_.out (by kernel_rfl)) (by decide) (fun K hK => ?_)
    refine skip_ (w1 := ?_) (by rfl) rfl ?_ ?_
    rotate_left
    · go_simp
      rfl
    refine hK.out _ _ ?_
    clear hK K
    clear x0 x1 x2 x3 x4 x5 fz
    have I5 := Aside0.mk (six_blk HF.out.k5 (.int .i64 i) (.int .i64 f) (.slice s.A1 q.length s.c1) (.slice s.A2 an.length s.c2) (.slice s.A3 ns.length s.c3) (.slice s.A4 ar.length s.c4))
    have I6 := Aside0.mk (six_off HF.out.k6 HNE.out.symm (.int .i64 i) (.int .i64 f) (.slice s.A1 q.length s.c1) (.slice s.A2 an.length s.c2) (.slice s.A3 ns.length s.c3) (.slice s.A4 ar.length s.c4))
    have IM := Aside0.mk (HF.out.m.six HF.out.k5 (.int .i64 i) (.int .i64 f) (.slice s.A1 q.length s.c1) (.slice s.A2 an.length s.c2) (.slice s.A3 ns.length s.c3) (.slice s.A4 ar.length s.c4))
    have IE := Aside0.mk (six_row HF.out.e HF.out.k5 (by decide) (.int .i64 i) (.int .i64 f) (.slice s.A1 q.length s.c1) (.slice s.A2 an.length s.c2) (.slice s.A3 ns.length s.c3) (.slice s.A4 ar.length s.c4))
    have IB := Aside0.mk (six_below HF.out.bel HF.out.g5 (.int .i64 i) (.int .i64 f) (.slice s.A1 q.length s.c1) (.slice s.A2 an.length s.c2) (.slice s.A3 ns.length s.c3) (.slice s.A4 ar.length s.c4))
    have G6 := HF.out.g6
    clear HF
    simp only [six] at I5 I6 IM IE IB
    obtain ⟨V2, hV2⟩ : ∃ V2, (((((V.setCell ⟨s.b5, 0, none⟩ (.int .i64 i)).setCell ⟨s.b5, 1, none⟩ (.int .i64 f)).setCell ⟨s.b5, 2, none⟩ (.slice s.A1 q.length s.c1)).setCell ⟨s.b5, 3, none⟩ (.slice s.A2 an.length s.c2)).setCell ⟨s.b5, 4, none⟩ (.slice s.A3 ns.length s.c3)).setCell ⟨s.b5, 5, none⟩ (.slice s.A4 ar.length s.c4) = V2 := ⟨_, rfl⟩
    rw [hV2] at I5 I6 IM IE IB ⊢
    clear hV2
    have x0 : V2.cell? ⟨s.b6, 0, none⟩ = some (.int .i64 0) := (blk_cell I6.out 0).trans rfl
    have x1 : V2.cell? ⟨s.b6, 1, none⟩ = some (.int .i64 0) := (blk_cell I6.out 1).trans rfl
    have x2 : V2.cell? ⟨s.b6, 2, none⟩ = some (.int .i64 0) := (blk_cell I6.out 2).trans rfl
    have x3 : V2.cell? ⟨s.b6, 3, none⟩ = some (.bool false) := (blk_cell I6.out 3).trans rfl
    have x4 : V2.cell? ⟨s.b6, 4, none⟩ = some (.slice none 0 0) := (blk_cell I6.out 4).trans rfl
    have fz := blk_frozen I6.out
    refine last_ (i := 7) (N := none) #[true, true, true, true, true, true, true, true] rfl rfl (one_of HT_.out (by kernel_rfl)) (by decide) (fun K hK => ?_)
    refine skip_ (w1 := ?_) (by rfl) rfl ?_ ?_
    rotate_left
    · go_simp
      rfl
    refine hK.out _ _ ?_
    clear hK K
    refine done_ (done_of HT_.out (by kernel_rfl)) ?_
    dsimp only [onlyNormal]
    clear x0 x1 x2 x3 x4 fz HT_ HW_ hHeld hCP hCE HCE_
    have L5 := Aside0.mk (five_off I5.out HNE.out (.int .i64 e1) (.int .i64 e2) (.int .i64 e3) (.bool e4) (.slice s.Ao eo.length s.co))
    have L6 := Aside0.mk (five_blk I6.out (.int .i64 e1) (.int .i64 e2) (.int .i64 e3) (.bool e4) (.slice s.Ao eo.length s.co))
    have LM := Aside0.mk (Row4.mk (five_row IM.out.r1 I6.out (by decide) (.int .i64 e1) (.int .i64 e2) (.int .i64 e3) (.bool e4) (.slice s.Ao eo.length s.co)) (five_row IM.out.r2 I6.out (by decide) (.int .i64 e1) (.int .i64 e2) (.int .i64 e3) (.bool e4) (.slice s.Ao eo.length s.co)) (five_row IM.out.r3 I6.out (by decide) (.int .i64 e1) (.int .i64 e2) (.int .i64 e3) (.bool e4) (.slice s.Ao eo.length s.co)) (five_row IM.out.r4 I6.out (by decide) (.int .i64 e1) (.int .i64 e2) (.int .i64 e3) (.bool e4) (.slice s.Ao eo.length s.co)))
    have LE := Aside0.mk (five_row IE.out I6.out (by decide) (.int .i64 e1) (.int .i64 e2) (.int .i64 e3) (.bool e4) (.slice s.Ao eo.length s.co))
    have LB := Aside0.mk (five_below IB.out G6 (.int .i64 e1) (.int .i64 e2) (.int .i64 e3) (.bool e4) (.slice s.Ao eo.length s.co))
    clear I5 I6 IM IE IB HNE G6
    simp only [five] at L5 L6 LM LE LB
    obtain ⟨U, hU⟩ : ∃ U, ((((V2.setCell ⟨s.b6, 0, none⟩ (.int .i64 e1)).setCell ⟨s.b6, 1, none⟩ (.int .i64 e2)).setCell ⟨s.b6, 2, none⟩ (.int .i64 e3)).setCell ⟨s.b6, 3, none⟩ (.bool e4)).setCell ⟨s.b6, 4, none⟩ (.slice s.Ao eo.length s.co) = U := ⟨_, rfl⟩
    rw [hU] at L5 L6 LM LE LB ⊢
    clear hU
    have L2 := Aside0.mk (blk_below J2.out LB.out)
    have L3 := Aside0.mk (blk_below J3.out LB.out)
    have LZ := Aside0.mk (below_step HB2.out LB.out)
    clear J2 J3 LB HB2
    have hC1 : Kd.C k79 U s.A1 (q.length + 1) (q ++ [mark79]) := by have := (Kd.R_reads' LM.out.r1).2.2; simpa using this
    have m1 : q.length + 1 ≤ s.c1 := by have := (Kd.R_reads' LM.out.r1).2.1; simpa using this
    have hC2 : Kd.C k48 U s.A2 (an.length + 1) (an ++ [mark48]) := by have := (Kd.R_reads' LM.out.r2).2.2; simpa using this
    have m2 : an.length + 1 ≤ s.c2 := by have := (Kd.R_reads' LM.out.r2).2.1; simpa using this
    have hC3 : Kd.C k48 U s.A3 (ns.length + 1) (ns ++ [mark48]) := by have := (Kd.R_reads' LM.out.r3).2.2; simpa using this
    have m3 : ns.length + 1 ≤ s.c3 := by have := (Kd.R_reads' LM.out.r3).2.1; simpa using this
    have hC4 : Kd.C k48 U s.A4 (ar.length + 1) (ar ++ [mark48]) := by have := (Kd.R_reads' LM.out.r4).2.2; simpa using this
    have m4 : ar.length + 1 ≤ s.c4 := by have := (Kd.R_reads' LM.out.r4).2.1; simpa using this
    have hCo := (Kd.R_reads' LE.out).2.2
    have m5 := (Kd.R_reads' LE.out).2.1
    have gPu := fun W (hb : Below U.heap.size U W) => edns_Put.calls k i f s.A1 s.c1 q s.A2 s.c2 an s.A3 s.c3 ns s.A4 s.c4 ar e1 e2 e3 e4 s.Ao s.co eo r1 r2 r3 r4 r5 r6 r7 W (Kd.C_below (C_short hC1) hb) (by omega) (Kd.C_below (C_short hC2) hb) (by omega) (Kd.C_below (C_short hC3) hb) (by omega) (Kd.C_below (C_short hC4) hb) (by omega) (Kd.C_below hCo hb) m5 HPU_.out
    have gRp := fun W (hb : Below U.heap.size U W) => ostiaryref09_Put.calls k i f Aq cq q Aa ca an An cn ns Ar cr ar e1 e2 e3 e4 Ae ce eo r1 r2 r3 r4 r5 r6 r7 W (Kd.C_below HQ.out (below_step LZ.out hb)) lq (Kd.C_below HA.out (below_step LZ.out hb)) la (Kd.C_below HN.out (below_step LZ.out hb)) ln (Kd.C_below HR.out (below_step LZ.out hb)) lr (Kd.C_below HE.out (below_step LZ.out hb)) le HRP_.out
    clear HPU_ HRP_
    have x0 : U.cell? ⟨s.b5, 0, none⟩ = some (.int .i64 i) := (blk_cell L5.out 0).trans rfl
    have x1 : U.cell? ⟨s.b5, 1, none⟩ = some (.int .i64 f) := (blk_cell L5.out 1).trans rfl
    have x2 : U.cell? ⟨s.b5, 2, none⟩ = some (.slice s.A1 q.length s.c1) := (blk_cell L5.out 2).trans rfl
    have x3 : U.cell? ⟨s.b5, 3, none⟩ = some (.slice s.A2 an.length s.c2) := (blk_cell L5.out 3).trans rfl
    have x4 : U.cell? ⟨s.b5, 4, none⟩ = some (.slice s.A3 ns.length s.c3) := (blk_cell L5.out 4).trans rfl
    have x5 : U.cell? ⟨s.b5, 5, none⟩ = some (.slice s.A4 ar.length s.c4) := (blk_cell L5.out 5).trans rfl
    have y0 : U.cell? ⟨s.b6, 0, none⟩ = some (.int .i64 e1) := (blk_cell L6.out 0).trans rfl
    have y1 : U.cell? ⟨s.b6, 1, none⟩ = some (.int .i64 e2) := (blk_cell L6.out 1).trans rfl
    have y2 : U.cell? ⟨s.b6, 2, none⟩ = some (.int .i64 e3) := (blk_cell L6.out 2).trans rfl
    have y3 : U.cell? ⟨s.b6, 3, none⟩ = some (.bool e4) := (blk_cell L6.out 3).trans rfl
    have y4 : U.cell? ⟨s.b6, 4, none⟩ = some (.slice s.Ao eo.length s.co) := (blk_cell L6.out 4).trans rfl
    go_upto_region 6 with (first
      | (go_at_call 24; (with_reducible refine (gPu _ ?hb).mono ?_); (case hb => exact Below.refl _ _); rintro e w4 ⟨u1, u2, u3, u4, rfl, h1, h2, h3, h4, hb⟩; obtain ⟨X1, d1, rfl⟩ := Kd.R_slice h1; obtain ⟨X2, d2, rfl⟩ := Kd.R_slice h2; obtain ⟨X3, d3, rfl⟩ := Kd.R_slice h3; obtain ⟨X4, d4, rfl⟩ := Kd.R_slice h4; have HX := Aside0.mk (Row4.mk (Kd.R_mono h1 (fun _ _ => trivial)) (Kd.R_mono h2 (fun _ _ => trivial)) (Kd.R_mono h3 (fun _ _ => trivial)) (Kd.R_mono h4 (fun _ _ => trivial))); have HU4 := Aside0.mk hb; have N2 := Aside0.mk (blk_below L2.out hb); have N3 := Aside0.mk (blk_below L3.out hb); have p0 : w4.cell? ⟨w.heap.size, 0, none⟩ = some (.int .i64 i) := (blk_cell N2.out 0).trans rfl; have p1 : w4.cell? ⟨w.heap.size, 1, none⟩ = some (.int .i64 f) := (blk_cell N2.out 1).trans rfl; have p2 : w4.cell? ⟨w.heap.size, 2, none⟩ = some (.slice Aq q.length cq) := (blk_cell N2.out 2).trans rfl; have p3 : w4.cell? ⟨w.heap.size, 3, none⟩ = some (.slice Aa an.length ca) := (blk_cell N2.out 3).trans rfl; have p4 : w4.cell? ⟨w.heap.size, 4, none⟩ = some (.slice An ns.length cn) := (blk_cell N2.out 4).trans rfl; have p5 : w4.cell? ⟨w.heap.size, 5, none⟩ = some (.slice Ar ar.length cr) := (blk_cell N2.out 5).trans rfl; have q0 : w4.cell? ⟨w.heap.size + 1, 0, none⟩ = some (.int .i64 e1) := (blk_cell N3.out 0).trans rfl; have q1 : w4.cell? ⟨w.heap.size + 1, 1, none⟩ = some (.int .i64 e2) := (blk_cell N3.out 1).trans rfl; have q2 : w4.cell? ⟨w.heap.size + 1, 2, none⟩ = some (.int .i64 e3) := (blk_cell N3.out 2).trans rfl; have q3 : w4.cell? ⟨w.heap.size + 1, 3, none⟩ = some (.bool e4) := (blk_cell N3.out 3).trans rfl; have q4 : w4.cell? ⟨w.heap.size + 1, 4, none⟩ = some (.slice Ae eo.length ce) := (blk_cell N3.out 4).trans rfl; have l2_ := blk_lt N2.out; have l3_ := blk_lt N3.out; clear h1 h2 h3 h4 hb)
      | (go_at_call 25; (with_reducible refine (gRp _ ?hb).mono ?_); (case hb => exact below_alloc HU4.out _); rintro e w5 ⟨u1, u2, u3, u4, rfl, h1, h2, h3, h4, hb⟩; obtain ⟨Y1, f1, rfl⟩ := Kd.R_slice h1; obtain ⟨Y2, f2, rfl⟩ := Kd.R_slice h2; obtain ⟨Y3, f3, rfl⟩ := Kd.R_slice h3; obtain ⟨Y4, f4, rfl⟩ := Kd.R_slice h4; have HY := Aside0.mk (Row4.mk (Kd.R_mono h1 (fun _ _ => trivial)) (Kd.R_mono h2 (fun _ _ => trivial)) (Kd.R_mono h3 (fun _ _ => trivial)) (Kd.R_mono h4 (fun _ _ => trivial))); have HX5 := Aside0.mk ((HX.out.alloc (.cells #[.int .i64 r1, .int .i64 r2, .slice X1 r3.length d1, .slice X2 r4.length d2, .slice X3 r5.length d3, .slice X4 r6.length d4] 25)).below hb); have HU5 := Aside0.mk (below_step (below_alloc HU4.out (.cells #[.int .i64 r1, .int .i64 r2, .slice X1 r3.length d1, .slice X2 r4.length d2, .slice X3 r5.length d3, .slice X4 r6.length d4] 25)) hb); have K7 := Aside0.mk (blk_below (blk_new w4 (.cells #[.int .i64 r1, .int .i64 r2, .slice X1 r3.length d1, .slice X2 r4.length d2, .slice X3 r5.length d3, .slice X4 r6.length d4] 25)) hb); clear h1 h2 h3 h4 hb))
    have g7 := HU4.out.size
    clear x0 x1 x2 x3 x4 x5 y0 y1 y2 y3 y4 p0 p1 p2 p3 p4 p5 q0 q1 q2 q3 q4 l2_ l3_ N2 N3 HX HU4 gPu gRp
    have K9 := Aside0.mk (blk_new w5 (.cells #[.int .i64 r1, .int .i64 r2, .slice Y1 r3.length f1, .slice Y2 r4.length f2, .slice Y3 r5.length f3, .slice Y4 r6.length f4] 25))
    replace K7 := Aside0.mk (blk_alloc K7.out (.cells #[.int .i64 r1, .int .i64 r2, .slice Y1 r3.length f1, .slice Y2 r4.length f2, .slice Y3 r5.length f3, .slice Y4 r6.length f4] 25))
    replace HX5 := Aside0.mk (HX5.out.alloc (.cells #[.int .i64 r1, .int .i64 r2, .slice Y1 r3.length f1, .slice Y2 r4.length f2, .slice Y3 r5.length f3, .slice Y4 r6.length f4] 25))
    replace HY := Aside0.mk (HY.out.alloc (.cells #[.int .i64 r1, .int .i64 r2, .slice Y1 r3.length f1, .slice Y2 r4.length f2, .slice Y3 r5.length f3, .slice Y4 r6.length f4] 25))
    replace HU5 := Aside0.mk (below_alloc HU5.out (.cells #[.int .i64 r1, .int .i64 r2, .slice Y1 r3.length f1, .slice Y2 r4.length f2, .slice Y3 r5.length f3, .slice Y4 r6.length f4] 25))
    obtain ⟨b9, hb9⟩ : ∃ b, w5.heap.size = b := ⟨_, rfl⟩
    obtain ⟨b7, hb7⟩ : ∃ b, w4.heap.size = b := ⟨_, rfl⟩
    rw [hb9] at K9 ⊢
    rw [hb7] at K7 g7 ⊢
    clear hb9 hb7
    generalize w5.alloc (.cells #[.int .i64 r1, .int .i64 r2, .slice Y1 r3.length f1, .slice Y2 r4.length f2, .slice Y3 r5.length f3, .slice Y4 r6.length f4] 25) = W7 at K9 K7 HX5 HY HU5 ⊢
    have J5 := Aside0.mk (blk_below L5.out HU5.out)
    have J6 := Aside0.mk (blk_below L6.out HU5.out)
    have J2 := Aside0.mk (blk_below L2.out HU5.out)
    have J3 := Aside0.mk (blk_below L3.out HU5.out)
    have gSM := fun W (hb : Below W7.heap.size W7 W) => ostiarykit_SameMessage.calls k r1 r2 X1 d1 r3 X2 d2 r4 X3 d3 r5 X4 d4 r6 r1 r2 Y1 f1 r3 Y2 f2 r4 Y3 f3 r5 Y4 f4 r6 true W (Kd.C_below (Kd.R_reads' HX5.out.r1).2.2 hb) (Kd.R_reads' HX5.out.r1).2.1 (Kd.C_below (Kd.R_reads' HX5.out.r2).2.2 hb) (Kd.R_reads' HX5.out.r2).2.1 (Kd.C_below (Kd.R_reads' HX5.out.r3).2.2 hb) (Kd.R_reads' HX5.out.r3).2.1 (Kd.C_below (Kd.R_reads' HX5.out.r4).2.2 hb) (Kd.R_reads' HX5.out.r4).2.1 (Kd.C_below (Kd.R_reads' HY.out.r1).2.2 hb) (Kd.R_reads' HY.out.r1).2.1 (Kd.C_below (Kd.R_reads' HY.out.r2).2.2 hb) (Kd.R_reads' HY.out.r2).2.1 (Kd.C_below (Kd.R_reads' HY.out.r3).2.2 hb) (Kd.R_reads' HY.out.r3).2.1 (Kd.C_below (Kd.R_reads' HY.out.r4).2.2 hb) (Kd.R_reads' HY.out.r4).2.1 HSM_.out
    have gCk := fun W (hb : Below W7.heap.size W7 W) => edns_Check.calls k e1 e2 e3 e4 s.Ao s.co eo v1 W (Kd.C_below (Kd.C_below hCo HU5.out) hb) m5 HCK_.out
    have gRc := fun W (hb : Below W7.heap.size W7 W) => ostiaryref09_Check.calls k e1 e2 e3 e4 Ae ce eo v1 W (Kd.C_below HE.out (below_step (below_step LZ.out HU5.out) hb)) le HRC_.out
    clear HSM_ HCK_ HRC_ HY
    refine wp_only ?_
    refine start_ (n := 16) (S := fun w' => w'.heap[s.b5]? = some (.cells #[.int .i64 i, .int .i64 f, .slice s.A1 q.length s.c1, .slice s.A2 an.length s.c2, .slice s.A3 ns.length s.c3, .slice s.A4 ar.length s.c4] 25 (0, 0)) ∧ w'.heap[s.b6]? = some (.cells #[.int .i64 e1, .int .i64 e2, .int .i64 e3, .bool e4, .slice s.Ao eo.length s.co] 28 (0, 0)) ∧ w'.heap[w.heap.size]? = some (.cells #[.int .i64 i, .int .i64 f, .slice Aq q.length cq, .slice Aa an.length ca, .slice An ns.length cn, .slice Ar ar.length cr] 25 (0, 0)) ∧ w'.heap[w.heap.size + 1]? = some (.cells #[.int .i64 e1, .int .i64 e2, .int .i64 e3, .bool e4, .slice Ae eo.length ce] 28 (0, 0)) ∧ w'.heap[b7]? = some (.cells #[.int .i64 r1, .int .i64 r2, .slice X1 r3.length d1, .slice X2 r4.length d2, .slice X3 r5.length d3, .slice X4 r6.length d4] 25 (0, 0)) ∧ w'.heap[b9]? = some (.cells #[.int .i64 r1, .int .i64 r2, .slice Y1 r3.length f1, .slice Y2 r4.length f2, .slice Y3 r5.length f3, .slice Y4 r6.length f4] 25 (0, 0))) (ds := []) #[false, false, false, false, false, false, false, false, false, false, false, false, false, false, false, false] (by kernel_rfl) rfl rfl ⟨blk_drew J5.out, blk_drew J6.out, blk_drew J2.out, blk_drew J3.out, blk_drew K7.out, blk_drew K9.out⟩ (fun hHeld => ?_)
    refine with_tabW Puts.tab6 Puts.bits6 (fun HT_ HW_ => ?_)
    have HV := Aside0.mk (below_drew1 (Below.refl W7.heap.size W7))
    generalize W7.drew = V0 at HV hHeld ⊢
    refine take_ (i := 0) (N := some 34) (v := ?_) (a' := ?_) #[true, false, false, false, false, false, false, false, false, false, false, false, false, false, false, false] rfl rfl (take_ofW HT_.out HW_.out (by kernel_rfl)) (fun _ _ _ h => h) (Or.inl ⟨by rfl, ?_⟩) hHeld ?_ ?_
    rotate_left
    · rintro w' ⟨s1, s2, s3, s4, s5, s6⟩
      have x0 := (blk_cell s5 0).trans rfl
      have x1 := (blk_cell s5 1).trans rfl
      have x2 := (blk_cell s5 2).trans rfl
      have x3 := (blk_cell s5 3).trans rfl
      have x4 := (blk_cell s5 4).trans rfl
      have x5 := (blk_cell s5 5).trans rfl
      clear s1 s2 s3 s4 s5 s6
      go_simp
      with_reducible rfl
    rotate_left
    · simp only [Act.put, List.setIfInBounds_toArray, List.set_cons_zero, List.set_cons_succ, i64_w, i32_w]
      rfl
    refine take_ (i := 1) (N := some 35) (v := ?_) (a' := ?_) #[true, true, false, false, false, false, false, false, false, false, false, false, false, false, false, false] rfl rfl (take_ofW HT_.out HW_.out (by kernel_rfl)) (fun _ _ _ h => h) (Or.inl ⟨by rfl, ?_⟩) hHeld ?_ ?_
    rotate_left
    · rintro w' ⟨s1, s2, s3, s4, s5, s6⟩
      have x0 := (blk_cell s6 0).trans rfl
      have x1 := (blk_cell s6 1).trans rfl
      have x2 := (blk_cell s6 2).trans rfl
      have x3 := (blk_cell s6 3).trans rfl
      have x4 := (blk_cell s6 4).trans rfl
      have x5 := (blk_cell s6 5).trans rfl
      clear s1 s2 s3 s4 s5 s6
      go_simp
      with_reducible rfl
    rotate_left
    · simp only [Act.put, List.setIfInBounds_toArray, List.set_cons_zero, List.set_cons_succ, i64_w, i32_w]
      rfl
    refine one_ (i := 2) (N := some 36) #[true, true, true, false, false, false, false, false, false, false, false, false, false, false, false, false] rfl rfl (one_of HT_.out (by kernel_rfl)) (by decide) (fun K hK => ?_)
    refine goes_ Try.func26 (by kernel_rfl) rfl #[.agg #[.int .i64 r1, .int .i64 r2, .slice X1 r3.length d1, .slice X2 r4.length d2, .slice X3 r5.length d3, .slice X4 r6.length d4], .agg #[.int .i64 r1, .int .i64 r2, .slice Y1 r3.length f1, .slice Y2 r4.length f2, .slice Y3 r5.length f3, .slice Y4 r6.length f4]] (by rfl) rfl rfl (by (try simp only [List.map_toArray, List.map_cons, List.map_nil]); first | done | rfl) ?_
    with_reducible refine (gSM _ HV.out).mono ?_
    rintro e V1' ⟨rfl, hb⟩
    refine ⟨_, rfl, ?_⟩
    replace HV := Aside0.mk (below_step HV.out hb)
    clear hb
    refine hK.out _ _ ⟨blk_below J5.out HV.out, blk_below J6.out HV.out, blk_below J2.out HV.out, blk_below J3.out HV.out, blk_below K7.out HV.out, blk_below K9.out HV.out⟩ (fun hHeld => ?_)
    clear hK K
    refine norm_ (a' := ?_) ?_ ?_
    rotate_left
    · show Act.put _ (some 36) _ = _
      simp only [Act.put, List.setIfInBounds_toArray, List.set_cons_zero, List.set_cons_succ, i64_w, i32_w]
      rfl
    refine pure_ (i := 3) (N := some 37) (v := ?_) (a' := ?_) #[true, true, true, true, false, false, false, false, false, false, false, false, false, false, false, false] rfl rfl (any_of HT_.out (by kernel_rfl)) (fun _ _ _ h => h) (Or.inl ⟨by rfl, ?_⟩) ?_ ?_
    rotate_left
    · intro w'
      go_simp
      with_reducible rfl
    rotate_left
    · simp only [Act.put, List.setIfInBounds_toArray, List.set_cons_zero, List.set_cons_succ, i64_w, i32_w]
      rfl
    refine pure_ (i := 4) (N := some 38) (v := ?_) (a' := ?_) #[true, true, true, true, true, false, false, false, false, false, false, false, false, false, false, false] rfl rfl (any_of HT_.out (by kernel_rfl)) (fun _ _ _ h => h) (Or.inl ⟨by rfl, ?_⟩) ?_ ?_
    rotate_left
    · intro w'
      go_simp
      with_reducible rfl
    rotate_left
    · simp only [Act.put, List.setIfInBounds_toArray, List.set_cons_zero, List.set_cons_succ, i64_w, i32_w]
      rfl
    refine pure_ (i := 5) (N := some 39) (v := ?_) (a' := ?_) #[true, true, true, true, true, true, false, false, false, false, false, false, false, false, false, false] rfl rfl (any_of HT_.out (by kernel_rfl)) (fun _ _ _ h => h) (Or.inl ⟨by rfl, ?_⟩) ?_ ?_
    rotate_left
    · intro w'
      go_simp
      with_reducible rfl
    rotate_left
    · simp only [Act.put, List.setIfInBounds_toArray, List.set_cons_zero, List.set_cons_succ, i64_w, i32_w]
      rfl
    refine pure_ (i := 6) (N := some 40) (v := ?_) (a' := ?_) #[true, true, true, true, true, true, true, false, false, false, false, false, false, false, false, false] rfl rfl (any_of HT_.out (by kernel_rfl)) (fun _ _ _ h => h) (Or.inl ⟨by rfl, ?_⟩) ?_ ?_
    rotate_left
    · intro w'
      go_simp
      with_reducible rfl
    rotate_left
    · simp only [Act.put, List.setIfInBounds_toArray, List.set_cons_zero, List.set_cons_succ, i64_w, i32_w]
      rfl
    refine pure_ (i := 7) (N := some 41) (v := ?_) (a' := ?_) #[true, true, true, true, true, true, true, true, false, false, false, false, false, false, false, false] rfl rfl (any_of HT_.out (by kernel_rfl)) (fun _ _ _ h => h) (Or.inl ⟨by rfl, ?_⟩) ?_ ?_
    rotate_left
    · intro w'
      go_simp
      with_reducible rfl
    rotate_left
    · simp only [Act.put, List.setIfInBounds_toArray, List.set_cons_zero, List.set_cons_succ, i64_w, i32_w]
      rfl
    refine pure_ (i := 8) (N := some 42) (v := ?_) (a' := ?_) #[true, true, true, true, true, true, true, true, true, false, false, false, false, false, false, false] rfl rfl (any_of HT_.out (by kernel_rfl)) (fun _ _ _ h => h) (Or.inl ⟨by rfl, ?_⟩) ?_ ?_
    rotate_left
    · intro w'
      go_simp
      with_reducible rfl
    rotate_left
    · simp only [Act.put, List.setIfInBounds_toArray, List.set_cons_zero, List.set_cons_succ, i64_w, i32_w]
      rfl
    refine take_ (i := 9) (N := some 43) (v := ?_) (a' := ?_) #[true, true, true, true, true, true, true, true, true, true, false, false, false, false, false, false] rfl rfl (take_ofW HT_.out HW_.out (by kernel_rfl)) (fun _ _ _ h => h) (Or.inl ⟨by rfl, ?_⟩) hHeld ?_ ?_
    rotate_left
    · rintro w' ⟨s1, s2, s3, s4, s5, s6⟩
      have x0 := (blk_cell s2 0).trans rfl
      have x1 := (blk_cell s2 1).trans rfl
      have x2 := (blk_cell s2 2).trans rfl
      have x3 := (blk_cell s2 3).trans rfl
      have x4 := (blk_cell s2 4).trans rfl
      clear s1 s2 s3 s4 s5 s6
      go_simp
      with_reducible rfl
    rotate_left
    · simp only [Act.put, List.setIfInBounds_toArray, List.set_cons_zero, List.set_cons_succ, i64_w, i32_w]
      rfl
    refine take_ (i := 11) (N := some 45) (v := ?_) (a' := ?_) #[true, true, true, true, true, true, true, true, true, true, false, true, false, false, false, false] rfl rfl (take_ofW HT_.out HW_.out (by kernel_rfl)) (fun _ _ _ h => h) (Or.inl ⟨by rfl, ?_⟩) hHeld ?_ ?_
    rotate_left
    · rintro w' ⟨s1, s2, s3, s4, s5, s6⟩
      have x0 := (blk_cell s4 0).trans rfl
      have x1 := (blk_cell s4 1).trans rfl
      have x2 := (blk_cell s4 2).trans rfl
      have x3 := (blk_cell s4 3).trans rfl
      have x4 := (blk_cell s4 4).trans rfl
      clear s1 s2 s3 s4 s5 s6
      go_simp
      with_reducible rfl
    rotate_left
    · simp only [Act.put, List.setIfInBounds_toArray, List.set_cons_zero, List.set_cons_succ, i64_w, i32_w]
      rfl
    refine one_ (i := 10) (N := some 44) #[true, true, true, true, true, true, true, true, true, true, true, true, false, false, false, false] rfl rfl (one_of HT_.out (by kernel_rfl)) (by decide) (fun K hK => ?_)
    refine goes_ Try.func27 (by kernel_rfl) rfl #[.agg #[.int .i64 e1, .int .i64 e2, .int .i64 e3, .bool e4, .slice s.Ao eo.length s.co]] (by rfl) rfl rfl (by (try simp only [List.map_toArray, List.map_cons, List.map_nil]); first | done | rfl) ?_
    with_reducible refine (gCk _ HV.out).mono ?_
    rintro e V2' ⟨rfl, hb⟩
    refine ⟨_, rfl, ?_⟩
    replace HV := Aside0.mk (below_step HV.out hb)
    clear hb
    refine hK.out _ _ ⟨blk_below J5.out HV.out, blk_below J6.out HV.out, blk_below J2.out HV.out, blk_below J3.out HV.out, blk_below K7.out HV.out, blk_below K9.out HV.out⟩ (fun hHeld => ?_)
    clear hK K
    refine norm_ (a' := ?_) ?_ ?_
    rotate_left
    · show Act.put _ (some 44) _ = _
      simp only [Act.put, List.setIfInBounds_toArray, List.set_cons_zero, List.set_cons_succ, i64_w, i32_w]
      rfl
    refine one_ (i := 12) (N := some 46) #[true, true, true, true, true, true, true, true, true, true, true, true, true, false, false, false] rfl rfl (one_of HT_.out (by kernel_rfl)) (by decide) (fun K hK => ?_)
    refine goes_ Try.func28 (by kernel_rfl) rfl #[.agg #[.int .i64 e1, .int .i64 e2, .int .i64 e3, .bool e4, .slice Ae eo.length ce]] (by rfl) rfl rfl (by (try simp only [List.map_toArray, List.map_cons, List.map_nil]); first | done | rfl) ?_
    with_reducible refine (gRc _ HV.out).mono ?_
    rintro e V3' ⟨rfl, hb⟩
    refine ⟨_, rfl, ?_⟩
    replace HV := Aside0.mk (below_step HV.out hb)
    clear hb
    refine hK.out _ _ ⟨blk_below J5.out HV.out, blk_below J6.out HV.out, blk_below J2.out HV.out, blk_below J3.out HV.out, blk_below K7.out HV.out, blk_below K9.out HV.out⟩ (fun hHeld => ?_)
    clear hK K
    refine norm_ (a' := ?_) ?_ ?_
    rotate_left
    · show Act.put _ (some 46) _ = _
      simp only [Act.put, List.setIfInBounds_toArray, List.set_cons_zero, List.set_cons_succ, i64_w, i32_w]
      rfl
    refine pure_ (i := 13) (N := some 47) (v := ?_) (a' := ?_) #[true, true, true, true, true, true, true, true, true, true, true, true, true, true, false, false] rfl rfl (any_of HT_.out (by kernel_rfl)) (fun _ _ _ h => h) (Or.inl ⟨by rfl, ?_⟩) ?_ ?_
    rotate_left
    · intro w'
      go_simp
      with_reducible rfl
    rotate_left
    · simp only [Act.put, List.setIfInBounds_toArray, List.set_cons_zero, List.set_cons_succ, i64_w, i32_w]
      rfl
    refine pure_ (i := 14) (N := some 48) (v := ?_) (a' := ?_) #[true, true, true, true, true, true, true, true, true, true, true, true, true, true, true, false] rfl rfl (any_of HT_.out (by kernel_rfl)) (fun _ _ _ h => h) (Or.inl ⟨by rfl, ?_⟩) ?_ ?_
    rotate_left
    · intro w'
      go_simp
      with_reducible rfl
    rotate_left
    · simp only [Act.put, List.setIfInBounds_toArray, List.set_cons_zero, List.set_cons_succ, i64_w, i32_w]
      rfl
    refine pure_ (i := 15) (N := some 11) (v := ?_) (a' := ?_) #[true, true, true, true, true, true, true, true, true, true, true, true, true, true, true, true] rfl rfl (any_of HT_.out (by kernel_rfl)) (fun _ _ _ h => h) (Or.inl ⟨by rfl, ?_⟩) ?_ ?_
    rotate_left
    · intro w'
      go_simp
      with_reducible rfl
    rotate_left
    · simp only [Act.put, List.setIfInBounds_toArray, List.set_cons_zero, List.set_cons_succ, i64_w, i32_w]
      rfl
    refine done_ (done_of HT_.out (by kernel_rfl)) ?_
    dsimp only [onlyNormal]
    clear HT_ HW_ hHeld gSM gCk gRc
    have hu := HU5.out.size
    have hv := HV.out.size
    have l5 := blk_lt L5.out
    have l6 := blk_lt L6.out
    have l2 := blk_lt L2.out
    have l3 := blk_lt L3.out
    have J7c := blk_below K7.out HV.out
    have y0 : V3'.cell? ⟨b7, 0, none⟩ = some (.int .i64 r1) := (blk_cell J7c 0).trans rfl
    have y1 : V3'.cell? ⟨b7, 1, none⟩ = some (.int .i64 r2) := (blk_cell J7c 1).trans rfl
    have y2 : V3'.cell? ⟨b7, 2, none⟩ = some (.slice X1 r3.length d1) := (blk_cell J7c 2).trans rfl
    have y3 : V3'.cell? ⟨b7, 3, none⟩ = some (.slice X2 r4.length d2) := (blk_cell J7c 3).trans rfl
    have y4 : V3'.cell? ⟨b7, 4, none⟩ = some (.slice X3 r5.length d3) := (blk_cell J7c 4).trans rfl
    have y5 : V3'.cell? ⟨b7, 5, none⟩ = some (.slice X4 r6.length d4) := (blk_cell J7c 5).trans rfl
    have P1 := Aside0.mk (Kd.R_below HX5.out.r1 HV.out)
    have P2 := Aside0.mk (Kd.R_below HX5.out.r2 HV.out)
    have P3 := Aside0.mk (Kd.R_below HX5.out.r3 HV.out)
    have P4 := Aside0.mk (Kd.R_below HX5.out.r4 HV.out)
    have HUV := Aside0.mk (below_step HU5.out HV.out)
    have hOv := overMessage_calls U.heap.size r1 r2 X1 r3.length d1 X2 r4.length d2 X3 r5.length d3 X4 r6.length d4 V3' (by omega) (Wide.of_R P1.out) (Wide.of_R P2.out) (Wide.of_R P3.out) (Wide.of_R P4.out) (by omega) (by omega) (by omega) (by omega) (Kd.R_reads' P1.out).2.1 (Kd.R_reads' P2.out).2.1 (Kd.R_reads' P3.out).2.1 (Kd.R_reads' P4.out).2.1
    have Q5 := Aside0.mk (blk_below J5.out HV.out)
    have Q6 := Aside0.mk (blk_below J6.out HV.out)
    have Q2 := Aside0.mk (blk_below J2.out HV.out)
    have Q3 := Aside0.mk (blk_below J3.out HV.out)
    have hKp := fun W (hb : Below U.heap.size U W) => keptMessage_calls k i f i f s.A1 s.c1 q s.A2 s.c2 an s.A3 s.c3 ns s.A4 s.c4 ar Aq cq q Aa ca an An cn ns Ar cr ar true W (Kd.C_below hC1 hb) m1 (Kd.C_below hC2 hb) m2 (Kd.C_below hC3 hb) m3 (Kd.C_below hC4 hb) m4 (Kd.C_below HQ.out (below_step LZ.out hb)) lq (Kd.C_below HA.out (below_step LZ.out hb)) la (Kd.C_below HN.out (below_step LZ.out hb)) ln (Kd.C_below HR.out (below_step LZ.out hb)) lr (by omega) HKM_.out
    have hSe := fun W (hb : Below U.heap.size U W) => ostiarykit_SameEdns.calls k e1 e2 e3 e4 s.Ao s.co eo e1 e2 e3 e4 Ae ce eo true W (Kd.C_below hCo hb) m5 (Kd.C_below HE.out (below_step LZ.out hb)) le HKE_.out
    clear J7c P1 P2 P3 P4 HX5 J5 J6 J2 J3 K7 K9 HV HU5 HKM_ HKE_ L2 L3 L5 L6 hC1 hC2 hC3 hC4 hCo
    go_wp2_with (first
      | (go_at_call 29; (with_reducible refine hOv.mono ?_); rintro e w8 ⟨⟨v8, rfl⟩, ho⟩; have R5 := Aside0.mk ((ho.block _ l5).trans Q5.out); have R6 := Aside0.mk ((ho.block _ l6).trans Q6.out); have R2 := Aside0.mk ((ho.block _ l2).trans Q2.out); have R3 := Aside0.mk ((ho.block _ l3).trans Q3.out); have UA := Aside0.mk (HUV.out.trans ho); clear ho; have p0 : w8.cell? ⟨s.b5, 0, none⟩ = some (.int .i64 i) := (blk_cell R5.out 0).trans rfl; have p1 : w8.cell? ⟨s.b5, 1, none⟩ = some (.int .i64 f) := (blk_cell R5.out 1).trans rfl; have p2 : w8.cell? ⟨s.b5, 2, none⟩ = some (.slice s.A1 q.length s.c1) := (blk_cell R5.out 2).trans rfl; have p3 : w8.cell? ⟨s.b5, 3, none⟩ = some (.slice s.A2 an.length s.c2) := (blk_cell R5.out 3).trans rfl; have p4 : w8.cell? ⟨s.b5, 4, none⟩ = some (.slice s.A3 ns.length s.c3) := (blk_cell R5.out 4).trans rfl; have p5 : w8.cell? ⟨s.b5, 5, none⟩ = some (.slice s.A4 ar.length s.c4) := (blk_cell R5.out 5).trans rfl; have q0 : w8.cell? ⟨w.heap.size, 0, none⟩ = some (.int .i64 i) := (blk_cell R2.out 0).trans rfl; have q1 : w8.cell? ⟨w.heap.size, 1, none⟩ = some (.int .i64 f) := (blk_cell R2.out 1).trans rfl; have q2 : w8.cell? ⟨w.heap.size, 2, none⟩ = some (.slice Aq q.length cq) := (blk_cell R2.out 2).trans rfl; have q3 : w8.cell? ⟨w.heap.size, 3, none⟩ = some (.slice Aa an.length ca) := (blk_cell R2.out 3).trans rfl; have q4 : w8.cell? ⟨w.heap.size, 4, none⟩ = some (.slice An ns.length cn) := (blk_cell R2.out 4).trans rfl; have q5 : w8.cell? ⟨w.heap.size, 5, none⟩ = some (.slice Ar ar.length cr) := (blk_cell R2.out 5).trans rfl)
      | (go_at_call 30; (with_reducible refine (hKp _ ?hb).mono ?_); (case hb => exact UA.out); rintro e w9 ⟨rfl, hb⟩; have UB := Aside0.mk (below_step UA.out hb); have T6 := Aside0.mk (blk_below R6.out hb); have T3 := Aside0.mk (blk_below R3.out hb); clear hb; have t0 : w9.cell? ⟨s.b6, 0, none⟩ = some (.int .i64 e1) := (blk_cell T6.out 0).trans rfl; have t1 : w9.cell? ⟨s.b6, 1, none⟩ = some (.int .i64 e2) := (blk_cell T6.out 1).trans rfl; have t2 : w9.cell? ⟨s.b6, 2, none⟩ = some (.int .i64 e3) := (blk_cell T6.out 2).trans rfl; have t3 : w9.cell? ⟨s.b6, 3, none⟩ = some (.bool e4) := (blk_cell T6.out 3).trans rfl; have t4 : w9.cell? ⟨s.b6, 4, none⟩ = some (.slice s.Ao eo.length s.co) := (blk_cell T6.out 4).trans rfl; have g0 : w9.cell? ⟨w.heap.size + 1, 0, none⟩ = some (.int .i64 e1) := (blk_cell T3.out 0).trans rfl; have g1 : w9.cell? ⟨w.heap.size + 1, 1, none⟩ = some (.int .i64 e2) := (blk_cell T3.out 1).trans rfl; have g2 : w9.cell? ⟨w.heap.size + 1, 2, none⟩ = some (.int .i64 e3) := (blk_cell T3.out 2).trans rfl; have g3 : w9.cell? ⟨w.heap.size + 1, 3, none⟩ = some (.bool e4) := (blk_cell T3.out 3).trans rfl; have g4 : w9.cell? ⟨w.heap.size + 1, 4, none⟩ = some (.slice Ae eo.length ce) := (blk_cell T3.out 4).trans rfl)
      | (go_at_call 31; (with_reducible refine (hSe _ ?hb).mono ?_); (case hb => exact UB.out); rintro e w10 ⟨rfl, hb⟩; have UC := Aside0.mk (below_step UB.out hb); clear hb)
      | (go_at_call 32; (with_reducible refine (ostiarylaw09_awake.calls 20 true _ awake_true).mono ?_); rintro e w11 ⟨rfl, hb⟩; have UD := Aside0.mk (below_step UC.out hb); clear hb))
    go_ret
    exact ⟨rfl, below_step LZ.out UD.out⟩
end Go.Proofs.Yteahdaddbmhfgaa.P
end
section
namespace Go.Proofs.Yteahdaddbmhfgaa.P
open Go.RowKit Go.Proofs.YteahdaddbmhfgaaW.PrintWords Go.Proofs.YteahdaddbmhfgaaW.PrintLast Go.Proofs.YteahdaddbmhfgaaW.PrintMore
open Go.Proofs.YteahdaddbmhfgaaW
set_option linter.unusedVariables false
set_option linter.unusedSimpArgs false
theorem ba_ext {a b : ByteArray} (h : a.data.toList = b.data.toList) : a = b := by
  cases a; cases b; simp at h; simp [h]
theorem strOf_append (a b : List Int) : strOfNums (a ++ b) = strOfNums a ++ strOfNums b := by
  apply ba_ext
  simp [strOfNums_data, ByteArray.toList_data_append]
theorem strOf_bytes (s : ByteArray) : strOfNums (bytesOf s) = s := by
  apply ba_ext
  rw [strOfNums_data]
  unfold bytesOf
  rw [List.map_map]
  have : ((fun n : Int => UInt8.ofNat n.toNat) ∘ fun b : UInt8 => (b.toNat : Int)) = id := by funext b; simp
  rw [this, List.map_id]
theorem shr_lit {a : Int} {j : Nat} (hj : j ≤ 64) : shr .i64 a (j : Int) = a / 2 ^ j := by
  unfold shr
  rw [show min (j : Int).toNat IntKind.i64.bits = j by show min _ 64 = _; omega]
theorem refPut16_f {a : Int} (h0 : 0 ≤ a) (h1 : a < 65536) {k : Nat} (hk : 4 < k) : ostiaryref03_Put16.f k a = some ([a / 256, a % 256], 0) := by
  obtain ⟨k, rfl⟩ : ∃ m, k = m + 5 := ⟨k - 5, by omega⟩
  have e1 : wrap64 (8 * 2) = 16 := by unfold wrap64; omega
  have e2 : shr .i64 a 16 = a / 65536 := shr_lit (j := 16) (by omega)
  have e3 : wrap64 (2 - 1) = 1 := by unfold wrap64; omega
  have e4 : wrap64 (8 * 1) = 8 := by unfold wrap64; omega
  have e5 : shr .i64 a 8 = a / 256 := shr_lit (j := 8) (by omega)
  have e6 : wrap64 (1 - 1) = 0 := by unfold wrap64; omega
  have e7 : wrap64 (8 * 0) = 0 := by unfold wrap64; omega
  have e8 : shr .i64 a 0 = a := by have := shr_lit (a := a) (j := 0) (by omega); simpa using this
  have e9 : wrap64 (0 - 1) = -1 := by unfold wrap64; omega
  unfold ostiaryref03_Put16.f ostiaryref03_put.f
  rw [if_neg (by omega), e1, if_pos (by decide), e2, show ((a / 65536 != 0) = false) by simp; omega, ostiaryref03_put.j0, if_neg (by decide), e3, ostiaryref03_put.l0, if_pos (by decide), e4, if_pos (by decide), if_pos (by simp), e5, e6, ostiaryref03_put.l0, if_pos (by decide), e7, if_pos (by decide), if_pos (by simp), e8, e9, ostiaryref03_put.l0, if_neg (by decide)]
  simp only [Option.bind_some, List.nil_append]
  rw [show a / 256 % 256 = a / 256 by omega]
  rfl
def optB (o : S82) : ByteArray := strOfNums [o.f0 / 256, o.f0 % 256] ++ strOfNums [(o.f1.size : Int) / 256, (o.f1.size : Int) % 256] ++ o.f1
def optsB : List S82 → ByteArray
  | [] => ⟨#[]⟩
  | o :: r => optB o ++ optsB r
theorem ba_nil (b : ByteArray) : b ++ (⟨#[]⟩ : ByteArray) = b := by apply ba_ext; simp
theorem nil_ba (b : ByteArray) : (⟨#[]⟩ : ByteArray) ++ b = b := by apply ba_ext; simp
theorem ba_assoc (a b c : ByteArray) : a ++ b ++ c = a ++ (b ++ c) := by apply ba_ext; simp
theorem refData_f {k : Nat} (hk : 4 < k) : ∀ (l : List S82) (acc : List Int), (∀ o ∈ l, 0 ≤ o.f0 ∧ o.f0 ≤ 65535) → optSum l ≤ 65535 → acc.length + optSum l ≤ 1000000 → ∃ r, refData k l acc = some r ∧ strOfNums r = strOfNums acc ++ optsB l
  | [], acc, _, _, _ => ⟨acc, rfl, by unfold optsB; rw [ba_nil]⟩
  | o :: r, acc, hc, hs, hl => by
    have h1 := hc o (by simp)
    unfold optSum at hs hl
    unfold refData
    rw [refPut16_f h1.1 (by omega) hk, refPut16_f (by omega) (by omega) hk]
    simp only [Option.bind_some]
    rw [if_pos (by simp; omega)]
    obtain ⟨x, hx, he⟩ := refData_f hk r (acc ++ [o.f0 / 256, o.f0 % 256] ++ [(o.f1.size : Int) / 256, (o.f1.size : Int) % 256] ++ bytesOf o.f1) (fun p hp => hc p (by simp [hp])) (by omega) (by simp [bytesOf_length]; omega)
    refine ⟨x, hx, ?_⟩
    rw [he, show optsB (o :: r) = optB o ++ optsB r from rfl]
    unfold optB
    simp only [strOf_append, strOf_bytes, ba_assoc]
theorem putL {l : List S82} (hc : ∀ o ∈ l, 0 ≤ o.f0 ∧ o.f0 ≤ 65535) (hs : optSum l ≤ 65535) (hl : l.length < 1000000) (x0 x1 : Int) (q : List S79) (an ns ar : List S48) (hm : q.length + an.length + ns.length + ar.length ≤ 1000) (nm : ByteArray) (ty cl tt : Int) :
    ∀ (n i k : Nat) (acc : ByteArray), i + n = l.length → n < k → acc.size + optSum (l.drop i) ≤ 65535 →
      edns_Put.l0 k l (l.length : Int) (i : Int) x0 x1 q an ns ar nm ty cl tt acc = some (x0, x1, q, noOpt an, noOpt ns, noOpt ar ++ [⟨nm, ty, cl, tt, acc ++ optsB (l.drop i)⟩], 0)
  | 0, i, k + 1, acc, hi, hk, ha => by
    have h1 := noOpt_len an
    have h2 := noOpt_len ns
    have h3 := noOpt_len ar
    rw [edns_Put.l0, if_neg (by omega)]
    unfold edns_Strip.f edns_without.f
    rw [if_pos (by simp; omega), if_pos (by omega), if_pos (by omega), if_pos (by omega)]
    simp only [Option.bind_some, List.nil_append]
    rw [if_pos (by omega), List.drop_eq_nil_of_le (by omega)]
    unfold optsB
    rw [ba_nil]
  | n + 1, i, k + 1, acc, hi, hk, ha => by
    have hlt : i < l.length := by omega
    have hd := List.drop_eq_getElem_cons hlt
    have hm1 := hc l[i] (List.getElem_mem hlt)
    rw [hd] at ha
    unfold optSum at ha
    have hsz : (strOfNums [l[i].f0 / 256, l[i].f0 % 256] ++ strOfNums [(l[i].f1.size : Int) / 256, (l[i].f1.size : Int) % 256]).size = 4 := by simp [strOfNums_size, ByteArray.size_append]
    have hsz2 : (strOfNums [l[i].f0 / 256, l[i].f0 % 256]).size = 2 ∧ (strOfNums [(l[i].f1.size : Int) / 256, (l[i].f1.size : Int) % 256]).size = 2 := by simp [strOfNums_size]
    rw [edns_Put.l0, if_pos (by omega), if_pos (by omega), if_pos (by omega), rd82 hlt]
    unfold octet_Put16.f
    rw [if_pos (by omega), if_pos (by omega)]
    simp only [Option.bind_some]
    rw [if_pos (by omega), if_pos (by omega), if_pos (by rw [ByteArray.size_append]; omega), wrap64_id (by omega) (by omega), show ((i : Int) + 1) = ((i + 1 : Nat) : Int) by simp,
      putL hc hs hl x0 x1 q an ns ar hm nm ty cl tt n (i + 1) k _ (by omega) (by omega) (by rw [ByteArray.size_append, ByteArray.size_append]; omega), hd]
    rw [show optsB (l[i] :: l.drop (i + 1)) = optB l[i] ++ optsB (l.drop (i + 1)) from rfl]
    unfold optB
    simp only [ba_assoc]
theorem bigEdns_l {l : List S82} {a b c : Int} {d : Bool} {m x : Int} (hl : l.length < 4611686018427387904) : ∀ (n i k : Nat), i + n = l.length → n < k → ostiarykit_BigEdns.l0 k m x (i : Int) a b c d l = some ((l.drop i).any (fun o => decide ((o.f1.size : Int) > x)) || decide ((l.length : Int) > m))
  | 0, i, k + 1, hi, hk => by
    rw [ostiarykit_BigEdns.l0, if_neg (by omega), List.drop_eq_nil_of_le (by omega)]; rfl
  | n + 1, i, k + 1, hi, hk => by
    have hlt : i < l.length := by omega
    rw [ostiarykit_BigEdns.l0, if_pos (by omega), if_pos (by omega), rd82 hlt, List.drop_eq_getElem_cons hlt, List.any_cons]
    by_cases hb : (l[i].f1.size : Int) > x
    · rw [if_pos hb]; simp [hb]
    · rw [if_neg hb, wrap64_id (by omega) (by omega), show ((i : Int) + 1) = ((i + 1 : Nat) : Int) by simp, bigEdns_l hl n (i + 1) k (by omega) (by omega)]
      simp only [hb, decide_false, Bool.false_or]
def bigEdns (l : List S82) (m x : Int) : Bool := l.any (fun o => decide ((o.f1.size : Int) > x)) || decide ((l.length : Int) > m)
theorem bigEdns_f {l : List S82} {a b c : Int} {d : Bool} {m x : Int} {k : Nat} (hl : l.length < 4611686018427387904) (hk : l.length < k) : ostiarykit_BigEdns.f k a b c d l m x = some (bigEdns l m x) := by
  have := bigEdns_l (a := a) (b := b) (c := c) (d := d) (m := m) (x := x) hl l.length 0 k (by omega) hk
  rw [List.drop_zero] at this
  exact this
theorem put_ttl {a b : Int} (ha0 : 0 ≤ a) (ha : a ≤ 127) (hb0 : 0 ≤ b) (hb : b ≤ 255) : bits .or .i64 (wrap64 (a * 16777216)) (wrap64 (b * 65536)) = a * 16777216 + b * 65536 ∧ wrap64 (wrap64 (a * 16777216) + wrap64 (b * 65536)) = a * 16777216 + b * 65536 := by
  rw [wrap64_id (x := a * 16777216) (by omega) (by omega), wrap64_id (x := b * 65536) (by omega) (by omega), wrap64_id (by omega) (by omega)]
  exact ⟨bits_or_add 24 _ _ (by omega) (by omega) (by omega) (by omega) (by omega) (by omega), rfl⟩
theorem puts_same {i f : Int} {q : List S79} {an ns ar : List S48} {e1 e2 e3 : Int} {e4 : Bool} {eo : List S82} {k : Nat} (hs : q.length + an.length + ns.length + ar.length ≤ 200) (ho : eo.length ≤ 100) (hz : optSum eo < 1000000000000) (hk : 1000 < k) :
    ∃ (r1 r2 : Int) (r3 : List S79) (r4 r5 r6 : List S48) (r7 : Int), edns_Put.f k i f q an ns ar e1 e2 e3 e4 eo = some (r1, r2, r3, r4, r5, r6, r7) ∧ ostiaryref09_Put.f k i f q an ns ar e1 e2 e3 e4 eo = some (r1, r2, r3, r4, r5, r6, r7) ∧ r3.length + r4.length + r5.length + r6.length ≤ 201 := by
  have c1 := List.countP_le_length (p := isOpt) (l := an)
  have c2 := List.countP_le_length (p := isOpt) (l := ns)
  have c3 := List.countP_le_length (p := isOpt) (l := ar)
  have n1 := noOpt_len an
  have n2 := noOpt_len ns
  have n3 := noOpt_len ar
  unfold edns_Put.f ostiaryref09_Put.f
  rw [check_f hz (by omega) (by omega), refCheck_f hz (by omega) (by omega), Option.bind_some, Option.bind_some]
  by_cases hc : chk e1 e2 e3 eo = 0
  · rw [if_pos hc, if_pos hc]
    unfold edns_count.f
    rw [Option.bind_some, Option.bind_some, Option.bind_some, many_f (by omega) (by omega), Option.bind_some, many_f (by omega) (by omega), Option.bind_some, many_f (by omega) (by omega), Option.bind_some]
    by_cases ht : wrap64 (wrap64 ((an.countP isOpt : Nat) + (ns.countP isOpt : Nat)) + (ar.countP isOpt : Nat)) > 0
    · rw [if_pos ht, if_pos ht]
      exact ⟨_, _, _, _, _, _, _, rfl, rfl, by simp⟩
    · rw [if_neg ht, if_neg ht]
      unfold chk at hc
      split at hc
      case isFalse => omega
      rename_i hall
      split at hc
      case isTrue => omega
      rename_i hsum
      simp only [Bool.and_eq_true, decide_eq_true_eq, List.all_eq_true] at hall
      obtain ⟨h1, h2, h3, h4⟩ := hall
      obtain ⟨x, hx, he⟩ := refData_f (k := k) (by omega) eo [] h4 (by omega) (by simp; omega)
      rw [show strOfNums [] = (⟨#[]⟩ : ByteArray) from rfl, nil_ba] at he
      obtain ⟨t1, t2⟩ := put_ttl h2.1 h2.2 h3.1 h3.2
      have t3 : bits .or .i64 (e2 * 16777216 + e3 * 65536) 32768 = e2 * 16777216 + e3 * 65536 + 32768 := bits_or_add 16 _ _ (by omega) (by omega) (by omega) (by omega) (by omega) (by omega)
      have t4 : wrap64 (e2 * 16777216 + e3 * 65536 + 32768) = e2 * 16777216 + e3 * 65536 + 32768 := wrap64_id (by omega) (by omega)
      have hd : ostiaryref09_data.f k eo = some x := hx
      have hst := refStrip_f (i := i) (f := f) (q := q) (an := an) (ns := ns) (ar := ar) (k := k) (by omega) (by omega)
      obtain ⟨k', rfl⟩ : ∃ m, k = m + 1 := ⟨k - 1, by omega⟩
      have hp := fun tt => putL (l := eo) h4 (by omega) (by omega) i f q an ns ar (by omega) ⟨#[0]⟩ 41 e1 tt eo.length 0 k' ⟨#[]⟩ (by omega) (by omega) (by rw [List.drop_zero]; show 0 + _ ≤ _; omega)
      have hp0 : ∀ tt, edns_Put.l0 k' eo (eo.length : Int) 0 i f q an ns ar ⟨#[0]⟩ 41 e1 tt ⟨#[]⟩ = some (i, f, q, noOpt an, noOpt ns, noOpt ar ++ [⟨⟨#[0]⟩, 41, e1, tt, optsB eo⟩], 0) := fun tt => by
        have := hp tt
        rw [List.drop_zero, nil_ba] at this
        exact this
      rw [hd, Option.bind_some]
      rw [hst, Option.bind_some, Option.bind_some]
      have hn : (noOpt ar).length < 2513169434916 := by omega
      have hlen : q.length + (noOpt an).length + (noOpt ns).length + ((noOpt ar).length + 1) ≤ 201 := by omega
      rw [t1, t2, t3, t4, edns_Put.j0, edns_Put.j0, hp0, hp0, he]
      clear hp hp0 hst hd hx t1 t2 t3 t4 h4 hsum hz
      simp only [if_pos hn]
      cases e4
      · exact ⟨_, _, _, _, _, _, _, if_neg (by decide), if_neg (by decide), by rw [List.length_append]; exact hlen⟩
      · exact ⟨_, _, _, _, _, _, _, if_pos rfl, if_pos rfl, by rw [List.length_append]; exact hlen⟩
  · rw [if_neg hc, if_neg hc]
    exact ⟨_, _, _, _, _, _, _, rfl, rfl, by simp⟩
theorem optSum_le {m : Nat} : ∀ {l : List S82}, (∀ o ∈ l, o.f1.size ≤ m) → optSum l ≤ l.length * (4 + m)
  | [], _ => by simp [optSum]
  | o :: r, h => by
    have h1 := h o (by simp)
    have h2 := optSum_le (l := r) (fun p hp => h p (by simp [hp]))
    unfold optSum
    rw [List.length_cons, Nat.succ_mul]
    omega
section
variable (i f : Int) (Aq : Option Addr) (cq : Nat) (q : List S79) (Aa : Option Addr) (ca : Nat) (an : List S48) (An : Option Addr) (cn : Nat) (ns : List S48) (Ar : Option Addr) (cr : Nat) (ar : List S48) (e1 e2 e3 : Int) (e4 : Bool) (Ae : Option Addr) (ce : Nat) (eo : List S82) (w : World)
set_option maxHeartbeats 1000000 in
theorem puts_big (k : Nat) (x y : Bool) (hq : Kd.C k79 w Aq q.length q) (lq : q.length ≤ cq) (ha : Kd.C k48 w Aa an.length an) (la : an.length ≤ ca) (hn : Kd.C k48 w An ns.length ns) (ln : ns.length ≤ cn) (hr : Kd.C k48 w Ar ar.length ar) (lr : ar.length ≤ cr) (he : Kd.C k82 w Ae eo.length eo) (le : eo.length ≤ ce)
    (hbig : ostiarykit_BigMessage.f k i f q an ns ar 200 66000 = some x) (hbe : ostiarykit_BigEdns.f k e1 e2 e3 e4 eo 100 66000 = some y) (hxy : x = true ∨ x = false ∧ y = true) :
    Calls Try.prog 3 #[.agg #[.int .i64 i, .int .i64 f, .slice Aq q.length cq, .slice Aa an.length ca, .slice An ns.length cn, .slice Ar ar.length cr], .agg #[.int .i64 e1, .int .i64 e2, .int .i64 e3, .bool e4, .slice Ae eo.length ce]] w fun e w' => e = .returned (.bool true) ∧ Below w.heap.size w w' := by
  have hBM := fun W (hb : Below w.heap.size w W) => ostiarykit_BigMessage.calls k i f Aq cq q Aa ca an An cn ns Ar cr ar 200 66000 x W (Kd.C_below hq hb) lq (Kd.C_below ha hb) la (Kd.C_below hn hb) ln (Kd.C_below hr hb) lr hbig
  have hBE := fun W (hb : Below w.heap.size w W) => ostiarykit_BigEdns.calls k e1 e2 e3 e4 Ae ce eo 100 66000 y W (Kd.C_below he hb) le hbe
  clear hq ha hn hr he hbig hbe
  rcases hxy with rfl | ⟨rfl, rfl⟩
  · go_enter Try.func3, Try.ntmps3
    go_wp2_with (go_at_call 20; (with_reducible refine (hBM _ ?hb).mono ?_); (case hb => exact below_alloc (below_alloc (Below.refl _ _) _) _); rintro e w1 ⟨rfl, hd⟩; have HB1 := Aside0.mk (below_step (below_alloc (below_alloc (Below.refl w.heap.size w) (.cells #[.int .i64 i, .int .i64 f, .slice Aq q.length cq, .slice Aa an.length ca, .slice An ns.length cn, .slice Ar ar.length cr] 25)) (.cells #[.int .i64 e1, .int .i64 e2, .int .i64 e3, .bool e4, .slice Ae eo.length ce] 28)) hd); clear hd)
    go_ret
    exact ⟨rfl, HB1.out⟩
  · go_enter Try.func3, Try.ntmps3
    go_wp2_with (first
      | (go_at_call 20; (with_reducible refine (hBM _ ?hb).mono ?_); (case hb => exact below_alloc (below_alloc (Below.refl _ _) _) _); rintro e w1 ⟨rfl, hd⟩; have HB1 := Aside0.mk (below_step (below_alloc (below_alloc (Below.refl w.heap.size w) (.cells #[.int .i64 i, .int .i64 f, .slice Aq q.length cq, .slice Aa an.length ca, .slice An ns.length cn, .slice Ar ar.length cr] 25)) (.cells #[.int .i64 e1, .int .i64 e2, .int .i64 e3, .bool e4, .slice Ae eo.length ce] 28)) hd); have K3 := Aside0.mk (blk_below (blk_new (w.alloc (.cells #[.int .i64 i, .int .i64 f, .slice Aq q.length cq, .slice Aa an.length ca, .slice An ns.length cn, .slice Ar ar.length cr] 25)) (.cells #[.int .i64 e1, .int .i64 e2, .int .i64 e3, .bool e4, .slice Ae eo.length ce] 28)) hd); simp only [World.size_alloc] at K3; have z0 : w1.cell? ⟨w.heap.size + 1, 0, none⟩ = some _ := (blk_cell K3.out 0).trans rfl; have z1 : w1.cell? ⟨w.heap.size + 1, 1, none⟩ = some _ := (blk_cell K3.out 1).trans rfl; have z2 : w1.cell? ⟨w.heap.size + 1, 2, none⟩ = some _ := (blk_cell K3.out 2).trans rfl; have z3 : w1.cell? ⟨w.heap.size + 1, 3, none⟩ = some _ := (blk_cell K3.out 3).trans rfl; have z4 : w1.cell? ⟨w.heap.size + 1, 4, none⟩ = some _ := (blk_cell K3.out 4).trans rfl; clear hd)
      | (go_at_call 21; (with_reducible refine (hBE _ ?hb).mono ?_); (case hb => exact HB1.out); rintro e w2 ⟨rfl, hd⟩; have HB2 := Aside0.mk (below_step HB1.out hd); clear hd))
    go_ret
    exact ⟨rfl, HB2.out⟩
theorem puts_all (hq : Kd.C k79 w Aq q.length q) (lq : q.length ≤ cq) (ha : Kd.C k48 w Aa an.length an) (la : an.length ≤ ca) (hn : Kd.C k48 w An ns.length ns) (ln : ns.length ≤ cn) (hr : Kd.C k48 w Ar ar.length ar) (lr : ar.length ≤ cr) (he : Kd.C k82 w Ae eo.length eo) (le : eo.length ≤ ce)
    (hs : q.length + an.length + ns.length + ar.length < 4611686018427387904) (hs2 : eo.length < 4611686018427387904) :
    Calls Try.prog 3 #[.agg #[.int .i64 i, .int .i64 f, .slice Aq q.length cq, .slice Aa an.length ca, .slice An ns.length cn, .slice Ar ar.length cr], .agg #[.int .i64 e1, .int .i64 e2, .int .i64 e3, .bool e4, .slice Ae eo.length ce]] w fun e w' => e = .returned (.bool true) ∧ Below w.heap.size w w' := by
  have hM := fun k hk => bigMsg_f (x0 := i) (x1 := f) (b := 66000) (most := 200) (k := k) hs hk
  have hE := fun k hk => bigEdns_f (a := e1) (b := e2) (c := e3) (d := e4) (m := 100) (x := 66000) (k := k) hs2 hk
  by_cases hxy : bigMsg q an ns ar 200 66000 = true ∨ bigMsg q an ns ar 200 66000 = false ∧ bigEdns eo 100 66000 = true
  · exact puts_big i f Aq cq q Aa ca an An cn ns Ar cr ar e1 e2 e3 e4 Ae ce eo w (q.length + (an.length + ns.length + ar.length) + eo.length + 2) _ _ hq lq ha la hn ln hr lr he le (hM _ (by omega)) (hE _ (by omega)) hxy
  · have hbig : bigMsg q an ns ar 200 66000 = false := by
      cases h : bigMsg q an ns ar 200 66000
      · rfl
      · exact (hxy (.inl h)).elim
    have hbe : bigEdns eo 100 66000 = false := by
      cases h : bigEdns eo 100 66000
      · rfl
      · exact (hxy (.inr ⟨hbig, h⟩)).elim
    rw [hbig] at hM
    rw [hbe] at hE
    unfold bigMsg at hbig
    simp only [Bool.or_eq_false_iff, decide_eq_false_iff_not] at hbig
    unfold bigEdns at hbe
    simp only [Bool.or_eq_false_iff, decide_eq_false_iff_not, List.any_eq_false, decide_eq_true_eq] at hbe
    have hle : q.length + an.length + ns.length + ar.length ≤ 200 := by omega
    have hol : eo.length ≤ 100 := by omega
    have hz : optSum eo < 1000000000000 := by
      have := optSum_le (m := 66000) (l := eo) (fun o ho => by have := hbe.1 o ho; omega)
      have h2 : eo.length * (4 + 66000) ≤ 100 * (4 + 66000) := Nat.mul_le_mul_right _ hol
      omega
    obtain ⟨r1, r2, r3, r4, r5, r6, r7, h1, h2, h3⟩ := puts_same (i := i) (f := f) (q := q) (an := an) (ns := ns) (ar := ar) (e1 := e1) (e2 := e2) (e3 := e3) (e4 := e4) (eo := eo) (k := 2000) hle hol hz (by omega)
    obtain ⟨x, hx, hxi⟩ := sameMsg_f r1 r2 r1 r2 r3 r3 r4 r4 r5 r5 r6 r6 (k := 2000) (by omega) (by omega)
    obtain rfl : x = true := hxi.2 ⟨rfl, rfl, rfl, rfl, rfl, rfl⟩
    obtain ⟨y, hy, hyi⟩ := sameMsg_f i f i f q q an an ns ns ar ar (k := 2000) (by omega) (by omega)
    obtain rfl : y = true := hyi.2 ⟨rfl, rfl, rfl, rfl, rfl, rfl⟩
    exact puts_walk 2000 i f Aq cq q Aa ca an An cn ns Ar cr ar e1 e2 e3 e4 Ae ce eo w hq lq ha la hn ln hr lr he le hle (hM _ (by omega)) (hE _ (by omega)) (by unfold ostiarykit_CopyEdns.f; simp only [Option.bind_some]; rw [if_pos (by simp; omega)]; rfl)
      r1 r2 r3 r4 r5 r6 r7 h1 h2 h3 hx (chk e1 e2 e3 eo) (check_f hz (by omega) (by omega)) (refCheck_f hz (by omega) (by omega)) hy (sameEdns_f (by omega) (by omega))
end
end Go.Proofs.Yteahdaddbmhfgaa.P
end
