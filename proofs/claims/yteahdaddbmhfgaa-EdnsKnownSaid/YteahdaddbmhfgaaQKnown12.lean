import Derived.Test.YteahdaddbmhfgaaQKnown1
import Derived.Test.YteahdaddbmhfgaaQKnown2
import Derived.Test.YteahdaddbmhfgaaQKnown3
import Derived.Test.YteahdaddbmhfgaaQKnown4
import Derived.Test.YteahdaddbmhfgaaQKnown5
import Derived.Test.YteahdaddbmhfgaaQKnown6
import Derived.Test.YteahdaddbmhfgaaQKnown7
import Derived.Test.YteahdaddbmhfgaaQKnown8
import Derived.Test.YteahdaddbmhfgaaQKnown9
import Derived.Test.YteahdaddbmhfgaaQKnown10
import Derived.Test.YteahdaddbmhfgaaQKnown11
section
-- Printed by the kit's print.py, driven by pall.py: one text a function. Lean checks it.
namespace Go.Proofs.Yteahdaddbmhfgaa.P
open Go.RowKit Go.Proofs.YteahdaddbmhfgaaW.PrintWords Go.Proofs.YteahdaddbmhfgaaW.PrintLast Go.Proofs.YteahdaddbmhfgaaW.PrintMore
attribute [local go_sem] max2_int min2_int max_two min_two max_three min_three max_four min_four
set_option linter.unusedVariables false
set_option linter.unusedSimpArgs false
def ostiarylaw09_awake.f (k : Nat)  : Option (Bool) := (edns_Put.f k 7 0 ([] : List (S79)) ([] : List (S48)) ([] : List (S48)) ([] : List (S48)) 1232 0 0 true ([] : List (S82))).bind fun bt101 => ((edns_Of.f bt101.1 bt101.2.1 bt101.2.2.1 bt101.2.2.2.1 bt101.2.2.2.2.1 bt101.2.2.2.2.2.1).bind fun bt117 => (if bt101.2.2.2.2.2.2 = 0 then ((ostiarykit_SameRecs.f k bt101.2.2.2.2.2.1 (([(⟨(⟨#[0]⟩ : ByteArray), 41, 1232, 32768, (⟨#[]⟩ : ByteArray)⟩ : S48)] : List (S48)))).bind fun t130 => (if t130 = true then (if bt117.2.2.2.2.2.1 = true then (if bt117.2.2.2.2.2.2 = 0 then ((ostiarykit_SameEdns.f k bt117.1 bt117.2.1 bt117.2.2.1 bt117.2.2.2.1 bt117.2.2.2.2.1 1232 0 0 true ([] : List (S82))).bind fun t131 => (if t131 = true then ((edns_Room.f bt101.1 bt101.2.1 bt101.2.2.1 bt101.2.2.2.1 bt101.2.2.2.2.1 bt101.2.2.2.2.2.1).bind fun t132 => (some (t132 == 1232))) else (none))) else (none)) else (none)) else (none))) else (none)))
theorem ostiarylaw09_awake.mono : ∀ k, LeO (ostiarylaw09_awake.f k ) (ostiarylaw09_awake.f (k + 1) ) := by
  intro  k
  unfold ostiarylaw09_awake.f
  repeat' first
      | (with_reducible exact edns_Put.mono _ _ _ _ _ _ _ _ _ _ _ _)
      | (with_reducible exact ostiarykit_SameEdns.mono _ _ _ _ _ _ _ _ _ _ _)
      | (with_reducible exact ostiarykit_SameRecs.mono _ _ _)
      | (with_reducible exact LeO.refl _)
      | (with_reducible exact LeO.none _)
      | (with_reducible refine LeO.ite ?_ ?_)
      | (with_reducible refine LeO.bind ?_ (fun _ => ?_))
      | exact edns_Put.mono _ _ _ _ _ _ _ _ _ _ _ _
      | exact ostiarykit_SameEdns.mono _ _ _ _ _ _ _ _ _ _ _
      | exact ostiarykit_SameRecs.mono _ _ _
      | exact LeO.none _
      | refine LeO.ite ?_ ?_
      | refine LeO.bind ?_ (fun _ => ?_)
set_option maxHeartbeats 8000000 in
set_option maxRecDepth 100000 in
theorem ostiarylaw09_awake.calls (k : Nat)  (r : Bool) (w : World) (h : ostiarylaw09_awake.f k  = some r) :
    Calls Try.prog 32 #[] w fun e w' => e = .returned (.bool r) ∧ Below w.heap.size w w' := by
  have hu25 := Try.underlying25
  have hu28 := Try.underlying28
  have hu48 := Try.underlying48
  have HB := Aside0.mk (Below.refl w.heap.size w)
  have H : ((edns_Put.f k 7 0 ([] : List (S79)) ([] : List (S48)) ([] : List (S48)) ([] : List (S48)) 1232 0 0 true ([] : List (S82))).bind fun bt101 => ((edns_Of.f bt101.1 bt101.2.1 bt101.2.2.1 bt101.2.2.2.1 bt101.2.2.2.2.1 bt101.2.2.2.2.2.1).bind fun bt117 => (if bt101.2.2.2.2.2.2 = 0 then ((ostiarykit_SameRecs.f k bt101.2.2.2.2.2.1 (([(⟨(⟨#[0]⟩ : ByteArray), 41, 1232, 32768, (⟨#[]⟩ : ByteArray)⟩ : S48)] : List (S48)))).bind fun t130 => (if t130 = true then (if bt117.2.2.2.2.2.1 = true then (if bt117.2.2.2.2.2.2 = 0 then ((ostiarykit_SameEdns.f k bt117.1 bt117.2.1 bt117.2.2.1 bt117.2.2.2.1 bt117.2.2.2.2.1 1232 0 0 true ([] : List (S82))).bind fun t131 => (if t131 = true then ((edns_Room.f bt101.1 bt101.2.1 bt101.2.2.1 bt101.2.2.2.1 bt101.2.2.2.2.1 bt101.2.2.2.2.2.1).bind fun t132 => (some (t132 == 1232))) else (none))) else (none)) else (none)) else (none))) else (none)))) = some r := h
  clear h
  replace H := Option.bind_eq_some_iff.mp H
  obtain ⟨⟨t101, t102, t103, t106, t109, t112, t115⟩, A10, H⟩ := H
  replace H : ((edns_Of.f t101 t102 t103 t106 t109 t112).bind fun bt117 => (if t115 = 0 then ((ostiarykit_SameRecs.f k t112 (([(⟨(⟨#[0]⟩ : ByteArray), 41, 1232, 32768, (⟨#[]⟩ : ByteArray)⟩ : S48)] : List (S48)))).bind fun t130 => (if t130 = true then (if bt117.2.2.2.2.2.1 = true then (if bt117.2.2.2.2.2.2 = 0 then ((ostiarykit_SameEdns.f k bt117.1 bt117.2.1 bt117.2.2.1 bt117.2.2.2.1 bt117.2.2.2.2.1 1232 0 0 true ([] : List (S82))).bind fun t131 => (if t131 = true then ((edns_Room.f t101 t102 t103 t106 t109 t112).bind fun t132 => (some (t132 == 1232))) else (none))) else (none)) else (none)) else (none))) else (none))) = some r := H
  have A1 := Aside0.mk A10
  clear A10
  replace H := Option.bind_eq_some_iff.mp H
  obtain ⟨⟨t117, t118, t119, t120, t121, t124, t125⟩, A20, H⟩ := H
  replace H : (if t115 = 0 then ((ostiarykit_SameRecs.f k t112 (([(⟨(⟨#[0]⟩ : ByteArray), 41, 1232, 32768, (⟨#[]⟩ : ByteArray)⟩ : S48)] : List (S48)))).bind fun t130 => (if t130 = true then (if t124 = true then (if t125 = 0 then ((ostiarykit_SameEdns.f k t117 t118 t119 t120 t121 1232 0 0 true ([] : List (S82))).bind fun t131 => (if t131 = true then ((edns_Room.f t101 t102 t103 t106 t109 t112).bind fun t132 => (some (t132 == 1232))) else (none))) else (none)) else (none)) else (none))) else (none)) = some r := H
  have A2 := Aside0.mk A20
  clear A20
  obtain ⟨y127, hy127⟩ : ∃ y_ : List (S48), y_ = (([(⟨(⟨#[0]⟩ : ByteArray), 41, 1232, 32768, (⟨#[]⟩ : ByteArray)⟩ : S48)] : List (S48))) := ⟨_, rfl⟩
  replace H : (if t115 = 0 then ((ostiarykit_SameRecs.f k t112 y127).bind fun t130 => (if t130 = true then (if t124 = true then (if t125 = 0 then ((ostiarykit_SameEdns.f k t117 t118 t119 t120 t121 1232 0 0 true ([] : List (S82))).bind fun t131 => (if t131 = true then ((edns_Room.f t101 t102 t103 t106 t109 t112).bind fun t132 => (some (t132 == 1232))) else (none))) else (none)) else (none)) else (none))) else (none)) = some r := by first | (rw [hy127]; with_reducible exact H) | (have H2_ := (Option.bind_some _ _).symm.trans H; rw [hy127]; with_reducible exact H2_) | (have H2_ := (Option.bind_some _ _).symm.trans H; with_reducible exact H2_) | with_reducible exact H | (rw [hy127]; exact H) | exact H
  have Ny127 := Aside0.mk hy127
  clear hy127
  by_cases c3 : t115 = 0
  · rw [if_pos c3] at H
    have c3b0 : (t115 == 0) = true := beq_iff_eq.mpr c3
    have c3b1 : (t115 != 0) = false := bne_eq_false_iff_eq.mpr c3
    clear c3
    replace H := Option.bind_eq_some_iff.mp H
    obtain ⟨t130, A40, H⟩ := H
    replace H : (if t130 = true then (if t124 = true then (if t125 = 0 then ((ostiarykit_SameEdns.f k t117 t118 t119 t120 t121 1232 0 0 true ([] : List (S82))).bind fun t131 => (if t131 = true then ((edns_Room.f t101 t102 t103 t106 t109 t112).bind fun t132 => (some (t132 == 1232))) else (none))) else (none)) else (none)) else (none)) = some r := H
    have A4 := Aside0.mk A40
    clear A40
    by_cases c5 : t130 = true
    · subst c5
      have H1 : (if t124 = true then (if t125 = 0 then ((ostiarykit_SameEdns.f k t117 t118 t119 t120 t121 1232 0 0 true ([] : List (S82))).bind fun t131 => (if t131 = true then ((edns_Room.f t101 t102 t103 t106 t109 t112).bind fun t132 => (some (t132 == 1232))) else (none))) else (none)) else (none)) = some r := by rw [if_pos rfl] at H; exact H
      clear H
      have H := H1
      clear H1
      by_cases c6 : t124 = true
      · subst c6
        have H1 : (if t125 = 0 then ((ostiarykit_SameEdns.f k t117 t118 t119 t120 t121 1232 0 0 true ([] : List (S82))).bind fun t131 => (if t131 = true then ((edns_Room.f t101 t102 t103 t106 t109 t112).bind fun t132 => (some (t132 == 1232))) else (none))) else (none)) = some r := by rw [if_pos rfl] at H; exact H
        clear H
        have H := H1
        clear H1
        by_cases c7 : t125 = 0
        · rw [if_pos c7] at H
          have c7b0 : (t125 == 0) = true := beq_iff_eq.mpr c7
          have c7b1 : (t125 != 0) = false := bne_eq_false_iff_eq.mpr c7
          clear c7
          replace H := Option.bind_eq_some_iff.mp H
          obtain ⟨t131, A80, H⟩ := H
          replace H : (if t131 = true then ((edns_Room.f t101 t102 t103 t106 t109 t112).bind fun t132 => (some (t132 == 1232))) else (none)) = some r := H
          have A8 := Aside0.mk A80
          clear A80
          by_cases c9 : t131 = true
          · subst c9
            have H1 : ((edns_Room.f t101 t102 t103 t106 t109 t112).bind fun t132 => (some (t132 == 1232))) = some r := by rw [if_pos rfl] at H; exact H
            clear H
            have H := H1
            clear H1
            replace H := Option.bind_eq_some_iff.mp H
            obtain ⟨t132, A100, H⟩ := H
            replace H : (some (t132 == 1232)) = some r := H
            have A10 := Aside0.mk A100
            clear A100
            obtain rfl := Option.some.inj H
            go_enter Try.func32, Try.ntmps32
            go_wp2_with (first | ((with_reducible refine gate_callee (f := 24) rfl ?_); refine goesL_ (some 10) rfl rfl Try.func24 (by kernel_rfl) rfl #[.agg #[.int .i64 7, .int .i64 0, .slice none 0 0, .slice none 0 0, .slice none 0 0, .slice none 0 0], .agg #[.int .i64 1232, .int .i64 0, .int .i64 0, .bool true, .slice none 0 0]] rfl (by (try simp only [List.map_toArray, List.map_cons, List.map_nil]); first | done | rfl | (simp only [List.length_drop, List.length_take]; rfl)) ?_; (refine (edns_Put.calls k 7 0 _ _ ([] : List (S79)) _ _ ([] : List (S48)) _ _ ([] : List (S48)) _ _ ([] : List (S48)) 1232 0 0 true _ _ ([] : List (S82)) t101 t102 t103 t106 t109 t112 t115 _ ?side1 ?side2 ?side3 ?side4 ?side5 ?side6 ?side7 ?side8 ?side9 ?side10 A1.out).mono ?_); (case side1 => exact Kd.C_nil _ _); (case side2 => exact Nat.le_refl _); (case side3 => exact Kd.C_nil _ _); (case side4 => exact Nat.le_refl _); (case side5 => exact Kd.C_nil _ _); (case side6 => exact Nat.le_refl _); (case side7 => exact Kd.C_nil _ _); (case side8 => exact Nat.le_refl _); (case side9 => exact Kd.C_nil _ _); (case side10 => exact Nat.le_refl _); rintro e w11 ⟨v104, v107, v110, v113, rfl, ho0, ho1, ho2, ho3, hb⟩; refine ⟨_, rfl, ?_⟩; have n0_ := Aside0.mk (Kd.R_lower ho0 (below_size (by repeat (first | (with_reducible first | exact HB.out | apply below_alloc | apply pw_below_drewN | apply below_drew1) | exact HB.out)))); have n1_ := Aside0.mk (Kd.R_lower ho1 (below_size (by repeat (first | (with_reducible first | exact HB.out | apply below_alloc | apply pw_below_drewN | apply below_drew1) | exact HB.out)))); have n2_ := Aside0.mk (Kd.R_lower ho2 (below_size (by repeat (first | (with_reducible first | exact HB.out | apply below_alloc | apply pw_below_drewN | apply below_drew1) | exact HB.out)))); have n3_ := Aside0.mk (Kd.R_lower ho3 (below_size (by repeat (first | (with_reducible first | exact HB.out | apply below_alloc | apply pw_below_drewN | apply below_drew1) | exact HB.out)))); have n4_ := Aside0.mk (below_step (by repeat (first | (with_reducible first | exact HB.out | apply below_alloc | apply pw_below_drewN | apply below_drew1) | exact HB.out)) hb); clear HB; have HO105 := n0_; have HO108 := n1_; have HO111 := n2_; have HO114 := n3_; have HB := n4_; clear n0_ n1_ n2_ n3_ n4_; (try clear hb); (try clear hb2); (try clear hk); (try clear hi); (try clear ho0); (try clear ho1); (try clear ho2); (try clear ho3)) | ((with_reducible refine gate_dst (N := 1) rfl ?_); refine box_event ?hg (N := 1) ?hd (cs := #[.int .i64 0, .int .i64 0, .slice none 0 0, .slice none 0 0, .slice none 0 0, .slice none 0 0]) (t := 25) ?hr ?_; (case hd => rfl); (case hg => rfl); (case hr => first | (go_simp; done) | (go_simp; rfl)); intro gb116 hg w12 hbox hb; have n0_ := Aside0.mk (Kd.R_below (by exact HO105.out) hb); have n1_ := Aside0.mk (Kd.R_below (by exact HO108.out) hb); have n2_ := Aside0.mk (Kd.R_below (by exact HO111.out) hb); have n3_ := Aside0.mk (Kd.R_below (by exact HO114.out) hb); have n4_ := Aside0.mk (below_step (by repeat (first | (with_reducible first | exact HB.out | apply below_alloc | apply pw_below_drewN | apply below_drew1) | exact HB.out)) hb); have n5_ := Aside0.mk (hbox); have n6_ := Aside0.mk ((by rw [hg]; exact (below_size (by repeat (first | (with_reducible first | exact HB.out | apply below_alloc | apply pw_below_drewN | apply below_drew1) | exact HB.out))) : w.heap.size ≤ gb116)); have n7_ := Aside0.mk ((by rw [hg]; exact (below_size (by repeat (first | (with_reducible first | exact HB.out | apply below_alloc | apply pw_below_drewN | apply below_drew1) | exact HB.out))) : w.heap.size ≤ gb116)); clear HO105; clear HO108; clear HO111; clear HO114; clear HB; have HO105 := n0_; have HO108 := n1_; have HO111 := n2_; have HO114 := n3_; have HB := n4_; have BK116 := n5_; have GW116 := n6_; have GE116 := n7_; clear n0_ n1_ n2_ n3_ n4_ n5_ n6_ n7_; clear hb hbox hg; have hcz13_0 : w12.cell? ⟨gb116, 0, none⟩ = some (.int .i64 0) := (blk_cell BK116.out 0).trans rfl; have hcz13_1 : w12.cell? ⟨gb116, 1, none⟩ = some (.int .i64 0) := (blk_cell BK116.out 1).trans rfl; have hcz13_2 : w12.cell? ⟨gb116, 2, none⟩ = some (.slice none 0 0) := (blk_cell BK116.out 2).trans rfl; have hcz13_3 : w12.cell? ⟨gb116, 3, none⟩ = some (.slice none 0 0) := (blk_cell BK116.out 3).trans rfl; have hcz13_4 : w12.cell? ⟨gb116, 4, none⟩ = some (.slice none 0 0) := (blk_cell BK116.out 4).trans rfl; have hcz13_5 : w12.cell? ⟨gb116, 5, none⟩ = some (.slice none 0 0) := (blk_cell BK116.out 5).trans rfl; have hfz13_0 := blk_frozen BK116.out 0; have hfz13_1 := blk_frozen BK116.out 1; have hfz13_2 := blk_frozen BK116.out 2; have hfz13_3 := blk_frozen BK116.out 3; have hfz13_4 := blk_frozen BK116.out 4; have hfz13_5 := blk_frozen BK116.out 5; obtain ⟨Ao14, co14, eo14⟩ := Kd.R_slice HO105.out; subst eo14; obtain ⟨Ao15, co15, eo15⟩ := Kd.R_slice HO108.out; subst eo15; obtain ⟨Ao16, co16, eo16⟩ := Kd.R_slice HO111.out; subst eo16; obtain ⟨Ao17, co17, eo17⟩ := Kd.R_slice HO114.out; subst eo17) | ((with_reducible refine gate_callee (f := 33) rfl ?_); refine goesL_ (some 15) rfl rfl Try.func33 (by kernel_rfl) rfl #[.agg #[.int .i64 t101, .int .i64 t102, .slice Ao14 t103.length co14, .slice Ao15 t106.length co15, .slice Ao16 t109.length co16, .slice Ao17 t112.length co17]] rfl (by (try simp only [List.map_toArray, List.map_cons, List.map_nil]); first | done | rfl | (simp only [List.length_drop, List.length_take]; rfl)) ?_; (with_reducible refine (edns_Of.calls t101 t102 _ _ t103 _ _ t106 _ _ t109 _ _ t112 t117 t118 t119 t120 t121 true t125 _ ?side1 ?side2 ?side3 ?side4 ?side5 ?side6 ?side7 ?side8 A2.out).mono ?_); (case side1 => refine (Kd.R_reads' (e := 79) (base := w.heap.size) (ok := fun k_ => True) (n := t103.length) (c := co14) ?_).2.2; exact (by exact (Kd.R_mono (Kd.R_far (p := ⟨gb116, 5, none⟩) (Kd.R_far (p := ⟨gb116, 4, none⟩) (Kd.R_far (p := ⟨gb116, 3, none⟩) (Kd.R_far (p := ⟨gb116, 2, none⟩) (Kd.R_far (p := ⟨gb116, 1, none⟩) (Kd.R_far (p := ⟨gb116, 0, none⟩) (Kd.R_types HO105.out BK116.out (by decide)) (fun _ hk => hk.2) (.int .i64 t101)) (fun _ hk => hk.2) (.int .i64 t102)) (fun _ hk => hk.2) (.slice Ao14 t103.length co14)) (fun _ hk => hk.2) (.slice Ao15 t106.length co15)) (fun _ hk => hk.2) (.slice Ao16 t109.length co16)) (fun _ hk => hk.2) (.slice Ao17 t112.length co17)) (fun _ h_ => h_.1)))); (case side2 => exact (Kd.R_reads' HO105.out).2.1); (case side3 => refine (Kd.R_reads' (e := 48) (base := w.heap.size) (ok := fun k_ => (some k_ ≠ (.slice Ao16 t109.length co16 : Value).ownBlock ∧ some k_ ≠ (.slice Ao17 t112.length co17 : Value).ownBlock)) (n := t106.length) (c := co15) ?_).2.2; exact (by exact (Kd.R_mono (Kd.R_far (p := ⟨gb116, 5, none⟩) (Kd.R_far (p := ⟨gb116, 4, none⟩) (Kd.R_far (p := ⟨gb116, 3, none⟩) (Kd.R_far (p := ⟨gb116, 2, none⟩) (Kd.R_far (p := ⟨gb116, 1, none⟩) (Kd.R_far (p := ⟨gb116, 0, none⟩) (Kd.R_types HO108.out BK116.out (by decide)) (fun _ hk => hk.2) (.int .i64 t101)) (fun _ hk => hk.2) (.int .i64 t102)) (fun _ hk => hk.2) (.slice Ao14 t103.length co14)) (fun _ hk => hk.2) (.slice Ao15 t106.length co15)) (fun _ hk => hk.2) (.slice Ao16 t109.length co16)) (fun _ hk => hk.2) (.slice Ao17 t112.length co17)) (fun _ h_ => h_.1)))); (case side4 => exact (Kd.R_reads' HO108.out).2.1); (case side5 => refine (Kd.R_reads' (e := 48) (base := w.heap.size) (ok := fun k_ => (some k_ ≠ (.slice Ao15 t106.length co15 : Value).ownBlock ∧ some k_ ≠ (.slice Ao17 t112.length co17 : Value).ownBlock)) (n := t109.length) (c := co16) ?_).2.2; exact (by exact (Kd.R_mono (Kd.R_far (p := ⟨gb116, 5, none⟩) (Kd.R_far (p := ⟨gb116, 4, none⟩) (Kd.R_far (p := ⟨gb116, 3, none⟩) (Kd.R_far (p := ⟨gb116, 2, none⟩) (Kd.R_far (p := ⟨gb116, 1, none⟩) (Kd.R_far (p := ⟨gb116, 0, none⟩) (Kd.R_types HO111.out BK116.out (by decide)) (fun _ hk => hk.2) (.int .i64 t101)) (fun _ hk => hk.2) (.int .i64 t102)) (fun _ hk => hk.2) (.slice Ao14 t103.length co14)) (fun _ hk => hk.2) (.slice Ao15 t106.length co15)) (fun _ hk => hk.2) (.slice Ao16 t109.length co16)) (fun _ hk => hk.2) (.slice Ao17 t112.length co17)) (fun _ h_ => h_.1)))); (case side6 => exact (Kd.R_reads' HO111.out).2.1); (case side7 => refine (Kd.R_reads' (e := 48) (base := w.heap.size) (ok := fun k_ => (some k_ ≠ (.slice Ao15 t106.length co15 : Value).ownBlock ∧ some k_ ≠ (.slice Ao16 t109.length co16 : Value).ownBlock)) (n := t112.length) (c := co17) ?_).2.2; exact (by exact (Kd.R_mono (Kd.R_far (p := ⟨gb116, 5, none⟩) (Kd.R_far (p := ⟨gb116, 4, none⟩) (Kd.R_far (p := ⟨gb116, 3, none⟩) (Kd.R_far (p := ⟨gb116, 2, none⟩) (Kd.R_far (p := ⟨gb116, 1, none⟩) (Kd.R_far (p := ⟨gb116, 0, none⟩) (Kd.R_types HO114.out BK116.out (by decide)) (fun _ hk => hk.2) (.int .i64 t101)) (fun _ hk => hk.2) (.int .i64 t102)) (fun _ hk => hk.2) (.slice Ao14 t103.length co14)) (fun _ hk => hk.2) (.slice Ao15 t106.length co15)) (fun _ hk => hk.2) (.slice Ao16 t109.length co16)) (fun _ hk => hk.2) (.slice Ao17 t112.length co17)) (fun _ h_ => h_.1)))); (case side8 => exact (Kd.R_reads' HO114.out).2.1); rintro e w18 ⟨v122, rfl, ho0, hb⟩; refine ⟨_, rfl, ?_⟩; have n0_ := Aside0.mk (Kd.R_below (by exact (Kd.R_mono (Kd.R_far (p := ⟨gb116, 5, none⟩) (Kd.R_far (p := ⟨gb116, 4, none⟩) (Kd.R_far (p := ⟨gb116, 3, none⟩) (Kd.R_far (p := ⟨gb116, 2, none⟩) (Kd.R_far (p := ⟨gb116, 1, none⟩) (Kd.R_far (p := ⟨gb116, 0, none⟩) (Kd.R_types HO105.out BK116.out (by decide)) (fun _ hk => hk.2) (.int .i64 t101)) (fun _ hk => hk.2) (.int .i64 t102)) (fun _ hk => hk.2) (.slice Ao14 t103.length co14)) (fun _ hk => hk.2) (.slice Ao15 t106.length co15)) (fun _ hk => hk.2) (.slice Ao16 t109.length co16)) (fun _ hk => hk.2) (.slice Ao17 t112.length co17)) (fun _ h_ => h_.1))) hb); have n1_ := Aside0.mk (Kd.R_below (by exact (Kd.R_mono (Kd.R_far (p := ⟨gb116, 5, none⟩) (Kd.R_far (p := ⟨gb116, 4, none⟩) (Kd.R_far (p := ⟨gb116, 3, none⟩) (Kd.R_far (p := ⟨gb116, 2, none⟩) (Kd.R_far (p := ⟨gb116, 1, none⟩) (Kd.R_far (p := ⟨gb116, 0, none⟩) (Kd.R_types HO108.out BK116.out (by decide)) (fun _ hk => hk.2) (.int .i64 t101)) (fun _ hk => hk.2) (.int .i64 t102)) (fun _ hk => hk.2) (.slice Ao14 t103.length co14)) (fun _ hk => hk.2) (.slice Ao15 t106.length co15)) (fun _ hk => hk.2) (.slice Ao16 t109.length co16)) (fun _ hk => hk.2) (.slice Ao17 t112.length co17)) (fun _ h_ => h_.1))) hb); have n2_ := Aside0.mk (Kd.R_below (by exact (Kd.R_mono (Kd.R_far (p := ⟨gb116, 5, none⟩) (Kd.R_far (p := ⟨gb116, 4, none⟩) (Kd.R_far (p := ⟨gb116, 3, none⟩) (Kd.R_far (p := ⟨gb116, 2, none⟩) (Kd.R_far (p := ⟨gb116, 1, none⟩) (Kd.R_far (p := ⟨gb116, 0, none⟩) (Kd.R_types HO111.out BK116.out (by decide)) (fun _ hk => hk.2) (.int .i64 t101)) (fun _ hk => hk.2) (.int .i64 t102)) (fun _ hk => hk.2) (.slice Ao14 t103.length co14)) (fun _ hk => hk.2) (.slice Ao15 t106.length co15)) (fun _ hk => hk.2) (.slice Ao16 t109.length co16)) (fun _ hk => hk.2) (.slice Ao17 t112.length co17)) (fun _ h_ => h_.1))) hb); have n3_ := Aside0.mk (Kd.R_below (by exact (Kd.R_mono (Kd.R_far (p := ⟨gb116, 5, none⟩) (Kd.R_far (p := ⟨gb116, 4, none⟩) (Kd.R_far (p := ⟨gb116, 3, none⟩) (Kd.R_far (p := ⟨gb116, 2, none⟩) (Kd.R_far (p := ⟨gb116, 1, none⟩) (Kd.R_far (p := ⟨gb116, 0, none⟩) (Kd.R_types HO114.out BK116.out (by decide)) (fun _ hk => hk.2) (.int .i64 t101)) (fun _ hk => hk.2) (.int .i64 t102)) (fun _ hk => hk.2) (.slice Ao14 t103.length co14)) (fun _ hk => hk.2) (.slice Ao15 t106.length co15)) (fun _ hk => hk.2) (.slice Ao16 t109.length co16)) (fun _ hk => hk.2) (.slice Ao17 t112.length co17)) (fun _ h_ => h_.1))) hb); have n4_ := Aside0.mk (Kd.R_lower ho0 (below_size (by repeat (first | (with_reducible first | exact HB.out | apply below_alloc | apply pw_below_drewN | apply below_drew1 | refine below_set ?_ GE116.out) | exact HB.out)))); have n5_ := Aside0.mk (blk_below (g := gb116) (o := .cells #[.int .i64 t101, .int .i64 t102, .slice Ao14 t103.length co14, .slice Ao15 t106.length co15, .slice Ao16 t109.length co16, .slice Ao17 t112.length co17] 25 (0, 0)) (by refine blk_put (cs := #[.int .i64 t101, .int .i64 t102, .slice Ao14 t103.length co14, .slice Ao15 t106.length co15, .slice Ao16 t109.length co16, .slice none 0 0]) ?_ 5 _ rfl; refine blk_put (cs := #[.int .i64 t101, .int .i64 t102, .slice Ao14 t103.length co14, .slice Ao15 t106.length co15, .slice none 0 0, .slice none 0 0]) ?_ 4 _ rfl; refine blk_put (cs := #[.int .i64 t101, .int .i64 t102, .slice Ao14 t103.length co14, .slice none 0 0, .slice none 0 0, .slice none 0 0]) ?_ 3 _ rfl; refine blk_put (cs := #[.int .i64 t101, .int .i64 t102, .slice none 0 0, .slice none 0 0, .slice none 0 0, .slice none 0 0]) ?_ 2 _ rfl; refine blk_put (cs := #[.int .i64 t101, .int .i64 0, .slice none 0 0, .slice none 0 0, .slice none 0 0, .slice none 0 0]) ?_ 1 _ rfl; refine blk_put (cs := #[.int .i64 0, .int .i64 0, .slice none 0 0, .slice none 0 0, .slice none 0 0, .slice none 0 0]) ?_ 0 _ rfl; exact BK116.out) hb); have n6_ := Aside0.mk (below_step (by repeat (first | (with_reducible first | exact HB.out | apply below_alloc | apply pw_below_drewN | apply below_drew1 | refine below_set ?_ GE116.out) | exact HB.out)) hb); clear HO105; clear HO108; clear HO111; clear HO114; clear BK116; clear HB; have HO105 := n0_; have HO108 := n1_; have HO111 := n2_; have HO114 := n3_; have HO123 := n4_; have BK116 := n5_; have HB := n6_; clear n0_ n1_ n2_ n3_ n4_ n5_ n6_; (try clear hb); (try clear hb2); (try clear hk); (try clear hi); (try clear ho0)) | ((with_reducible refine gate_dst (N := 3) rfl ?_); refine box_event ?hg (N := 3) ?hd (cs := #[.int .i64 0, .int .i64 0, .int .i64 0, .bool false, .slice none 0 0]) (t := 28) ?hr ?_; (case hd => rfl); (case hg => rfl); (case hr => first | (go_simp; done) | (go_simp; rfl)); intro gb126 hg w19 hbox hb; have n0_ := Aside0.mk (Kd.R_below (by exact HO105.out) hb); have n1_ := Aside0.mk (Kd.R_below (by exact HO108.out) hb); have n2_ := Aside0.mk (Kd.R_below (by exact HO111.out) hb); have n3_ := Aside0.mk (Kd.R_below (by exact HO114.out) hb); have n4_ := Aside0.mk (Kd.R_below (by exact HO123.out) hb); have n5_ := Aside0.mk (blk_below (g := gb116) (o := .cells #[.int .i64 t101, .int .i64 t102, .slice Ao14 t103.length co14, .slice Ao15 t106.length co15, .slice Ao16 t109.length co16, .slice Ao17 t112.length co17] 25 (0, 0)) (by exact BK116.out) hb); have n6_ := Aside0.mk (below_step (by repeat (first | (with_reducible first | exact HB.out | apply below_alloc | apply pw_below_drewN | apply below_drew1 | refine below_set ?_ GE116.out) | exact HB.out)) hb); have n7_ := Aside0.mk (hbox); have n8_ := Aside0.mk ((by rw [hg]; exact (below_size (by repeat (first | (with_reducible first | exact HB.out | apply below_alloc | apply pw_below_drewN | apply below_drew1 | refine below_set ?_ GE116.out) | exact HB.out))) : w.heap.size ≤ gb126)); have n9_ := Aside0.mk ((by rw [hg]; exact (below_size (by repeat (first | (with_reducible first | exact HB.out | apply below_alloc | apply pw_below_drewN | apply below_drew1 | refine below_set ?_ GE116.out) | exact HB.out))) : w.heap.size ≤ gb126)); have n10_ := Aside0.mk ((by rw [hg]; exact Nat.ne_of_lt (blk_lt (g := gb116) (o := .cells #[.int .i64 t101, .int .i64 t102, .slice Ao14 t103.length co14, .slice Ao15 t106.length co15, .slice Ao16 t109.length co16, .slice Ao17 t112.length co17] 25 (0, 0)) (by exact BK116.out)) : gb116 ≠ gb126)); have n11_ := Aside0.mk ((by rw [hg]; exact Nat.ne_of_gt (blk_lt (g := gb116) (o := .cells #[.int .i64 t101, .int .i64 t102, .slice Ao14 t103.length co14, .slice Ao15 t106.length co15, .slice Ao16 t109.length co16, .slice Ao17 t112.length co17] 25 (0, 0)) (by exact BK116.out)) : gb126 ≠ gb116)); clear HO105; clear HO108; clear HO111; clear HO114; clear HO123; clear BK116; clear HB; have HO105 := n0_; have HO108 := n1_; have HO111 := n2_; have HO114 := n3_; have HO123 := n4_; have BK116 := n5_; have HB := n6_; have BK126 := n7_; have GW126 := n8_; have GE126 := n9_; have NB116_126 := n10_; have NB126_116 := n11_; clear n0_ n1_ n2_ n3_ n4_ n5_ n6_ n7_ n8_ n9_ n10_ n11_; clear hb hbox hg; have hnb20 := NB126_116.out; have hnc20 := NB116_126.out; have hcz21_0 : w19.cell? ⟨gb126, 0, none⟩ = some (.int .i64 0) := (blk_cell BK126.out 0).trans rfl; have hcz21_1 : w19.cell? ⟨gb126, 1, none⟩ = some (.int .i64 0) := (blk_cell BK126.out 1).trans rfl; have hcz21_2 : w19.cell? ⟨gb126, 2, none⟩ = some (.int .i64 0) := (blk_cell BK126.out 2).trans rfl; have hcz21_3 : w19.cell? ⟨gb126, 3, none⟩ = some (.bool false) := (blk_cell BK126.out 3).trans rfl; have hcz21_4 : w19.cell? ⟨gb126, 4, none⟩ = some (.slice none 0 0) := (blk_cell BK126.out 4).trans rfl; have hfz21_0 := blk_frozen BK126.out 0; have hfz21_1 := blk_frozen BK126.out 1; have hfz21_2 := blk_frozen BK126.out 2; have hfz21_3 := blk_frozen BK126.out 3; have hfz21_4 := blk_frozen BK126.out 4; obtain ⟨Ao22, co22, eo22⟩ := Kd.R_slice HO123.out; subst eo22) | ((with_reducible refine gate_dst (N := 20) rfl ?_); refine Kd.R_lit k48 _ 48 ?hg (N := 20) ?hd (xs := ([(⟨(⟨#[0]⟩ : ByteArray), 41, 1232, 32768, (⟨#[]⟩ : ByteArray)⟩ : S48)] : List (S48))) (inner := [.string (⟨#[0]⟩ : ByteArray), .int .i64 41, .int .i64 1232, .int .i64 32768, .string (⟨#[]⟩ : ByteArray)]) (ok := fun _ => True) (okp := fun _ => True) ?hr ?hp (fun _ hk => hk) trivial (Below.refl _ _) (Nat.le_refl _) (by simp) ?_; (case hd => rfl); (case hg => rfl); (case hr => first | (go_simp; done) | (go_simp; rfl)); (case hp => exact (Reps.c5 (show Kd.M k48 _ _ _ (⟨(⟨#[0]⟩ : ByteArray), 41, 1232, 32768, (⟨#[]⟩ : ByteArray)⟩ : S48) [.string (⟨#[0]⟩ : ByteArray), .int .i64 41, .int .i64 1232, .int .i64 32768, .string (⟨#[]⟩ : ByteArray)] from (k48_mkM _ _ _ (⟨(⟨#[0]⟩ : ByteArray), 41, 1232, 32768, (⟨#[]⟩ : ByteArray)⟩ : S48) )) (Reps.none _ _))); intro v128 w23 ho24 hb hg_ hnew_; clear hg_ hnew_; (first | rw [← Ny127.out] at ho24 | (simp only [Int.reduceToNat] at ho24; rw [← Ny127.out] at ho24)); have n0_ := Aside0.mk (Kd.R_below (by exact (Kd.R_mono (Kd.R_far (p := ⟨gb126, 4, none⟩) (Kd.R_far (p := ⟨gb126, 3, none⟩) (Kd.R_far (p := ⟨gb126, 2, none⟩) (Kd.R_far (p := ⟨gb126, 1, none⟩) (Kd.R_far (p := ⟨gb126, 0, none⟩) (Kd.R_types HO105.out BK126.out (by decide)) (fun _ hk => hk.2) (.int .i64 t117)) (fun _ hk => hk.2) (.int .i64 t118)) (fun _ hk => hk.2) (.int .i64 t119)) (fun _ hk => hk.2) (.bool t120)) (fun _ hk => hk.2) (.slice Ao22 t121.length co22)) (fun _ h_ => h_.1))) hb); have n1_ := Aside0.mk (Kd.R_elder' (by exact (Kd.R_mono (Kd.R_far (p := ⟨gb126, 4, none⟩) (Kd.R_far (p := ⟨gb126, 3, none⟩) (Kd.R_far (p := ⟨gb126, 2, none⟩) (Kd.R_far (p := ⟨gb126, 1, none⟩) (Kd.R_far (p := ⟨gb126, 0, none⟩) (Kd.R_types HO108.out BK126.out (by decide)) (fun _ hk => hk.2) (.int .i64 t117)) (fun _ hk => hk.2) (.int .i64 t118)) (fun _ hk => hk.2) (.int .i64 t119)) (fun _ hk => hk.2) (.bool t120)) (fun _ hk => hk.2) (.slice Ao22 t121.length co22)) (fun _ h_ => h_.1))) (Kd.R_base ho24) hb); have n2_ := Aside0.mk (Kd.R_elder' (by exact (Kd.R_mono (Kd.R_far (p := ⟨gb126, 4, none⟩) (Kd.R_far (p := ⟨gb126, 3, none⟩) (Kd.R_far (p := ⟨gb126, 2, none⟩) (Kd.R_far (p := ⟨gb126, 1, none⟩) (Kd.R_far (p := ⟨gb126, 0, none⟩) (Kd.R_types HO111.out BK126.out (by decide)) (fun _ hk => hk.2) (.int .i64 t117)) (fun _ hk => hk.2) (.int .i64 t118)) (fun _ hk => hk.2) (.int .i64 t119)) (fun _ hk => hk.2) (.bool t120)) (fun _ hk => hk.2) (.slice Ao22 t121.length co22)) (fun _ h_ => h_.1))) (Kd.R_base ho24) hb); have n3_ := Aside0.mk (Kd.R_elder' (by exact (Kd.R_mono (Kd.R_far (p := ⟨gb126, 4, none⟩) (Kd.R_far (p := ⟨gb126, 3, none⟩) (Kd.R_far (p := ⟨gb126, 2, none⟩) (Kd.R_far (p := ⟨gb126, 1, none⟩) (Kd.R_far (p := ⟨gb126, 0, none⟩) (Kd.R_types HO114.out BK126.out (by decide)) (fun _ hk => hk.2) (.int .i64 t117)) (fun _ hk => hk.2) (.int .i64 t118)) (fun _ hk => hk.2) (.int .i64 t119)) (fun _ hk => hk.2) (.bool t120)) (fun _ hk => hk.2) (.slice Ao22 t121.length co22)) (fun _ h_ => h_.1))) (Kd.R_base ho24) hb); have n4_ := Aside0.mk (Kd.R_below (by exact (Kd.R_mono (Kd.R_far (p := ⟨gb126, 4, none⟩) (Kd.R_far (p := ⟨gb126, 3, none⟩) (Kd.R_far (p := ⟨gb126, 2, none⟩) (Kd.R_far (p := ⟨gb126, 1, none⟩) (Kd.R_far (p := ⟨gb126, 0, none⟩) (Kd.R_types HO123.out BK126.out (by decide)) (fun _ hk => hk.2) (.int .i64 t117)) (fun _ hk => hk.2) (.int .i64 t118)) (fun _ hk => hk.2) (.int .i64 t119)) (fun _ hk => hk.2) (.bool t120)) (fun _ hk => hk.2) (.slice Ao22 t121.length co22)) (fun _ h_ => h_.1))) hb); have n5_ := Aside0.mk (Kd.R_lower (Kd.R_new' (Kd.R_new' (Kd.R_new' ho24 (Kd.R_lt (by exact (Kd.R_mono (Kd.R_far (p := ⟨gb126, 4, none⟩) (Kd.R_far (p := ⟨gb126, 3, none⟩) (Kd.R_far (p := ⟨gb126, 2, none⟩) (Kd.R_far (p := ⟨gb126, 1, none⟩) (Kd.R_far (p := ⟨gb126, 0, none⟩) (Kd.R_types HO108.out BK126.out (by decide)) (fun _ hk => hk.2) (.int .i64 t117)) (fun _ hk => hk.2) (.int .i64 t118)) (fun _ hk => hk.2) (.int .i64 t119)) (fun _ hk => hk.2) (.bool t120)) (fun _ hk => hk.2) (.slice Ao22 t121.length co22)) (fun _ h_ => h_.1))))) (Kd.R_lt (by exact (Kd.R_mono (Kd.R_far (p := ⟨gb126, 4, none⟩) (Kd.R_far (p := ⟨gb126, 3, none⟩) (Kd.R_far (p := ⟨gb126, 2, none⟩) (Kd.R_far (p := ⟨gb126, 1, none⟩) (Kd.R_far (p := ⟨gb126, 0, none⟩) (Kd.R_types HO111.out BK126.out (by decide)) (fun _ hk => hk.2) (.int .i64 t117)) (fun _ hk => hk.2) (.int .i64 t118)) (fun _ hk => hk.2) (.int .i64 t119)) (fun _ hk => hk.2) (.bool t120)) (fun _ hk => hk.2) (.slice Ao22 t121.length co22)) (fun _ h_ => h_.1))))) (Kd.R_lt (by exact (Kd.R_mono (Kd.R_far (p := ⟨gb126, 4, none⟩) (Kd.R_far (p := ⟨gb126, 3, none⟩) (Kd.R_far (p := ⟨gb126, 2, none⟩) (Kd.R_far (p := ⟨gb126, 1, none⟩) (Kd.R_far (p := ⟨gb126, 0, none⟩) (Kd.R_types HO114.out BK126.out (by decide)) (fun _ hk => hk.2) (.int .i64 t117)) (fun _ hk => hk.2) (.int .i64 t118)) (fun _ hk => hk.2) (.int .i64 t119)) (fun _ hk => hk.2) (.bool t120)) (fun _ hk => hk.2) (.slice Ao22 t121.length co22)) (fun _ h_ => h_.1))))) (below_size (by repeat (first | (with_reducible first | exact HB.out | apply below_alloc | apply pw_below_drewN | apply below_drew1 | refine below_set ?_ GE116.out | refine below_set ?_ GE126.out) | exact HB.out)))); have n6_ := Aside0.mk (blk_below (g := gb116) (o := .cells #[.int .i64 t101, .int .i64 t102, .slice Ao14 t103.length co14, .slice Ao15 t106.length co15, .slice Ao16 t109.length co16, .slice Ao17 t112.length co17] 25 (0, 0)) (by refine blk_far ?_ NB116_126.out _; refine blk_far ?_ NB116_126.out _; refine blk_far ?_ NB116_126.out _; refine blk_far ?_ NB116_126.out _; refine blk_far ?_ NB116_126.out _; exact BK116.out) hb); have n7_ := Aside0.mk (blk_below (g := gb126) (o := .cells #[.int .i64 t117, .int .i64 t118, .int .i64 t119, .bool t120, .slice Ao22 t121.length co22] 28 (0, 0)) (by refine blk_put (cs := #[.int .i64 t117, .int .i64 t118, .int .i64 t119, .bool t120, .slice none 0 0]) ?_ 4 _ rfl; refine blk_put (cs := #[.int .i64 t117, .int .i64 t118, .int .i64 t119, .bool false, .slice none 0 0]) ?_ 3 _ rfl; refine blk_put (cs := #[.int .i64 t117, .int .i64 t118, .int .i64 0, .bool false, .slice none 0 0]) ?_ 2 _ rfl; refine blk_put (cs := #[.int .i64 t117, .int .i64 0, .int .i64 0, .bool false, .slice none 0 0]) ?_ 1 _ rfl; refine blk_put (cs := #[.int .i64 0, .int .i64 0, .int .i64 0, .bool false, .slice none 0 0]) ?_ 0 _ rfl; exact BK126.out) hb); have n8_ := Aside0.mk (below_step (by repeat (first | (with_reducible first | exact HB.out | apply below_alloc | apply pw_below_drewN | apply below_drew1 | refine below_set ?_ GE116.out | refine below_set ?_ GE126.out) | exact HB.out)) hb); clear HO105; clear HO108; clear HO111; clear HO114; clear HO123; clear BK116; clear BK126; clear HB; have HO105 := n0_; have HO108 := n1_; have HO111 := n2_; have HO114 := n3_; have HO123 := n4_; have HO129 := n5_; have BK116 := n6_; have BK126 := n7_; have HB := n8_; clear n0_ n1_ n2_ n3_ n4_ n5_ n6_ n7_ n8_; clear hb ho24; have hcz25_0 : w23.cell? ⟨gb116, 0, none⟩ = some (.int .i64 t101) := (blk_cell BK116.out 0).trans rfl; have hcz25_1 : w23.cell? ⟨gb116, 1, none⟩ = some (.int .i64 t102) := (blk_cell BK116.out 1).trans rfl; have hcz25_2 : w23.cell? ⟨gb116, 2, none⟩ = some (.slice Ao14 t103.length co14) := (blk_cell BK116.out 2).trans rfl; have hcz25_3 : w23.cell? ⟨gb116, 3, none⟩ = some (.slice Ao15 t106.length co15) := (blk_cell BK116.out 3).trans rfl; have hcz25_4 : w23.cell? ⟨gb116, 4, none⟩ = some (.slice Ao16 t109.length co16) := (blk_cell BK116.out 4).trans rfl; have hcz25_5 : w23.cell? ⟨gb116, 5, none⟩ = some (.slice Ao17 t112.length co17) := (blk_cell BK116.out 5).trans rfl; have hfz25_0 := blk_frozen BK116.out 0; have hfz25_1 := blk_frozen BK116.out 1; have hfz25_2 := blk_frozen BK116.out 2; have hfz25_3 := blk_frozen BK116.out 3; have hfz25_4 := blk_frozen BK116.out 4; have hfz25_5 := blk_frozen BK116.out 5; obtain ⟨Ao26, co26, eo26⟩ := Kd.R_slice HO129.out; subst eo26) | (go_at_call 83; (with_reducible refine (ostiarykit_SameRecs.calls k _ _ t112 _ _ y127 true _ ?side1 ?side2 ?side3 ?side4 A4.out).mono ?_); (case side1 => repeat (first | exact (Kd.R_reads' HO114.out).2.2 | (with_reducible refine Kd.C_alloc ?_ _) | (with_reducible refine Kd.C_drewN ?_ _) | (with_reducible refine Kd.C_drew ?_))); (case side2 => exact (Kd.R_reads' HO114.out).2.1); (case side3 => repeat (first | exact (Kd.R_reads' HO129.out).2.2 | (with_reducible refine Kd.C_alloc ?_ _) | (with_reducible refine Kd.C_drewN ?_ _) | (with_reducible refine Kd.C_drew ?_))); (case side4 => exact (Kd.R_reads' HO129.out).2.1); rintro e w' ⟨rfl, ⟨nd, rfl⟩⟩; have hcz27_0 : w23.cell? ⟨gb126, 0, none⟩ = some (.int .i64 t117) := (blk_cell BK126.out 0).trans rfl; have hcz27_1 : w23.cell? ⟨gb126, 1, none⟩ = some (.int .i64 t118) := (blk_cell BK126.out 1).trans rfl; have hcz27_2 : w23.cell? ⟨gb126, 2, none⟩ = some (.int .i64 t119) := (blk_cell BK126.out 2).trans rfl; have hcz27_3 : w23.cell? ⟨gb126, 3, none⟩ = some (.bool t120) := (blk_cell BK126.out 3).trans rfl; have hcz27_4 : w23.cell? ⟨gb126, 4, none⟩ = some (.slice Ao22 t121.length co22) := (blk_cell BK126.out 4).trans rfl; have hfz27_0 := blk_frozen BK126.out 0; have hfz27_1 := blk_frozen BK126.out 1; have hfz27_2 := blk_frozen BK126.out 2; have hfz27_3 := blk_frozen BK126.out 3; have hfz27_4 := blk_frozen BK126.out 4) | (go_at_call 31; (refine (ostiarykit_SameEdns.calls k t117 t118 t119 t120 _ _ t121 1232 0 0 true _ _ ([] : List (S82)) true _ ?side1 ?side2 ?side3 ?side4 A8.out).mono ?_); (case side1 => repeat (first | exact (Kd.R_reads' HO123.out).2.2 | (with_reducible refine Kd.C_alloc ?_ _) | (with_reducible refine Kd.C_drewN ?_ _) | (with_reducible refine Kd.C_drew ?_))); (case side2 => exact (Kd.R_reads' HO123.out).2.1); (case side3 => exact Kd.C_nil _ _); (case side4 => exact Nat.le_refl _); rintro e w28 ⟨rfl, hb⟩; have n0_ := Aside0.mk (Kd.R_below (by (with_reducible repeat (first | apply Kd.R_alloc | apply Kd.R_drewN | apply Kd.R_drew)); exact HO105.out) hb); have n1_ := Aside0.mk (Kd.R_below (by (with_reducible repeat (first | apply Kd.R_alloc | apply Kd.R_drewN | apply Kd.R_drew)); exact HO108.out) hb); have n2_ := Aside0.mk (Kd.R_below (by (with_reducible repeat (first | apply Kd.R_alloc | apply Kd.R_drewN | apply Kd.R_drew)); exact HO111.out) hb); have n3_ := Aside0.mk (Kd.R_below (by (with_reducible repeat (first | apply Kd.R_alloc | apply Kd.R_drewN | apply Kd.R_drew)); exact HO114.out) hb); have n4_ := Aside0.mk (Kd.R_below (by (with_reducible repeat (first | apply Kd.R_alloc | apply Kd.R_drewN | apply Kd.R_drew)); exact HO123.out) hb); have n5_ := Aside0.mk (Kd.R_below (by (with_reducible repeat (first | apply Kd.R_alloc | apply Kd.R_drewN | apply Kd.R_drew)); exact HO129.out) hb); have n6_ := Aside0.mk (blk_below (g := gb116) (o := .cells #[.int .i64 t101, .int .i64 t102, .slice Ao14 t103.length co14, .slice Ao15 t106.length co15, .slice Ao16 t109.length co16, .slice Ao17 t112.length co17] 25 (0, 0)) (by (with_reducible repeat (first | refine blk_drewN ?_ _ | refine blk_drew ?_ | refine blk_alloc ?_ _)); exact BK116.out) hb); have n7_ := Aside0.mk (blk_below (g := gb126) (o := .cells #[.int .i64 t117, .int .i64 t118, .int .i64 t119, .bool t120, .slice Ao22 t121.length co22] 28 (0, 0)) (by (with_reducible repeat (first | refine blk_drewN ?_ _ | refine blk_drew ?_ | refine blk_alloc ?_ _)); exact BK126.out) hb); have n8_ := Aside0.mk (below_step (by repeat (first | (with_reducible first | exact HB.out | apply below_alloc | apply pw_below_drewN | apply below_drew1 | refine below_set ?_ GE116.out | refine below_set ?_ GE126.out) | exact HB.out)) hb); clear HO105; clear HO108; clear HO111; clear HO114; clear HO123; clear HO129; clear BK116; clear BK126; clear HB; have HO105 := n0_; have HO108 := n1_; have HO111 := n2_; have HO114 := n3_; have HO123 := n4_; have HO129 := n5_; have BK116 := n6_; have BK126 := n7_; have HB := n8_; clear n0_ n1_ n2_ n3_ n4_ n5_ n6_ n7_ n8_; (try clear hb); (try clear hb2); (try clear hk); (try clear hi); have hcz29_0 : w28.cell? ⟨gb116, 0, none⟩ = some (.int .i64 t101) := (blk_cell BK116.out 0).trans rfl; have hcz29_1 : w28.cell? ⟨gb116, 1, none⟩ = some (.int .i64 t102) := (blk_cell BK116.out 1).trans rfl; have hcz29_2 : w28.cell? ⟨gb116, 2, none⟩ = some (.slice Ao14 t103.length co14) := (blk_cell BK116.out 2).trans rfl; have hcz29_3 : w28.cell? ⟨gb116, 3, none⟩ = some (.slice Ao15 t106.length co15) := (blk_cell BK116.out 3).trans rfl; have hcz29_4 : w28.cell? ⟨gb116, 4, none⟩ = some (.slice Ao16 t109.length co16) := (blk_cell BK116.out 4).trans rfl; have hcz29_5 : w28.cell? ⟨gb116, 5, none⟩ = some (.slice Ao17 t112.length co17) := (blk_cell BK116.out 5).trans rfl; have hfz29_0 := blk_frozen BK116.out 0; have hfz29_1 := blk_frozen BK116.out 1; have hfz29_2 := blk_frozen BK116.out 2; have hfz29_3 := blk_frozen BK116.out 3; have hfz29_4 := blk_frozen BK116.out 4; have hfz29_5 := blk_frozen BK116.out 5) | (go_at_call 39; (with_reducible refine (edns_Room.calls t101 t102 _ _ t103 _ _ t106 _ _ t109 _ _ t112 t132 _ ?side1 ?side2 ?side3 ?side4 ?side5 ?side6 ?side7 ?side8 A10.out).mono ?_); (case side1 => repeat (first | exact (Kd.R_reads' HO105.out).2.2 | (with_reducible refine Kd.C_alloc ?_ _) | (with_reducible refine Kd.C_drewN ?_ _) | (with_reducible refine Kd.C_drew ?_))); (case side2 => exact (Kd.R_reads' HO105.out).2.1); (case side3 => repeat (first | exact (Kd.R_reads' HO108.out).2.2 | (with_reducible refine Kd.C_alloc ?_ _) | (with_reducible refine Kd.C_drewN ?_ _) | (with_reducible refine Kd.C_drew ?_))); (case side4 => exact (Kd.R_reads' HO108.out).2.1); (case side5 => repeat (first | exact (Kd.R_reads' HO111.out).2.2 | (with_reducible refine Kd.C_alloc ?_ _) | (with_reducible refine Kd.C_drewN ?_ _) | (with_reducible refine Kd.C_drew ?_))); (case side6 => exact (Kd.R_reads' HO111.out).2.1); (case side7 => repeat (first | exact (Kd.R_reads' HO114.out).2.2 | (with_reducible refine Kd.C_alloc ?_ _) | (with_reducible refine Kd.C_drewN ?_ _) | (with_reducible refine Kd.C_drew ?_))); (case side8 => exact (Kd.R_reads' HO114.out).2.1); rintro e w30 ⟨rfl, hb⟩; have n0_ := Aside0.mk (Kd.R_below (by exact HO105.out) hb); have n1_ := Aside0.mk (Kd.R_below (by exact HO108.out) hb); have n2_ := Aside0.mk (Kd.R_below (by exact HO111.out) hb); have n3_ := Aside0.mk (Kd.R_below (by exact HO114.out) hb); have n4_ := Aside0.mk (Kd.R_below (by exact HO123.out) hb); have n5_ := Aside0.mk (Kd.R_below (by exact HO129.out) hb); have n6_ := Aside0.mk (blk_below (g := gb116) (o := .cells #[.int .i64 t101, .int .i64 t102, .slice Ao14 t103.length co14, .slice Ao15 t106.length co15, .slice Ao16 t109.length co16, .slice Ao17 t112.length co17] 25 (0, 0)) (by exact BK116.out) hb); have n7_ := Aside0.mk (blk_below (g := gb126) (o := .cells #[.int .i64 t117, .int .i64 t118, .int .i64 t119, .bool t120, .slice Ao22 t121.length co22] 28 (0, 0)) (by exact BK126.out) hb); have n8_ := Aside0.mk (below_step (by repeat (first | (with_reducible first | exact HB.out | apply below_alloc | apply pw_below_drewN | apply below_drew1 | refine below_set ?_ GE116.out | refine below_set ?_ GE126.out) | exact HB.out)) hb); clear HO105; clear HO108; clear HO111; clear HO114; clear HO123; clear HO129; clear BK116; clear BK126; clear HB; have HO105 := n0_; have HO108 := n1_; have HO111 := n2_; have HO114 := n3_; have HO123 := n4_; have HO129 := n5_; have BK116 := n6_; have BK126 := n7_; have HB := n8_; clear n0_ n1_ n2_ n3_ n4_ n5_ n6_ n7_ n8_; (try clear hb); (try clear hb2); (try clear hk); (try clear hi)))
            go_ret
            exact ⟨by first | rfl | (simp [errW_none, errW_some] <;> rfl) | (simp [*, errW_none, errW_some] <;> rfl), by repeat (first | (with_reducible first | exact HB.out | apply below_alloc | apply pw_below_drewN | apply below_drew1 | refine below_set ?_ GE116.out | refine below_set ?_ GE126.out) | exact HB.out)⟩
          · replace c9 := Bool.eq_false_iff.mpr c9
            subst c9
            have H1 : (none) = some r := by rw [if_neg (show ¬ (false = true) by decide)] at H; exact H
            clear H
            have H := H1
            clear H1
            exact absurd H (by simp)
        · rw [if_neg c7] at H
          exact absurd H (by simp)
      · replace c6 := Bool.eq_false_iff.mpr c6
        subst c6
        have H1 : (none) = some r := by rw [if_neg (show ¬ (false = true) by decide)] at H; exact H
        clear H
        have H := H1
        clear H1
        exact absurd H (by simp)
    · replace c5 := Bool.eq_false_iff.mpr c5
      subst c5
      have H1 : (none) = some r := by rw [if_neg (show ¬ (false = true) by decide)] at H; exact H
      clear H
      have H := H1
      clear H1
      exact absurd H (by simp)
  · rw [if_neg c3] at H
    exact absurd H (by simp)
end Go.Proofs.Yteahdaddbmhfgaa.P
end
section
namespace Go.Proofs.Yteahdaddbmhfgaa.P
set_option maxRecDepth 100000
theorem awake_true : ostiarylaw09_awake.f 20 = some true := by kernel_rfl
end Go.Proofs.Yteahdaddbmhfgaa.P
end
section
namespace Go.Proofs.Yteahdaddbmhfgaa.P
open Go.RowKit Go.Proofs.YteahdaddbmhfgaaW.PrintWords Go.Proofs.YteahdaddbmhfgaaW.PrintLast Go.Proofs.YteahdaddbmhfgaaW.PrintMore
open Go.Proofs.YteahdaddbmhfgaaW
set_option linter.unusedVariables false
set_option linter.unusedSimpArgs false
def Known.T5 : Bool × List (List Nat × List Nat) := (true, [([], []), ([], []), ([1], [1]), ([0, 2], [0, 2]), ([], []), ([4], [4]), ([3, 5, 3], [3, 5]), ([6], [6]), ([], []), ([8, 7, 6, 0, 1, 2, 3, 4, 5, 6, 7, 8], [7, 8])])
def Known.B5 : List Nat := [0, 0, 2, 7, 0, 16, 63, 127, 0, 511]
theorem Known.tab5 : rtab .any (opsOf Try.f6 5) = Known.T5 := by kernel_rfl
theorem Known.bits5 : waitsOk Known.T5.2 Known.B5 = true := by kernel_rfl
theorem C_none {α : Type} {d : Kd α} {W : World} {A : Option Addr} : Kd.C d W A 0 [] := ⟨rfl, by omega, fun h => absurd h (by decide)⟩
abbrev Z25 : Obj := .cells #[.int .i64 0, .int .i64 0, .slice none 0 0, .slice none 0 0, .slice none 0 0, .slice none 0 0] 25
def rOne : S48 := ⟨⟨#[0]⟩, 41, 1232, 32768, ⟨#[]⟩⟩
def rSmall : S48 := ⟨⟨#[0]⟩, 41, 100, 0, ⟨#[]⟩⟩
def rCut : S48 := ⟨⟨#[0]⟩, 41, 0, 0, ⟨#[0, 1, 0, 2, 9]⟩⟩
theorem kn_p1 : edns_Put.f 20 7 0 [] [] [] [] 1232 0 0 true [] = some (7, 0, [], [], [], [rOne], 0) := by kernel_rfl
theorem kn_p2 : edns_Put.f 20 7 0 [] [] [] [rOne] 0 0 0 false [] = some (0, 0, [], [], [], [], 7) := by kernel_rfl
theorem kn_p3 : edns_Put.f 20 0 0 [] [] [] [] 100 0 0 false [] = some (0, 0, [], [], [], [rSmall], 0) := by kernel_rfl
theorem kn_o1 : edns_Of.f 0 0 [] [] [] [] = some (0, 0, 0, false, [], false, 0) := by kernel_rfl
theorem kn_o2 : edns_Of.f 0 0 [] [] [] [rOne, rOne] = some (0, 0, 0, false, [], false, 4) := by kernel_rfl
theorem kn_o3 : edns_Of.f 0 0 [] [] [] [rCut] = some (0, 0, 0, false, [], false, 4) := by kernel_rfl
theorem kn_c : edns_Code.f 7 0 [] [] [] [rOne] = some 0 := by kernel_rfl
theorem kn_r1 : edns_Room.f 0 0 [] [] [] [] = some 512 := by kernel_rfl
theorem kn_r2 : edns_Room.f 0 0 [] [] [] [rSmall] = some 512 := by kernel_rfl
theorem kn_k : edns_Check.f 20 0 128 0 false [] = some 5 := by kernel_rfl
section
variable {W : World} (i f : Int) (Aq : Option Addr) (cq : Nat) (Aa : Option Addr) (ca : Nat) (An : Option Addr) (cn : Nat) {Ar : Option Addr} {cr n : Nat} {ar : List S48}
theorem kn_put (hC : Kd.C k48 W Ar n ar) (hc : n ≤ cr) (e1 e2 e3 : Int) (e4 : Bool) {r1 r2 r7 : Int} {r6 : List S48} {m : Nat} (hm : r6.length = m) (h : edns_Put.f 20 i f [] [] [] ar e1 e2 e3 e4 [] = some (r1, r2, [], [], [], r6, r7)) :
    Calls Try.prog 24 #[.agg #[.int .i64 i, .int .i64 f, .slice Aq 0 cq, .slice Aa 0 ca, .slice An 0 cn, .slice Ar n cr], .agg #[.int .i64 e1, .int .i64 e2, .int .i64 e3, .bool e4, .slice none 0 0]] W fun e w' => ∃ (A1 : Option Addr) (c1 : Nat) (A2 : Option Addr) (c2 : Nat) (A3 : Option Addr) (c3 : Nat) (A4 : Option Addr) (c4 : Nat),
      e = .returned (.tuple #[.agg #[.int .i64 r1, .int .i64 r2, .slice A1 0 c1, .slice A2 0 c2, .slice A3 0 c3, .slice A4 m c4], .int .i64 r7]) ∧ Kd.C k48 w' A4 m r6 ∧ m ≤ c4 ∧ Below W.heap.size W w' := by
  obtain rfl := hC.1
  subst hm
  refine (edns_Put.calls 20 i f Aq cq [] Aa ca [] An cn [] Ar cr ar e1 e2 e3 e4 none 0 [] r1 r2 [] [] [] r6 r7 W C_none (Nat.zero_le _) C_none (Nat.zero_le _) C_none (Nat.zero_le _) hC hc C_none (Nat.zero_le _) h).mono ?_
  rintro e w' ⟨u1, u2, u3, u4, rfl, h1, h2, h3, h4, hb⟩
  obtain ⟨A1, c1, rfl⟩ := Kd.R_slice h1
  obtain ⟨A2, c2, rfl⟩ := Kd.R_slice h2
  obtain ⟨A3, c3, rfl⟩ := Kd.R_slice h3
  obtain ⟨A4, c4, rfl⟩ := Kd.R_slice h4
  exact ⟨A1, c1, A2, c2, A3, c3, A4, c4, rfl, (Kd.R_reads' h4).2.2, (Kd.R_reads' h4).2.1, hb⟩
theorem kn_of (hC : Kd.C k48 W Ar n ar) (hc : n ≤ cr) {r7 : Int} (h : edns_Of.f i f [] [] [] ar = some (0, 0, 0, false, [], false, r7)) :
    Calls Try.prog 33 #[.agg #[.int .i64 i, .int .i64 f, .slice Aq 0 cq, .slice Aa 0 ca, .slice An 0 cn, .slice Ar n cr]] W fun e w' => ∃ (A1 : Option Addr) (c1 : Nat), e = .returned (.tuple #[.agg #[.int .i64 0, .int .i64 0, .int .i64 0, .bool false, .slice A1 0 c1], .bool false, .int .i64 r7]) ∧ Below W.heap.size W w' := by
  obtain rfl := hC.1
  refine (edns_Of.calls i f Aq cq [] Aa ca [] An cn [] Ar cr ar 0 0 0 false [] false r7 W C_none (Nat.zero_le _) C_none (Nat.zero_le _) C_none (Nat.zero_le _) hC hc h).mono ?_
  rintro e w' ⟨u1, rfl, h1, hb⟩
  obtain ⟨A1, c1, rfl⟩ := Kd.R_slice h1
  exact ⟨A1, c1, rfl, hb⟩
theorem kn_code (hC : Kd.C k48 W Ar n ar) (hc : n ≤ cr) {r : Int} (h : edns_Code.f i f [] [] [] ar = some r) :
    Calls Try.prog 37 #[.agg #[.int .i64 i, .int .i64 f, .slice Aq 0 cq, .slice Aa 0 ca, .slice An 0 cn, .slice Ar n cr]] W fun e w' => e = .returned (.int .i64 r) ∧ Below W.heap.size W w' := by
  obtain rfl := hC.1
  exact edns_Code.calls i f Aq cq [] Aa ca [] An cn [] Ar cr ar r W C_none (Nat.zero_le _) C_none (Nat.zero_le _) C_none (Nat.zero_le _) hC hc h
theorem kn_room (hC : Kd.C k48 W Ar n ar) (hc : n ≤ cr) {r : Int} (h : edns_Room.f i f [] [] [] ar = some r) :
    Calls Try.prog 39 #[.agg #[.int .i64 i, .int .i64 f, .slice Aq 0 cq, .slice Aa 0 ca, .slice An 0 cn, .slice Ar n cr]] W fun e w' => e = .returned (.int .i64 r) ∧ Below W.heap.size W w' := by
  obtain rfl := hC.1
  exact edns_Room.calls i f Aq cq [] Aa ca [] An cn [] Ar cr ar r W C_none (Nat.zero_le _) C_none (Nat.zero_le _) C_none (Nat.zero_le _) hC hc h
theorem kn_chk (W : World) : Calls Try.prog 27 #[.agg #[.int .i64 0, .int .i64 128, .int .i64 0, .bool false, .slice none 0 0]] W fun e w' => e = .returned (.int .i64 5) ∧ Below W.heap.size W w' :=
  edns_Check.calls 20 0 128 0 false none 0 [] 5 W C_none (Nat.zero_le _) kn_k
end
theorem rec_C {W : World} {b : Nat} (x : S48) (h : W.heap[b]? = some (.cells #[.string x.f0, .int .i64 x.f1, .int .i64 x.f2, .int .i64 x.f3, .string x.f4] 48 (0, 0))) : Kd.C k48 W (some ⟨b, 0, none⟩) 1 [x] := by
  refine ⟨rfl, by omega, fun _ => ⟨_, rfl, fun j p hj => ?_⟩⟩
  have hlt := (List.getElem?_eq_some_iff.1 hj).1
  simp at hlt
  subst hlt
  simp at hj
  subst hj
  refine ⟨_, rfl, k48_mk W x, fun i u hu => ?_⟩
  have hadd : (⟨b, 0, none⟩ : Addr).add (0 * k48.sz + i) = ⟨b, i, none⟩ := by unfold Addr.add; split <;> simp_all
  rw [hadd, own_blk_cell h]
  simpa using hu
structure Kn5 where
  v0 : Value
  v1 : Value
  A : Option Addr
  c : Nat
  b : Nat
structure Kn5F (U w' : World) (s : Kn5) : Prop where
  bel : Below U.heap.size U w'
  k : w'.heap[s.b]? = some (.cells #[.int .i64 0, .int .i64 0, .slice none 0 0, .slice none 0 0, .slice none 0 0, .slice none 0 0] 25 (0, 0))
  g : U.heap.size ≤ s.b
  row : Kd.R k48 48 w' U.heap.size (fun _ => True) (.slice s.A 2 s.c) [rOne, rOne]
set_option maxRecDepth 100000 in
set_option maxHeartbeats 8000000 in
theorem known_walk (w : World) : Calls Try.prog 6 #[] w fun e w' => e = .returned (.bool true) ∧ Below w.heap.size w w' := by
  go_enter Try.func6, Try.ntmps6
  go_upto_region 5 with (first
    | (go_at_call 24; (with_reducible refine (kn_put 7 0 _ _ _ _ _ _ (C_none (A := none)) (Nat.le_refl _) 1232 0 0 true (m := 1) rfl kn_p1).mono ?_); rintro e w1 ⟨M1, c1, M2, c2, M3, c3, M4, c4, rfl, hC, hc4, hb⟩; have HB1 := Aside0.mk hb; have HC1 := Aside0.mk hC; clear hC hb)
    | (go_at_call 24; (with_reducible refine (kn_put 7 0 _ _ _ _ _ _ (Kd.C_below HC1.out (below_alloc (Below.refl _ _) _)) hc4 0 0 0 false (m := 0) rfl kn_p2).mono ?_); rintro e w2 ⟨N1, d1, N2, d2, N3, d3, N4, d4, rfl, hC, hd4, hb⟩; have HB2 := Aside0.mk (below_step (below_alloc HB1.out (.cells #[.int .i64 7, .int .i64 0, .slice M1 0 c1, .slice M2 0 c2, .slice M3 0 c3, .slice M4 1 c4] 25)) hb); have K1 := Aside0.mk (blk_below (blk_new w1 (.cells #[.int .i64 7, .int .i64 0, .slice M1 0 c1, .slice M2 0 c2, .slice M3 0 c3, .slice M4 1 c4] 25)) hb); have HC2 := Aside0.mk (Kd.C_below (Kd.C_below HC1.out (below_alloc (Below.refl _ _) (.cells #[.int .i64 7, .int .i64 0, .slice M1 0 c1, .slice M2 0 c2, .slice M3 0 c3, .slice M4 1 c4] 25))) hb); clear hC hb)
    | (go_at_call 33; (with_reducible refine (kn_of 0 0 _ _ _ _ _ _ (C_none (A := none)) (Nat.le_refl _) kn_o1).mono ?_); rintro e w3 ⟨O1, g1, rfl, hb⟩; have HB3 := Aside0.mk (below_step (below_alloc HB2.out (.cells #[.int .i64 0, .int .i64 0, .slice N1 0 d1, .slice N2 0 d2, .slice N3 0 d3, .slice N4 0 d4] 25)) hb); have K2 := Aside0.mk (blk_below (blk_alloc K1.out (.cells #[.int .i64 0, .int .i64 0, .slice N1 0 d1, .slice N2 0 d2, .slice N3 0 d3, .slice N4 0 d4] 25)) hb); have HC3 := Aside0.mk (Kd.C_below (Kd.C_below HC2.out (below_alloc (Below.refl _ _) (.cells #[.int .i64 0, .int .i64 0, .slice N1 0 d1, .slice N2 0 d2, .slice N3 0 d3, .slice N4 0 d4] 25))) hb); clear hb)
    | (go_at_call 24; (with_reducible refine (kn_put 0 0 _ _ _ _ _ _ (C_none (A := none)) (Nat.le_refl _) 100 0 0 false (m := 1) rfl kn_p3).mono ?_); rintro e w4 ⟨S1, f1, S2, f2, S3, f3, S4, f4, rfl, hC, hf4, hb⟩; have HB4 := Aside0.mk (below_step (below_alloc HB3.out (.cells #[.int .i64 0, .int .i64 0, .int .i64 0, .bool false, .slice O1 0 g1] 28)) hb); have K3 := Aside0.mk (blk_below (blk_alloc K2.out (.cells #[.int .i64 0, .int .i64 0, .int .i64 0, .bool false, .slice O1 0 g1] 28)) hb); have HC4 := Aside0.mk (Kd.C_below (Kd.C_below HC3.out (below_alloc (Below.refl _ _) (.cells #[.int .i64 0, .int .i64 0, .int .i64 0, .bool false, .slice O1 0 g1] 28))) hb); have HS4 := Aside0.mk hC; clear hC hb))
  have K8 := Aside0.mk (blk_new w4 (.cells #[.int .i64 0, .int .i64 0, .slice S1 0 f1, .slice S2 0 f2, .slice S3 0 f3, .slice S4 1 f4] 25))
  replace K3 := Aside0.mk (blk_alloc K3.out (.cells #[.int .i64 0, .int .i64 0, .slice S1 0 f1, .slice S2 0 f2, .slice S3 0 f3, .slice S4 1 f4] 25))
  replace HC4 := Aside0.mk (Kd.C_alloc HC4.out (.cells #[.int .i64 0, .int .i64 0, .slice S1 0 f1, .slice S2 0 f2, .slice S3 0 f3, .slice S4 1 f4] 25))
  replace HS4 := Aside0.mk (Kd.C_alloc HS4.out (.cells #[.int .i64 0, .int .i64 0, .slice S1 0 f1, .slice S2 0 f2, .slice S3 0 f3, .slice S4 1 f4] 25))
  replace HB4 := Aside0.mk (below_alloc HB4.out (.cells #[.int .i64 0, .int .i64 0, .slice S1 0 f1, .slice S2 0 f2, .slice S3 0 f3, .slice S4 1 f4] 25))
  clear HB1 HC1 HB2 K1 HC2 HB3 K2 HC3
  have l1 := blk_lt K3.out
  have l8 := blk_lt K8.out
  obtain ⟨b1, hb1⟩ : ∃ b, w1.heap.size = b := ⟨_, rfl⟩
  rw [hb1] at K3 l1 ⊢
  clear hb1
  obtain ⟨b8, hb8⟩ : ∃ b, w4.heap.size = b := ⟨_, rfl⟩
  rw [hb8] at K8 l8 ⊢
  clear hb8
  generalize w4.alloc (.cells #[.int .i64 0, .int .i64 0, .slice S1 0 f1, .slice S2 0 f2, .slice S3 0 f3, .slice S4 1 f4] 25) = U at K3 K8 HC4 HS4 HB4 l1 l8 ⊢
  refine wp_only ?_
  refine start_ (n := 10) (S := fun w' => w'.heap[b1]? = some (.cells #[.int .i64 7, .int .i64 0, .slice M1 0 c1, .slice M2 0 c2, .slice M3 0 c3, .slice M4 1 c4] 25 (0, 0))) (ds := [9]) #[false, false, false, false, false, false, false, false, false, false] (by kernel_rfl) rfl rfl (blk_drew K3.out) (fun hHeld => ?_)
  refine with_tabW Known.tab5 Known.bits5 (fun HT_ HW_ => ?_)
  have HB := Aside0.mk (below_drew1 (Below.refl U.heap.size U))
  generalize U.drew = U0 at HB hHeld ⊢
  refine pure_ (i := 1) (N := some 43) (v := ?_) (a' := ?_) #[false, true, false, false, false, false, false, false, false, false] rfl rfl (any_of HT_.out (by kernel_rfl)) (fun _ _ _ h => h) (Or.inl ⟨by rfl, ?_⟩) ?_ ?_
  rotate_left
  · intro w'
    go_simp
    with_reducible rfl
  rotate_left
  · simp only [Act.put, List.setIfInBounds_toArray, List.set_cons_zero, List.set_cons_succ, i64_w, i32_w]
    rfl
  refine pure_ (i := 4) (N := some 46) (v := ?_) (a' := ?_) #[false, true, false, false, true, false, false, false, false, false] rfl rfl (any_of HT_.out (by kernel_rfl)) (fun _ _ _ h => h) (Or.inl ⟨by rfl, ?_⟩) ?_ ?_
  rotate_left
  · intro w'
    go_simp
    with_reducible rfl
  rotate_left
  · simp only [Act.put, List.setIfInBounds_toArray, List.set_cons_zero, List.set_cons_succ, i64_w, i32_w]
    rfl
  refine take_ (i := 2) (N := some 44) (v := ?_) (a' := ?_) #[false, true, true, false, true, false, false, false, false, false] rfl rfl (take_ofW HT_.out HW_.out (by kernel_rfl)) (fun _ _ _ h => h) (Or.inl ⟨by rfl, ?_⟩) hHeld ?_ ?_
  rotate_left
  · intro w' s1
    have x5 : w'.cell? ⟨b1, 5, none⟩ = some (.slice M4 1 c4) := (blk_cell s1 5).trans rfl
    clear s1
    go_simp
    with_reducible rfl
  rotate_left
  · simp only [Act.put, List.setIfInBounds_toArray, List.set_cons_zero, List.set_cons_succ, i64_w, i32_w]
    rfl
  refine take_ (i := 5) (N := some 47) (v := ?_) (a' := ?_) #[false, true, true, false, true, true, false, false, false, false] rfl rfl (take_ofW HT_.out HW_.out (by kernel_rfl)) (fun _ _ _ h => h) (Or.inl ⟨by rfl, ?_⟩) hHeld ?_ ?_
  rotate_left
  · intro w' s1
    have x5 : w'.cell? ⟨b1, 5, none⟩ = some (.slice M4 1 c4) := (blk_cell s1 5).trans rfl
    clear s1
    go_simp
    with_reducible rfl
  rotate_left
  · simp only [Act.put, List.setIfInBounds_toArray, List.set_cons_zero, List.set_cons_succ, i64_w, i32_w]
    rfl
  refine join_ (σ := Kn5) 1 #[true, true, true, true, true, true, true, true, true, false] (fun s => [(42, s.v0), (45, s.v1), (48, .slice s.A 2 s.c), (49, .agg #[.int .i64 0, .int .i64 0, .slice none 0 0, .slice none 0 0, .slice none 0 0, .slice s.A 2 s.c]), (10, .pointer (some ⟨s.b, 0, none⟩))]) (fun s w' => Kn5F U w' s) ?cont ?orders
  case orders =>
    intro hJ
    refine two_ (i := 0) (j := 8) (Ni := some 42) (Nj := some 10) #[true, true, true, false, true, true, false, false, false, false] #[false, true, true, false, true, true, false, false, true, false] rfl rfl rfl rfl (two_of HT_.out (by kernel_rfl)) (by decide) (by decide) (fun K hK => ?_) (fun K hK => ?_)
    ·
      refine Kd.R_lit_step k48 (w0 := U) U.heap.size 48 rfl (N := 42) rfl (xs := ([] : List S48)) (inner := []) (ok := fun _ => True) (okp := fun _ => True) ?hr (Reps.none _ _) (fun _ hk => hk) trivial HB.out HB.out.size (by simp) ?_
      (case hr => first | (go_simp; done) | (go_simp; rfl))
      intro v0 U6 h1 h2 h3 h4
      have HV := Aside0.mk h1
      replace HB := Aside0.mk h2
      clear h1 h2 h3 h4
      refine hK.out _ _ (blk_below K3.out HB.out) (fun hHeld => ?_)
      clear hK K
      refine norm_ (a' := ?_) ?_ ?_
      rotate_left
      · show Act.put _ (some 42) _ = _
        simp only [Act.put, List.setIfInBounds_toArray, List.set_cons_zero, List.set_cons_succ, i64_w, i32_w]
        rfl
      refine two_ (i := 3) (j := 8) (Ni := some 45) (Nj := some 10) #[true, true, true, true, true, true, false, false, false, false] #[true, true, true, false, true, true, false, false, true, false] rfl rfl rfl rfl (two_of HT_.out (by kernel_rfl)) (by decide) (by decide) (fun K hK => ?_) (fun K hK => ?_)
      ·
        refine Kd.R_append_rows_step k48 (w0 := U) U.heap.size rfl (.tmp 42) (.tmp 44) 23 48 (.agg #[(.string ⟨#[]⟩), (.int .i64 0), (.int .i64 0), (.int .i64 0), (.string ⟨#[]⟩)]) 56 rfl Try.underlying23 info48 rfl (by decide) (by omega) v0 [] [rOne] M4 1 c4 (fun _ => True) (fun _ => False) rfl rfl HV.out (Kd.C_below HC4.out HB.out) (fun _ _ h => k48_KM h) (fun _ h => h.elim) (fun _ _ => trivial) HB.out HB.out.size (by simp) ?_
        intro v1 U7 h1 h2 h3 h4
        replace HV := Aside0.mk h1
        replace HB := Aside0.mk h2
        clear h1 h2 h3 h4
        refine hK.out _ _ (blk_below K3.out HB.out) (fun hHeld => ?_)
        clear hK K
        refine norm_ (a' := ?_) ?_ ?_
        rotate_left
        · show Act.put _ (some 45) _ = _
          simp only [Act.put, List.setIfInBounds_toArray, List.set_cons_zero, List.set_cons_succ, i64_w, i32_w]
          rfl
        refine two_ (i := 6) (j := 8) (Ni := some 48) (Nj := some 10) #[true, true, true, true, true, true, true, false, false, false] #[true, true, true, true, true, true, false, false, true, false] rfl rfl rfl rfl (two_of HT_.out (by kernel_rfl)) (by decide) (by decide) (fun K hK => ?_) (fun K hK => ?_)
        ·
          refine Kd.R_append_rows_step k48 (w0 := U) U.heap.size rfl (.tmp 45) (.tmp 47) 23 48 (.agg #[(.string ⟨#[]⟩), (.int .i64 0), (.int .i64 0), (.int .i64 0), (.string ⟨#[]⟩)]) 56 rfl Try.underlying23 info48 rfl (by decide) (by omega) v1 [rOne] [rOne] M4 1 c4 (fun _ => True) (fun _ => False) rfl rfl HV.out (Kd.C_below HC4.out HB.out) (fun _ _ h => k48_KM h) (fun _ h => h.elim) (fun _ _ => trivial) HB.out HB.out.size (by simp) ?_
          intro v2 U8 h1 h2 h3 h4
          replace HV := Aside0.mk h1
          replace HB := Aside0.mk h2
          clear h1 h2 h3 h4
          obtain ⟨A2, k2, e2⟩ := Kd.R_slice HV.out
          subst e2
          refine hK.out _ _ (blk_below K3.out HB.out) (fun hHeld => ?_)
          clear hK K
          refine norm_ (a' := ?_) ?_ ?_
          rotate_left
          · show Act.put _ (some 48) _ = _
            simp only [Act.put, List.setIfInBounds_toArray, List.set_cons_zero, List.set_cons_succ, i64_w, i32_w]
            rfl
          refine pure_ (i := 7) (N := some 49) (v := ?_) (a' := ?_) #[true, true, true, true, true, true, true, true, false, false] rfl rfl (any_of HT_.out (by kernel_rfl)) (fun _ _ _ h => h) (Or.inl ⟨by rfl, ?_⟩) ?_ ?_
          rotate_left
          · intro w'
            go_simp
            with_reducible rfl
          rotate_left
          · simp only [Act.put, List.setIfInBounds_toArray, List.set_cons_zero, List.set_cons_succ, i64_w, i32_w]
            rfl
          refine one_ (i := 8) (N := some 10) #[true, true, true, true, true, true, true, true, true, false] rfl rfl (one_of HT_.out (by kernel_rfl)) (by decide) (fun K hK => ?_)
          have HG := Aside0.mk (HB.out.size)
          have HN := Aside0.mk (ne_own HV.out)
          replace HV := Aside0.mk (Kd.R_alloc HV.out Z25)
          have K10 := Aside0.mk (blk_new U8 Z25)
          replace HB := Aside0.mk (below_alloc HB.out Z25)
          refine event_step (w1 := U8.alloc Z25) (v := .pointer (some ⟨U8.heap.size, 0, none⟩)) ?hgk ?hrk ?_
          (case hgk => rfl)
          (case hrk => first | (go_simp; done) | (go_simp; rfl))
          obtain ⟨U9, hw5⟩ : ∃ w5, U8.alloc Z25 = w5 := ⟨_, rfl⟩
          obtain ⟨b9, hb5⟩ : ∃ b5, U8.heap.size = b5 := ⟨_, rfl⟩
          rw [hw5] at K10 HB HV ⊢
          rw [hb5] at K10 HG HN ⊢
          clear hw5 hb5 HN
          refine hK.out _ _ (blk_below K3.out HB.out) (fun hHeld => ?_)
          clear hK K
          refine norm_ (a' := ?_) ?_ ?_
          rotate_left
          · show Act.put _ (some 10) _ = _
            simp only [Act.put, List.setIfInBounds_toArray, List.set_cons_zero, List.set_cons_succ, i64_w, i32_w]
            rfl
          exact hJ ⟨v0, v1, A2, k2, _⟩ _ ⟨HB.out, K10.out, HG.out, HV.out⟩
        ·
          have HG := Aside0.mk (HB.out.size)
          have HN := Aside0.mk (ne_own HV.out)
          replace HV := Aside0.mk (Kd.R_alloc HV.out Z25)
          have K10 := Aside0.mk (blk_new U7 Z25)
          replace HB := Aside0.mk (below_alloc HB.out Z25)
          refine event_step (w1 := U7.alloc Z25) (v := .pointer (some ⟨U7.heap.size, 0, none⟩)) ?hgk ?hrk ?_
          (case hgk => rfl)
          (case hrk => first | (go_simp; done) | (go_simp; rfl))
          obtain ⟨U10, hw5⟩ : ∃ w5, U7.alloc Z25 = w5 := ⟨_, rfl⟩
          obtain ⟨b10, hb5⟩ : ∃ b5, U7.heap.size = b5 := ⟨_, rfl⟩
          rw [hw5] at K10 HB HV ⊢
          rw [hb5] at K10 HG HN ⊢
          clear hw5 hb5 HN
          refine hK.out _ _ (blk_below K3.out HB.out) (fun hHeld => ?_)
          clear hK K
          refine norm_ (a' := ?_) ?_ ?_
          rotate_left
          · show Act.put _ (some 10) _ = _
            simp only [Act.put, List.setIfInBounds_toArray, List.set_cons_zero, List.set_cons_succ, i64_w, i32_w]
            rfl
          refine one_ (i := 6) (N := some 48) #[true, true, true, true, true, true, true, false, true, false] rfl rfl (one_of HT_.out (by kernel_rfl)) (by decide) (fun K hK => ?_)
          refine Kd.R_append_rows_step k48 (w0 := U) U.heap.size rfl (.tmp 45) (.tmp 47) 23 48 (.agg #[(.string ⟨#[]⟩), (.int .i64 0), (.int .i64 0), (.int .i64 0), (.string ⟨#[]⟩)]) 56 rfl Try.underlying23 info48 rfl (by decide) (by omega) v1 [rOne] [rOne] M4 1 c4 (fun _ => True) (fun _ => False) rfl rfl HV.out (Kd.C_below HC4.out HB.out) (fun _ _ h => k48_KM h) (fun _ h => h.elim) (fun _ _ => trivial) HB.out HB.out.size (by simp) ?_
          intro v2 U11 h1 h2 h3 h4
          replace K10 := Aside0.mk (grown_row HV.out K10.out (by decide) h3)
          replace HV := Aside0.mk h1
          replace HB := Aside0.mk h2
          clear h1 h2 h3 h4
          obtain ⟨A2, k2, e2⟩ := Kd.R_slice HV.out
          subst e2
          refine hK.out _ _ (blk_below K3.out HB.out) (fun hHeld => ?_)
          clear hK K
          refine norm_ (a' := ?_) ?_ ?_
          rotate_left
          · show Act.put _ (some 48) _ = _
            simp only [Act.put, List.setIfInBounds_toArray, List.set_cons_zero, List.set_cons_succ, i64_w, i32_w]
            rfl
          refine pure_ (i := 7) (N := some 49) (v := ?_) (a' := ?_) #[true, true, true, true, true, true, true, true, true, false] rfl rfl (any_of HT_.out (by kernel_rfl)) (fun _ _ _ h => h) (Or.inl ⟨by rfl, ?_⟩) ?_ ?_
          rotate_left
          · intro w'
            go_simp
            with_reducible rfl
          rotate_left
          · simp only [Act.put, List.setIfInBounds_toArray, List.set_cons_zero, List.set_cons_succ, i64_w, i32_w]
            rfl
          exact hJ ⟨v0, v1, A2, k2, _⟩ _ ⟨HB.out, K10.out, HG.out, HV.out⟩
      ·
        have HG := Aside0.mk (HB.out.size)
        have HN := Aside0.mk (ne_own HV.out)
        replace HV := Aside0.mk (Kd.R_alloc HV.out Z25)
        have K10 := Aside0.mk (blk_new U6 Z25)
        replace HB := Aside0.mk (below_alloc HB.out Z25)
        refine event_step (w1 := U6.alloc Z25) (v := .pointer (some ⟨U6.heap.size, 0, none⟩)) ?hgk ?hrk ?_
        (case hgk => rfl)
        (case hrk => first | (go_simp; done) | (go_simp; rfl))
        obtain ⟨U12, hw5⟩ : ∃ w5, U6.alloc Z25 = w5 := ⟨_, rfl⟩
        obtain ⟨b12, hb5⟩ : ∃ b5, U6.heap.size = b5 := ⟨_, rfl⟩
        rw [hw5] at K10 HB HV ⊢
        rw [hb5] at K10 HG HN ⊢
        clear hw5 hb5 HN
        refine hK.out _ _ (blk_below K3.out HB.out) (fun hHeld => ?_)
        clear hK K
        refine norm_ (a' := ?_) ?_ ?_
        rotate_left
        · show Act.put _ (some 10) _ = _
          simp only [Act.put, List.setIfInBounds_toArray, List.set_cons_zero, List.set_cons_succ, i64_w, i32_w]
          rfl
        refine one_ (i := 3) (N := some 45) #[true, true, true, true, true, true, false, false, true, false] rfl rfl (one_of HT_.out (by kernel_rfl)) (by decide) (fun K hK => ?_)
        refine Kd.R_append_rows_step k48 (w0 := U) U.heap.size rfl (.tmp 42) (.tmp 44) 23 48 (.agg #[(.string ⟨#[]⟩), (.int .i64 0), (.int .i64 0), (.int .i64 0), (.string ⟨#[]⟩)]) 56 rfl Try.underlying23 info48 rfl (by decide) (by omega) v0 [] [rOne] M4 1 c4 (fun _ => True) (fun _ => False) rfl rfl HV.out (Kd.C_below HC4.out HB.out) (fun _ _ h => k48_KM h) (fun _ h => h.elim) (fun _ _ => trivial) HB.out HB.out.size (by simp) ?_
        intro v1 U13 h1 h2 h3 h4
        replace K10 := Aside0.mk (grown_row HV.out K10.out (by decide) h3)
        replace HV := Aside0.mk h1
        replace HB := Aside0.mk h2
        clear h1 h2 h3 h4
        refine hK.out _ _ (blk_below K3.out HB.out) (fun hHeld => ?_)
        clear hK K
        refine norm_ (a' := ?_) ?_ ?_
        rotate_left
        · show Act.put _ (some 45) _ = _
          simp only [Act.put, List.setIfInBounds_toArray, List.set_cons_zero, List.set_cons_succ, i64_w, i32_w]
          rfl
        refine one_ (i := 6) (N := some 48) #[true, true, true, true, true, true, true, false, true, false] rfl rfl (one_of HT_.out (by kernel_rfl)) (by decide) (fun K hK => ?_)
        refine Kd.R_append_rows_step k48 (w0 := U) U.heap.size rfl (.tmp 45) (.tmp 47) 23 48 (.agg #[(.string ⟨#[]⟩), (.int .i64 0), (.int .i64 0), (.int .i64 0), (.string ⟨#[]⟩)]) 56 rfl Try.underlying23 info48 rfl (by decide) (by omega) v1 [rOne] [rOne] M4 1 c4 (fun _ => True) (fun _ => False) rfl rfl HV.out (Kd.C_below HC4.out HB.out) (fun _ _ h => k48_KM h) (fun _ h => h.elim) (fun _ _ => trivial) HB.out HB.out.size (by simp) ?_
        intro v2 U14 h1 h2 h3 h4
        replace K10 := Aside0.mk (grown_row HV.out K10.out (by decide) h3)
        replace HV := Aside0.mk h1
        replace HB := Aside0.mk h2
        clear h1 h2 h3 h4
        obtain ⟨A2, k2, e2⟩ := Kd.R_slice HV.out
        subst e2
        refine hK.out _ _ (blk_below K3.out HB.out) (fun hHeld => ?_)
        clear hK K
        refine norm_ (a' := ?_) ?_ ?_
        rotate_left
        · show Act.put _ (some 48) _ = _
          simp only [Act.put, List.setIfInBounds_toArray, List.set_cons_zero, List.set_cons_succ, i64_w, i32_w]
          rfl
        refine pure_ (i := 7) (N := some 49) (v := ?_) (a' := ?_) #[true, true, true, true, true, true, true, true, true, false] rfl rfl (any_of HT_.out (by kernel_rfl)) (fun _ _ _ h => h) (Or.inl ⟨by rfl, ?_⟩) ?_ ?_
        rotate_left
        · intro w'
          go_simp
          with_reducible rfl
        rotate_left
        · simp only [Act.put, List.setIfInBounds_toArray, List.set_cons_zero, List.set_cons_succ, i64_w, i32_w]
          rfl
        exact hJ ⟨v0, v1, A2, k2, _⟩ _ ⟨HB.out, K10.out, HG.out, HV.out⟩
    ·
      have HG := Aside0.mk (HB.out.size)
      have K10 := Aside0.mk (blk_new U0 Z25)
      replace HB := Aside0.mk (below_alloc HB.out Z25)
      refine event_step (w1 := U0.alloc Z25) (v := .pointer (some ⟨U0.heap.size, 0, none⟩)) ?hgk ?hrk ?_
      (case hgk => rfl)
      (case hrk => first | (go_simp; done) | (go_simp; rfl))
      obtain ⟨U15, hw5⟩ : ∃ w5, U0.alloc Z25 = w5 := ⟨_, rfl⟩
      obtain ⟨b15, hb5⟩ : ∃ b5, U0.heap.size = b5 := ⟨_, rfl⟩
      rw [hw5] at K10 HB  ⊢
      rw [hb5] at K10 HG  ⊢
      clear hw5 hb5 
      refine hK.out _ _ (blk_below K3.out HB.out) (fun hHeld => ?_)
      clear hK K
      refine norm_ (a' := ?_) ?_ ?_
      rotate_left
      · show Act.put _ (some 10) _ = _
        simp only [Act.put, List.setIfInBounds_toArray, List.set_cons_zero, List.set_cons_succ, i64_w, i32_w]
        rfl
      refine one_ (i := 0) (N := some 42) #[true, true, true, false, true, true, false, false, true, false] rfl rfl (one_of HT_.out (by kernel_rfl)) (by decide) (fun K hK => ?_)
      refine Kd.R_lit_step k48 (w0 := U) U.heap.size 48 rfl (N := 42) rfl (xs := ([] : List S48)) (inner := []) (ok := fun _ => True) (okp := fun _ => True) ?hr (Reps.none _ _) (fun _ hk => hk) trivial HB.out HB.out.size (by simp) ?_
      (case hr => first | (go_simp; done) | (go_simp; rfl))
      intro v0 U16 h1 h2 h3 h4
      replace K10 := Aside0.mk (grown_none K10.out h3)
      have HV := Aside0.mk h1
      replace HB := Aside0.mk h2
      clear h1 h2 h3 h4
      refine hK.out _ _ (blk_below K3.out HB.out) (fun hHeld => ?_)
      clear hK K
      refine norm_ (a' := ?_) ?_ ?_
      rotate_left
      · show Act.put _ (some 42) _ = _
        simp only [Act.put, List.setIfInBounds_toArray, List.set_cons_zero, List.set_cons_succ, i64_w, i32_w]
        rfl
      refine one_ (i := 3) (N := some 45) #[true, true, true, true, true, true, false, false, true, false] rfl rfl (one_of HT_.out (by kernel_rfl)) (by decide) (fun K hK => ?_)
      refine Kd.R_append_rows_step k48 (w0 := U) U.heap.size rfl (.tmp 42) (.tmp 44) 23 48 (.agg #[(.string ⟨#[]⟩), (.int .i64 0), (.int .i64 0), (.int .i64 0), (.string ⟨#[]⟩)]) 56 rfl Try.underlying23 info48 rfl (by decide) (by omega) v0 [] [rOne] M4 1 c4 (fun _ => True) (fun _ => False) rfl rfl HV.out (Kd.C_below HC4.out HB.out) (fun _ _ h => k48_KM h) (fun _ h => h.elim) (fun _ _ => trivial) HB.out HB.out.size (by simp) ?_
      intro v1 U17 h1 h2 h3 h4
      replace K10 := Aside0.mk (grown_row HV.out K10.out (by decide) h3)
      replace HV := Aside0.mk h1
      replace HB := Aside0.mk h2
      clear h1 h2 h3 h4
      refine hK.out _ _ (blk_below K3.out HB.out) (fun hHeld => ?_)
      clear hK K
      refine norm_ (a' := ?_) ?_ ?_
      rotate_left
      · show Act.put _ (some 45) _ = _
        simp only [Act.put, List.setIfInBounds_toArray, List.set_cons_zero, List.set_cons_succ, i64_w, i32_w]
        rfl
      refine one_ (i := 6) (N := some 48) #[true, true, true, true, true, true, true, false, true, false] rfl rfl (one_of HT_.out (by kernel_rfl)) (by decide) (fun K hK => ?_)
      refine Kd.R_append_rows_step k48 (w0 := U) U.heap.size rfl (.tmp 45) (.tmp 47) 23 48 (.agg #[(.string ⟨#[]⟩), (.int .i64 0), (.int .i64 0), (.int .i64 0), (.string ⟨#[]⟩)]) 56 rfl Try.underlying23 info48 rfl (by decide) (by omega) v1 [rOne] [rOne] M4 1 c4 (fun _ => True) (fun _ => False) rfl rfl HV.out (Kd.C_below HC4.out HB.out) (fun _ _ h => k48_KM h) (fun _ h => h.elim) (fun _ _ => trivial) HB.out HB.out.size (by simp) ?_
      intro v2 U18 h1 h2 h3 h4
      replace K10 := Aside0.mk (grown_row HV.out K10.out (by decide) h3)
      replace HV := Aside0.mk h1
      replace HB := Aside0.mk h2
      clear h1 h2 h3 h4
      obtain ⟨A2, k2, e2⟩ := Kd.R_slice HV.out
      subst e2
      refine hK.out _ _ (blk_below K3.out HB.out) (fun hHeld => ?_)
      clear hK K
      refine norm_ (a' := ?_) ?_ ?_
      rotate_left
      · show Act.put _ (some 48) _ = _
        simp only [Act.put, List.setIfInBounds_toArray, List.set_cons_zero, List.set_cons_succ, i64_w, i32_w]
        rfl
      refine pure_ (i := 7) (N := some 49) (v := ?_) (a' := ?_) #[true, true, true, true, true, true, true, true, true, false] rfl rfl (any_of HT_.out (by kernel_rfl)) (fun _ _ _ h => h) (Or.inl ⟨by rfl, ?_⟩) ?_ ?_
      rotate_left
      · intro w'
        go_simp
        with_reducible rfl
      rotate_left
      · simp only [Act.put, List.setIfInBounds_toArray, List.set_cons_zero, List.set_cons_succ, i64_w, i32_w]
        rfl
      exact hJ ⟨v0, v1, A2, k2, _⟩ _ ⟨HB.out, K10.out, HG.out, HV.out⟩
  case cont =>
    intro s V hF
    have x0 : V.cell? ⟨s.b, 0, none⟩ = some (.int .i64 0) := (blk_cell hF.k 0).trans rfl
    have x1 : V.cell? ⟨s.b, 1, none⟩ = some (.int .i64 0) := (blk_cell hF.k 1).trans rfl
    have x2 : V.cell? ⟨s.b, 2, none⟩ = some (.slice none 0 0) := (blk_cell hF.k 2).trans rfl
    have x3 : V.cell? ⟨s.b, 3, none⟩ = some (.slice none 0 0) := (blk_cell hF.k 3).trans rfl
    have x4 : V.cell? ⟨s.b, 4, none⟩ = some (.slice none 0 0) := (blk_cell hF.k 4).trans rfl
    have x5 : V.cell? ⟨s.b, 5, none⟩ = some (.slice none 0 0) := (blk_cell hF.k 5).trans rfl
    have fz := blk_frozen hF.k
    have HF := Aside0.mk hF
    clear hF
    refine norm_ (a' := ?_) ?_ ?_
    rotate_left
    · simp only [putAll, Act.put, List.setIfInBounds_toArray, List.set_cons_zero, List.set_cons_succ, i64_w, i32_w]
      rfl
    refine last_ (i := 9) (N := none) #[true, true, true, true, true, true, true, true, true, true] rfl rfl (one_of HT_.out (by kernel_rfl)) (by decide) (fun K hK => ?_)
    refine skip_ (w1 := ?_) (by rfl) rfl ?_ ?_
    rotate_left
    · go_simp
      rfl
    refine hK.out _ _ ?_
    clear hK K
    refine done_ (done_of HT_.out (by kernel_rfl)) ?_
    dsimp only [onlyNormal]
    clear x0 x1 x2 x3 x4 x5 fz HT_ HW_ hHeld
    have I10 := Aside0.mk (six_blk HF.out.k (.int .i64 0) (.int .i64 0) (.slice none 0 0) (.slice none 0 0) (.slice none 0 0) (.slice s.A 2 s.c))
    have IR := Aside0.mk (six_row HF.out.row HF.out.k (by decide) (.int .i64 0) (.int .i64 0) (.slice none 0 0) (.slice none 0 0) (.slice none 0 0) (.slice s.A 2 s.c))
    have IB := Aside0.mk (six_below HF.out.bel HF.out.g (.int .i64 0) (.int .i64 0) (.slice none 0 0) (.slice none 0 0) (.slice none 0 0) (.slice s.A 2 s.c))
    clear HF
    simp only [six] at I10 IR IB
    obtain ⟨W7, hW7⟩ : ∃ W7, (((((V.setCell ⟨s.b, 0, none⟩ (.int .i64 0)).setCell ⟨s.b, 1, none⟩ (.int .i64 0)).setCell ⟨s.b, 2, none⟩ (.slice none 0 0)).setCell ⟨s.b, 3, none⟩ (.slice none 0 0)).setCell ⟨s.b, 4, none⟩ (.slice none 0 0)).setCell ⟨s.b, 5, none⟩ (.slice s.A 2 s.c) = W7 := ⟨_, rfl⟩
    rw [hW7] at I10 IR IB ⊢
    clear hW7
    have J3 := Aside0.mk (blk_below K3.out IB.out)
    have J8 := Aside0.mk (blk_below K8.out IB.out)
    have C4 := Aside0.mk (Kd.C_below HC4.out IB.out)
    have S4' := Aside0.mk (Kd.C_below HS4.out IB.out)
    have Q7 := Aside0.mk (below_step HB4.out IB.out)
    have C2 : Aside0 (Kd.C k48 W7 s.A 2 [rOne, rOne]) := ⟨(Kd.R_reads' IR.out).2.2⟩
    have hc2 : 2 ≤ s.c := (Kd.R_reads' IR.out).2.1
    clear K3 K8 HC4 HS4 HB4 IB IR HB
    have y0 : W7.cell? ⟨s.b, 0, none⟩ = some (.int .i64 0) := (blk_cell I10.out 0).trans rfl
    have y1 : W7.cell? ⟨s.b, 1, none⟩ = some (.int .i64 0) := (blk_cell I10.out 1).trans rfl
    have y2 : W7.cell? ⟨s.b, 2, none⟩ = some (.slice none 0 0) := (blk_cell I10.out 2).trans rfl
    have y3 : W7.cell? ⟨s.b, 3, none⟩ = some (.slice none 0 0) := (blk_cell I10.out 3).trans rfl
    have y4 : W7.cell? ⟨s.b, 4, none⟩ = some (.slice none 0 0) := (blk_cell I10.out 4).trans rfl
    have y5 : W7.cell? ⟨s.b, 5, none⟩ = some (.slice s.A 2 s.c) := (blk_cell I10.out 5).trans rfl
    go_upto_region 8 with (first
      | (go_at_call 33; (with_reducible refine (kn_of 0 0 _ _ _ _ _ _ C2.out hc2 kn_o2).mono ?_); rintro e w5 ⟨P1, p1, rfl, hb⟩; have B5 := Aside0.mk hb; clear hb))
    clear y0 y1 y2 y3 y4 y5
    have T0 := Aside0.mk (below_alloc (below_alloc (below_alloc B5.out (.cells #[.int .i64 0, .int .i64 0, .int .i64 0, .bool false, .slice P1 0 p1] 28)) (.cells #[.string ⟨#[0]⟩, .int .i64 41, .int .i64 0, .int .i64 0, .string ⟨#[0, 1, 0, 2, 9]⟩] 48)) (.cells #[.int .i64 0, .int .i64 0, .slice none 0 0, .slice none 0 0, .slice none 0 0, .slice (some ⟨w5.heap.size + 1, 0, none⟩) 1 1] 25))
    have R1 := Aside0.mk (blk_alloc (blk_new (w5.alloc (.cells #[.int .i64 0, .int .i64 0, .int .i64 0, .bool false, .slice P1 0 p1] 28)) (.cells #[.string ⟨#[0]⟩, .int .i64 41, .int .i64 0, .int .i64 0, .string ⟨#[0, 1, 0, 2, 9]⟩] 48)) (.cells #[.int .i64 0, .int .i64 0, .slice none 0 0, .slice none 0 0, .slice none 0 0, .slice (some ⟨w5.heap.size + 1, 0, none⟩) 1 1] 25))
    simp only [World.size_alloc] at R1
    go_wp2_with (first
      | (go_at_call 33; (with_reducible refine (kn_of 0 0 _ _ _ _ _ _ (rec_C rCut R1.out) (Nat.le_refl _) kn_o3).mono ?_); rintro e w6 ⟨P2, p2, rfl, hb⟩; have B6 := Aside0.mk (below_step T0.out hb); clear hb)
      | (go_at_call 32; (with_reducible refine (ostiarylaw09_awake.calls 20 true _ awake_true).mono ?_); rintro e w8 ⟨rfl, hb⟩; have B8 := Aside0.mk (below_step (below_alloc B6.out (.cells #[.int .i64 0, .int .i64 0, .int .i64 0, .bool false, .slice P2 0 p2] 28)) hb); have N3 := Aside0.mk (blk_below J3.out B8.out); have y0 : w8.cell? ⟨b1, 0, none⟩ = some (.int .i64 7) := (blk_cell N3.out 0).trans rfl; have y1 : w8.cell? ⟨b1, 1, none⟩ = some (.int .i64 0) := (blk_cell N3.out 1).trans rfl; have y2 : w8.cell? ⟨b1, 2, none⟩ = some (.slice M1 0 c1) := (blk_cell N3.out 2).trans rfl; have y3 : w8.cell? ⟨b1, 3, none⟩ = some (.slice M2 0 c2) := (blk_cell N3.out 3).trans rfl; have y4 : w8.cell? ⟨b1, 4, none⟩ = some (.slice M3 0 c3) := (blk_cell N3.out 4).trans rfl; have y5 : w8.cell? ⟨b1, 5, none⟩ = some (.slice M4 1 c4) := (blk_cell N3.out 5).trans rfl; clear hb)
      | (go_at_call 37; (with_reducible refine (kn_code 7 0 _ _ _ _ _ _ (Kd.C_below C4.out B8.out) hc4 kn_c).mono ?_); rintro e w9 ⟨rfl, hb⟩; have B9 := Aside0.mk (below_step B8.out hb); clear hb)
      | (go_at_call 39; (with_reducible refine (kn_room 0 0 _ _ _ _ _ _ (C_none (A := none)) (Nat.le_refl _) kn_r1).mono ?_); rintro e w10 ⟨rfl, hb⟩; have B10 := Aside0.mk (below_step B9.out hb); have N8 := Aside0.mk (blk_below J8.out B10.out); have z0 : w10.cell? ⟨b8, 0, none⟩ = some (.int .i64 0) := (blk_cell N8.out 0).trans rfl; have z1 : w10.cell? ⟨b8, 1, none⟩ = some (.int .i64 0) := (blk_cell N8.out 1).trans rfl; have z2 : w10.cell? ⟨b8, 2, none⟩ = some (.slice S1 0 f1) := (blk_cell N8.out 2).trans rfl; have z3 : w10.cell? ⟨b8, 3, none⟩ = some (.slice S2 0 f2) := (blk_cell N8.out 3).trans rfl; have z4 : w10.cell? ⟨b8, 4, none⟩ = some (.slice S3 0 f3) := (blk_cell N8.out 4).trans rfl; have z5 : w10.cell? ⟨b8, 5, none⟩ = some (.slice S4 1 f4) := (blk_cell N8.out 5).trans rfl; clear hb)
      | (go_at_call 39; (with_reducible refine (kn_room 0 0 _ _ _ _ _ _ (Kd.C_below S4'.out B10.out) hf4 kn_r2).mono ?_); rintro e w11 ⟨rfl, hb⟩; have B11 := Aside0.mk (below_step B10.out hb); clear hb)
      | (go_at_call 27; (with_reducible refine (kn_chk _).mono ?_); rintro e w12 ⟨rfl, hb⟩; have B12 := Aside0.mk (below_step B11.out hb); clear hb))
    go_ret
    exact ⟨rfl, below_step Q7.out B12.out⟩
end Go.Proofs.Yteahdaddbmhfgaa.P
end
