import Derived.Test.YteahdaddbmhfgaaQTells1
import Derived.Test.YteahdaddbmhfgaaQTells2
import Derived.Test.YteahdaddbmhfgaaQTells3
import Derived.Test.YteahdaddbmhfgaaQTells4
import Derived.Test.YteahdaddbmhfgaaQTells5
import Derived.Test.YteahdaddbmhfgaaQTells6
import Derived.Test.YteahdaddbmhfgaaQTells7
import Derived.Test.YteahdaddbmhfgaaQTells8
import Derived.Test.YteahdaddbmhfgaaQTells9
import Derived.Test.YteahdaddbmhfgaaQTells10
import Derived.Test.YteahdaddbmhfgaaQTells11
import Derived.Test.YteahdaddbmhfgaaQTells12
import Derived.Test.YteahdaddbmhfgaaQTells13
import Derived.Test.YteahdaddbmhfgaaQTells14
import Derived.Test.YteahdaddbmhfgaaQTells15
section
-- Printed by the kit's print.py, driven by pall.py: one text a function. Lean checks it.
namespace Go.Proofs.Yteahdaddbmhfgaa.P
open Go.RowKit Go.Proofs.YteahdaddbmhfgaaW.PrintWords Go.Proofs.YteahdaddbmhfgaaW.PrintLast Go.Proofs.YteahdaddbmhfgaaW.PrintMore
attribute [local go_sem] max2_int min2_int max_two min_two max_three min_three max_four min_four
set_option linter.unusedVariables false
set_option linter.unusedSimpArgs false
def ostiarylaw09_awake.f (k : Nat)  : Option (Bool) := (edns_Put.f k 7 0 ([] : List (S79)) ([] : List (S48)) ([] : List (S48)) ([] : List (S48)) 1232 0 0 true ([] : List (S82))).bind fun bt101 => ((edns_Of.f bt101.1 bt101.2.1 bt101.2.2.1 bt101.2.2.2.1 bt101.2.2.2.2.1 bt101.2.2.2.2.2.1).bind fun bt117 => (if bt101.2.2.2.2.2.2 = 0 then ((ostiarykit_SameRecs.f k bt101.2.2.2.2.2.1 (([(⟨(⟨#[0]⟩ : ByteArray), 41, 1232, 32768, (⟨#[]⟩ : ByteArray)⟩ : S48)] : List (S48)))).bind fun t130 => (if t130 = true then (if bt117.2.2.2.2.2.1 = true then (if bt117.2.2.2.2.2.2 = 0 then ((ostiarykit_SameEdns.f k bt117.1 bt117.2.1 bt117.2.2.1 bt117.2.2.2.1 bt117.2.2.2.2.1 1232 0 0 true ([] : List (S82))).bind fun t131 => (if t131 = true then ((edns_Room.f bt101.1 bt101.2.1 bt101.2.2.1 bt101.2.2.2.1 bt101.2.2.2.2.1 bt101.2.2.2.2.2.1).bind fun t132 => (some (t132 == 1232))) else (none))) else (none)) else (none)) else (none))) else (none)))
theorem ostiarylaw09_awake.mono : ∀ k, LeO (ostiarylaw09_awake.f k ) (ostiarylaw09_awake.f (k + 1) ) := by
  intro  k
  unfold ostiarylaw09_awake.f
  repeat' first
      | (with_reducible exact edns_Put.mono _ _ _ _ _ _ _ _ _ _ _ _)
      | (with_reducible exact ostiarykit_SameEdns.mono _ _ _ _ _ _ _ _ _ _ _)
      | (with_reducible exact ostiarykit_SameRecs.mono _ _ _)
      | (with_reducible exact LeO.refl _)
      | (with_reducible exact LeO.none _)
      | (with_reducible refine LeO.ite ?_ ?_)
      | (with_reducible refine LeO.bind ?_ (fun _ => ?_))
      | exact edns_Put.mono _ _ _ _ _ _ _ _ _ _ _ _
      | exact ostiarykit_SameEdns.mono _ _ _ _ _ _ _ _ _ _ _
      | exact ostiarykit_SameRecs.mono _ _ _
      | exact LeO.none _
      | refine LeO.ite ?_ ?_
      | refine LeO.bind ?_ (fun _ => ?_)
set_option maxHeartbeats 8000000 in
set_option maxRecDepth 100000 in
theorem ostiarylaw09_awake.calls (k : Nat)  (r : Bool) (w : World) (h : ostiarylaw09_awake.f k  = some r) :
    Calls Try.prog 32 #[] w fun e w' => e = .returned (.bool r) ∧ Below w.heap.size w w' := by
  have hu25 := Try.underlying25
  have hu28 := Try.underlying28
  have hu48 := Try.underlying48
  have HB := Aside0.mk (Below.refl w.heap.size w)
  have H : ((edns_Put.f k 7 0 ([] : List (S79)) ([] : List (S48)) ([] : List (S48)) ([] : List (S48)) 1232 0 0 true ([] : List (S82))).bind fun bt101 => ((edns_Of.f bt101.1 bt101.2.1 bt101.2.2.1 bt101.2.2.2.1 bt101.2.2.2.2.1 bt101.2.2.2.2.2.1).bind fun bt117 => (if bt101.2.2.2.2.2.2 = 0 then ((ostiarykit_SameRecs.f k bt101.2.2.2.2.2.1 (([(⟨(⟨#[0]⟩ : ByteArray), 41, 1232, 32768, (⟨#[]⟩ : ByteArray)⟩ : S48)] : List (S48)))).bind fun t130 => (if t130 = true then (if bt117.2.2.2.2.2.1 = true then (if bt117.2.2.2.2.2.2 = 0 then ((ostiarykit_SameEdns.f k bt117.1 bt117.2.1 bt117.2.2.1 bt117.2.2.2.1 bt117.2.2.2.2.1 1232 0 0 true ([] : List (S82))).bind fun t131 => (if t131 = true then ((edns_Room.f bt101.1 bt101.2.1 bt101.2.2.1 bt101.2.2.2.1 bt101.2.2.2.2.1 bt101.2.2.2.2.2.1).bind fun t132 => (some (t132 == 1232))) else (none))) else (none)) else (none)) else (none))) else (none)))) = some r := h
  clear h
  replace H := Option.bind_eq_some_iff.mp H
  obtain ⟨⟨t101, t102, t103, t106, t109, t112, t115⟩, A10, H⟩ := H
  replace H : ((edns_Of.f t101 t102 t103 t106 t109 t112).bind fun bt117 => (if t115 = 0 then ((ostiarykit_SameRecs.f k t112 (([(⟨(⟨#[0]⟩ : ByteArray), 41, 1232, 32768, (⟨#[]⟩ : ByteArray)⟩ : S48)] : List (S48)))).bind fun t130 => (if t130 = true then (if bt117.2.2.2.2.2.1 = true then (if bt117.2.2.2.2.2.2 = 0 then ((ostiarykit_SameEdns.f k bt117.1 bt117.2.1 bt117.2.2.1 bt117.2.2.2.1 bt117.2.2.2.2.1 1232 0 0 true ([] : List (S82))).bind fun t131 => (if t131 = true then ((edns_Room.f t101 t102 t103 t106 t109 t112).bind fun t132 => (some (t132 == 1232))) else (none))) else (none)) else (none)) else (none))) else (none))) = some r := H
  have A1 := Aside0.mk A10
  clear A10
  replace H := Option.bind_eq_some_iff.mp H
  obtain ⟨⟨t117, t118, t119, t120, t121, t124, t125⟩, A20, H⟩ := H
  replace H : (if t115 = 0 then ((ostiarykit_SameRecs.f k t112 (([(⟨(⟨#[0]⟩ : ByteArray), 41, 1232, 32768, (⟨#[]⟩ : ByteArray)⟩ : S48)] : List (S48)))).bind fun t130 => (if t130 = true then (if t124 = true then (if t125 = 0 then ((ostiarykit_SameEdns.f k t117 t118 t119 t120 t121 1232 0 0 true ([] : List (S82))).bind fun t131 => (if t131 = true then ((edns_Room.f t101 t102 t103 t106 t109 t112).bind fun t132 => (some (t132 == 1232))) else (none))) else (none)) else (none)) else (none))) else (none)) = some r := H
  have A2 := Aside0.mk A20
  clear A20
  obtain ⟨y127, hy127⟩ : ∃ y_ : List (S48), y_ = (([(⟨(⟨#[0]⟩ : ByteArray), 41, 1232, 32768, (⟨#[]⟩ : ByteArray)⟩ : S48)] : List (S48))) := ⟨_, rfl⟩
  replace H : (if t115 = 0 then ((ostiarykit_SameRecs.f k t112 y127).bind fun t130 => (if t130 = true then (if t124 = true then (if t125 = 0 then ((ostiarykit_SameEdns.f k t117 t118 t119 t120 t121 1232 0 0 true ([] : List (S82))).bind fun t131 => (if t131 = true then ((edns_Room.f t101 t102 t103 t106 t109 t112).bind fun t132 => (some (t132 == 1232))) else (none))) else (none)) else (none)) else (none))) else (none)) = some r := by first | (rw [hy127]; with_reducible exact H) | (have H2_ := (Option.bind_some _ _).symm.trans H; rw [hy127]; with_reducible exact H2_) | (have H2_ := (Option.bind_some _ _).symm.trans H; with_reducible exact H2_) | with_reducible exact H | (rw [hy127]; exact H) | exact H
  have Ny127 := Aside0.mk hy127
  clear hy127
  by_cases c3 : t115 = 0
  · rw [if_pos c3] at H
    have c3b0 : (t115 == 0) = true := beq_iff_eq.mpr c3
    have c3b1 : (t115 != 0) = false := bne_eq_false_iff_eq.mpr c3
    clear c3
    replace H := Option.bind_eq_some_iff.mp H
    obtain ⟨t130, A40, H⟩ := H
    replace H : (if t130 = true then (if t124 = true then (if t125 = 0 then ((ostiarykit_SameEdns.f k t117 t118 t119 t120 t121 1232 0 0 true ([] : List (S82))).bind fun t131 => (if t131 = true then ((edns_Room.f t101 t102 t103 t106 t109 t112).bind fun t132 => (some (t132 == 1232))) else (none))) else (none)) else (none)) else (none)) = some r := H
    have A4 := Aside0.mk A40
    clear A40
    by_cases c5 : t130 = true
    · subst c5
      have H1 : (if t124 = true then (if t125 = 0 then ((ostiarykit_SameEdns.f k t117 t118 t119 t120 t121 1232 0 0 true ([] : List (S82))).bind fun t131 => (if t131 = true then ((edns_Room.f t101 t102 t103 t106 t109 t112).bind fun t132 => (some (t132 == 1232))) else (none))) else (none)) else (none)) = some r := by rw [if_pos rfl] at H; exact H
      clear H
      have H := H1
      clear H1
      by_cases c6 : t124 = true
      · subst c6
        have H1 : (if t125 = 0 then ((ostiarykit_SameEdns.f k t117 t118 t119 t120 t121 1232 0 0 true ([] : List (S82))).bind fun t131 => (if t131 = true then ((edns_Room.f t101 t102 t103 t106 t109 t112).bind fun t132 => (some (t132 == 1232))) else (none))) else (none)) = some r := by rw [if_pos rfl] at H; exact H
        clear H
        have H := H1
        clear H1
        by_cases c7 : t125 = 0
        · rw [if_pos c7] at H
          have c7b0 : (t125 == 0) = true := beq_iff_eq.mpr c7
          have c7b1 : (t125 != 0) = false := bne_eq_false_iff_eq.mpr c7
          clear c7
          replace H := Option.bind_eq_some_iff.mp H
          obtain ⟨t131, A80, H⟩ := H
          replace H : (if t131 = true then ((edns_Room.f t101 t102 t103 t106 t109 t112).bind fun t132 => (some (t132 == 1232))) else (none)) = some r := H
          have A8 := Aside0.mk A80
          clear A80
          by_cases c9 : t131 = true
          · subst c9
            have H1 : ((edns_Room.f t101 t102 t103 t106 t109 t112).bind fun t132 => (some (t132 == 1232))) = some r := by rw [if_pos rfl] at H; exact H
            clear H
            have H := H1
            clear H1
            replace H := Option.bind_eq_some_iff.mp H
            obtain ⟨t132, A100, H⟩ := H
            replace H : (some (t132 == 1232)) = some r := H
            have A10 := Aside0.mk A100
            clear A100
            obtain rfl := Option.some.inj H
            go_enter Try.func32, Try.ntmps32
            go_wp2_with (first | ((with_reducible refine gate_callee (f := 24) rfl ?_); refine goesL_ (some 10) rfl rfl Try.func24 (by kernel_rfl) rfl #[.agg #[.int .i64 7, .int .i64 0, .slice none 0 0, .slice none 0 0, .slice none 0 0, .slice none 0 0], .agg #[.int .i64 1232, .int .i64 0, .int .i64 0, .bool true, .slice none 0 0]] rfl (by (try simp only [List.map_toArray, List.map_cons, List.map_nil]); first | done | rfl | (simp only [List.length_drop, List.length_take]; rfl)) ?_; (refine (edns_Put.calls k 7 0 _ _ ([] : List (S79)) _ _ ([] : List (S48)) _ _ ([] : List (S48)) _ _ ([] : List (S48)) 1232 0 0 true _ _ ([] : List (S82)) t101 t102 t103 t106 t109 t112 t115 _ ?side1 ?side2 ?side3 ?side4 ?side5 ?side6 ?side7 ?side8 ?side9 ?side10 A1.out).mono ?_); (case side1 => exact Kd.C_nil _ _); (case side2 => exact Nat.le_refl _); (case side3 => exact Kd.C_nil _ _); (case side4 => exact Nat.le_refl _); (case side5 => exact Kd.C_nil _ _); (case side6 => exact Nat.le_refl _); (case side7 => exact Kd.C_nil _ _); (case side8 => exact Nat.le_refl _); (case side9 => exact Kd.C_nil _ _); (case side10 => exact Nat.le_refl _); rintro e w11 ⟨v104, v107, v110, v113, rfl, ho0, ho1, ho2, ho3, hb⟩; refine ⟨_, rfl, ?_⟩; have n0_ := Aside0.mk (Kd.R_lower ho0 (below_size (by repeat (first | (with_reducible first | exact HB.out | apply below_alloc | apply pw_below_drewN | apply below_drew1) | exact HB.out)))); have n1_ := Aside0.mk (Kd.R_lower ho1 (below_size (by repeat (first | (with_reducible first | exact HB.out | apply below_alloc | apply pw_below_drewN | apply below_drew1) | exact HB.out)))); have n2_ := Aside0.mk (Kd.R_lower ho2 (below_size (by repeat (first | (with_reducible first | exact HB.out | apply below_alloc | apply pw_below_drewN | apply below_drew1) | exact HB.out)))); have n3_ := Aside0.mk (Kd.R_lower ho3 (below_size (by repeat (first | (with_reducible first | exact HB.out | apply below_alloc | apply pw_below_drewN | apply below_drew1) | exact HB.out)))); have n4_ := Aside0.mk (below_step (by repeat (first | (with_reducible first | exact HB.out | apply below_alloc | apply pw_below_drewN | apply below_drew1) | exact HB.out)) hb); clear HB; have HO105 := n0_; have HO108 := n1_; have HO111 := n2_; have HO114 := n3_; have HB := n4_; clear n0_ n1_ n2_ n3_ n4_; (try clear hb); (try clear hb2); (try clear hk); (try clear hi); (try clear ho0); (try clear ho1); (try clear ho2); (try clear ho3)) | ((with_reducible refine gate_dst (N := 1) rfl ?_); refine box_event ?hg (N := 1) ?hd (cs := #[.int .i64 0, .int .i64 0, .slice none 0 0, .slice none 0 0, .slice none 0 0, .slice none 0 0]) (t := 25) ?hr ?_; (case hd => rfl); (case hg => rfl); (case hr => first | (go_simp; done) | (go_simp; rfl)); intro gb116 hg w12 hbox hb; have n0_ := Aside0.mk (Kd.R_below (by exact HO105.out) hb); have n1_ := Aside0.mk (Kd.R_below (by exact HO108.out) hb); have n2_ := Aside0.mk (Kd.R_below (by exact HO111.out) hb); have n3_ := Aside0.mk (Kd.R_below (by exact HO114.out) hb); have n4_ := Aside0.mk (below_step (by repeat (first | (with_reducible first | exact HB.out | apply below_alloc | apply pw_below_drewN | apply below_drew1) | exact HB.out)) hb); have n5_ := Aside0.mk (hbox); have n6_ := Aside0.mk ((by rw [hg]; exact (below_size (by repeat (first | (with_reducible first | exact HB.out | apply below_alloc | apply pw_below_drewN | apply below_drew1) | exact HB.out))) : w.heap.size ≤ gb116)); have n7_ := Aside0.mk ((by rw [hg]; exact (below_size (by repeat (first | (with_reducible first | exact HB.out | apply below_alloc | apply pw_below_drewN | apply below_drew1) | exact HB.out))) : w.heap.size ≤ gb116)); clear HO105; clear HO108; clear HO111; clear HO114; clear HB; have HO105 := n0_; have HO108 := n1_; have HO111 := n2_; have HO114 := n3_; have HB := n4_; have BK116 := n5_; have GW116 := n6_; have GE116 := n7_; clear n0_ n1_ n2_ n3_ n4_ n5_ n6_ n7_; clear hb hbox hg; have hcz13_0 : w12.cell? ⟨gb116, 0, none⟩ = some (.int .i64 0) := (blk_cell BK116.out 0).trans rfl; have hcz13_1 : w12.cell? ⟨gb116, 1, none⟩ = some (.int .i64 0) := (blk_cell BK116.out 1).trans rfl; have hcz13_2 : w12.cell? ⟨gb116, 2, none⟩ = some (.slice none 0 0) := (blk_cell BK116.out 2).trans rfl; have hcz13_3 : w12.cell? ⟨gb116, 3, none⟩ = some (.slice none 0 0) := (blk_cell BK116.out 3).trans rfl; have hcz13_4 : w12.cell? ⟨gb116, 4, none⟩ = some (.slice none 0 0) := (blk_cell BK116.out 4).trans rfl; have hcz13_5 : w12.cell? ⟨gb116, 5, none⟩ = some (.slice none 0 0) := (blk_cell BK116.out 5).trans rfl; have hfz13_0 := blk_frozen BK116.out 0; have hfz13_1 := blk_frozen BK116.out 1; have hfz13_2 := blk_frozen BK116.out 2; have hfz13_3 := blk_frozen BK116.out 3; have hfz13_4 := blk_frozen BK116.out 4; have hfz13_5 := blk_frozen BK116.out 5; obtain ⟨Ao14, co14, eo14⟩ := Kd.R_slice HO105.out; subst eo14; obtain ⟨Ao15, co15, eo15⟩ := Kd.R_slice HO108.out; subst eo15; obtain ⟨Ao16, co16, eo16⟩ := Kd.R_slice HO111.out; subst eo16; obtain ⟨Ao17, co17, eo17⟩ := Kd.R_slice HO114.out; subst eo17) | ((with_reducible refine gate_callee (f := 33) rfl ?_); refine goesL_ (some 15) rfl rfl Try.func33 (by kernel_rfl) rfl #[.agg #[.int .i64 t101, .int .i64 t102, .slice Ao14 t103.length co14, .slice Ao15 t106.length co15, .slice Ao16 t109.length co16, .slice Ao17 t112.length co17]] rfl (by (try simp only [List.map_toArray, List.map_cons, List.map_nil]); first | done | rfl | (simp only [List.length_drop, List.length_take]; rfl)) ?_; (with_reducible refine (edns_Of.calls t101 t102 _ _ t103 _ _ t106 _ _ t109 _ _ t112 t117 t118 t119 t120 t121 true t125 _ ?side1 ?side2 ?side3 ?side4 ?side5 ?side6 ?side7 ?side8 A2.out).mono ?_); (case side1 => refine (Kd.R_reads' (e := 79) (base := w.heap.size) (ok := fun k_ => True) (n := t103.length) (c := co14) ?_).2.2; exact (by exact (Kd.R_mono (Kd.R_far (p := ⟨gb116, 5, none⟩) (Kd.R_far (p := ⟨gb116, 4, none⟩) (Kd.R_far (p := ⟨gb116, 3, none⟩) (Kd.R_far (p := ⟨gb116, 2, none⟩) (Kd.R_far (p := ⟨gb116, 1, none⟩) (Kd.R_far (p := ⟨gb116, 0, none⟩) (Kd.R_types HO105.out BK116.out (by decide)) (fun _ hk => hk.2) (.int .i64 t101)) (fun _ hk => hk.2) (.int .i64 t102)) (fun _ hk => hk.2) (.slice Ao14 t103.length co14)) (fun _ hk => hk.2) (.slice Ao15 t106.length co15)) (fun _ hk => hk.2) (.slice Ao16 t109.length co16)) (fun _ hk => hk.2) (.slice Ao17 t112.length co17)) (fun _ h_ => h_.1)))); (case side2 => exact (Kd.R_reads' HO105.out).2.1); (case side3 => refine (Kd.R_reads' (e := 48) (base := w.heap.size) (ok := fun k_ => (some k_ ≠ (.slice Ao16 t109.length co16 : Value).ownBlock ∧ some k_ ≠ (.slice Ao17 t112.length co17 : Value).ownBlock)) (n := t106.length) (c := co15) ?_).2.2; exact (by exact (Kd.R_mono (Kd.R_far (p := ⟨gb116, 5, none⟩) (Kd.R_far (p := ⟨gb116, 4, none⟩) (Kd.R_far (p := ⟨gb116, 3, none⟩) (Kd.R_far (p := ⟨gb116, 2, none⟩) (Kd.R_far (p := ⟨gb116, 1, none⟩) (Kd.R_far (p := ⟨gb116, 0, none⟩) (Kd.R_types HO108.out BK116.out (by decide)) (fun _ hk => hk.2) (.int .i64 t101)) (fun _ hk => hk.2) (.int .i64 t102)) (fun _ hk => hk.2) (.slice Ao14 t103.length co14)) (fun _ hk => hk.2) (.slice Ao15 t106.length co15)) (fun _ hk => hk.2) (.slice Ao16 t109.length co16)) (fun _ hk => hk.2) (.slice Ao17 t112.length co17)) (fun _ h_ => h_.1)))); (case side4 => exact (Kd.R_reads' HO108.out).2.1); (case side5 => refine (Kd.R_reads' (e := 48) (base := w.heap.size) (ok := fun k_ => (some k_ ≠ (.slice Ao15 t106.length co15 : Value).ownBlock ∧ some k_ ≠ (.slice Ao17 t112.length co17 : Value).ownBlock)) (n := t109.length) (c := co16) ?_).2.2; exact (by exact (Kd.R_mono (Kd.R_far (p := ⟨gb116, 5, none⟩) (Kd.R_far (p := ⟨gb116, 4, none⟩) (Kd.R_far (p := ⟨gb116, 3, none⟩) (Kd.R_far (p := ⟨gb116, 2, none⟩) (Kd.R_far (p := ⟨gb116, 1, none⟩) (Kd.R_far (p := ⟨gb116, 0, none⟩) (Kd.R_types HO111.out BK116.out (by decide)) (fun _ hk => hk.2) (.int .i64 t101)) (fun _ hk => hk.2) (.int .i64 t102)) (fun _ hk => hk.2) (.slice Ao14 t103.length co14)) (fun _ hk => hk.2) (.slice Ao15 t106.length co15)) (fun _ hk => hk.2) (.slice Ao16 t109.length co16)) (fun _ hk => hk.2) (.slice Ao17 t112.length co17)) (fun _ h_ => h_.1)))); (case side6 => exact (Kd.R_reads' HO111.out).2.1); (case side7 => refine (Kd.R_reads' (e := 48) (base := w.heap.size) (ok := fun k_ => (some k_ ≠ (.slice Ao15 t106.length co15 : Value).ownBlock ∧ some k_ ≠ (.slice Ao16 t109.length co16 : Value).ownBlock)) (n := t112.length) (c := co17) ?_).2.2; exact (by exact (Kd.R_mono (Kd.R_far (p := ⟨gb116, 5, none⟩) (Kd.R_far (p := ⟨gb116, 4, none⟩) (Kd.R_far (p := ⟨gb116, 3, none⟩) (Kd.R_far (p := ⟨gb116, 2, none⟩) (Kd.R_far (p := ⟨gb116, 1, none⟩) (Kd.R_far (p := ⟨gb116, 0, none⟩) (Kd.R_types HO114.out BK116.out (by decide)) (fun _ hk => hk.2) (.int .i64 t101)) (fun _ hk => hk.2) (.int .i64 t102)) (fun _ hk => hk.2) (.slice Ao14 t103.length co14)) (fun _ hk => hk.2) (.slice Ao15 t106.length co15)) (fun _ hk => hk.2) (.slice Ao16 t109.length co16)) (fun _ hk => hk.2) (.slice Ao17 t112.length co17)) (fun _ h_ => h_.1)))); (case side8 => exact (Kd.R_reads' HO114.out).2.1); rintro e w18 ⟨v122, rfl, ho0, hb⟩; refine ⟨_, rfl, ?_⟩; have n0_ := Aside0.mk (Kd.R_below (by exact (Kd.R_mono (Kd.R_far (p := ⟨gb116, 5, none⟩) (Kd.R_far (p := ⟨gb116, 4, none⟩) (Kd.R_far (p := ⟨gb116, 3, none⟩) (Kd.R_far (p := ⟨gb116, 2, none⟩) (Kd.R_far (p := ⟨gb116, 1, none⟩) (Kd.R_far (p := ⟨gb116, 0, none⟩) (Kd.R_types HO105.out BK116.out (by decide)) (fun _ hk => hk.2) (.int .i64 t101)) (fun _ hk => hk.2) (.int .i64 t102)) (fun _ hk => hk.2) (.slice Ao14 t103.length co14)) (fun _ hk => hk.2) (.slice Ao15 t106.length co15)) (fun _ hk => hk.2) (.slice Ao16 t109.length co16)) (fun _ hk => hk.2) (.slice Ao17 t112.length co17)) (fun _ h_ => h_.1))) hb); have n1_ := Aside0.mk (Kd.R_below (by exact (Kd.R_mono (Kd.R_far (p := ⟨gb116, 5, none⟩) (Kd.R_far (p := ⟨gb116, 4, none⟩) (Kd.R_far (p := ⟨gb116, 3, none⟩) (Kd.R_far (p := ⟨gb116, 2, none⟩) (Kd.R_far (p := ⟨gb116, 1, none⟩) (Kd.R_far (p := ⟨gb116, 0, none⟩) (Kd.R_types HO108.out BK116.out (by decide)) (fun _ hk => hk.2) (.int .i64 t101)) (fun _ hk => hk.2) (.int .i64 t102)) (fun _ hk => hk.2) (.slice Ao14 t103.length co14)) (fun _ hk => hk.2) (.slice Ao15 t106.length co15)) (fun _ hk => hk.2) (.slice Ao16 t109.length co16)) (fun _ hk => hk.2) (.slice Ao17 t112.length co17)) (fun _ h_ => h_.1))) hb); have n2_ := Aside0.mk (Kd.R_below (by exact (Kd.R_mono (Kd.R_far (p := ⟨gb116, 5, none⟩) (Kd.R_far (p := ⟨gb116, 4, none⟩) (Kd.R_far (p := ⟨gb116, 3, none⟩) (Kd.R_far (p := ⟨gb116, 2, none⟩) (Kd.R_far (p := ⟨gb116, 1, none⟩) (Kd.R_far (p := ⟨gb116, 0, none⟩) (Kd.R_types HO111.out BK116.out (by decide)) (fun _ hk => hk.2) (.int .i64 t101)) (fun _ hk => hk.2) (.int .i64 t102)) (fun _ hk => hk.2) (.slice Ao14 t103.length co14)) (fun _ hk => hk.2) (.slice Ao15 t106.length co15)) (fun _ hk => hk.2) (.slice Ao16 t109.length co16)) (fun _ hk => hk.2) (.slice Ao17 t112.length co17)) (fun _ h_ => h_.1))) hb); have n3_ := Aside0.mk (Kd.R_below (by exact (Kd.R_mono (Kd.R_far (p := ⟨gb116, 5, none⟩) (Kd.R_far (p := ⟨gb116, 4, none⟩) (Kd.R_far (p := ⟨gb116, 3, none⟩) (Kd.R_far (p := ⟨gb116, 2, none⟩) (Kd.R_far (p := ⟨gb116, 1, none⟩) (Kd.R_far (p := ⟨gb116, 0, none⟩) (Kd.R_types HO114.out BK116.out (by decide)) (fun _ hk => hk.2) (.int .i64 t101)) (fun _ hk => hk.2) (.int .i64 t102)) (fun _ hk => hk.2) (.slice Ao14 t103.length co14)) (fun _ hk => hk.2) (.slice Ao15 t106.length co15)) (fun _ hk => hk.2) (.slice Ao16 t109.length co16)) (fun _ hk => hk.2) (.slice Ao17 t112.length co17)) (fun _ h_ => h_.1))) hb); have n4_ := Aside0.mk (Kd.R_lower ho0 (below_size (by repeat (first | (with_reducible first | exact HB.out | apply below_alloc | apply pw_below_drewN | apply below_drew1 | refine below_set ?_ GE116.out) | exact HB.out)))); have n5_ := Aside0.mk (blk_below (g := gb116) (o := .cells #[.int .i64 t101, .int .i64 t102, .slice Ao14 t103.length co14, .slice Ao15 t106.length co15, .slice Ao16 t109.length co16, .slice Ao17 t112.length co17] 25 (0, 0)) (by refine blk_put (cs := #[.int .i64 t101, .int .i64 t102, .slice Ao14 t103.length co14, .slice Ao15 t106.length co15, .slice Ao16 t109.length co16, .slice none 0 0]) ?_ 5 _ rfl; refine blk_put (cs := #[.int .i64 t101, .int .i64 t102, .slice Ao14 t103.length co14, .slice Ao15 t106.length co15, .slice none 0 0, .slice none 0 0]) ?_ 4 _ rfl; refine blk_put (cs := #[.int .i64 t101, .int .i64 t102, .slice Ao14 t103.length co14, .slice none 0 0, .slice none 0 0, .slice none 0 0]) ?_ 3 _ rfl; refine blk_put (cs := #[.int .i64 t101, .int .i64 t102, .slice none 0 0, .slice none 0 0, .slice none 0 0, .slice none 0 0]) ?_ 2 _ rfl; refine blk_put (cs := #[.int .i64 t101, .int .i64 0, .slice none 0 0, .slice none 0 0, .slice none 0 0, .slice none 0 0]) ?_ 1 _ rfl; refine blk_put (cs := #[.int .i64 0, .int .i64 0, .slice none 0 0, .slice none 0 0, .slice none 0 0, .slice none 0 0]) ?_ 0 _ rfl; exact BK116.out) hb); have n6_ := Aside0.mk (below_step (by repeat (first | (with_reducible first | exact HB.out | apply below_alloc | apply pw_below_drewN | apply below_drew1 | refine below_set ?_ GE116.out) | exact HB.out)) hb); clear HO105; clear HO108; clear HO111; clear HO114; clear BK116; clear HB; have HO105 := n0_; have HO108 := n1_; have HO111 := n2_; have HO114 := n3_; have HO123 := n4_; have BK116 := n5_; have HB := n6_; clear n0_ n1_ n2_ n3_ n4_ n5_ n6_; (try clear hb); (try clear hb2); (try clear hk); (try clear hi); (try clear ho0)) | ((with_reducible refine gate_dst (N := 3) rfl ?_); refine box_event ?hg (N := 3) ?hd (cs := #[.int .i64 0, .int .i64 0, .int .i64 0, .bool false, .slice none 0 0]) (t := 28) ?hr ?_; (case hd => rfl); (case hg => rfl); (case hr => first | (go_simp; done) | (go_simp; rfl)); intro gb126 hg w19 hbox hb; have n0_ := Aside0.mk (Kd.R_below (by exact HO105.out) hb); have n1_ := Aside0.mk (Kd.R_below (by exact HO108.out) hb); have n2_ := Aside0.mk (Kd.R_below (by exact HO111.out) hb); have n3_ := Aside0.mk (Kd.R_below (by exact HO114.out) hb); have n4_ := Aside0.mk (Kd.R_below (by exact HO123.out) hb); have n5_ := Aside0.mk (blk_below (g := gb116) (o := .cells #[.int .i64 t101, .int .i64 t102, .slice Ao14 t103.length co14, .slice Ao15 t106.length co15, .slice Ao16 t109.length co16, .slice Ao17 t112.length co17] 25 (0, 0)) (by exact BK116.out) hb); have n6_ := Aside0.mk (below_step (by repeat (first | (with_reducible first | exact HB.out | apply below_alloc | apply pw_below_drewN | apply below_drew1 | refine below_set ?_ GE116.out) | exact HB.out)) hb); have n7_ := Aside0.mk (hbox); have n8_ := Aside0.mk ((by rw [hg]; exact (below_size (by repeat (first | (with_reducible first | exact HB.out | apply below_alloc | apply pw_below_drewN | apply below_drew1 | refine below_set ?_ GE116.out) | exact HB.out))) : w.heap.size ≤ gb126)); have n9_ := Aside0.mk ((by rw [hg]; exact (below_size (by repeat (first | (with_reducible first | exact HB.out | apply below_alloc | apply pw_below_drewN | apply below_drew1 | refine below_set ?_ GE116.out) | exact HB.out))) : w.heap.size ≤ gb126)); have n10_ := Aside0.mk ((by rw [hg]; exact Nat.ne_of_lt (blk_lt (g := gb116) (o := .cells #[.int .i64 t101, .int .i64 t102, .slice Ao14 t103.length co14, .slice Ao15 t106.length co15, .slice Ao16 t109.length co16, .slice Ao17 t112.length co17] 25 (0, 0)) (by exact BK116.out)) : gb116 ≠ gb126)); have n11_ := Aside0.mk ((by rw [hg]; exact Nat.ne_of_gt (blk_lt (g := gb116) (o := .cells #[.int .i64 t101, .int .i64 t102, .slice Ao14 t103.length co14, .slice Ao15 t106.length co15, .slice Ao16 t109.length co16, .slice Ao17 t112.length co17] 25 (0, 0)) (by exact BK116.out)) : gb126 ≠ gb116)); clear HO105; clear HO108; clear HO111; clear HO114; clear HO123; clear BK116; clear HB; have HO105 := n0_; have HO108 := n1_; have HO111 := n2_; have HO114 := n3_; have HO123 := n4_; have BK116 := n5_; have HB := n6_; have BK126 := n7_; have GW126 := n8_; have GE126 := n9_; have NB116_126 := n10_; have NB126_116 := n11_; clear n0_ n1_ n2_ n3_ n4_ n5_ n6_ n7_ n8_ n9_ n10_ n11_; clear hb hbox hg; have hnb20 := NB126_116.out; have hnc20 := NB116_126.out; have hcz21_0 : w19.cell? ⟨gb126, 0, none⟩ = some (.int .i64 0) := (blk_cell BK126.out 0).trans rfl; have hcz21_1 : w19.cell? ⟨gb126, 1, none⟩ = some (.int .i64 0) := (blk_cell BK126.out 1).trans rfl; have hcz21_2 : w19.cell? ⟨gb126, 2, none⟩ = some (.int .i64 0) := (blk_cell BK126.out 2).trans rfl; have hcz21_3 : w19.cell? ⟨gb126, 3, none⟩ = some (.bool false) := (blk_cell BK126.out 3).trans rfl; have hcz21_4 : w19.cell? ⟨gb126, 4, none⟩ = some (.slice none 0 0) := (blk_cell BK126.out 4).trans rfl; have hfz21_0 := blk_frozen BK126.out 0; have hfz21_1 := blk_frozen BK126.out 1; have hfz21_2 := blk_frozen BK126.out 2; have hfz21_3 := blk_frozen BK126.out 3; have hfz21_4 := blk_frozen BK126.out 4; obtain ⟨Ao22, co22, eo22⟩ := Kd.R_slice HO123.out; subst eo22) | ((with_reducible refine gate_dst (N := 20) rfl ?_); refine Kd.R_lit k48 _ 48 ?hg (N := 20) ?hd (xs := ([(⟨(⟨#[0]⟩ : ByteArray), 41, 1232, 32768, (⟨#[]⟩ : ByteArray)⟩ : S48)] : List (S48))) (inner := [.string (⟨#[0]⟩ : ByteArray), .int .i64 41, .int .i64 1232, .int .i64 32768, .string (⟨#[]⟩ : ByteArray)]) (ok := fun _ => True) (okp := fun _ => True) ?hr ?hp (fun _ hk => hk) trivial (Below.refl _ _) (Nat.le_refl _) (by simp) ?_; (case hd => rfl); (case hg => rfl); (case hr => first | (go_simp; done) | (go_simp; rfl)); (case hp => exact (Reps.c5 (show Kd.M k48 _ _ _ (⟨(⟨#[0]⟩ : ByteArray), 41, 1232, 32768, (⟨#[]⟩ : ByteArray)⟩ : S48) [.string (⟨#[0]⟩ : ByteArray), .int .i64 41, .int .i64 1232, .int .i64 32768, .string (⟨#[]⟩ : ByteArray)] from (k48_mkM _ _ _ (⟨(⟨#[0]⟩ : ByteArray), 41, 1232, 32768, (⟨#[]⟩ : ByteArray)⟩ : S48) )) (Reps.none _ _))); intro v128 w23 ho24 hb hg_ hnew_; clear hg_ hnew_; (first | rw [← Ny127.out] at ho24 | (simp only [Int.reduceToNat] at ho24; rw [← Ny127.out] at ho24)); have n0_ := Aside0.mk (Kd.R_below (by exact (Kd.R_mono (Kd.R_far (p := ⟨gb126, 4, none⟩) (Kd.R_far (p := ⟨gb126, 3, none⟩) (Kd.R_far (p := ⟨gb126, 2, none⟩) (Kd.R_far (p := ⟨gb126, 1, none⟩) (Kd.R_far (p := ⟨gb126, 0, none⟩) (Kd.R_types HO105.out BK126.out (by decide)) (fun _ hk => hk.2) (.int .i64 t117)) (fun _ hk => hk.2) (.int .i64 t118)) (fun _ hk => hk.2) (.int .i64 t119)) (fun _ hk => hk.2) (.bool t120)) (fun _ hk => hk.2) (.slice Ao22 t121.length co22)) (fun _ h_ => h_.1))) hb); have n1_ := Aside0.mk (Kd.R_elder' (by exact (Kd.R_mono (Kd.R_far (p := ⟨gb126, 4, none⟩) (Kd.R_far (p := ⟨gb126, 3, none⟩) (Kd.R_far (p := ⟨gb126, 2, none⟩) (Kd.R_far (p := ⟨gb126, 1, none⟩) (Kd.R_far (p := ⟨gb126, 0, none⟩) (Kd.R_types HO108.out BK126.out (by decide)) (fun _ hk => hk.2) (.int .i64 t117)) (fun _ hk => hk.2) (.int .i64 t118)) (fun _ hk => hk.2) (.int .i64 t119)) (fun _ hk => hk.2) (.bool t120)) (fun _ hk => hk.2) (.slice Ao22 t121.length co22)) (fun _ h_ => h_.1))) (Kd.R_base ho24) hb); have n2_ := Aside0.mk (Kd.R_elder' (by exact (Kd.R_mono (Kd.R_far (p := ⟨gb126, 4, none⟩) (Kd.R_far (p := ⟨gb126, 3, none⟩) (Kd.R_far (p := ⟨gb126, 2, none⟩) (Kd.R_far (p := ⟨gb126, 1, none⟩) (Kd.R_far (p := ⟨gb126, 0, none⟩) (Kd.R_types HO111.out BK126.out (by decide)) (fun _ hk => hk.2) (.int .i64 t117)) (fun _ hk => hk.2) (.int .i64 t118)) (fun _ hk => hk.2) (.int .i64 t119)) (fun _ hk => hk.2) (.bool t120)) (fun _ hk => hk.2) (.slice Ao22 t121.length co22)) (fun _ h_ => h_.1))) (Kd.R_base ho24) hb); have n3_ := Aside0.mk (Kd.R_elder' (by exact (Kd.R_mono (Kd.R_far (p := ⟨gb126, 4, none⟩) (Kd.R_far (p := ⟨gb126, 3, none⟩) (Kd.R_far (p := ⟨gb126, 2, none⟩) (Kd.R_far (p := ⟨gb126, 1, none⟩) (Kd.R_far (p := ⟨gb126, 0, none⟩) (Kd.R_types HO114.out BK126.out (by decide)) (fun _ hk => hk.2) (.int .i64 t117)) (fun _ hk => hk.2) (.int .i64 t118)) (fun _ hk => hk.2) (.int .i64 t119)) (fun _ hk => hk.2) (.bool t120)) (fun _ hk => hk.2) (.slice Ao22 t121.length co22)) (fun _ h_ => h_.1))) (Kd.R_base ho24) hb); have n4_ := Aside0.mk (Kd.R_below (by exact (Kd.R_mono (Kd.R_far (p := ⟨gb126, 4, none⟩) (Kd.R_far (p := ⟨gb126, 3, none⟩) (Kd.R_far (p := ⟨gb126, 2, none⟩) (Kd.R_far (p := ⟨gb126, 1, none⟩) (Kd.R_far (p := ⟨gb126, 0, none⟩) (Kd.R_types HO123.out BK126.out (by decide)) (fun _ hk => hk.2) (.int .i64 t117)) (fun _ hk => hk.2) (.int .i64 t118)) (fun _ hk => hk.2) (.int .i64 t119)) (fun _ hk => hk.2) (.bool t120)) (fun _ hk => hk.2) (.slice Ao22 t121.length co22)) (fun _ h_ => h_.1))) hb); have n5_ := Aside0.mk (Kd.R_lower (Kd.R_new' (Kd.R_new' (Kd.R_new' ho24 (Kd.R_lt (by exact (Kd.R_mono (Kd.R_far (p := ⟨gb126, 4, none⟩) (Kd.R_far (p := ⟨gb126, 3, none⟩) (Kd.R_far (p := ⟨gb126, 2, none⟩) (Kd.R_far (p := ⟨gb126, 1, none⟩) (Kd.R_far (p := ⟨gb126, 0, none⟩) (Kd.R_types HO108.out BK126.out (by decide)) (fun _ hk => hk.2) (.int .i64 t117)) (fun _ hk => hk.2) (.int .i64 t118)) (fun _ hk => hk.2) (.int .i64 t119)) (fun _ hk => hk.2) (.bool t120)) (fun _ hk => hk.2) (.slice Ao22 t121.length co22)) (fun _ h_ => h_.1))))) (Kd.R_lt (by exact (Kd.R_mono (Kd.R_far (p := ⟨gb126, 4, none⟩) (Kd.R_far (p := ⟨gb126, 3, none⟩) (Kd.R_far (p := ⟨gb126, 2, none⟩) (Kd.R_far (p := ⟨gb126, 1, none⟩) (Kd.R_far (p := ⟨gb126, 0, none⟩) (Kd.R_types HO111.out BK126.out (by decide)) (fun _ hk => hk.2) (.int .i64 t117)) (fun _ hk => hk.2) (.int .i64 t118)) (fun _ hk => hk.2) (.int .i64 t119)) (fun _ hk => hk.2) (.bool t120)) (fun _ hk => hk.2) (.slice Ao22 t121.length co22)) (fun _ h_ => h_.1))))) (Kd.R_lt (by exact (Kd.R_mono (Kd.R_far (p := ⟨gb126, 4, none⟩) (Kd.R_far (p := ⟨gb126, 3, none⟩) (Kd.R_far (p := ⟨gb126, 2, none⟩) (Kd.R_far (p := ⟨gb126, 1, none⟩) (Kd.R_far (p := ⟨gb126, 0, none⟩) (Kd.R_types HO114.out BK126.out (by decide)) (fun _ hk => hk.2) (.int .i64 t117)) (fun _ hk => hk.2) (.int .i64 t118)) (fun _ hk => hk.2) (.int .i64 t119)) (fun _ hk => hk.2) (.bool t120)) (fun _ hk => hk.2) (.slice Ao22 t121.length co22)) (fun _ h_ => h_.1))))) (below_size (by repeat (first | (with_reducible first | exact HB.out | apply below_alloc | apply pw_below_drewN | apply below_drew1 | refine below_set ?_ GE116.out | refine below_set ?_ GE126.out) | exact HB.out)))); have n6_ := Aside0.mk (blk_below (g := gb116) (o := .cells #[.int .i64 t101, .int .i64 t102, .slice Ao14 t103.length co14, .slice Ao15 t106.length co15, .slice Ao16 t109.length co16, .slice Ao17 t112.length co17] 25 (0, 0)) (by refine blk_far ?_ NB116_126.out _; refine blk_far ?_ NB116_126.out _; refine blk_far ?_ NB116_126.out _; refine blk_far ?_ NB116_126.out _; refine blk_far ?_ NB116_126.out _; exact BK116.out) hb); have n7_ := Aside0.mk (blk_below (g := gb126) (o := .cells #[.int .i64 t117, .int .i64 t118, .int .i64 t119, .bool t120, .slice Ao22 t121.length co22] 28 (0, 0)) (by refine blk_put (cs := #[.int .i64 t117, .int .i64 t118, .int .i64 t119, .bool t120, .slice none 0 0]) ?_ 4 _ rfl; refine blk_put (cs := #[.int .i64 t117, .int .i64 t118, .int .i64 t119, .bool false, .slice none 0 0]) ?_ 3 _ rfl; refine blk_put (cs := #[.int .i64 t117, .int .i64 t118, .int .i64 0, .bool false, .slice none 0 0]) ?_ 2 _ rfl; refine blk_put (cs := #[.int .i64 t117, .int .i64 0, .int .i64 0, .bool false, .slice none 0 0]) ?_ 1 _ rfl; refine blk_put (cs := #[.int .i64 0, .int .i64 0, .int .i64 0, .bool false, .slice none 0 0]) ?_ 0 _ rfl; exact BK126.out) hb); have n8_ := Aside0.mk (below_step (by repeat (first | (with_reducible first | exact HB.out | apply below_alloc | apply pw_below_drewN | apply below_drew1 | refine below_set ?_ GE116.out | refine below_set ?_ GE126.out) | exact HB.out)) hb); clear HO105; clear HO108; clear HO111; clear HO114; clear HO123; clear BK116; clear BK126; clear HB; have HO105 := n0_; have HO108 := n1_; have HO111 := n2_; have HO114 := n3_; have HO123 := n4_; have HO129 := n5_; have BK116 := n6_; have BK126 := n7_; have HB := n8_; clear n0_ n1_ n2_ n3_ n4_ n5_ n6_ n7_ n8_; clear hb ho24; have hcz25_0 : w23.cell? ⟨gb116, 0, none⟩ = some (.int .i64 t101) := (blk_cell BK116.out 0).trans rfl; have hcz25_1 : w23.cell? ⟨gb116, 1, none⟩ = some (.int .i64 t102) := (blk_cell BK116.out 1).trans rfl; have hcz25_2 : w23.cell? ⟨gb116, 2, none⟩ = some (.slice Ao14 t103.length co14) := (blk_cell BK116.out 2).trans rfl; have hcz25_3 : w23.cell? ⟨gb116, 3, none⟩ = some (.slice Ao15 t106.length co15) := (blk_cell BK116.out 3).trans rfl; have hcz25_4 : w23.cell? ⟨gb116, 4, none⟩ = some (.slice Ao16 t109.length co16) := (blk_cell BK116.out 4).trans rfl; have hcz25_5 : w23.cell? ⟨gb116, 5, none⟩ = some (.slice Ao17 t112.length co17) := (blk_cell BK116.out 5).trans rfl; have hfz25_0 := blk_frozen BK116.out 0; have hfz25_1 := blk_frozen BK116.out 1; have hfz25_2 := blk_frozen BK116.out 2; have hfz25_3 := blk_frozen BK116.out 3; have hfz25_4 := blk_frozen BK116.out 4; have hfz25_5 := blk_frozen BK116.out 5; obtain ⟨Ao26, co26, eo26⟩ := Kd.R_slice HO129.out; subst eo26) | (go_at_call 83; (with_reducible refine (ostiarykit_SameRecs.calls k _ _ t112 _ _ y127 true _ ?side1 ?side2 ?side3 ?side4 A4.out).mono ?_); (case side1 => repeat (first | exact (Kd.R_reads' HO114.out).2.2 | (with_reducible refine Kd.C_alloc ?_ _) | (with_reducible refine Kd.C_drewN ?_ _) | (with_reducible refine Kd.C_drew ?_))); (case side2 => exact (Kd.R_reads' HO114.out).2.1); (case side3 => repeat (first | exact (Kd.R_reads' HO129.out).2.2 | (with_reducible refine Kd.C_alloc ?_ _) | (with_reducible refine Kd.C_drewN ?_ _) | (with_reducible refine Kd.C_drew ?_))); (case side4 => exact (Kd.R_reads' HO129.out).2.1); rintro e w' ⟨rfl, ⟨nd, rfl⟩⟩; have hcz27_0 : w23.cell? ⟨gb126, 0, none⟩ = some (.int .i64 t117) := (blk_cell BK126.out 0).trans rfl; have hcz27_1 : w23.cell? ⟨gb126, 1, none⟩ = some (.int .i64 t118) := (blk_cell BK126.out 1).trans rfl; have hcz27_2 : w23.cell? ⟨gb126, 2, none⟩ = some (.int .i64 t119) := (blk_cell BK126.out 2).trans rfl; have hcz27_3 : w23.cell? ⟨gb126, 3, none⟩ = some (.bool t120) := (blk_cell BK126.out 3).trans rfl; have hcz27_4 : w23.cell? ⟨gb126, 4, none⟩ = some (.slice Ao22 t121.length co22) := (blk_cell BK126.out 4).trans rfl; have hfz27_0 := blk_frozen BK126.out 0; have hfz27_1 := blk_frozen BK126.out 1; have hfz27_2 := blk_frozen BK126.out 2; have hfz27_3 := blk_frozen BK126.out 3; have hfz27_4 := blk_frozen BK126.out 4) | (go_at_call 31; (refine (ostiarykit_SameEdns.calls k t117 t118 t119 t120 _ _ t121 1232 0 0 true _ _ ([] : List (S82)) true _ ?side1 ?side2 ?side3 ?side4 A8.out).mono ?_); (case side1 => repeat (first | exact (Kd.R_reads' HO123.out).2.2 | (with_reducible refine Kd.C_alloc ?_ _) | (with_reducible refine Kd.C_drewN ?_ _) | (with_reducible refine Kd.C_drew ?_))); (case side2 => exact (Kd.R_reads' HO123.out).2.1); (case side3 => exact Kd.C_nil _ _); (case side4 => exact Nat.le_refl _); rintro e w28 ⟨rfl, hb⟩; have n0_ := Aside0.mk (Kd.R_below (by (with_reducible repeat (first | apply Kd.R_alloc | apply Kd.R_drewN | apply Kd.R_drew)); exact HO105.out) hb); have n1_ := Aside0.mk (Kd.R_below (by (with_reducible repeat (first | apply Kd.R_alloc | apply Kd.R_drewN | apply Kd.R_drew)); exact HO108.out) hb); have n2_ := Aside0.mk (Kd.R_below (by (with_reducible repeat (first | apply Kd.R_alloc | apply Kd.R_drewN | apply Kd.R_drew)); exact HO111.out) hb); have n3_ := Aside0.mk (Kd.R_below (by (with_reducible repeat (first | apply Kd.R_alloc | apply Kd.R_drewN | apply Kd.R_drew)); exact HO114.out) hb); have n4_ := Aside0.mk (Kd.R_below (by (with_reducible repeat (first | apply Kd.R_alloc | apply Kd.R_drewN | apply Kd.R_drew)); exact HO123.out) hb); have n5_ := Aside0.mk (Kd.R_below (by (with_reducible repeat (first | apply Kd.R_alloc | apply Kd.R_drewN | apply Kd.R_drew)); exact HO129.out) hb); have n6_ := Aside0.mk (blk_below (g := gb116) (o := .cells #[.int .i64 t101, .int .i64 t102, .slice Ao14 t103.length co14, .slice Ao15 t106.length co15, .slice Ao16 t109.length co16, .slice Ao17 t112.length co17] 25 (0, 0)) (by (with_reducible repeat (first | refine blk_drewN ?_ _ | refine blk_drew ?_ | refine blk_alloc ?_ _)); exact BK116.out) hb); have n7_ := Aside0.mk (blk_below (g := gb126) (o := .cells #[.int .i64 t117, .int .i64 t118, .int .i64 t119, .bool t120, .slice Ao22 t121.length co22] 28 (0, 0)) (by (with_reducible repeat (first | refine blk_drewN ?_ _ | refine blk_drew ?_ | refine blk_alloc ?_ _)); exact BK126.out) hb); have n8_ := Aside0.mk (below_step (by repeat (first | (with_reducible first | exact HB.out | apply below_alloc | apply pw_below_drewN | apply below_drew1 | refine below_set ?_ GE116.out | refine below_set ?_ GE126.out) | exact HB.out)) hb); clear HO105; clear HO108; clear HO111; clear HO114; clear HO123; clear HO129; clear BK116; clear BK126; clear HB; have HO105 := n0_; have HO108 := n1_; have HO111 := n2_; have HO114 := n3_; have HO123 := n4_; have HO129 := n5_; have BK116 := n6_; have BK126 := n7_; have HB := n8_; clear n0_ n1_ n2_ n3_ n4_ n5_ n6_ n7_ n8_; (try clear hb); (try clear hb2); (try clear hk); (try clear hi); have hcz29_0 : w28.cell? ⟨gb116, 0, none⟩ = some (.int .i64 t101) := (blk_cell BK116.out 0).trans rfl; have hcz29_1 : w28.cell? ⟨gb116, 1, none⟩ = some (.int .i64 t102) := (blk_cell BK116.out 1).trans rfl; have hcz29_2 : w28.cell? ⟨gb116, 2, none⟩ = some (.slice Ao14 t103.length co14) := (blk_cell BK116.out 2).trans rfl; have hcz29_3 : w28.cell? ⟨gb116, 3, none⟩ = some (.slice Ao15 t106.length co15) := (blk_cell BK116.out 3).trans rfl; have hcz29_4 : w28.cell? ⟨gb116, 4, none⟩ = some (.slice Ao16 t109.length co16) := (blk_cell BK116.out 4).trans rfl; have hcz29_5 : w28.cell? ⟨gb116, 5, none⟩ = some (.slice Ao17 t112.length co17) := (blk_cell BK116.out 5).trans rfl; have hfz29_0 := blk_frozen BK116.out 0; have hfz29_1 := blk_frozen BK116.out 1; have hfz29_2 := blk_frozen BK116.out 2; have hfz29_3 := blk_frozen BK116.out 3; have hfz29_4 := blk_frozen BK116.out 4; have hfz29_5 := blk_frozen BK116.out 5) | (go_at_call 39; (with_reducible refine (edns_Room.calls t101 t102 _ _ t103 _ _ t106 _ _ t109 _ _ t112 t132 _ ?side1 ?side2 ?side3 ?side4 ?side5 ?side6 ?side7 ?side8 A10.out).mono ?_); (case side1 => repeat (first | exact (Kd.R_reads' HO105.out).2.2 | (with_reducible refine Kd.C_alloc ?_ _) | (with_reducible refine Kd.C_drewN ?_ _) | (with_reducible refine Kd.C_drew ?_))); (case side2 => exact (Kd.R_reads' HO105.out).2.1); (case side3 => repeat (first | exact (Kd.R_reads' HO108.out).2.2 | (with_reducible refine Kd.C_alloc ?_ _) | (with_reducible refine Kd.C_drewN ?_ _) | (with_reducible refine Kd.C_drew ?_))); (case side4 => exact (Kd.R_reads' HO108.out).2.1); (case side5 => repeat (first | exact (Kd.R_reads' HO111.out).2.2 | (with_reducible refine Kd.C_alloc ?_ _) | (with_reducible refine Kd.C_drewN ?_ _) | (with_reducible refine Kd.C_drew ?_))); (case side6 => exact (Kd.R_reads' HO111.out).2.1); (case side7 => repeat (first | exact (Kd.R_reads' HO114.out).2.2 | (with_reducible refine Kd.C_alloc ?_ _) | (with_reducible refine Kd.C_drewN ?_ _) | (with_reducible refine Kd.C_drew ?_))); (case side8 => exact (Kd.R_reads' HO114.out).2.1); rintro e w30 ⟨rfl, hb⟩; have n0_ := Aside0.mk (Kd.R_below (by exact HO105.out) hb); have n1_ := Aside0.mk (Kd.R_below (by exact HO108.out) hb); have n2_ := Aside0.mk (Kd.R_below (by exact HO111.out) hb); have n3_ := Aside0.mk (Kd.R_below (by exact HO114.out) hb); have n4_ := Aside0.mk (Kd.R_below (by exact HO123.out) hb); have n5_ := Aside0.mk (Kd.R_below (by exact HO129.out) hb); have n6_ := Aside0.mk (blk_below (g := gb116) (o := .cells #[.int .i64 t101, .int .i64 t102, .slice Ao14 t103.length co14, .slice Ao15 t106.length co15, .slice Ao16 t109.length co16, .slice Ao17 t112.length co17] 25 (0, 0)) (by exact BK116.out) hb); have n7_ := Aside0.mk (blk_below (g := gb126) (o := .cells #[.int .i64 t117, .int .i64 t118, .int .i64 t119, .bool t120, .slice Ao22 t121.length co22] 28 (0, 0)) (by exact BK126.out) hb); have n8_ := Aside0.mk (below_step (by repeat (first | (with_reducible first | exact HB.out | apply below_alloc | apply pw_below_drewN | apply below_drew1 | refine below_set ?_ GE116.out | refine below_set ?_ GE126.out) | exact HB.out)) hb); clear HO105; clear HO108; clear HO111; clear HO114; clear HO123; clear HO129; clear BK116; clear BK126; clear HB; have HO105 := n0_; have HO108 := n1_; have HO111 := n2_; have HO114 := n3_; have HO123 := n4_; have HO129 := n5_; have BK116 := n6_; have BK126 := n7_; have HB := n8_; clear n0_ n1_ n2_ n3_ n4_ n5_ n6_ n7_ n8_; (try clear hb); (try clear hb2); (try clear hk); (try clear hi)))
            go_ret
            exact ⟨by first | rfl | (simp [errW_none, errW_some] <;> rfl) | (simp [*, errW_none, errW_some] <;> rfl), by repeat (first | (with_reducible first | exact HB.out | apply below_alloc | apply pw_below_drewN | apply below_drew1 | refine below_set ?_ GE116.out | refine below_set ?_ GE126.out) | exact HB.out)⟩
          · replace c9 := Bool.eq_false_iff.mpr c9
            subst c9
            have H1 : (none) = some r := by rw [if_neg (show ¬ (false = true) by decide)] at H; exact H
            clear H
            have H := H1
            clear H1
            exact absurd H (by simp)
        · rw [if_neg c7] at H
          exact absurd H (by simp)
      · replace c6 := Bool.eq_false_iff.mpr c6
        subst c6
        have H1 : (none) = some r := by rw [if_neg (show ¬ (false = true) by decide)] at H; exact H
        clear H
        have H := H1
        clear H1
        exact absurd H (by simp)
    · replace c5 := Bool.eq_false_iff.mpr c5
      subst c5
      have H1 : (none) = some r := by rw [if_neg (show ¬ (false = true) by decide)] at H; exact H
      clear H
      have H := H1
      clear H1
      exact absurd H (by simp)
  · rw [if_neg c3] at H
    exact absurd H (by simp)
end Go.Proofs.Yteahdaddbmhfgaa.P
end
section
namespace Go.Proofs.Yteahdaddbmhfgaa.P
set_option maxRecDepth 100000
theorem awake_true : ostiarylaw09_awake.f 20 = some true := by kernel_rfl
end Go.Proofs.Yteahdaddbmhfgaa.P
end
section
namespace Go.Proofs.Yteahdaddbmhfgaa.P
open Go.RowKit Go.Proofs.YteahdaddbmhfgaaW.PrintWords Go.Proofs.YteahdaddbmhfgaaW.PrintLast Go.Proofs.YteahdaddbmhfgaaW.PrintMore
open Go.Proofs.YteahdaddbmhfgaaW
set_option linter.unusedVariables false
set_option linter.unusedSimpArgs false
def Tells.T6 : Bool × List (List Nat × List Nat) := (true, [([], []), ([0], [0]), ([], []), ([2, 1], [2]), ([], []), ([], []), ([4, 1, 3, 0, 1, 4, 5], [1, 4]), ([5, 3, 6, 0, 1, 2, 3, 4, 5, 6], [3, 5])])
def Tells.B6 : List Nat := [0, 1, 0, 7, 0, 0, 63, 127]
theorem Tells.tab6 : rtab .any (opsOf Try.f4 6) = Tells.T6 := by kernel_rfl
theorem Tells.bits6 : waitsOk Tells.T6.2 Tells.B6 = true := by kernel_rfl
def Tells.T7 : Bool × List (List Nat × List Nat) := (true, [([], []), ([], []), ([0, 1], [0, 1]), ([2, 2], [2]), ([3], [3]), ([3], [3]), ([4, 5, 3], [3, 4, 5]), ([3, 6], [3, 6]), ([7, 3], [7]), ([8], [8]), ([8], [8]), ([9, 10, 8], [8, 9, 10]), ([8, 11], [8, 11]), ([12, 8], [12]), ([13], [13]), ([13], [13]), ([14, 15, 13, 13], [13, 14, 15]), ([13, 16], [13, 16]), ([17, 16], [17]), ([18], [18]), ([19, 18, 18], [18, 19]), ([18], [18]), ([21, 20, 18], [18, 21]), ([20, 22, 18], [18, 20, 22]), ([18, 23], [18, 23]), ([24, 22], [24]), ([25], [25]), ([26, 25, 25], [25, 26]), ([25], [25]), ([28, 27, 25], [25, 28]), ([27, 29, 25], [25, 27, 29]), ([25, 30], [25, 30]), ([31, 29, 0, 1, 2, 3, 4, 5, 6, 7, 8, 9, 10, 11, 12, 13, 14, 15, 16, 17, 18, 19, 20, 21, 22, 23, 24, 25, 26, 27, 28, 29, 30, 31], [31])])
def Tells.B7 : List Nat := [0, 0, 3, 7, 15, 15, 63, 127, 255, 511, 511, 2047, 4095, 8191, 16383, 16383, 65535, 131071, 262143, 524287, 1048575, 524287, 4194303, 8388607, 16777215, 33554431, 67108863, 134217727, 67108863, 536870911, 1073741823, 2147483647, 4294967295]
theorem Tells.tab7 : rtab .any (opsOf Try.f4 7) = Tells.T7 := by kernel_rfl
theorem Tells.bits7 : waitsOk Tells.T7.2 Tells.B7 = true := by kernel_rfl
theorem noOpt_len (l : List S48) : (noOpt l).length ≤ l.length := List.length_filter_le _ _
theorem six_off {W : World} {g g' : Nat} {t : Nat} {cs : Array Value} (h : W.heap[g]? = some (.cells cs t (0, 0))) (hne : g ≠ g') (a b c d e f : Value) : (six W g' a b c d e f).heap[g]? = some (.cells cs t (0, 0)) :=
  blk_far (p := ⟨g', 5, none⟩) (blk_far (p := ⟨g', 4, none⟩) (blk_far (p := ⟨g', 3, none⟩) (blk_far (p := ⟨g', 2, none⟩) (blk_far (p := ⟨g', 1, none⟩) (blk_far (p := ⟨g', 0, none⟩) h hne a) hne b) hne c) hne d) hne e) hne f
abbrev Z25 : Obj := .cells #[.int .i64 0, .int .i64 0, .slice none 0 0, .slice none 0 0, .slice none 0 0, .slice none 0 0] 25
structure Row4 (B : Nat) (w : World) (q : List S79) (an ns ar : List S48) (A1 : Option Addr) (c1 : Nat) (A2 : Option Addr) (c2 : Nat) (A3 : Option Addr) (c3 : Nat) (A4 : Option Addr) (c4 : Nat) : Prop where
  r1 : Kd.R k79 79 w B (fun _ => True) (.slice A1 q.length c1) q
  r2 : Kd.R k48 48 w B (fun _ => True) (.slice A2 an.length c2) an
  r3 : Kd.R k48 48 w B (fun _ => True) (.slice A3 ns.length c3) ns
  r4 : Kd.R k48 48 w B (fun _ => True) (.slice A4 ar.length c4) ar
section
variable {B : Nat} {w : World} {q : List S79} {an ns ar : List S48} {A1 A2 A3 A4 : Option Addr} {c1 c2 c3 c4 : Nat}
theorem Row4.below {w' : World} (h : Row4 B w q an ns ar A1 c1 A2 c2 A3 c3 A4 c4) (hb : Below w.heap.size w w') : Row4 B w' q an ns ar A1 c1 A2 c2 A3 c3 A4 c4 := ⟨Kd.R_below h.r1 hb, Kd.R_below h.r2 hb, Kd.R_below h.r3 hb, Kd.R_below h.r4 hb⟩
theorem Row4.alloc (h : Row4 B w q an ns ar A1 c1 A2 c2 A3 c3 A4 c4) (o : Obj) : Row4 B (w.alloc o) q an ns ar A1 c1 A2 c2 A3 c3 A4 c4 := h.below (below_alloc (Below.refl _ _) o)
theorem Row4.six {g : Nat} {x0 x1 x2 x3 x4 x5 : Value} (h : Row4 B w q an ns ar A1 c1 A2 c2 A3 c3 A4 c4) (hb : w.heap[g]? = some (.cells #[x0, x1, x2, x3, x4, x5] 25 (0, 0))) (a b c d e f : Value) : Row4 B (six w g a b c d e f) q an ns ar A1 c1 A2 c2 A3 c3 A4 c4 :=
  ⟨six_row h.r1 hb (by decide) _ _ _ _ _ _, six_row h.r2 hb (by decide) _ _ _ _ _ _, six_row h.r3 hb (by decide) _ _ _ _ _ _, six_row h.r4 hb (by decide) _ _ _ _ _ _⟩
end
structure T6 where
  b10 : Nat
  b11 : Nat
  X1 : Option Addr
  d1 : Nat
  X2 : Option Addr
  d2 : Nat
  X3 : Option Addr
  d3 : Nat
  X4 : Option Addr
  d4 : Nat
  Y1 : Option Addr
  e1 : Nat
  Y2 : Option Addr
  e2 : Nat
  Y3 : Option Addr
  e3 : Nat
  Y4 : Option Addr
  e4 : Nat
structure T6F (W w' : World) (q : List S79) (an ns ar : List S48) (s : T6) : Prop where
  bel : Below W.heap.size W w'
  k10 : w'.heap[s.b10]? = some (.cells #[.int .i64 0, .int .i64 0, .slice none 0 0, .slice none 0 0, .slice none 0 0, .slice none 0 0] 25 (0, 0))
  k11 : w'.heap[s.b11]? = some (.cells #[.int .i64 0, .int .i64 0, .slice none 0 0, .slice none 0 0, .slice none 0 0, .slice none 0 0] 25 (0, 0))
  ne : s.b10 ≠ s.b11
  g10 : W.heap.size ≤ s.b10
  g11 : W.heap.size ≤ s.b11
  x : Row4 W.heap.size w' q an ns ar s.X1 s.d1 s.X2 s.d2 s.X3 s.d3 s.X4 s.d4
  y : Row4 W.heap.size w' q an ns ar s.Y1 s.e1 s.Y2 s.e2 s.Y3 s.e3 s.Y4 s.e4
set_option maxRecDepth 100000 in
set_option maxHeartbeats 8000000 in
theorem tells_walk (k : Nat) (i f : Int) (Aq : Option Addr) (cq : Nat) (q : List S79) (Aa : Option Addr) (ca : Nat) (an : List S48) (An : Option Addr) (cn : Nat) (ns : List S48) (Ar : Option Addr) (cr : Nat) (ar : List S48) (w : World)
    (hq : Kd.C k79 w Aq q.length q) (lq : q.length ≤ cq) (ha : Kd.C k48 w Aa an.length an) (la : an.length ≤ ca) (hn : Kd.C k48 w An ns.length ns) (ln : ns.length ≤ cn) (hr : Kd.C k48 w Ar ar.length ar) (lr : ar.length ≤ cr)
    (hs : q.length + an.length + ns.length + ar.length ≤ 200) (r1 r2 r3 : Int) (r4 : Bool) (r5 : List S82) (r6 : Bool) (r7 : Int) (hof : ofS an ns ar = some (r1, r2, r3, r4, r5, r6, r7)) (hrf : ostiaryref09_Of.f k i f q an ns ar = some (r1, r2, r3, r4, r5, r6, r7)) (hbig : ostiarykit_BigMessage.f k i f q an ns ar 200 66000 = some false)
    (hst : edns_Strip.f i f q an ns ar = some (i, f, q, noOpt an, noOpt ns, noOpt ar)) (hrs : ostiaryref09_Strip.f k i f q an ns ar = some (i, f, q, noOpt an, noOpt ns, noOpt ar)) (hse : ostiarykit_SameEdns.f k r1 r2 r3 r4 r5 r1 r2 r3 r4 r5 = some true)
    (hsm : ostiarykit_SameMessage.f k i f q (noOpt an) (noOpt ns) (noOpt ar) i f q (noOpt an) (noOpt ns) (noOpt ar) = some true) (hkm : ostiarykit_SameMessage.f k i f q an ns ar i f q an ns ar = some true)
    (v1 v2 : Int) (hco : edns_Code.f i f q an ns ar = some v1) (hrc : ostiaryref09_Code.f k i f q an ns ar = some v1) (hro : edns_Room.f i f q an ns ar = some v2) (hrr : ostiaryref09_Room.f k i f q an ns ar = some v2) :
    Calls Try.prog 4 #[.agg #[.int .i64 i, .int .i64 f, .slice Aq q.length cq, .slice Aa an.length ca, .slice An ns.length cn, .slice Ar ar.length cr]] w fun e w' => e = .returned (.bool true) ∧ Below w.heap.size w w' := by
  have HQ := Aside0.mk hq
  have HA := Aside0.mk ha
  have HN := Aside0.mk hn
  have HR := Aside0.mk hr
  have HBIG := Aside0.mk hbig
  have HST_ := Aside0.mk hst
  have HRS_ := Aside0.mk hrs
  have HSE_ := Aside0.mk hse
  have HSM_ := Aside0.mk hsm
  have HKM_ := Aside0.mk hkm
  have HCO_ := Aside0.mk hco
  have HRC_ := Aside0.mk hrc
  have HRO_ := Aside0.mk hro
  have HRR_ := Aside0.mk hrr
  clear hq ha hn hr hbig hst hrs hse hsm hkm hco hrc hro hrr
  have hBM := fun W (hb : Below w.heap.size w W) => ostiarykit_BigMessage.calls k i f Aq cq q Aa ca an An cn ns Ar cr ar 200 66000 false W (Kd.C_below HQ.out hb) lq (Kd.C_below HA.out hb) la (Kd.C_below HN.out hb) ln (Kd.C_below HR.out hb) lr HBIG.out
  have hCP := fun W (hb : Below w.heap.size w W) => copyMessage_calls i f Aq cq q Aa ca an An cn ns Ar cr ar W (Kd.C_below HQ.out hb) lq (Kd.C_below HA.out hb) la (Kd.C_below HN.out hb) ln (Kd.C_below HR.out hb) lr (by omega)
  go_enter Try.func4, Try.ntmps4
  go_upto_region 4 with (first
    | (go_at_call 20; (with_reducible refine (hBM _ ?hb).mono ?_); (case hb => exact below_alloc (Below.refl _ _) _); rintro e w1 ⟨rfl, hd⟩; have HB1 := Aside0.mk (below_step (below_alloc (Below.refl w.heap.size w) (.cells #[.int .i64 i, .int .i64 f, .slice Aq q.length cq, .slice Aa an.length ca, .slice An ns.length cn, .slice Ar ar.length cr] 25)) hd); have BK1 := Aside0.mk (blk_below (blk_new w (.cells #[.int .i64 i, .int .i64 f, .slice Aq q.length cq, .slice Aa an.length ca, .slice An ns.length cn, .slice Ar ar.length cr] 25)) hd); have x0 : w1.cell? ⟨w.heap.size, 0, none⟩ = some _ := (blk_cell BK1.out 0).trans rfl; have x1 : w1.cell? ⟨w.heap.size, 1, none⟩ = some _ := (blk_cell BK1.out 1).trans rfl; have x2 : w1.cell? ⟨w.heap.size, 2, none⟩ = some _ := (blk_cell BK1.out 2).trans rfl; have x3 : w1.cell? ⟨w.heap.size, 3, none⟩ = some _ := (blk_cell BK1.out 3).trans rfl; have x4 : w1.cell? ⟨w.heap.size, 4, none⟩ = some _ := (blk_cell BK1.out 4).trans rfl; have x5 : w1.cell? ⟨w.heap.size, 5, none⟩ = some _ := (blk_cell BK1.out 5).trans rfl; clear hd)
    | (go_at_call 22; (with_reducible refine (hCP _ ?hb).mono ?_); (case hb => exact HB1.out); rintro e w2 ⟨A1, c1, A2, c2, A3, c3, A4, c4, rfl, h1, h2, h3, h4, hb⟩; have HR1 := Aside0.mk h1; have HR2 := Aside0.mk h2; have HR3 := Aside0.mk h3; have HR4 := Aside0.mk h4; have HB2 := Aside0.mk (below_step HB1.out hb); have BK2 := Aside0.mk (blk_below BK1.out hb); clear h1 h2 h3 h4 hb))
  have BK3 := Aside0.mk (blk_new w2 (.cells #[.int .i64 i, .int .i64 f, .slice A1 q.length c1, .slice A2 an.length c2, .slice A3 ns.length c3, .slice A4 ar.length c4] 25))
  replace BK2 := Aside0.mk (blk_alloc BK2.out (.cells #[.int .i64 i, .int .i64 f, .slice A1 q.length c1, .slice A2 an.length c2, .slice A3 ns.length c3, .slice A4 ar.length c4] 25))
  have HB3 := Aside0.mk (below_alloc HB2.out (.cells #[.int .i64 i, .int .i64 f, .slice A1 q.length c1, .slice A2 an.length c2, .slice A3 ns.length c3, .slice A4 ar.length c4] 25))
  have HBw := Aside0.mk (below_alloc (Below.refl w2.heap.size w2) (.cells #[.int .i64 i, .int .i64 f, .slice A1 q.length c1, .slice A2 an.length c2, .slice A3 ns.length c3, .slice A4 ar.length c4] 25))
  have hC1 : Kd.C k79 w2 A1 (q.length + 1) (q ++ [mark79]) := by have := (Kd.R_reads' HR1.out).2.2; simpa using this
  have hC2 : Kd.C k48 w2 A2 (an.length + 1) (an ++ [mark48]) := by have := (Kd.R_reads' HR2.out).2.2; simpa using this
  have hC3 : Kd.C k48 w2 A3 (ns.length + 1) (ns ++ [mark48]) := by have := (Kd.R_reads' HR3.out).2.2; simpa using this
  have hC4 : Kd.C k48 w2 A4 (ar.length + 1) (ar ++ [mark48]) := by have := (Kd.R_reads' HR4.out).2.2; simpa using this
  have m1 : q.length + 1 ≤ c1 := by have := (Kd.R_reads' HR1.out).2.1; simpa using this
  have m2 : an.length + 1 ≤ c2 := by have := (Kd.R_reads' HR2.out).2.1; simpa using this
  have m3 : ns.length + 1 ≤ c3 := by have := (Kd.R_reads' HR3.out).2.1; simpa using this
  have m4 : ar.length + 1 ≤ c4 := by have := (Kd.R_reads' HR4.out).2.1; simpa using this
  have hOf := fun W (hb : Below w2.heap.size w2 W) => edns_Of.calls i f A1 c1 q A2 c2 an A3 c3 ns A4 c4 ar r1 r2 r3 r4 r5 r6 r7 W (Kd.C_below (C_short hC1) hb) (by omega) (Kd.C_below (C_short hC2) hb) (by omega) (Kd.C_below (C_short hC3) hb) (by omega) (Kd.C_below (C_short hC4) hb) (by omega) (by unfold edns_Of.f; rw [if_pos (by omega)]; exact hof)
  have hRf := fun W (hb : Below w.heap.size w W) => ostiaryref09_Of.calls k i f Aq cq q Aa ca an An cn ns Ar cr ar r1 r2 r3 r4 r5 r6 r7 W (Kd.C_below HQ.out hb) lq (Kd.C_below HA.out hb) la (Kd.C_below HN.out hb) ln (Kd.C_below HR.out hb) lr hrf
  clear x0 x1 x2 x3 x4 x5 HB1 BK1 HB2
  generalize w2.alloc (.cells #[.int .i64 i, .int .i64 f, .slice A1 q.length c1, .slice A2 an.length c2, .slice A3 ns.length c3, .slice A4 ar.length c4] 25) = W3 at BK2 BK3 HB3 HBw ⊢
  have y0 : W3.cell? ⟨w2.heap.size, 0, none⟩ = some _ := (blk_cell BK3.out 0).trans rfl
  have y1 : W3.cell? ⟨w2.heap.size, 1, none⟩ = some _ := (blk_cell BK3.out 1).trans rfl
  have y2 : W3.cell? ⟨w2.heap.size, 2, none⟩ = some _ := (blk_cell BK3.out 2).trans rfl
  have y3 : W3.cell? ⟨w2.heap.size, 3, none⟩ = some _ := (blk_cell BK3.out 3).trans rfl
  have y4 : W3.cell? ⟨w2.heap.size, 4, none⟩ = some _ := (blk_cell BK3.out 4).trans rfl
  have y5 : W3.cell? ⟨w2.heap.size, 5, none⟩ = some _ := (blk_cell BK3.out 5).trans rfl
  go_upto_region 6 with (first
    | (go_at_call 33; (with_reducible refine (hOf _ ?hb).mono ?_); (case hb => exact HBw.out); rintro e w4 ⟨v4, rfl, hR, hb⟩; have HBw4 := Aside0.mk (below_step HBw.out hb); have HB4 := Aside0.mk (below_step HB3.out hb); have K1 := Aside0.mk (blk_below BK2.out hb); have K3 := Aside0.mk (blk_below BK3.out hb); obtain ⟨Ao, co, rfl⟩ := Kd.R_slice hR; have HO4 := Aside0.mk hR; have hlt4 := blk_lt K1.out; have hlt4b := blk_lt K3.out; have z0 : w4.cell? ⟨w.heap.size, 0, none⟩ = some _ := (blk_cell K1.out 0).trans rfl; have z1 : w4.cell? ⟨w.heap.size, 1, none⟩ = some _ := (blk_cell K1.out 1).trans rfl; have z2 : w4.cell? ⟨w.heap.size, 2, none⟩ = some _ := (blk_cell K1.out 2).trans rfl; have z3 : w4.cell? ⟨w.heap.size, 3, none⟩ = some _ := (blk_cell K1.out 3).trans rfl; have z4 : w4.cell? ⟨w.heap.size, 4, none⟩ = some _ := (blk_cell K1.out 4).trans rfl; have z5 : w4.cell? ⟨w.heap.size, 5, none⟩ = some _ := (blk_cell K1.out 5).trans rfl; clear hR hb)
    | (go_at_call 34; (with_reducible refine (hRf _ ?hb).mono ?_); (case hb => exact below_alloc HB4.out _); rintro e w5 ⟨v5, rfl, hR, hb⟩; have HBw5 := Aside0.mk (below_step (below_alloc HBw4.out (.cells #[.int .i64 r1, .int .i64 r2, .int .i64 r3, .bool r4, .slice Ao r5.length co] 28)) hb); have HB5 := Aside0.mk (below_step (below_alloc HB4.out (.cells #[.int .i64 r1, .int .i64 r2, .int .i64 r3, .bool r4, .slice Ao r5.length co] 28)) hb); have K4 := Aside0.mk (blk_below (blk_new w4 (.cells #[.int .i64 r1, .int .i64 r2, .int .i64 r3, .bool r4, .slice Ao r5.length co] 28)) hb); have K1b := Aside0.mk (blk_below (blk_alloc K1.out (.cells #[.int .i64 r1, .int .i64 r2, .int .i64 r3, .bool r4, .slice Ao r5.length co] 28)) hb); have K3b := Aside0.mk (blk_below (blk_alloc K3.out (.cells #[.int .i64 r1, .int .i64 r2, .int .i64 r3, .bool r4, .slice Ao r5.length co] 28)) hb); have HO4b := Aside0.mk (Kd.R_below (Kd.R_alloc HO4.out (.cells #[.int .i64 r1, .int .i64 r2, .int .i64 r3, .bool r4, .slice Ao r5.length co] 28)) hb); obtain ⟨Ap, cp, rfl⟩ := Kd.R_slice hR; have HO5 := Aside0.mk hR; clear hR hb))
  have hSt := fun W (hb : Below w2.heap.size w2 W) => edns_Strip.calls i f A1 c1 q A2 c2 an A3 c3 ns A4 c4 ar i f q (noOpt an) (noOpt ns) (noOpt ar) W (Kd.C_below (C_short hC1) hb) (by omega) (Kd.C_below (C_short hC2) hb) (by omega) (Kd.C_below (C_short hC3) hb) (by omega) (Kd.C_below (C_short hC4) hb) (by omega) HST_.out
  have hRs := fun W (hb : Below w.heap.size w W) => ostiaryref09_Strip.calls k i f Aq cq q Aa ca an An cn ns Ar cr ar i f q (noOpt an) (noOpt ns) (noOpt ar) W (Kd.C_below HQ.out hb) lq (Kd.C_below HA.out hb) la (Kd.C_below HN.out hb) ln (Kd.C_below HR.out hb) lr HRS_.out
  have K7 := Aside0.mk (blk_new w5 (.cells #[.int .i64 r1, .int .i64 r2, .int .i64 r3, .bool r4, .slice Ap r5.length cp] 28))
  replace K4 := Aside0.mk (blk_alloc K4.out (.cells #[.int .i64 r1, .int .i64 r2, .int .i64 r3, .bool r4, .slice Ap r5.length cp] 28))
  replace K1b := Aside0.mk (blk_alloc K1b.out (.cells #[.int .i64 r1, .int .i64 r2, .int .i64 r3, .bool r4, .slice Ap r5.length cp] 28))
  replace K3b := Aside0.mk (blk_alloc K3b.out (.cells #[.int .i64 r1, .int .i64 r2, .int .i64 r3, .bool r4, .slice Ap r5.length cp] 28))
  replace HO4b := Aside0.mk (Kd.R_alloc HO4b.out (.cells #[.int .i64 r1, .int .i64 r2, .int .i64 r3, .bool r4, .slice Ap r5.length cp] 28))
  replace HO5 := Aside0.mk (Kd.R_alloc HO5.out (.cells #[.int .i64 r1, .int .i64 r2, .int .i64 r3, .bool r4, .slice Ap r5.length cp] 28))
  replace HBw5 := Aside0.mk (below_alloc HBw5.out (.cells #[.int .i64 r1, .int .i64 r2, .int .i64 r3, .bool r4, .slice Ap r5.length cp] 28))
  have HBz5 := Aside0.mk (below_alloc HB5.out (.cells #[.int .i64 r1, .int .i64 r2, .int .i64 r3, .bool r4, .slice Ap r5.length cp] 28))
  have sz5 : w5.heap.size < (w5.alloc (.cells #[.int .i64 r1, .int .i64 r2, .int .i64 r3, .bool r4, .slice Ap r5.length cp] 28)).heap.size := by simp
  clear hBM hCP hOf hRf HBIG HB3 HBw BK2 BK3 y0 y1 y2 y3 y4 y5 z0 z1 z2 z3 z4 z5 HB4 HBw4 K1 K3 HO4 HB5 hlt4 hlt4b
  obtain ⟨b7, hb7⟩ : ∃ b, w5.heap.size = b := ⟨_, rfl⟩
  rw [hb7] at K7 sz5 ⊢
  clear hb7
  generalize w5.alloc (.cells #[.int .i64 r1, .int .i64 r2, .int .i64 r3, .bool r4, .slice Ap r5.length cp] 28) = W5 at K7 K4 K1b K3b HO4b HO5 HBw5 HBz5 sz5 ⊢
  refine wp_only ?_
  refine start_ (n := 8) (S := fun w' => w'.heap[w2.heap.size]? = some (.cells #[.int .i64 i, .int .i64 f, .slice A1 q.length c1, .slice A2 an.length c2, .slice A3 ns.length c3, .slice A4 ar.length c4] 25 (0, 0)) ∧ w'.heap[w.heap.size]? = some (.cells #[.int .i64 i, .int .i64 f, .slice Aq q.length cq, .slice Aa an.length ca, .slice An ns.length cn, .slice Ar ar.length cr] 25 (0, 0))) (ds := [6, 7]) #[false, false, false, false, false, false, false, false] (by kernel_rfl) rfl rfl ⟨blk_drew K3b.out, blk_drew K1b.out⟩ (fun hHeld => ?_)
  refine with_tabW Tells.tab6 Tells.bits6 (fun HT_ HW_ => ?_)
  have HB := Aside0.mk (below_drew1 (Below.refl W5.heap.size W5))
  generalize W5.drew = W6 at HB hHeld ⊢
  refine take_ (i := 0) (N := some 29) (v := ?_) (a' := ?_) #[true, false, false, false, false, false, false, false] rfl rfl (take_ofW HT_.out HW_.out (by kernel_rfl)) (fun _ _ _ h => h) (Or.inl ⟨by rfl, ?_⟩) hHeld ?_ ?_
  rotate_left
  · rintro w' ⟨s1, s2⟩
    have x0 := (blk_cell s1 0).trans rfl
    have x1 := (blk_cell s1 1).trans rfl
    have x2 := (blk_cell s1 2).trans rfl
    have x3 := (blk_cell s1 3).trans rfl
    have x4 := (blk_cell s1 4).trans rfl
    have x5 := (blk_cell s1 5).trans rfl
    clear s1 s2
    go_simp
    with_reducible rfl
  rotate_left
  · simp only [Act.put, List.setIfInBounds_toArray, List.set_cons_zero, List.set_cons_succ, i64_w, i32_w]
    rfl
  refine take_ (i := 2) (N := some 31) (v := ?_) (a' := ?_) #[true, false, true, false, false, false, false, false] rfl rfl (take_ofW HT_.out HW_.out (by kernel_rfl)) (fun _ _ _ h => h) (Or.inl ⟨by rfl, ?_⟩) hHeld ?_ ?_
  rotate_left
  · rintro w' ⟨s1, s2⟩
    have x0 := (blk_cell s2 0).trans rfl
    have x1 := (blk_cell s2 1).trans rfl
    have x2 := (blk_cell s2 2).trans rfl
    have x3 := (blk_cell s2 3).trans rfl
    have x4 := (blk_cell s2 4).trans rfl
    have x5 := (blk_cell s2 5).trans rfl
    clear s1 s2
    go_simp
    with_reducible rfl
  rotate_left
  · simp only [Act.put, List.setIfInBounds_toArray, List.set_cons_zero, List.set_cons_succ, i64_w, i32_w]
    rfl
  refine join_ (σ := T6) 2 #[true, true, true, true, true, true, false, false] (fun s => [(30, .agg #[.int .i64 i, .int .i64 f, .slice s.X1 q.length s.d1, .slice s.X2 (noOpt an).length s.d2, .slice s.X3 (noOpt ns).length s.d3, .slice s.X4 (noOpt ar).length s.d4]), (32, .agg #[.int .i64 i, .int .i64 f, .slice s.Y1 q.length s.e1, .slice s.Y2 (noOpt an).length s.e2, .slice s.Y3 (noOpt ns).length s.e3, .slice s.Y4 (noOpt ar).length s.e4]), (10, .pointer (some ⟨s.b10, 0, none⟩)), (11, .pointer (some ⟨s.b11, 0, none⟩))]) (fun s w' => T6F W5 w' q (noOpt an) (noOpt ns) (noOpt ar) s) ?cont ?orders
  case orders =>
    intro hJ
    refine three_ (i := 1) (j := 4) (k := 5) (Ni := some 30) (Nj := some 10) (Nk := some 11) #[true, true, true, false, false, false, false, false] #[true, false, true, false, true, false, false, false] #[true, false, true, false, false, true, false, false] rfl rfl rfl rfl rfl rfl (three_of HT_.out (by kernel_rfl)) (by decide) (by decide) (by decide) (fun K hK => ?_) (fun K hK => ?_) (fun K hK => ?_)
    ·
      refine goes_ Try.func35 (by kernel_rfl) rfl #[.agg #[.int .i64 i, .int .i64 f, .slice A1 q.length c1, .slice A2 an.length c2, .slice A3 ns.length c3, .slice A4 ar.length c4]] (by rfl) rfl rfl (by (try simp only [List.map_toArray, List.map_cons, List.map_nil]); first | done | rfl) ?_
      with_reducible refine (hSt _ (below_step HBw5.out HB.out)).mono ?_
      rintro e W6 ⟨u1, u2, u3, u4, rfl, hr1, hr2, hr3, hr4, hb⟩
      obtain ⟨X1, xc1, rfl⟩ := Kd.R_slice hr1
      obtain ⟨X2, xc2, rfl⟩ := Kd.R_slice hr2
      obtain ⟨X3, xc3, rfl⟩ := Kd.R_slice hr3
      obtain ⟨X4, xc4, rfl⟩ := Kd.R_slice hr4
      refine ⟨_, rfl, ?_⟩
      have HX := Aside0.mk (Row4.mk (Kd.R_mono (Kd.R_lower hr1 HB.out.size) (fun _ _ => trivial)) (Kd.R_mono (Kd.R_lower hr2 HB.out.size) (fun _ _ => trivial)) (Kd.R_mono (Kd.R_lower hr3 HB.out.size) (fun _ _ => trivial)) (Kd.R_mono (Kd.R_lower hr4 HB.out.size) (fun _ _ => trivial)))
      replace HB := Aside0.mk (below_step HB.out hb)
      clear hb hr1 hr2 hr3 hr4
      refine hK.out _ _ ⟨blk_below K3b.out HB.out, blk_below K1b.out HB.out⟩ (fun hHeld => ?_)
      clear hK K
      refine norm_ (a' := ?_) ?_ ?_
      rotate_left
      · show Act.put _ (some 30) _ = _
        simp only [Act.put, List.setIfInBounds_toArray, List.set_cons_zero, List.set_cons_succ, i64_w, i32_w]
        rfl
      refine three_ (i := 3) (j := 4) (k := 5) (Ni := some 32) (Nj := some 10) (Nk := some 11) #[true, true, true, true, false, false, false, false] #[true, true, true, false, true, false, false, false] #[true, true, true, false, false, true, false, false] rfl rfl rfl rfl rfl rfl (three_of HT_.out (by kernel_rfl)) (by decide) (by decide) (by decide) (fun K hK => ?_) (fun K hK => ?_) (fun K hK => ?_)
      ·
        refine goes_ Try.func36 (by kernel_rfl) rfl #[.agg #[.int .i64 i, .int .i64 f, .slice Aq q.length cq, .slice Aa an.length ca, .slice An ns.length cn, .slice Ar ar.length cr]] (by rfl) rfl rfl (by (try simp only [List.map_toArray, List.map_cons, List.map_nil]); first | done | rfl) ?_
        with_reducible refine (hRs _ (below_step HBz5.out HB.out)).mono ?_
        rintro e W7 ⟨u1, u2, u3, u4, rfl, hr1, hr2, hr3, hr4, hb⟩
        obtain ⟨Y1, yc1, rfl⟩ := Kd.R_slice hr1
        obtain ⟨Y2, yc2, rfl⟩ := Kd.R_slice hr2
        obtain ⟨Y3, yc3, rfl⟩ := Kd.R_slice hr3
        obtain ⟨Y4, yc4, rfl⟩ := Kd.R_slice hr4
        refine ⟨_, rfl, ?_⟩
        replace HX := Aside0.mk (HX.out.below hb)
        have HY := Aside0.mk (Row4.mk (Kd.R_mono (Kd.R_lower hr1 HB.out.size) (fun _ _ => trivial)) (Kd.R_mono (Kd.R_lower hr2 HB.out.size) (fun _ _ => trivial)) (Kd.R_mono (Kd.R_lower hr3 HB.out.size) (fun _ _ => trivial)) (Kd.R_mono (Kd.R_lower hr4 HB.out.size) (fun _ _ => trivial)))
        replace HB := Aside0.mk (below_step HB.out hb)
        clear hb hr1 hr2 hr3 hr4
        refine hK.out _ _ ⟨blk_below K3b.out HB.out, blk_below K1b.out HB.out⟩ (fun hHeld => ?_)
        clear hK K
        refine norm_ (a' := ?_) ?_ ?_
        rotate_left
        · show Act.put _ (some 32) _ = _
          simp only [Act.put, List.setIfInBounds_toArray, List.set_cons_zero, List.set_cons_succ, i64_w, i32_w]
          rfl
        refine two_ (i := 4) (j := 5) (Ni := some 10) (Nj := some 11) #[true, true, true, true, true, false, false, false] #[true, true, true, true, false, true, false, false] rfl rfl rfl rfl (two_of HT_.out (by kernel_rfl)) (by decide) (by decide) (fun K hK => ?_) (fun K hK => ?_)
        ·
          have HG10 := Aside0.mk (HB.out.size)
          replace HX := Aside0.mk (HX.out.alloc Z25)
          replace HY := Aside0.mk (HY.out.alloc Z25)
          have K10 := Aside0.mk (blk_new W7 Z25)
          replace HB := Aside0.mk (below_alloc HB.out Z25)
          refine event_step (w1 := W7.alloc Z25) (v := .pointer (some ⟨W7.heap.size, 0, none⟩)) ?hgk ?hrk ?_
          (case hgk => rfl)
          (case hrk => first | (go_simp; done) | (go_simp; rfl))
          obtain ⟨W8, hw5⟩ : ∃ w5, W7.alloc Z25 = w5 := ⟨_, rfl⟩
          obtain ⟨b8, hb5⟩ : ∃ b5, W7.heap.size = b5 := ⟨_, rfl⟩
          rw [hw5] at HX HY K10 HB ⊢
          rw [hb5] at K10 HG10  ⊢
          clear hw5 hb5
          refine hK.out _ _ ⟨blk_below K3b.out HB.out, blk_below K1b.out HB.out⟩ (fun hHeld => ?_)
          clear hK K
          refine norm_ (a' := ?_) ?_ ?_
          rotate_left
          · show Act.put _ (some 10) _ = _
            simp only [Act.put, List.setIfInBounds_toArray, List.set_cons_zero, List.set_cons_succ, i64_w, i32_w]
            rfl
          refine one_ (i := 5) (N := some 11) #[true, true, true, true, true, true, false, false] rfl rfl (one_of HT_.out (by kernel_rfl)) (by decide) (fun K hK => ?_)
          have HNE := Aside0.mk (Nat.ne_of_lt (blk_lt K10.out))
          have HG11 := Aside0.mk (HB.out.size)
          replace HX := Aside0.mk (HX.out.alloc Z25)
          replace HY := Aside0.mk (HY.out.alloc Z25)
          replace K10 := Aside0.mk (blk_alloc K10.out Z25)
          have K11 := Aside0.mk (blk_new W8 Z25)
          replace HB := Aside0.mk (below_alloc HB.out Z25)
          refine event_step (w1 := W8.alloc Z25) (v := .pointer (some ⟨W8.heap.size, 0, none⟩)) ?hgk ?hrk ?_
          (case hgk => rfl)
          (case hrk => first | (go_simp; done) | (go_simp; rfl))
          obtain ⟨W9, hw5⟩ : ∃ w5, W8.alloc Z25 = w5 := ⟨_, rfl⟩
          obtain ⟨b9, hb5⟩ : ∃ b5, W8.heap.size = b5 := ⟨_, rfl⟩
          rw [hw5] at HX HY K10 K11 HB ⊢
          rw [hb5] at K11 HG11 HNE ⊢
          clear hw5 hb5
          refine hK.out _ _ ⟨blk_below K3b.out HB.out, blk_below K1b.out HB.out⟩ (fun hHeld => ?_)
          clear hK K
          refine norm_ (a' := ?_) ?_ ?_
          rotate_left
          · show Act.put _ (some 11) _ = _
            simp only [Act.put, List.setIfInBounds_toArray, List.set_cons_zero, List.set_cons_succ, i64_w, i32_w]
            rfl
          exact hJ (T6.mk _ _ X1 xc1 X2 xc2 X3 xc3 X4 xc4 Y1 yc1 Y2 yc2 Y3 yc3 Y4 yc4) _ ⟨HB.out, K10.out, K11.out, by first | exact HNE.out | exact HNE.out.symm, HG10.out, HG11.out, HX.out, HY.out⟩
        ·
          have HG11 := Aside0.mk (HB.out.size)
          replace HX := Aside0.mk (HX.out.alloc Z25)
          replace HY := Aside0.mk (HY.out.alloc Z25)
          have K11 := Aside0.mk (blk_new W7 Z25)
          replace HB := Aside0.mk (below_alloc HB.out Z25)
          refine event_step (w1 := W7.alloc Z25) (v := .pointer (some ⟨W7.heap.size, 0, none⟩)) ?hgk ?hrk ?_
          (case hgk => rfl)
          (case hrk => first | (go_simp; done) | (go_simp; rfl))
          obtain ⟨W10, hw5⟩ : ∃ w5, W7.alloc Z25 = w5 := ⟨_, rfl⟩
          obtain ⟨b10, hb5⟩ : ∃ b5, W7.heap.size = b5 := ⟨_, rfl⟩
          rw [hw5] at HX HY K11 HB ⊢
          rw [hb5] at K11 HG11  ⊢
          clear hw5 hb5
          refine hK.out _ _ ⟨blk_below K3b.out HB.out, blk_below K1b.out HB.out⟩ (fun hHeld => ?_)
          clear hK K
          refine norm_ (a' := ?_) ?_ ?_
          rotate_left
          · show Act.put _ (some 11) _ = _
            simp only [Act.put, List.setIfInBounds_toArray, List.set_cons_zero, List.set_cons_succ, i64_w, i32_w]
            rfl
          refine one_ (i := 4) (N := some 10) #[true, true, true, true, true, true, false, false] rfl rfl (one_of HT_.out (by kernel_rfl)) (by decide) (fun K hK => ?_)
          have HNE := Aside0.mk (Nat.ne_of_lt (blk_lt K11.out))
          have HG10 := Aside0.mk (HB.out.size)
          replace HX := Aside0.mk (HX.out.alloc Z25)
          replace HY := Aside0.mk (HY.out.alloc Z25)
          replace K11 := Aside0.mk (blk_alloc K11.out Z25)
          have K10 := Aside0.mk (blk_new W10 Z25)
          replace HB := Aside0.mk (below_alloc HB.out Z25)
          refine event_step (w1 := W10.alloc Z25) (v := .pointer (some ⟨W10.heap.size, 0, none⟩)) ?hgk ?hrk ?_
          (case hgk => rfl)
          (case hrk => first | (go_simp; done) | (go_simp; rfl))
          obtain ⟨W11, hw5⟩ : ∃ w5, W10.alloc Z25 = w5 := ⟨_, rfl⟩
          obtain ⟨b11, hb5⟩ : ∃ b5, W10.heap.size = b5 := ⟨_, rfl⟩
          rw [hw5] at HX HY K11 K10 HB ⊢
          rw [hb5] at K10 HG10 HNE ⊢
          clear hw5 hb5
          refine hK.out _ _ ⟨blk_below K3b.out HB.out, blk_below K1b.out HB.out⟩ (fun hHeld => ?_)
          clear hK K
          refine norm_ (a' := ?_) ?_ ?_
          rotate_left
          · show Act.put _ (some 10) _ = _
            simp only [Act.put, List.setIfInBounds_toArray, List.set_cons_zero, List.set_cons_succ, i64_w, i32_w]
            rfl
          exact hJ (T6.mk _ _ X1 xc1 X2 xc2 X3 xc3 X4 xc4 Y1 yc1 Y2 yc2 Y3 yc3 Y4 yc4) _ ⟨HB.out, K10.out, K11.out, by first | exact HNE.out | exact HNE.out.symm, HG10.out, HG11.out, HX.out, HY.out⟩
      ·
        have HG10 := Aside0.mk (HB.out.size)
        replace HX := Aside0.mk (HX.out.alloc Z25)
        have K10 := Aside0.mk (blk_new W6 Z25)
        replace HB := Aside0.mk (below_alloc HB.out Z25)
        refine event_step (w1 := W6.alloc Z25) (v := .pointer (some ⟨W6.heap.size, 0, none⟩)) ?hgk ?hrk ?_
        (case hgk => rfl)
        (case hrk => first | (go_simp; done) | (go_simp; rfl))
        obtain ⟨W12, hw5⟩ : ∃ w5, W6.alloc Z25 = w5 := ⟨_, rfl⟩
        obtain ⟨b12, hb5⟩ : ∃ b5, W6.heap.size = b5 := ⟨_, rfl⟩
        rw [hw5] at HX K10 HB ⊢
        rw [hb5] at K10 HG10  ⊢
        clear hw5 hb5
        refine hK.out _ _ ⟨blk_below K3b.out HB.out, blk_below K1b.out HB.out⟩ (fun hHeld => ?_)
        clear hK K
        refine norm_ (a' := ?_) ?_ ?_
        rotate_left
        · show Act.put _ (some 10) _ = _
          simp only [Act.put, List.setIfInBounds_toArray, List.set_cons_zero, List.set_cons_succ, i64_w, i32_w]
          rfl
        refine two_ (i := 3) (j := 5) (Ni := some 32) (Nj := some 11) #[true, true, true, true, true, false, false, false] #[true, true, true, false, true, true, false, false] rfl rfl rfl rfl (two_of HT_.out (by kernel_rfl)) (by decide) (by decide) (fun K hK => ?_) (fun K hK => ?_)
        ·
          refine goes_ Try.func36 (by kernel_rfl) rfl #[.agg #[.int .i64 i, .int .i64 f, .slice Aq q.length cq, .slice Aa an.length ca, .slice An ns.length cn, .slice Ar ar.length cr]] (by rfl) rfl rfl (by (try simp only [List.map_toArray, List.map_cons, List.map_nil]); first | done | rfl) ?_
          with_reducible refine (hRs _ (below_step HBz5.out HB.out)).mono ?_
          rintro e W13 ⟨u1, u2, u3, u4, rfl, hr1, hr2, hr3, hr4, hb⟩
          obtain ⟨Y1, yc1, rfl⟩ := Kd.R_slice hr1
          obtain ⟨Y2, yc2, rfl⟩ := Kd.R_slice hr2
          obtain ⟨Y3, yc3, rfl⟩ := Kd.R_slice hr3
          obtain ⟨Y4, yc4, rfl⟩ := Kd.R_slice hr4
          refine ⟨_, rfl, ?_⟩
          replace HX := Aside0.mk (HX.out.below hb)
          replace K10 := Aside0.mk (blk_below K10.out hb)
          have HY := Aside0.mk (Row4.mk (Kd.R_mono (Kd.R_lower hr1 HB.out.size) (fun _ _ => trivial)) (Kd.R_mono (Kd.R_lower hr2 HB.out.size) (fun _ _ => trivial)) (Kd.R_mono (Kd.R_lower hr3 HB.out.size) (fun _ _ => trivial)) (Kd.R_mono (Kd.R_lower hr4 HB.out.size) (fun _ _ => trivial)))
          replace HB := Aside0.mk (below_step HB.out hb)
          clear hb hr1 hr2 hr3 hr4
          refine hK.out _ _ ⟨blk_below K3b.out HB.out, blk_below K1b.out HB.out⟩ (fun hHeld => ?_)
          clear hK K
          refine norm_ (a' := ?_) ?_ ?_
          rotate_left
          · show Act.put _ (some 32) _ = _
            simp only [Act.put, List.setIfInBounds_toArray, List.set_cons_zero, List.set_cons_succ, i64_w, i32_w]
            rfl
          refine one_ (i := 5) (N := some 11) #[true, true, true, true, true, true, false, false] rfl rfl (one_of HT_.out (by kernel_rfl)) (by decide) (fun K hK => ?_)
          have HNE := Aside0.mk (Nat.ne_of_lt (blk_lt K10.out))
          have HG11 := Aside0.mk (HB.out.size)
          replace HX := Aside0.mk (HX.out.alloc Z25)
          replace K10 := Aside0.mk (blk_alloc K10.out Z25)
          replace HY := Aside0.mk (HY.out.alloc Z25)
          have K11 := Aside0.mk (blk_new W13 Z25)
          replace HB := Aside0.mk (below_alloc HB.out Z25)
          refine event_step (w1 := W13.alloc Z25) (v := .pointer (some ⟨W13.heap.size, 0, none⟩)) ?hgk ?hrk ?_
          (case hgk => rfl)
          (case hrk => first | (go_simp; done) | (go_simp; rfl))
          obtain ⟨W14, hw5⟩ : ∃ w5, W13.alloc Z25 = w5 := ⟨_, rfl⟩
          obtain ⟨b14, hb5⟩ : ∃ b5, W13.heap.size = b5 := ⟨_, rfl⟩
          rw [hw5] at HX K10 HY K11 HB ⊢
          rw [hb5] at K11 HG11 HNE ⊢
          clear hw5 hb5
          refine hK.out _ _ ⟨blk_below K3b.out HB.out, blk_below K1b.out HB.out⟩ (fun hHeld => ?_)
          clear hK K
          refine norm_ (a' := ?_) ?_ ?_
          rotate_left
          · show Act.put _ (some 11) _ = _
            simp only [Act.put, List.setIfInBounds_toArray, List.set_cons_zero, List.set_cons_succ, i64_w, i32_w]
            rfl
          exact hJ (T6.mk _ _ X1 xc1 X2 xc2 X3 xc3 X4 xc4 Y1 yc1 Y2 yc2 Y3 yc3 Y4 yc4) _ ⟨HB.out, K10.out, K11.out, by first | exact HNE.out | exact HNE.out.symm, HG10.out, HG11.out, HX.out, HY.out⟩
        ·
          have HNE := Aside0.mk (Nat.ne_of_lt (blk_lt K10.out))
          have HG11 := Aside0.mk (HB.out.size)
          replace HX := Aside0.mk (HX.out.alloc Z25)
          replace K10 := Aside0.mk (blk_alloc K10.out Z25)
          have K11 := Aside0.mk (blk_new W12 Z25)
          replace HB := Aside0.mk (below_alloc HB.out Z25)
          refine event_step (w1 := W12.alloc Z25) (v := .pointer (some ⟨W12.heap.size, 0, none⟩)) ?hgk ?hrk ?_
          (case hgk => rfl)
          (case hrk => first | (go_simp; done) | (go_simp; rfl))
          obtain ⟨W15, hw5⟩ : ∃ w5, W12.alloc Z25 = w5 := ⟨_, rfl⟩
          obtain ⟨b15, hb5⟩ : ∃ b5, W12.heap.size = b5 := ⟨_, rfl⟩
          rw [hw5] at HX K10 K11 HB ⊢
          rw [hb5] at K11 HG11 HNE ⊢
          clear hw5 hb5
          refine hK.out _ _ ⟨blk_below K3b.out HB.out, blk_below K1b.out HB.out⟩ (fun hHeld => ?_)
          clear hK K
          refine norm_ (a' := ?_) ?_ ?_
          rotate_left
          · show Act.put _ (some 11) _ = _
            simp only [Act.put, List.setIfInBounds_toArray, List.set_cons_zero, List.set_cons_succ, i64_w, i32_w]
            rfl
          refine one_ (i := 3) (N := some 32) #[true, true, true, true, true, true, false, false] rfl rfl (one_of HT_.out (by kernel_rfl)) (by decide) (fun K hK => ?_)
          refine goes_ Try.func36 (by kernel_rfl) rfl #[.agg #[.int .i64 i, .int .i64 f, .slice Aq q.length cq, .slice Aa an.length ca, .slice An ns.length cn, .slice Ar ar.length cr]] (by rfl) rfl rfl (by (try simp only [List.map_toArray, List.map_cons, List.map_nil]); first | done | rfl) ?_
          with_reducible refine (hRs _ (below_step HBz5.out HB.out)).mono ?_
          rintro e W16 ⟨u1, u2, u3, u4, rfl, hr1, hr2, hr3, hr4, hb⟩
          obtain ⟨Y1, yc1, rfl⟩ := Kd.R_slice hr1
          obtain ⟨Y2, yc2, rfl⟩ := Kd.R_slice hr2
          obtain ⟨Y3, yc3, rfl⟩ := Kd.R_slice hr3
          obtain ⟨Y4, yc4, rfl⟩ := Kd.R_slice hr4
          refine ⟨_, rfl, ?_⟩
          replace HX := Aside0.mk (HX.out.below hb)
          replace K10 := Aside0.mk (blk_below K10.out hb)
          replace K11 := Aside0.mk (blk_below K11.out hb)
          have HY := Aside0.mk (Row4.mk (Kd.R_mono (Kd.R_lower hr1 HB.out.size) (fun _ _ => trivial)) (Kd.R_mono (Kd.R_lower hr2 HB.out.size) (fun _ _ => trivial)) (Kd.R_mono (Kd.R_lower hr3 HB.out.size) (fun _ _ => trivial)) (Kd.R_mono (Kd.R_lower hr4 HB.out.size) (fun _ _ => trivial)))
          replace HB := Aside0.mk (below_step HB.out hb)
          clear hb hr1 hr2 hr3 hr4
          refine hK.out _ _ ⟨blk_below K3b.out HB.out, blk_below K1b.out HB.out⟩ (fun hHeld => ?_)
          clear hK K
          refine norm_ (a' := ?_) ?_ ?_
          rotate_left
          · show Act.put _ (some 32) _ = _
            simp only [Act.put, List.setIfInBounds_toArray, List.set_cons_zero, List.set_cons_succ, i64_w, i32_w]
            rfl
          exact hJ (T6.mk _ _ X1 xc1 X2 xc2 X3 xc3 X4 xc4 Y1 yc1 Y2 yc2 Y3 yc3 Y4 yc4) _ ⟨HB.out, K10.out, K11.out, by first | exact HNE.out | exact HNE.out.symm, HG10.out, HG11.out, HX.out, HY.out⟩
      ·
        have HG11 := Aside0.mk (HB.out.size)
        replace HX := Aside0.mk (HX.out.alloc Z25)
        have K11 := Aside0.mk (blk_new W6 Z25)
        replace HB := Aside0.mk (below_alloc HB.out Z25)
        refine event_step (w1 := W6.alloc Z25) (v := .pointer (some ⟨W6.heap.size, 0, none⟩)) ?hgk ?hrk ?_
        (case hgk => rfl)
        (case hrk => first | (go_simp; done) | (go_simp; rfl))
        obtain ⟨W17, hw5⟩ : ∃ w5, W6.alloc Z25 = w5 := ⟨_, rfl⟩
        obtain ⟨b17, hb5⟩ : ∃ b5, W6.heap.size = b5 := ⟨_, rfl⟩
        rw [hw5] at HX K11 HB ⊢
        rw [hb5] at K11 HG11  ⊢
        clear hw5 hb5
        refine hK.out _ _ ⟨blk_below K3b.out HB.out, blk_below K1b.out HB.out⟩ (fun hHeld => ?_)
        clear hK K
        refine norm_ (a' := ?_) ?_ ?_
        rotate_left
        · show Act.put _ (some 11) _ = _
          simp only [Act.put, List.setIfInBounds_toArray, List.set_cons_zero, List.set_cons_succ, i64_w, i32_w]
          rfl
        refine two_ (i := 3) (j := 4) (Ni := some 32) (Nj := some 10) #[true, true, true, true, false, true, false, false] #[true, true, true, false, true, true, false, false] rfl rfl rfl rfl (two_of HT_.out (by kernel_rfl)) (by decide) (by decide) (fun K hK => ?_) (fun K hK => ?_)
        ·
          refine goes_ Try.func36 (by kernel_rfl) rfl #[.agg #[.int .i64 i, .int .i64 f, .slice Aq q.length cq, .slice Aa an.length ca, .slice An ns.length cn, .slice Ar ar.length cr]] (by rfl) rfl rfl (by (try simp only [List.map_toArray, List.map_cons, List.map_nil]); first | done | rfl) ?_
          with_reducible refine (hRs _ (below_step HBz5.out HB.out)).mono ?_
          rintro e W18 ⟨u1, u2, u3, u4, rfl, hr1, hr2, hr3, hr4, hb⟩
          obtain ⟨Y1, yc1, rfl⟩ := Kd.R_slice hr1
          obtain ⟨Y2, yc2, rfl⟩ := Kd.R_slice hr2
          obtain ⟨Y3, yc3, rfl⟩ := Kd.R_slice hr3
          obtain ⟨Y4, yc4, rfl⟩ := Kd.R_slice hr4
          refine ⟨_, rfl, ?_⟩
          replace HX := Aside0.mk (HX.out.below hb)
          replace K11 := Aside0.mk (blk_below K11.out hb)
          have HY := Aside0.mk (Row4.mk (Kd.R_mono (Kd.R_lower hr1 HB.out.size) (fun _ _ => trivial)) (Kd.R_mono (Kd.R_lower hr2 HB.out.size) (fun _ _ => trivial)) (Kd.R_mono (Kd.R_lower hr3 HB.out.size) (fun _ _ => trivial)) (Kd.R_mono (Kd.R_lower hr4 HB.out.size) (fun _ _ => trivial)))
          replace HB := Aside0.mk (below_step HB.out hb)
          clear hb hr1 hr2 hr3 hr4
          refine hK.out _ _ ⟨blk_below K3b.out HB.out, blk_below K1b.out HB.out⟩ (fun hHeld => ?_)
          clear hK K
          refine norm_ (a' := ?_) ?_ ?_
          rotate_left
          · show Act.put _ (some 32) _ = _
            simp only [Act.put, List.setIfInBounds_toArray, List.set_cons_zero, List.set_cons_succ, i64_w, i32_w]
            rfl
          refine one_ (i := 4) (N := some 10) #[true, true, true, true, true, true, false, false] rfl rfl (one_of HT_.out (by kernel_rfl)) (by decide) (fun K hK => ?_)
          have HNE := Aside0.mk (Nat.ne_of_lt (blk_lt K11.out))
          have HG10 := Aside0.mk (HB.out.size)
          replace HX := Aside0.mk (HX.out.alloc Z25)
          replace K11 := Aside0.mk (blk_alloc K11.out Z25)
          replace HY := Aside0.mk (HY.out.alloc Z25)
          have K10 := Aside0.mk (blk_new W18 Z25)
          replace HB := Aside0.mk (below_alloc HB.out Z25)
          refine event_step (w1 := W18.alloc Z25) (v := .pointer (some ⟨W18.heap.size, 0, none⟩)) ?hgk ?hrk ?_
          (case hgk => rfl)
          (case hrk => first | (go_simp; done) | (go_simp; rfl))
          obtain ⟨W19, hw5⟩ : ∃ w5, W18.alloc Z25 = w5 := ⟨_, rfl⟩
          obtain ⟨b19, hb5⟩ : ∃ b5, W18.heap.size = b5 := ⟨_, rfl⟩
          rw [hw5] at HX K11 HY K10 HB ⊢
          rw [hb5] at K10 HG10 HNE ⊢
          clear hw5 hb5
          refine hK.out _ _ ⟨blk_below K3b.out HB.out, blk_below K1b.out HB.out⟩ (fun hHeld => ?_)
          clear hK K
          refine norm_ (a' := ?_) ?_ ?_
          rotate_left
          · show Act.put _ (some 10) _ = _
            simp only [Act.put, List.setIfInBounds_toArray, List.set_cons_zero, List.set_cons_succ, i64_w, i32_w]
            rfl
          exact hJ (T6.mk _ _ X1 xc1 X2 xc2 X3 xc3 X4 xc4 Y1 yc1 Y2 yc2 Y3 yc3 Y4 yc4) _ ⟨HB.out, K10.out, K11.out, by first | exact HNE.out | exact HNE.out.symm, HG10.out, HG11.out, HX.out, HY.out⟩
        ·
          have HNE := Aside0.mk (Nat.ne_of_lt (blk_lt K11.out))
          have HG10 := Aside0.mk (HB.out.size)
          replace HX := Aside0.mk (HX.out.alloc Z25)
          replace K11 := Aside0.mk (blk_alloc K11.out Z25)
          have K10 := Aside0.mk (blk_new W17 Z25)
          replace HB := Aside0.mk (below_alloc HB.out Z25)
          refine event_step (w1 := W17.alloc Z25) (v := .pointer (some ⟨W17.heap.size, 0, none⟩)) ?hgk ?hrk ?_
          (case hgk => rfl)
          (case hrk => first | (go_simp; done) | (go_simp; rfl))
          obtain ⟨W20, hw5⟩ : ∃ w5, W17.alloc Z25 = w5 := ⟨_, rfl⟩
          obtain ⟨b20, hb5⟩ : ∃ b5, W17.heap.size = b5 := ⟨_, rfl⟩
          rw [hw5] at HX K11 K10 HB ⊢
          rw [hb5] at K10 HG10 HNE ⊢
          clear hw5 hb5
          refine hK.out _ _ ⟨blk_below K3b.out HB.out, blk_below K1b.out HB.out⟩ (fun hHeld => ?_)
          clear hK K
          refine norm_ (a' := ?_) ?_ ?_
          rotate_left
          · show Act.put _ (some 10) _ = _
            simp only [Act.put, List.setIfInBounds_toArray, List.set_cons_zero, List.set_cons_succ, i64_w, i32_w]
            rfl
          refine one_ (i := 3) (N := some 32) #[true, true, true, true, true, true, false, false] rfl rfl (one_of HT_.out (by kernel_rfl)) (by decide) (fun K hK => ?_)
          refine goes_ Try.func36 (by kernel_rfl) rfl #[.agg #[.int .i64 i, .int .i64 f, .slice Aq q.length cq, .slice Aa an.length ca, .slice An ns.length cn, .slice Ar ar.length cr]] (by rfl) rfl rfl (by (try simp only [List.map_toArray, List.map_cons, List.map_nil]); first | done | rfl) ?_
          with_reducible refine (hRs _ (below_step HBz5.out HB.out)).mono ?_
          rintro e W21 ⟨u1, u2, u3, u4, rfl, hr1, hr2, hr3, hr4, hb⟩
          obtain ⟨Y1, yc1, rfl⟩ := Kd.R_slice hr1
          obtain ⟨Y2, yc2, rfl⟩ := Kd.R_slice hr2
          obtain ⟨Y3, yc3, rfl⟩ := Kd.R_slice hr3
          obtain ⟨Y4, yc4, rfl⟩ := Kd.R_slice hr4
          refine ⟨_, rfl, ?_⟩
          replace HX := Aside0.mk (HX.out.below hb)
          replace K11 := Aside0.mk (blk_below K11.out hb)
          replace K10 := Aside0.mk (blk_below K10.out hb)
          have HY := Aside0.mk (Row4.mk (Kd.R_mono (Kd.R_lower hr1 HB.out.size) (fun _ _ => trivial)) (Kd.R_mono (Kd.R_lower hr2 HB.out.size) (fun _ _ => trivial)) (Kd.R_mono (Kd.R_lower hr3 HB.out.size) (fun _ _ => trivial)) (Kd.R_mono (Kd.R_lower hr4 HB.out.size) (fun _ _ => trivial)))
          replace HB := Aside0.mk (below_step HB.out hb)
          clear hb hr1 hr2 hr3 hr4
          refine hK.out _ _ ⟨blk_below K3b.out HB.out, blk_below K1b.out HB.out⟩ (fun hHeld => ?_)
          clear hK K
          refine norm_ (a' := ?_) ?_ ?_
          rotate_left
          · show Act.put _ (some 32) _ = _
            simp only [Act.put, List.setIfInBounds_toArray, List.set_cons_zero, List.set_cons_succ, i64_w, i32_w]
            rfl
          exact hJ (T6.mk _ _ X1 xc1 X2 xc2 X3 xc3 X4 xc4 Y1 yc1 Y2 yc2 Y3 yc3 Y4 yc4) _ ⟨HB.out, K10.out, K11.out, by first | exact HNE.out | exact HNE.out.symm, HG10.out, HG11.out, HX.out, HY.out⟩
    ·
      have HG10 := Aside0.mk (HB.out.size)
      have K10 := Aside0.mk (blk_new W6 Z25)
      replace HB := Aside0.mk (below_alloc HB.out Z25)
      refine event_step (w1 := W6.alloc Z25) (v := .pointer (some ⟨W6.heap.size, 0, none⟩)) ?hgk ?hrk ?_
      (case hgk => rfl)
      (case hrk => first | (go_simp; done) | (go_simp; rfl))
      obtain ⟨W22, hw5⟩ : ∃ w5, W6.alloc Z25 = w5 := ⟨_, rfl⟩
      obtain ⟨b22, hb5⟩ : ∃ b5, W6.heap.size = b5 := ⟨_, rfl⟩
      rw [hw5] at K10 HB ⊢
      rw [hb5] at K10 HG10  ⊢
      clear hw5 hb5
      refine hK.out _ _ ⟨blk_below K3b.out HB.out, blk_below K1b.out HB.out⟩ (fun hHeld => ?_)
      clear hK K
      refine norm_ (a' := ?_) ?_ ?_
      rotate_left
      · show Act.put _ (some 10) _ = _
        simp only [Act.put, List.setIfInBounds_toArray, List.set_cons_zero, List.set_cons_succ, i64_w, i32_w]
        rfl
      refine two_ (i := 1) (j := 5) (Ni := some 30) (Nj := some 11) #[true, true, true, false, true, false, false, false] #[true, false, true, false, true, true, false, false] rfl rfl rfl rfl (two_of HT_.out (by kernel_rfl)) (by decide) (by decide) (fun K hK => ?_) (fun K hK => ?_)
      ·
        refine goes_ Try.func35 (by kernel_rfl) rfl #[.agg #[.int .i64 i, .int .i64 f, .slice A1 q.length c1, .slice A2 an.length c2, .slice A3 ns.length c3, .slice A4 ar.length c4]] (by rfl) rfl rfl (by (try simp only [List.map_toArray, List.map_cons, List.map_nil]); first | done | rfl) ?_
        with_reducible refine (hSt _ (below_step HBw5.out HB.out)).mono ?_
        rintro e W23 ⟨u1, u2, u3, u4, rfl, hr1, hr2, hr3, hr4, hb⟩
        obtain ⟨X1, xc1, rfl⟩ := Kd.R_slice hr1
        obtain ⟨X2, xc2, rfl⟩ := Kd.R_slice hr2
        obtain ⟨X3, xc3, rfl⟩ := Kd.R_slice hr3
        obtain ⟨X4, xc4, rfl⟩ := Kd.R_slice hr4
        refine ⟨_, rfl, ?_⟩
        replace K10 := Aside0.mk (blk_below K10.out hb)
        have HX := Aside0.mk (Row4.mk (Kd.R_mono (Kd.R_lower hr1 HB.out.size) (fun _ _ => trivial)) (Kd.R_mono (Kd.R_lower hr2 HB.out.size) (fun _ _ => trivial)) (Kd.R_mono (Kd.R_lower hr3 HB.out.size) (fun _ _ => trivial)) (Kd.R_mono (Kd.R_lower hr4 HB.out.size) (fun _ _ => trivial)))
        replace HB := Aside0.mk (below_step HB.out hb)
        clear hb hr1 hr2 hr3 hr4
        refine hK.out _ _ ⟨blk_below K3b.out HB.out, blk_below K1b.out HB.out⟩ (fun hHeld => ?_)
        clear hK K
        refine norm_ (a' := ?_) ?_ ?_
        rotate_left
        · show Act.put _ (some 30) _ = _
          simp only [Act.put, List.setIfInBounds_toArray, List.set_cons_zero, List.set_cons_succ, i64_w, i32_w]
          rfl
        refine two_ (i := 3) (j := 5) (Ni := some 32) (Nj := some 11) #[true, true, true, true, true, false, false, false] #[true, true, true, false, true, true, false, false] rfl rfl rfl rfl (two_of HT_.out (by kernel_rfl)) (by decide) (by decide) (fun K hK => ?_) (fun K hK => ?_)
        ·
          refine goes_ Try.func36 (by kernel_rfl) rfl #[.agg #[.int .i64 i, .int .i64 f, .slice Aq q.length cq, .slice Aa an.length ca, .slice An ns.length cn, .slice Ar ar.length cr]] (by rfl) rfl rfl (by (try simp only [List.map_toArray, List.map_cons, List.map_nil]); first | done | rfl) ?_
          with_reducible refine (hRs _ (below_step HBz5.out HB.out)).mono ?_
          rintro e W24 ⟨u1, u2, u3, u4, rfl, hr1, hr2, hr3, hr4, hb⟩
          obtain ⟨Y1, yc1, rfl⟩ := Kd.R_slice hr1
          obtain ⟨Y2, yc2, rfl⟩ := Kd.R_slice hr2
          obtain ⟨Y3, yc3, rfl⟩ := Kd.R_slice hr3
          obtain ⟨Y4, yc4, rfl⟩ := Kd.R_slice hr4
          refine ⟨_, rfl, ?_⟩
          replace K10 := Aside0.mk (blk_below K10.out hb)
          replace HX := Aside0.mk (HX.out.below hb)
          have HY := Aside0.mk (Row4.mk (Kd.R_mono (Kd.R_lower hr1 HB.out.size) (fun _ _ => trivial)) (Kd.R_mono (Kd.R_lower hr2 HB.out.size) (fun _ _ => trivial)) (Kd.R_mono (Kd.R_lower hr3 HB.out.size) (fun _ _ => trivial)) (Kd.R_mono (Kd.R_lower hr4 HB.out.size) (fun _ _ => trivial)))
          replace HB := Aside0.mk (below_step HB.out hb)
          clear hb hr1 hr2 hr3 hr4
          refine hK.out _ _ ⟨blk_below K3b.out HB.out, blk_below K1b.out HB.out⟩ (fun hHeld => ?_)
          clear hK K
          refine norm_ (a' := ?_) ?_ ?_
          rotate_left
          · show Act.put _ (some 32) _ = _
            simp only [Act.put, List.setIfInBounds_toArray, List.set_cons_zero, List.set_cons_succ, i64_w, i32_w]
            rfl
          refine one_ (i := 5) (N := some 11) #[true, true, true, true, true, true, false, false] rfl rfl (one_of HT_.out (by kernel_rfl)) (by decide) (fun K hK => ?_)
          have HNE := Aside0.mk (Nat.ne_of_lt (blk_lt K10.out))
          have HG11 := Aside0.mk (HB.out.size)
          replace K10 := Aside0.mk (blk_alloc K10.out Z25)
          replace HX := Aside0.mk (HX.out.alloc Z25)
          replace HY := Aside0.mk (HY.out.alloc Z25)
          have K11 := Aside0.mk (blk_new W24 Z25)
          replace HB := Aside0.mk (below_alloc HB.out Z25)
          refine event_step (w1 := W24.alloc Z25) (v := .pointer (some ⟨W24.heap.size, 0, none⟩)) ?hgk ?hrk ?_
          (case hgk => rfl)
          (case hrk => first | (go_simp; done) | (go_simp; rfl))
          obtain ⟨W25, hw5⟩ : ∃ w5, W24.alloc Z25 = w5 := ⟨_, rfl⟩
          obtain ⟨b25, hb5⟩ : ∃ b5, W24.heap.size = b5 := ⟨_, rfl⟩
          rw [hw5] at K10 HX HY K11 HB ⊢
          rw [hb5] at K11 HG11 HNE ⊢
          clear hw5 hb5
          refine hK.out _ _ ⟨blk_below K3b.out HB.out, blk_below K1b.out HB.out⟩ (fun hHeld => ?_)
          clear hK K
          refine norm_ (a' := ?_) ?_ ?_
          rotate_left
          · show Act.put _ (some 11) _ = _
            simp only [Act.put, List.setIfInBounds_toArray, List.set_cons_zero, List.set_cons_succ, i64_w, i32_w]
            rfl
          exact hJ (T6.mk _ _ X1 xc1 X2 xc2 X3 xc3 X4 xc4 Y1 yc1 Y2 yc2 Y3 yc3 Y4 yc4) _ ⟨HB.out, K10.out, K11.out, by first | exact HNE.out | exact HNE.out.symm, HG10.out, HG11.out, HX.out, HY.out⟩
        ·
          have HNE := Aside0.mk (Nat.ne_of_lt (blk_lt K10.out))
          have HG11 := Aside0.mk (HB.out.size)
          replace K10 := Aside0.mk (blk_alloc K10.out Z25)
          replace HX := Aside0.mk (HX.out.alloc Z25)
          have K11 := Aside0.mk (blk_new W23 Z25)
          replace HB := Aside0.mk (below_alloc HB.out Z25)
          refine event_step (w1 := W23.alloc Z25) (v := .pointer (some ⟨W23.heap.size, 0, none⟩)) ?hgk ?hrk ?_
          (case hgk => rfl)
          (case hrk => first | (go_simp; done) | (go_simp; rfl))
          obtain ⟨W26, hw5⟩ : ∃ w5, W23.alloc Z25 = w5 := ⟨_, rfl⟩
          obtain ⟨b26, hb5⟩ : ∃ b5, W23.heap.size = b5 := ⟨_, rfl⟩
          rw [hw5] at K10 HX K11 HB ⊢
          rw [hb5] at K11 HG11 HNE ⊢
          clear hw5 hb5
          refine hK.out _ _ ⟨blk_below K3b.out HB.out, blk_below K1b.out HB.out⟩ (fun hHeld => ?_)
          clear hK K
          refine norm_ (a' := ?_) ?_ ?_
          rotate_left
          · show Act.put _ (some 11) _ = _
            simp only [Act.put, List.setIfInBounds_toArray, List.set_cons_zero, List.set_cons_succ, i64_w, i32_w]
            rfl
          refine one_ (i := 3) (N := some 32) #[true, true, true, true, true, true, false, false] rfl rfl (one_of HT_.out (by kernel_rfl)) (by decide) (fun K hK => ?_)
          refine goes_ Try.func36 (by kernel_rfl) rfl #[.agg #[.int .i64 i, .int .i64 f, .slice Aq q.length cq, .slice Aa an.length ca, .slice An ns.length cn, .slice Ar ar.length cr]] (by rfl) rfl rfl (by (try simp only [List.map_toArray, List.map_cons, List.map_nil]); first | done | rfl) ?_
          with_reducible refine (hRs _ (below_step HBz5.out HB.out)).mono ?_
          rintro e W27 ⟨u1, u2, u3, u4, rfl, hr1, hr2, hr3, hr4, hb⟩
          obtain ⟨Y1, yc1, rfl⟩ := Kd.R_slice hr1
          obtain ⟨Y2, yc2, rfl⟩ := Kd.R_slice hr2
          obtain ⟨Y3, yc3, rfl⟩ := Kd.R_slice hr3
          obtain ⟨Y4, yc4, rfl⟩ := Kd.R_slice hr4
          refine ⟨_, rfl, ?_⟩
          replace K10 := Aside0.mk (blk_below K10.out hb)
          replace HX := Aside0.mk (HX.out.below hb)
          replace K11 := Aside0.mk (blk_below K11.out hb)
          have HY := Aside0.mk (Row4.mk (Kd.R_mono (Kd.R_lower hr1 HB.out.size) (fun _ _ => trivial)) (Kd.R_mono (Kd.R_lower hr2 HB.out.size) (fun _ _ => trivial)) (Kd.R_mono (Kd.R_lower hr3 HB.out.size) (fun _ _ => trivial)) (Kd.R_mono (Kd.R_lower hr4 HB.out.size) (fun _ _ => trivial)))
          replace HB := Aside0.mk (below_step HB.out hb)
          clear hb hr1 hr2 hr3 hr4
          refine hK.out _ _ ⟨blk_below K3b.out HB.out, blk_below K1b.out HB.out⟩ (fun hHeld => ?_)
          clear hK K
          refine norm_ (a' := ?_) ?_ ?_
          rotate_left
          · show Act.put _ (some 32) _ = _
            simp only [Act.put, List.setIfInBounds_toArray, List.set_cons_zero, List.set_cons_succ, i64_w, i32_w]
            rfl
          exact hJ (T6.mk _ _ X1 xc1 X2 xc2 X3 xc3 X4 xc4 Y1 yc1 Y2 yc2 Y3 yc3 Y4 yc4) _ ⟨HB.out, K10.out, K11.out, by first | exact HNE.out | exact HNE.out.symm, HG10.out, HG11.out, HX.out, HY.out⟩
      ·
        have HNE := Aside0.mk (Nat.ne_of_lt (blk_lt K10.out))
        have HG11 := Aside0.mk (HB.out.size)
        replace K10 := Aside0.mk (blk_alloc K10.out Z25)
        have K11 := Aside0.mk (blk_new W22 Z25)
        replace HB := Aside0.mk (below_alloc HB.out Z25)
        refine event_step (w1 := W22.alloc Z25) (v := .pointer (some ⟨W22.heap.size, 0, none⟩)) ?hgk ?hrk ?_
        (case hgk => rfl)
        (case hrk => first | (go_simp; done) | (go_simp; rfl))
        obtain ⟨W28, hw5⟩ : ∃ w5, W22.alloc Z25 = w5 := ⟨_, rfl⟩
        obtain ⟨b28, hb5⟩ : ∃ b5, W22.heap.size = b5 := ⟨_, rfl⟩
        rw [hw5] at K10 K11 HB ⊢
        rw [hb5] at K11 HG11 HNE ⊢
        clear hw5 hb5
        refine hK.out _ _ ⟨blk_below K3b.out HB.out, blk_below K1b.out HB.out⟩ (fun hHeld => ?_)
        clear hK K
        refine norm_ (a' := ?_) ?_ ?_
        rotate_left
        · show Act.put _ (some 11) _ = _
          simp only [Act.put, List.setIfInBounds_toArray, List.set_cons_zero, List.set_cons_succ, i64_w, i32_w]
          rfl
        refine one_ (i := 1) (N := some 30) #[true, true, true, false, true, true, false, false] rfl rfl (one_of HT_.out (by kernel_rfl)) (by decide) (fun K hK => ?_)
        refine goes_ Try.func35 (by kernel_rfl) rfl #[.agg #[.int .i64 i, .int .i64 f, .slice A1 q.length c1, .slice A2 an.length c2, .slice A3 ns.length c3, .slice A4 ar.length c4]] (by rfl) rfl rfl (by (try simp only [List.map_toArray, List.map_cons, List.map_nil]); first | done | rfl) ?_
        with_reducible refine (hSt _ (below_step HBw5.out HB.out)).mono ?_
        rintro e W29 ⟨u1, u2, u3, u4, rfl, hr1, hr2, hr3, hr4, hb⟩
        obtain ⟨X1, xc1, rfl⟩ := Kd.R_slice hr1
        obtain ⟨X2, xc2, rfl⟩ := Kd.R_slice hr2
        obtain ⟨X3, xc3, rfl⟩ := Kd.R_slice hr3
        obtain ⟨X4, xc4, rfl⟩ := Kd.R_slice hr4
        refine ⟨_, rfl, ?_⟩
        replace K10 := Aside0.mk (blk_below K10.out hb)
        replace K11 := Aside0.mk (blk_below K11.out hb)
        have HX := Aside0.mk (Row4.mk (Kd.R_mono (Kd.R_lower hr1 HB.out.size) (fun _ _ => trivial)) (Kd.R_mono (Kd.R_lower hr2 HB.out.size) (fun _ _ => trivial)) (Kd.R_mono (Kd.R_lower hr3 HB.out.size) (fun _ _ => trivial)) (Kd.R_mono (Kd.R_lower hr4 HB.out.size) (fun _ _ => trivial)))
        replace HB := Aside0.mk (below_step HB.out hb)
        clear hb hr1 hr2 hr3 hr4
        refine hK.out _ _ ⟨blk_below K3b.out HB.out, blk_below K1b.out HB.out⟩ (fun hHeld => ?_)
        clear hK K
        refine norm_ (a' := ?_) ?_ ?_
        rotate_left
        · show Act.put _ (some 30) _ = _
          simp only [Act.put, List.setIfInBounds_toArray, List.set_cons_zero, List.set_cons_succ, i64_w, i32_w]
          rfl
        refine one_ (i := 3) (N := some 32) #[true, true, true, true, true, true, false, false] rfl rfl (one_of HT_.out (by kernel_rfl)) (by decide) (fun K hK => ?_)
        refine goes_ Try.func36 (by kernel_rfl) rfl #[.agg #[.int .i64 i, .int .i64 f, .slice Aq q.length cq, .slice Aa an.length ca, .slice An ns.length cn, .slice Ar ar.length cr]] (by rfl) rfl rfl (by (try simp only [List.map_toArray, List.map_cons, List.map_nil]); first | done | rfl) ?_
        with_reducible refine (hRs _ (below_step HBz5.out HB.out)).mono ?_
        rintro e W30 ⟨u1, u2, u3, u4, rfl, hr1, hr2, hr3, hr4, hb⟩
        obtain ⟨Y1, yc1, rfl⟩ := Kd.R_slice hr1
        obtain ⟨Y2, yc2, rfl⟩ := Kd.R_slice hr2
        obtain ⟨Y3, yc3, rfl⟩ := Kd.R_slice hr3
        obtain ⟨Y4, yc4, rfl⟩ := Kd.R_slice hr4
        refine ⟨_, rfl, ?_⟩
        replace K10 := Aside0.mk (blk_below K10.out hb)
        replace K11 := Aside0.mk (blk_below K11.out hb)
        replace HX := Aside0.mk (HX.out.below hb)
        have HY := Aside0.mk (Row4.mk (Kd.R_mono (Kd.R_lower hr1 HB.out.size) (fun _ _ => trivial)) (Kd.R_mono (Kd.R_lower hr2 HB.out.size) (fun _ _ => trivial)) (Kd.R_mono (Kd.R_lower hr3 HB.out.size) (fun _ _ => trivial)) (Kd.R_mono (Kd.R_lower hr4 HB.out.size) (fun _ _ => trivial)))
        replace HB := Aside0.mk (below_step HB.out hb)
        clear hb hr1 hr2 hr3 hr4
        refine hK.out _ _ ⟨blk_below K3b.out HB.out, blk_below K1b.out HB.out⟩ (fun hHeld => ?_)
        clear hK K
        refine norm_ (a' := ?_) ?_ ?_
        rotate_left
        · show Act.put _ (some 32) _ = _
          simp only [Act.put, List.setIfInBounds_toArray, List.set_cons_zero, List.set_cons_succ, i64_w, i32_w]
          rfl
        exact hJ (T6.mk _ _ X1 xc1 X2 xc2 X3 xc3 X4 xc4 Y1 yc1 Y2 yc2 Y3 yc3 Y4 yc4) _ ⟨HB.out, K10.out, K11.out, by first | exact HNE.out | exact HNE.out.symm, HG10.out, HG11.out, HX.out, HY.out⟩
    ·
      have HG11 := Aside0.mk (HB.out.size)
      have K11 := Aside0.mk (blk_new W6 Z25)
      replace HB := Aside0.mk (below_alloc HB.out Z25)
      refine event_step (w1 := W6.alloc Z25) (v := .pointer (some ⟨W6.heap.size, 0, none⟩)) ?hgk ?hrk ?_
      (case hgk => rfl)
      (case hrk => first | (go_simp; done) | (go_simp; rfl))
      obtain ⟨W31, hw5⟩ : ∃ w5, W6.alloc Z25 = w5 := ⟨_, rfl⟩
      obtain ⟨b31, hb5⟩ : ∃ b5, W6.heap.size = b5 := ⟨_, rfl⟩
      rw [hw5] at K11 HB ⊢
      rw [hb5] at K11 HG11  ⊢
      clear hw5 hb5
      refine hK.out _ _ ⟨blk_below K3b.out HB.out, blk_below K1b.out HB.out⟩ (fun hHeld => ?_)
      clear hK K
      refine norm_ (a' := ?_) ?_ ?_
      rotate_left
      · show Act.put _ (some 11) _ = _
        simp only [Act.put, List.setIfInBounds_toArray, List.set_cons_zero, List.set_cons_succ, i64_w, i32_w]
        rfl
      refine two_ (i := 1) (j := 4) (Ni := some 30) (Nj := some 10) #[true, true, true, false, false, true, false, false] #[true, false, true, false, true, true, false, false] rfl rfl rfl rfl (two_of HT_.out (by kernel_rfl)) (by decide) (by decide) (fun K hK => ?_) (fun K hK => ?_)
      ·
        refine goes_ Try.func35 (by kernel_rfl) rfl #[.agg #[.int .i64 i, .int .i64 f, .slice A1 q.length c1, .slice A2 an.length c2, .slice A3 ns.length c3, .slice A4 ar.length c4]] (by rfl) rfl rfl (by (try simp only [List.map_toArray, List.map_cons, List.map_nil]); first | done | rfl) ?_
        with_reducible refine (hSt _ (below_step HBw5.out HB.out)).mono ?_
        rintro e W32 ⟨u1, u2, u3, u4, rfl, hr1, hr2, hr3, hr4, hb⟩
        obtain ⟨X1, xc1, rfl⟩ := Kd.R_slice hr1
        obtain ⟨X2, xc2, rfl⟩ := Kd.R_slice hr2
        obtain ⟨X3, xc3, rfl⟩ := Kd.R_slice hr3
        obtain ⟨X4, xc4, rfl⟩ := Kd.R_slice hr4
        refine ⟨_, rfl, ?_⟩
        replace K11 := Aside0.mk (blk_below K11.out hb)
        have HX := Aside0.mk (Row4.mk (Kd.R_mono (Kd.R_lower hr1 HB.out.size) (fun _ _ => trivial)) (Kd.R_mono (Kd.R_lower hr2 HB.out.size) (fun _ _ => trivial)) (Kd.R_mono (Kd.R_lower hr3 HB.out.size) (fun _ _ => trivial)) (Kd.R_mono (Kd.R_lower hr4 HB.out.size) (fun _ _ => trivial)))
        replace HB := Aside0.mk (below_step HB.out hb)
        clear hb hr1 hr2 hr3 hr4
        refine hK.out _ _ ⟨blk_below K3b.out HB.out, blk_below K1b.out HB.out⟩ (fun hHeld => ?_)
        clear hK K
        refine norm_ (a' := ?_) ?_ ?_
        rotate_left
        · show Act.put _ (some 30) _ = _
          simp only [Act.put, List.setIfInBounds_toArray, List.set_cons_zero, List.set_cons_succ, i64_w, i32_w]
          rfl
        refine two_ (i := 3) (j := 4) (Ni := some 32) (Nj := some 10) #[true, true, true, true, false, true, false, false] #[true, true, true, false, true, true, false, false] rfl rfl rfl rfl (two_of HT_.out (by kernel_rfl)) (by decide) (by decide) (fun K hK => ?_) (fun K hK => ?_)
        ·
          refine goes_ Try.func36 (by kernel_rfl) rfl #[.agg #[.int .i64 i, .int .i64 f, .slice Aq q.length cq, .slice Aa an.length ca, .slice An ns.length cn, .slice Ar ar.length cr]] (by rfl) rfl rfl (by (try simp only [List.map_toArray, List.map_cons, List.map_nil]); first | done | rfl) ?_
          with_reducible refine (hRs _ (below_step HBz5.out HB.out)).mono ?_
          rintro e W33 ⟨u1, u2, u3, u4, rfl, hr1, hr2, hr3, hr4, hb⟩
          obtain ⟨Y1, yc1, rfl⟩ := Kd.R_slice hr1
          obtain ⟨Y2, yc2, rfl⟩ := Kd.R_slice hr2
          obtain ⟨Y3, yc3, rfl⟩ := Kd.R_slice hr3
          obtain ⟨Y4, yc4, rfl⟩ := Kd.R_slice hr4
          refine ⟨_, rfl, ?_⟩
          replace K11 := Aside0.mk (blk_below K11.out hb)
          replace HX := Aside0.mk (HX.out.below hb)
          have HY := Aside0.mk (Row4.mk (Kd.R_mono (Kd.R_lower hr1 HB.out.size) (fun _ _ => trivial)) (Kd.R_mono (Kd.R_lower hr2 HB.out.size) (fun _ _ => trivial)) (Kd.R_mono (Kd.R_lower hr3 HB.out.size) (fun _ _ => trivial)) (Kd.R_mono (Kd.R_lower hr4 HB.out.size) (fun _ _ => trivial)))
          replace HB := Aside0.mk (below_step HB.out hb)
          clear hb hr1 hr2 hr3 hr4
          refine hK.out _ _ ⟨blk_below K3b.out HB.out, blk_below K1b.out HB.out⟩ (fun hHeld => ?_)
          clear hK K
          refine norm_ (a' := ?_) ?_ ?_
          rotate_left
          · show Act.put _ (some 32) _ = _
            simp only [Act.put, List.setIfInBounds_toArray, List.set_cons_zero, List.set_cons_succ, i64_w, i32_w]
            rfl
          refine one_ (i := 4) (N := some 10) #[true, true, true, true, true, true, false, false] rfl rfl (one_of HT_.out (by kernel_rfl)) (by decide) (fun K hK => ?_)
          have HNE := Aside0.mk (Nat.ne_of_lt (blk_lt K11.out))
          have HG10 := Aside0.mk (HB.out.size)
          replace K11 := Aside0.mk (blk_alloc K11.out Z25)
          replace HX := Aside0.mk (HX.out.alloc Z25)
          replace HY := Aside0.mk (HY.out.alloc Z25)
          have K10 := Aside0.mk (blk_new W33 Z25)
          replace HB := Aside0.mk (below_alloc HB.out Z25)
          refine event_step (w1 := W33.alloc Z25) (v := .pointer (some ⟨W33.heap.size, 0, none⟩)) ?hgk ?hrk ?_
          (case hgk => rfl)
          (case hrk => first | (go_simp; done) | (go_simp; rfl))
          obtain ⟨W34, hw5⟩ : ∃ w5, W33.alloc Z25 = w5 := ⟨_, rfl⟩
          obtain ⟨b34, hb5⟩ : ∃ b5, W33.heap.size = b5 := ⟨_, rfl⟩
          rw [hw5] at K11 HX HY K10 HB ⊢
          rw [hb5] at K10 HG10 HNE ⊢
          clear hw5 hb5
          refine hK.out _ _ ⟨blk_below K3b.out HB.out, blk_below K1b.out HB.out⟩ (fun hHeld => ?_)
          clear hK K
          refine norm_ (a' := ?_) ?_ ?_
          rotate_left
          · show Act.put _ (some 10) _ = _
            simp only [Act.put, List.setIfInBounds_toArray, List.set_cons_zero, List.set_cons_succ, i64_w, i32_w]
            rfl
          exact hJ (T6.mk _ _ X1 xc1 X2 xc2 X3 xc3 X4 xc4 Y1 yc1 Y2 yc2 Y3 yc3 Y4 yc4) _ ⟨HB.out, K10.out, K11.out, by first | exact HNE.out | exact HNE.out.symm, HG10.out, HG11.out, HX.out, HY.out⟩
        ·
          have HNE := Aside0.mk (Nat.ne_of_lt (blk_lt K11.out))
          have HG10 := Aside0.mk (HB.out.size)
          replace K11 := Aside0.mk (blk_alloc K11.out Z25)
          replace HX := Aside0.mk (HX.out.alloc Z25)
          have K10 := Aside0.mk (blk_new W32 Z25)
          replace HB := Aside0.mk (below_alloc HB.out Z25)
          refine event_step (w1 := W32.alloc Z25) (v := .pointer (some ⟨W32.heap.size, 0, none⟩)) ?hgk ?hrk ?_
          (case hgk => rfl)
          (case hrk => first | (go_simp; done) | (go_simp; rfl))
          obtain ⟨W35, hw5⟩ : ∃ w5, W32.alloc Z25 = w5 := ⟨_, rfl⟩
          obtain ⟨b35, hb5⟩ : ∃ b5, W32.heap.size = b5 := ⟨_, rfl⟩
          rw [hw5] at K11 HX K10 HB ⊢
          rw [hb5] at K10 HG10 HNE ⊢
          clear hw5 hb5
          refine hK.out _ _ ⟨blk_below K3b.out HB.out, blk_below K1b.out HB.out⟩ (fun hHeld => ?_)
          clear hK K
          refine norm_ (a' := ?_) ?_ ?_
          rotate_left
          · show Act.put _ (some 10) _ = _
            simp only [Act.put, List.setIfInBounds_toArray, List.set_cons_zero, List.set_cons_succ, i64_w, i32_w]
            rfl
          refine one_ (i := 3) (N := some 32) #[true, true, true, true, true, true, false, false] rfl rfl (one_of HT_.out (by kernel_rfl)) (by decide) (fun K hK => ?_)
          refine goes_ Try.func36 (by kernel_rfl) rfl #[.agg #[.int .i64 i, .int .i64 f, .slice Aq q.length cq, .slice Aa an.length ca, .slice An ns.length cn, .slice Ar ar.length cr]] (by rfl) rfl rfl (by (try simp only [List.map_toArray, List.map_cons, List.map_nil]); first | done | rfl) ?_
          with_reducible refine (hRs _ (below_step HBz5.out HB.out)).mono ?_
          rintro e W36 ⟨u1, u2, u3, u4, rfl, hr1, hr2, hr3, hr4, hb⟩
          obtain ⟨Y1, yc1, rfl⟩ := Kd.R_slice hr1
          obtain ⟨Y2, yc2, rfl⟩ := Kd.R_slice hr2
          obtain ⟨Y3, yc3, rfl⟩ := Kd.R_slice hr3
          obtain ⟨Y4, yc4, rfl⟩ := Kd.R_slice hr4
          refine ⟨_, rfl, ?_⟩
          replace K11 := Aside0.mk (blk_below K11.out hb)
          replace HX := Aside0.mk (HX.out.below hb)
          replace K10 := Aside0.mk (blk_below K10.out hb)
          have HY := Aside0.mk (Row4.mk (Kd.R_mono (Kd.R_lower hr1 HB.out.size) (fun _ _ => trivial)) (Kd.R_mono (Kd.R_lower hr2 HB.out.size) (fun _ _ => trivial)) (Kd.R_mono (Kd.R_lower hr3 HB.out.size) (fun _ _ => trivial)) (Kd.R_mono (Kd.R_lower hr4 HB.out.size) (fun _ _ => trivial)))
          replace HB := Aside0.mk (below_step HB.out hb)
          clear hb hr1 hr2 hr3 hr4
          refine hK.out _ _ ⟨blk_below K3b.out HB.out, blk_below K1b.out HB.out⟩ (fun hHeld => ?_)
          clear hK K
          refine norm_ (a' := ?_) ?_ ?_
          rotate_left
          · show Act.put _ (some 32) _ = _
            simp only [Act.put, List.setIfInBounds_toArray, List.set_cons_zero, List.set_cons_succ, i64_w, i32_w]
            rfl
          exact hJ (T6.mk _ _ X1 xc1 X2 xc2 X3 xc3 X4 xc4 Y1 yc1 Y2 yc2 Y3 yc3 Y4 yc4) _ ⟨HB.out, K10.out, K11.out, by first | exact HNE.out | exact HNE.out.symm, HG10.out, HG11.out, HX.out, HY.out⟩
      ·
        have HNE := Aside0.mk (Nat.ne_of_lt (blk_lt K11.out))
        have HG10 := Aside0.mk (HB.out.size)
        replace K11 := Aside0.mk (blk_alloc K11.out Z25)
        have K10 := Aside0.mk (blk_new W31 Z25)
        replace HB := Aside0.mk (below_alloc HB.out Z25)
        refine event_step (w1 := W31.alloc Z25) (v := .pointer (some ⟨W31.heap.size, 0, none⟩)) ?hgk ?hrk ?_
        (case hgk => rfl)
        (case hrk => first | (go_simp; done) | (go_simp; rfl))
        obtain ⟨W37, hw5⟩ : ∃ w5, W31.alloc Z25 = w5 := ⟨_, rfl⟩
        obtain ⟨b37, hb5⟩ : ∃ b5, W31.heap.size = b5 := ⟨_, rfl⟩
        rw [hw5] at K11 K10 HB ⊢
        rw [hb5] at K10 HG10 HNE ⊢
        clear hw5 hb5
        refine hK.out _ _ ⟨blk_below K3b.out HB.out, blk_below K1b.out HB.out⟩ (fun hHeld => ?_)
        clear hK K
        refine norm_ (a' := ?_) ?_ ?_
        rotate_left
        · show Act.put _ (some 10) _ = _
          simp only [Act.put, List.setIfInBounds_toArray, List.set_cons_zero, List.set_cons_succ, i64_w, i32_w]
          rfl
        refine one_ (i := 1) (N := some 30) #[true, true, true, false, true, true, false, false] rfl rfl (one_of HT_.out (by kernel_rfl)) (by decide) (fun K hK => ?_)
        refine goes_ Try.func35 (by kernel_rfl) rfl #[.agg #[.int .i64 i, .int .i64 f, .slice A1 q.length c1, .slice A2 an.length c2, .slice A3 ns.length c3, .slice A4 ar.length c4]] (by rfl) rfl rfl (by (try simp only [List.map_toArray, List.map_cons, List.map_nil]); first | done | rfl) ?_
        with_reducible refine (hSt _ (below_step HBw5.out HB.out)).mono ?_
        rintro e W38 ⟨u1, u2, u3, u4, rfl, hr1, hr2, hr3, hr4, hb⟩
        obtain ⟨X1, xc1, rfl⟩ := Kd.R_slice hr1
        obtain ⟨X2, xc2, rfl⟩ := Kd.R_slice hr2
        obtain ⟨X3, xc3, rfl⟩ := Kd.R_slice hr3
        obtain ⟨X4, xc4, rfl⟩ := Kd.R_slice hr4
        refine ⟨_, rfl, ?_⟩
        replace K11 := Aside0.mk (blk_below K11.out hb)
        replace K10 := Aside0.mk (blk_below K10.out hb)
        have HX := Aside0.mk (Row4.mk (Kd.R_mono (Kd.R_lower hr1 HB.out.size) (fun _ _ => trivial)) (Kd.R_mono (Kd.R_lower hr2 HB.out.size) (fun _ _ => trivial)) (Kd.R_mono (Kd.R_lower hr3 HB.out.size) (fun _ _ => trivial)) (Kd.R_mono (Kd.R_lower hr4 HB.out.size) (fun _ _ => trivial)))
        replace HB := Aside0.mk (below_step HB.out hb)
        clear hb hr1 hr2 hr3 hr4
        refine hK.out _ _ ⟨blk_below K3b.out HB.out, blk_below K1b.out HB.out⟩ (fun hHeld => ?_)
        clear hK K
        refine norm_ (a' := ?_) ?_ ?_
        rotate_left
        · show Act.put _ (some 30) _ = _
          simp only [Act.put, List.setIfInBounds_toArray, List.set_cons_zero, List.set_cons_succ, i64_w, i32_w]
          rfl
        refine one_ (i := 3) (N := some 32) #[true, true, true, true, true, true, false, false] rfl rfl (one_of HT_.out (by kernel_rfl)) (by decide) (fun K hK => ?_)
        refine goes_ Try.func36 (by kernel_rfl) rfl #[.agg #[.int .i64 i, .int .i64 f, .slice Aq q.length cq, .slice Aa an.length ca, .slice An ns.length cn, .slice Ar ar.length cr]] (by rfl) rfl rfl (by (try simp only [List.map_toArray, List.map_cons, List.map_nil]); first | done | rfl) ?_
        with_reducible refine (hRs _ (below_step HBz5.out HB.out)).mono ?_
        rintro e W39 ⟨u1, u2, u3, u4, rfl, hr1, hr2, hr3, hr4, hb⟩
        obtain ⟨Y1, yc1, rfl⟩ := Kd.R_slice hr1
        obtain ⟨Y2, yc2, rfl⟩ := Kd.R_slice hr2
        obtain ⟨Y3, yc3, rfl⟩ := Kd.R_slice hr3
        obtain ⟨Y4, yc4, rfl⟩ := Kd.R_slice hr4
        refine ⟨_, rfl, ?_⟩
        replace K11 := Aside0.mk (blk_below K11.out hb)
        replace K10 := Aside0.mk (blk_below K10.out hb)
        replace HX := Aside0.mk (HX.out.below hb)
        have HY := Aside0.mk (Row4.mk (Kd.R_mono (Kd.R_lower hr1 HB.out.size) (fun _ _ => trivial)) (Kd.R_mono (Kd.R_lower hr2 HB.out.size) (fun _ _ => trivial)) (Kd.R_mono (Kd.R_lower hr3 HB.out.size) (fun _ _ => trivial)) (Kd.R_mono (Kd.R_lower hr4 HB.out.size) (fun _ _ => trivial)))
        replace HB := Aside0.mk (below_step HB.out hb)
        clear hb hr1 hr2 hr3 hr4
        refine hK.out _ _ ⟨blk_below K3b.out HB.out, blk_below K1b.out HB.out⟩ (fun hHeld => ?_)
        clear hK K
        refine norm_ (a' := ?_) ?_ ?_
        rotate_left
        · show Act.put _ (some 32) _ = _
          simp only [Act.put, List.setIfInBounds_toArray, List.set_cons_zero, List.set_cons_succ, i64_w, i32_w]
          rfl
        exact hJ (T6.mk _ _ X1 xc1 X2 xc2 X3 xc3 X4 xc4 Y1 yc1 Y2 yc2 Y3 yc3 Y4 yc4) _ ⟨HB.out, K10.out, K11.out, by first | exact HNE.out | exact HNE.out.symm, HG10.out, HG11.out, HX.out, HY.out⟩
  case cont =>
    intro s V hF
    have c10_0 : V.cell? ⟨s.b10, 0, none⟩ = some (.int .i64 0) := (blk_cell hF.k10 0).trans rfl
    have c10_1 : V.cell? ⟨s.b10, 1, none⟩ = some (.int .i64 0) := (blk_cell hF.k10 1).trans rfl
    have c10_2 : V.cell? ⟨s.b10, 2, none⟩ = some (.slice none 0 0) := (blk_cell hF.k10 2).trans rfl
    have c10_3 : V.cell? ⟨s.b10, 3, none⟩ = some (.slice none 0 0) := (blk_cell hF.k10 3).trans rfl
    have c10_4 : V.cell? ⟨s.b10, 4, none⟩ = some (.slice none 0 0) := (blk_cell hF.k10 4).trans rfl
    have c10_5 : V.cell? ⟨s.b10, 5, none⟩ = some (.slice none 0 0) := (blk_cell hF.k10 5).trans rfl
    have f10 := blk_frozen hF.k10
    have HE := Aside0.mk hF
    clear hF
    refine norm_ (a' := ?_) ?_ ?_
    rotate_left
    · simp only [putAll, Act.put, List.setIfInBounds_toArray, List.set_cons_zero, List.set_cons_succ, i64_w, i32_w]
      rfl
    refine last_ (i := 6) (N := none) #[true, true, true, true, true, true, true, false] rfl rfl (one_of HT_.out (by kernel_rfl)) (by decide) (fun K hK => ?_)
    refine skip_ (w1 := ?_) (by rfl) rfl ?_ ?_
    rotate_left
    · go_simp
      rfl
    refine hK.out _ _ ?_
    clear hK K
    clear c10_0 c10_1 c10_2 c10_3 c10_4 c10_5 f10
    have I10 := Aside0.mk (six_blk HE.out.k10 (.int .i64 i) (.int .i64 f) (.slice s.X1 q.length s.d1) (.slice s.X2 (noOpt an).length s.d2) (.slice s.X3 (noOpt ns).length s.d3) (.slice s.X4 (noOpt ar).length s.d4))
    have I11 := Aside0.mk (six_off HE.out.k11 HE.out.ne.symm (.int .i64 i) (.int .i64 f) (.slice s.X1 q.length s.d1) (.slice s.X2 (noOpt an).length s.d2) (.slice s.X3 (noOpt ns).length s.d3) (.slice s.X4 (noOpt ar).length s.d4))
    have IX := Aside0.mk (HE.out.x.six HE.out.k10 (.int .i64 i) (.int .i64 f) (.slice s.X1 q.length s.d1) (.slice s.X2 (noOpt an).length s.d2) (.slice s.X3 (noOpt ns).length s.d3) (.slice s.X4 (noOpt ar).length s.d4))
    have IY := Aside0.mk (HE.out.y.six HE.out.k10 (.int .i64 i) (.int .i64 f) (.slice s.X1 q.length s.d1) (.slice s.X2 (noOpt an).length s.d2) (.slice s.X3 (noOpt ns).length s.d3) (.slice s.X4 (noOpt ar).length s.d4))
    have IB := Aside0.mk (six_below HE.out.bel HE.out.g10 (.int .i64 i) (.int .i64 f) (.slice s.X1 q.length s.d1) (.slice s.X2 (noOpt an).length s.d2) (.slice s.X3 (noOpt ns).length s.d3) (.slice s.X4 (noOpt ar).length s.d4))
    have G10 := HE.out.g10
    have G11 := HE.out.g11
    have HNE := Aside0.mk HE.out.ne
    clear HE
    simp only [six] at I10 I11 IX IY IB
    obtain ⟨V2, hV2⟩ : ∃ V2, (((((V.setCell ⟨s.b10, 0, none⟩ (.int .i64 i)).setCell ⟨s.b10, 1, none⟩ (.int .i64 f)).setCell ⟨s.b10, 2, none⟩ (.slice s.X1 q.length s.d1)).setCell ⟨s.b10, 3, none⟩ (.slice s.X2 (noOpt an).length s.d2)).setCell ⟨s.b10, 4, none⟩ (.slice s.X3 (noOpt ns).length s.d3)).setCell ⟨s.b10, 5, none⟩ (.slice s.X4 (noOpt ar).length s.d4) = V2 := ⟨_, rfl⟩
    rw [hV2] at I10 I11 IX IY IB ⊢
    clear hV2
    have c11_0 : V2.cell? ⟨s.b11, 0, none⟩ = some (.int .i64 0) := (blk_cell I11.out 0).trans rfl
    have c11_1 : V2.cell? ⟨s.b11, 1, none⟩ = some (.int .i64 0) := (blk_cell I11.out 1).trans rfl
    have c11_2 : V2.cell? ⟨s.b11, 2, none⟩ = some (.slice none 0 0) := (blk_cell I11.out 2).trans rfl
    have c11_3 : V2.cell? ⟨s.b11, 3, none⟩ = some (.slice none 0 0) := (blk_cell I11.out 3).trans rfl
    have c11_4 : V2.cell? ⟨s.b11, 4, none⟩ = some (.slice none 0 0) := (blk_cell I11.out 4).trans rfl
    have c11_5 : V2.cell? ⟨s.b11, 5, none⟩ = some (.slice none 0 0) := (blk_cell I11.out 5).trans rfl
    have f11 := blk_frozen I11.out
    refine last_ (i := 7) (N := none) #[true, true, true, true, true, true, true, true] rfl rfl (one_of HT_.out (by kernel_rfl)) (by decide) (fun K hK => ?_)
    refine skip_ (w1 := ?_) (by rfl) rfl ?_ ?_
    rotate_left
    · go_simp
      rfl
    refine hK.out _ _ ?_
    clear hK K
    refine done_ (done_of HT_.out (by kernel_rfl)) ?_
    dsimp only [onlyNormal]
    clear c11_0 c11_1 c11_2 c11_3 c11_4 c11_5 f11 HT_ HW_ hHeld
    have J10 := Aside0.mk (six_off I10.out HNE.out (.int .i64 i) (.int .i64 f) (.slice s.Y1 q.length s.e1) (.slice s.Y2 (noOpt an).length s.e2) (.slice s.Y3 (noOpt ns).length s.e3) (.slice s.Y4 (noOpt ar).length s.e4))
    have J11 := Aside0.mk (six_blk I11.out (.int .i64 i) (.int .i64 f) (.slice s.Y1 q.length s.e1) (.slice s.Y2 (noOpt an).length s.e2) (.slice s.Y3 (noOpt ns).length s.e3) (.slice s.Y4 (noOpt ar).length s.e4))
    have JX := Aside0.mk (IX.out.six I11.out (.int .i64 i) (.int .i64 f) (.slice s.Y1 q.length s.e1) (.slice s.Y2 (noOpt an).length s.e2) (.slice s.Y3 (noOpt ns).length s.e3) (.slice s.Y4 (noOpt ar).length s.e4))
    have JY := Aside0.mk (IY.out.six I11.out (.int .i64 i) (.int .i64 f) (.slice s.Y1 q.length s.e1) (.slice s.Y2 (noOpt an).length s.e2) (.slice s.Y3 (noOpt ns).length s.e3) (.slice s.Y4 (noOpt ar).length s.e4))
    have JB := Aside0.mk (six_below IB.out G11 (.int .i64 i) (.int .i64 f) (.slice s.Y1 q.length s.e1) (.slice s.Y2 (noOpt an).length s.e2) (.slice s.Y3 (noOpt ns).length s.e3) (.slice s.Y4 (noOpt ar).length s.e4))
    clear I10 I11 IX IY IB HNE
    simp only [six] at J10 J11 JX JY JB
    obtain ⟨W7, hW7⟩ : ∃ W7, (((((V2.setCell ⟨s.b11, 0, none⟩ (.int .i64 i)).setCell ⟨s.b11, 1, none⟩ (.int .i64 f)).setCell ⟨s.b11, 2, none⟩ (.slice s.Y1 q.length s.e1)).setCell ⟨s.b11, 3, none⟩ (.slice s.Y2 (noOpt an).length s.e2)).setCell ⟨s.b11, 4, none⟩ (.slice s.Y3 (noOpt ns).length s.e3)).setCell ⟨s.b11, 5, none⟩ (.slice s.Y4 (noOpt ar).length s.e4) = W7 := ⟨_, rfl⟩
    rw [hW7] at J10 J11 JX JY JB ⊢
    clear hW7
    have J1 := Aside0.mk (blk_below K1b.out JB.out)
    have J3 := Aside0.mk (blk_below K3b.out JB.out)
    have J4 := Aside0.mk (blk_below K4.out JB.out)
    have J7 := Aside0.mk (blk_below K7.out JB.out)
    have L1 := blk_lt K1b.out
    have L3 := blk_lt K3b.out
    have HO4 := Aside0.mk (Kd.R_below HO4b.out JB.out)
    have HO7 := Aside0.mk (Kd.R_below HO5.out JB.out)
    have HBw := Aside0.mk (below_step HBw5.out JB.out)
    have HBz := Aside0.mk (below_step HBz5.out JB.out)
    have hSz := JB.out.size
    clear hSt hRs K1b K3b K4 K7 HO4b HO5 HST_ HRS_
    have gSE := fun W (hb : Below W7.heap.size W7 W) => ostiarykit_SameEdns.calls k r1 r2 r3 r4 Ao co r5 r1 r2 r3 r4 Ap cp r5 true W (Kd.C_below (Kd.R_reads' HO4.out).2.2 hb) (Kd.R_reads' HO4.out).2.1 (Kd.C_below (Kd.R_reads' HO7.out).2.2 hb) (Kd.R_reads' HO7.out).2.1 HSE_.out
    have gSM := fun W (hb : Below W7.heap.size W7 W) => ostiarykit_SameMessage.calls k i f s.X1 s.d1 q s.X2 s.d2 (noOpt an) s.X3 s.d3 (noOpt ns) s.X4 s.d4 (noOpt ar) i f s.Y1 s.e1 q s.Y2 s.e2 (noOpt an) s.Y3 s.e3 (noOpt ns) s.Y4 s.e4 (noOpt ar) true W (Kd.C_below (Kd.R_reads' JX.out.r1).2.2 hb) (Kd.R_reads' JX.out.r1).2.1 (Kd.C_below (Kd.R_reads' JX.out.r2).2.2 hb) (Kd.R_reads' JX.out.r2).2.1 (Kd.C_below (Kd.R_reads' JX.out.r3).2.2 hb) (Kd.R_reads' JX.out.r3).2.1 (Kd.C_below (Kd.R_reads' JX.out.r4).2.2 hb) (Kd.R_reads' JX.out.r4).2.1 (Kd.C_below (Kd.R_reads' JY.out.r1).2.2 hb) (Kd.R_reads' JY.out.r1).2.1 (Kd.C_below (Kd.R_reads' JY.out.r2).2.2 hb) (Kd.R_reads' JY.out.r2).2.1 (Kd.C_below (Kd.R_reads' JY.out.r3).2.2 hb) (Kd.R_reads' JY.out.r3).2.1 (Kd.C_below (Kd.R_reads' JY.out.r4).2.2 hb) (Kd.R_reads' JY.out.r4).2.1 HSM_.out
    have gCo := fun W (hb : Below W7.heap.size W7 W) => edns_Code.calls i f A1 c1 q A2 c2 an A3 c3 ns A4 c4 ar v1 W (Kd.C_below (Kd.C_below (C_short hC1) HBw.out) hb) (by omega) (Kd.C_below (Kd.C_below (C_short hC2) HBw.out) hb) (by omega) (Kd.C_below (Kd.C_below (C_short hC3) HBw.out) hb) (by omega) (Kd.C_below (Kd.C_below (C_short hC4) HBw.out) hb) (by omega) HCO_.out
    have gRo := fun W (hb : Below W7.heap.size W7 W) => edns_Room.calls i f A1 c1 q A2 c2 an A3 c3 ns A4 c4 ar v2 W (Kd.C_below (Kd.C_below (C_short hC1) HBw.out) hb) (by omega) (Kd.C_below (Kd.C_below (C_short hC2) HBw.out) hb) (by omega) (Kd.C_below (Kd.C_below (C_short hC3) HBw.out) hb) (by omega) (Kd.C_below (Kd.C_below (C_short hC4) HBw.out) hb) (by omega) HRO_.out
    have gRc := fun W (hb : Below W7.heap.size W7 W) => ostiaryref09_Code.calls k i f Aq cq q Aa ca an An cn ns Ar cr ar v1 W (Kd.C_below (Kd.C_below HQ.out HBz.out) hb) lq (Kd.C_below (Kd.C_below HA.out HBz.out) hb) la (Kd.C_below (Kd.C_below HN.out HBz.out) hb) ln (Kd.C_below (Kd.C_below HR.out HBz.out) hb) lr HRC_.out
    have gRr := fun W (hb : Below W7.heap.size W7 W) => ostiaryref09_Room.calls k i f Aq cq q Aa ca an An cn ns Ar cr ar v2 W (Kd.C_below (Kd.C_below HQ.out HBz.out) hb) lq (Kd.C_below (Kd.C_below HA.out HBz.out) hb) la (Kd.C_below (Kd.C_below HN.out HBz.out) hb) ln (Kd.C_below (Kd.C_below HR.out HBz.out) hb) lr HRR_.out
    clear HSE_ HSM_ HCO_ HRO_ HRC_ HRR_ HO4 HO7 JY
    go_upto_region 7 with (fail)
    refine wp_only ?_
    refine start_ (n := 33) (S := fun w' => w'.heap[w2.heap.size]? = some (.cells #[.int .i64 i, .int .i64 f, .slice A1 q.length c1, .slice A2 an.length c2, .slice A3 ns.length c3, .slice A4 ar.length c4] 25 (0, 0)) ∧ w'.heap[w.heap.size]? = some (.cells #[.int .i64 i, .int .i64 f, .slice Aq q.length cq, .slice Aa an.length ca, .slice An ns.length cn, .slice Ar ar.length cr] 25 (0, 0)) ∧ w'.heap[w4.heap.size]? = some (.cells #[.int .i64 r1, .int .i64 r2, .int .i64 r3, .bool r4, .slice Ao r5.length co] 28 (0, 0)) ∧ w'.heap[b7]? = some (.cells #[.int .i64 r1, .int .i64 r2, .int .i64 r3, .bool r4, .slice Ap r5.length cp] 28 (0, 0)) ∧ w'.heap[s.b10]? = some (.cells #[.int .i64 i, .int .i64 f, .slice s.X1 q.length s.d1, .slice s.X2 (noOpt an).length s.d2, .slice s.X3 (noOpt ns).length s.d3, .slice s.X4 (noOpt ar).length s.d4] 25 (0, 0)) ∧ w'.heap[s.b11]? = some (.cells #[.int .i64 i, .int .i64 f, .slice s.Y1 q.length s.e1, .slice s.Y2 (noOpt an).length s.e2, .slice s.Y3 (noOpt ns).length s.e3, .slice s.Y4 (noOpt ar).length s.e4] 25 (0, 0))) (ds := []) #[false, false, false, false, false, false, false, false, false, false, false, false, false, false, false, false, false, false, false, false, false, false, false, false, false, false, false, false, false, false, false, false, false] (by kernel_rfl) rfl rfl ⟨blk_drew J3.out, blk_drew J1.out, blk_drew J4.out, blk_drew J7.out, blk_drew J10.out, blk_drew J11.out⟩ (fun hHeld => ?_)
    refine with_tabW Tells.tab7 Tells.bits7 (fun HT_ HW_ => ?_)
    have HV := Aside0.mk (below_drew1 (Below.refl W7.heap.size W7))
    generalize W7.drew = V0 at HV hHeld ⊢
    refine take_ (i := 0) (N := some 33) (v := ?_) (a' := ?_) #[true, false, false, false, false, false, false, false, false, false, false, false, false, false, false, false, false, false, false, false, false, false, false, false, false, false, false, false, false, false, false, false, false] rfl rfl (take_ofW HT_.out HW_.out (by kernel_rfl)) (fun _ _ _ h => h) (Or.inl ⟨by rfl, ?_⟩) hHeld ?_ ?_
    rotate_left
    · rintro w' ⟨s1, s2, s3, s4, s5, s6⟩
      have x0 := (blk_cell s3 0).trans rfl
      have x1 := (blk_cell s3 1).trans rfl
      have x2 := (blk_cell s3 2).trans rfl
      have x3 := (blk_cell s3 3).trans rfl
      have x4 := (blk_cell s3 4).trans rfl
      clear s1 s2 s3 s4 s5 s6
      go_simp
      with_reducible rfl
    rotate_left
    · simp only [Act.put, List.setIfInBounds_toArray, List.set_cons_zero, List.set_cons_succ, i64_w, i32_w]
      rfl
    refine take_ (i := 1) (N := some 34) (v := ?_) (a' := ?_) #[true, true, false, false, false, false, false, false, false, false, false, false, false, false, false, false, false, false, false, false, false, false, false, false, false, false, false, false, false, false, false, false, false] rfl rfl (take_ofW HT_.out HW_.out (by kernel_rfl)) (fun _ _ _ h => h) (Or.inl ⟨by rfl, ?_⟩) hHeld ?_ ?_
    rotate_left
    · rintro w' ⟨s1, s2, s3, s4, s5, s6⟩
      have x0 := (blk_cell s4 0).trans rfl
      have x1 := (blk_cell s4 1).trans rfl
      have x2 := (blk_cell s4 2).trans rfl
      have x3 := (blk_cell s4 3).trans rfl
      have x4 := (blk_cell s4 4).trans rfl
      clear s1 s2 s3 s4 s5 s6
      go_simp
      with_reducible rfl
    rotate_left
    · simp only [Act.put, List.setIfInBounds_toArray, List.set_cons_zero, List.set_cons_succ, i64_w, i32_w]
      rfl
    refine one_ (i := 2) (N := some 35) #[true, true, true, false, false, false, false, false, false, false, false, false, false, false, false, false, false, false, false, false, false, false, false, false, false, false, false, false, false, false, false, false, false] rfl rfl (one_of HT_.out (by kernel_rfl)) (by decide) (fun K hK => ?_)
    refine goes_ Try.func31 (by kernel_rfl) rfl #[.agg #[.int .i64 r1, .int .i64 r2, .int .i64 r3, .bool r4, .slice Ao r5.length co], .agg #[.int .i64 r1, .int .i64 r2, .int .i64 r3, .bool r4, .slice Ap r5.length cp]] (by rfl) rfl rfl (by (try simp only [List.map_toArray, List.map_cons, List.map_nil]); first | done | rfl) ?_
    with_reducible refine (gSE _ HV.out).mono ?_
    rintro e V1 ⟨rfl, hb⟩
    refine ⟨_, rfl, ?_⟩
    replace HV := Aside0.mk (below_step HV.out hb)
    clear hb
    refine hK.out _ _ ⟨blk_below J3.out HV.out, blk_below J1.out HV.out, blk_below J4.out HV.out, blk_below J7.out HV.out, blk_below J10.out HV.out, blk_below J11.out HV.out⟩ (fun hHeld => ?_)
    clear hK K
    refine norm_ (a' := ?_) ?_ ?_
    rotate_left
    · show Act.put _ (some 35) _ = _
      simp only [Act.put, List.setIfInBounds_toArray, List.set_cons_zero, List.set_cons_succ, i64_w, i32_w]
      rfl
    refine pure_ (i := 3) (N := some 36) (v := ?_) (a' := ?_) #[true, true, true, true, false, false, false, false, false, false, false, false, false, false, false, false, false, false, false, false, false, false, false, false, false, false, false, false, false, false, false, false, false] rfl rfl (any_of HT_.out (by kernel_rfl)) (fun _ _ _ h => h) (Or.inl ⟨by rfl, ?_⟩) ?_ ?_
    rotate_left
    · intro w'
      go_simp
      with_reducible rfl
    rotate_left
    · simp only [Act.put, List.setIfInBounds_toArray, List.set_cons_zero, List.set_cons_succ, i64_w, i32_w]
      rfl
    refine pure_ (i := 4) (N := some 37) (v := ?_) (a' := ?_) #[true, true, true, true, true, false, false, false, false, false, false, false, false, false, false, false, false, false, false, false, false, false, false, false, false, false, false, false, false, false, false, false, false] rfl rfl (any_of HT_.out (by kernel_rfl)) (fun _ _ _ h => h) (Or.inl ⟨by rfl, ?_⟩) ?_ ?_
    rotate_left
    · intro w'
      go_simp
      with_reducible rfl
    rotate_left
    · simp only [Act.put, List.setIfInBounds_toArray, List.set_cons_zero, List.set_cons_succ, i64_w, i32_w]
      rfl
    refine pure_ (i := 5) (N := some 38) (v := ?_) (a' := ?_) #[true, true, true, true, true, true, false, false, false, false, false, false, false, false, false, false, false, false, false, false, false, false, false, false, false, false, false, false, false, false, false, false, false] rfl rfl (any_of HT_.out (by kernel_rfl)) (fun _ _ _ h => h) (Or.inl ⟨by rfl, ?_⟩) ?_ ?_
    rotate_left
    · intro w'
      go_simp
      with_reducible rfl
    rotate_left
    · simp only [Act.put, List.setIfInBounds_toArray, List.set_cons_zero, List.set_cons_succ, i64_w, i32_w]
      rfl
    refine pure_ (i := 6) (N := some 39) (v := ?_) (a' := ?_) #[true, true, true, true, true, true, true, false, false, false, false, false, false, false, false, false, false, false, false, false, false, false, false, false, false, false, false, false, false, false, false, false, false] rfl rfl (any_of HT_.out (by kernel_rfl)) (fun _ _ _ h => h) (Or.inl ⟨by rfl, ?_⟩) ?_ ?_
    rotate_left
    · intro w'
      go_simp
      with_reducible rfl
    rotate_left
    · simp only [Act.put, List.setIfInBounds_toArray, List.set_cons_zero, List.set_cons_succ, i64_w, i32_w]
      rfl
    refine pure_ (i := 7) (N := some 40) (v := ?_) (a' := ?_) #[true, true, true, true, true, true, true, true, false, false, false, false, false, false, false, false, false, false, false, false, false, false, false, false, false, false, false, false, false, false, false, false, false] rfl rfl (any_of HT_.out (by kernel_rfl)) (fun _ _ _ h => h) (Or.inl ⟨by rfl, ?_⟩) ?_ ?_
    rotate_left
    · intro w'
      go_simp
      with_reducible rfl
    rotate_left
    · simp only [Act.put, List.setIfInBounds_toArray, List.set_cons_zero, List.set_cons_succ, i64_w, i32_w]
      rfl
    refine pure_ (i := 8) (N := some 41) (v := ?_) (a' := ?_) #[true, true, true, true, true, true, true, true, true, false, false, false, false, false, false, false, false, false, false, false, false, false, false, false, false, false, false, false, false, false, false, false, false] rfl rfl (any_of HT_.out (by kernel_rfl)) (fun _ _ _ h => h) (Or.inl ⟨by rfl, ?_⟩) ?_ ?_
    rotate_left
    · intro w'
      go_simp
      with_reducible rfl
    rotate_left
    · simp only [Act.put, List.setIfInBounds_toArray, List.set_cons_zero, List.set_cons_succ, i64_w, i32_w]
      rfl
    refine pure_ (i := 9) (N := some 42) (v := ?_) (a' := ?_) #[true, true, true, true, true, true, true, true, true, true, false, false, false, false, false, false, false, false, false, false, false, false, false, false, false, false, false, false, false, false, false, false, false] rfl rfl (any_of HT_.out (by kernel_rfl)) (fun _ _ _ h => h) (Or.inl ⟨by rfl, ?_⟩) ?_ ?_
    rotate_left
    · intro w'
      go_simp
      with_reducible rfl
    rotate_left
    · simp only [Act.put, List.setIfInBounds_toArray, List.set_cons_zero, List.set_cons_succ, i64_w, i32_w]
      rfl
    refine pure_ (i := 10) (N := some 43) (v := ?_) (a' := ?_) #[true, true, true, true, true, true, true, true, true, true, true, false, false, false, false, false, false, false, false, false, false, false, false, false, false, false, false, false, false, false, false, false, false] rfl rfl (any_of HT_.out (by kernel_rfl)) (fun _ _ _ h => h) (Or.inl ⟨by rfl, ?_⟩) ?_ ?_
    rotate_left
    · intro w'
      go_simp
      with_reducible rfl
    rotate_left
    · simp only [Act.put, List.setIfInBounds_toArray, List.set_cons_zero, List.set_cons_succ, i64_w, i32_w]
      rfl
    refine pure_ (i := 11) (N := some 44) (v := ?_) (a' := ?_) #[true, true, true, true, true, true, true, true, true, true, true, true, false, false, false, false, false, false, false, false, false, false, false, false, false, false, false, false, false, false, false, false, false] rfl rfl (any_of HT_.out (by kernel_rfl)) (fun _ _ _ h => h) (Or.inl ⟨by rfl, ?_⟩) ?_ ?_
    rotate_left
    · intro w'
      go_simp
      with_reducible rfl
    rotate_left
    · simp only [Act.put, List.setIfInBounds_toArray, List.set_cons_zero, List.set_cons_succ, i64_w, i32_w]
      rfl
    refine pure_ (i := 12) (N := some 45) (v := ?_) (a' := ?_) #[true, true, true, true, true, true, true, true, true, true, true, true, true, false, false, false, false, false, false, false, false, false, false, false, false, false, false, false, false, false, false, false, false] rfl rfl (any_of HT_.out (by kernel_rfl)) (fun _ _ _ h => h) (Or.inl ⟨by rfl, ?_⟩) ?_ ?_
    rotate_left
    · intro w'
      go_simp
      with_reducible rfl
    rotate_left
    · simp only [Act.put, List.setIfInBounds_toArray, List.set_cons_zero, List.set_cons_succ, i64_w, i32_w]
      rfl
    refine pure_ (i := 13) (N := some 46) (v := ?_) (a' := ?_) #[true, true, true, true, true, true, true, true, true, true, true, true, true, true, false, false, false, false, false, false, false, false, false, false, false, false, false, false, false, false, false, false, false] rfl rfl (any_of HT_.out (by kernel_rfl)) (fun _ _ _ h => h) (Or.inl ⟨by rfl, ?_⟩) ?_ ?_
    rotate_left
    · intro w'
      go_simp
      with_reducible rfl
    rotate_left
    · simp only [Act.put, List.setIfInBounds_toArray, List.set_cons_zero, List.set_cons_succ, i64_w, i32_w]
      rfl
    refine take_ (i := 14) (N := some 47) (v := ?_) (a' := ?_) #[true, true, true, true, true, true, true, true, true, true, true, true, true, true, true, false, false, false, false, false, false, false, false, false, false, false, false, false, false, false, false, false, false] rfl rfl (take_ofW HT_.out HW_.out (by kernel_rfl)) (fun _ _ _ h => h) (Or.inl ⟨by rfl, ?_⟩) hHeld ?_ ?_
    rotate_left
    · rintro w' ⟨s1, s2, s3, s4, s5, s6⟩
      have x0 := (blk_cell s5 0).trans rfl
      have x1 := (blk_cell s5 1).trans rfl
      have x2 := (blk_cell s5 2).trans rfl
      have x3 := (blk_cell s5 3).trans rfl
      have x4 := (blk_cell s5 4).trans rfl
      have x5 := (blk_cell s5 5).trans rfl
      clear s1 s2 s3 s4 s5 s6
      go_simp
      with_reducible rfl
    rotate_left
    · simp only [Act.put, List.setIfInBounds_toArray, List.set_cons_zero, List.set_cons_succ, i64_w, i32_w]
      rfl
    refine take_ (i := 15) (N := some 48) (v := ?_) (a' := ?_) #[true, true, true, true, true, true, true, true, true, true, true, true, true, true, true, true, false, false, false, false, false, false, false, false, false, false, false, false, false, false, false, false, false] rfl rfl (take_ofW HT_.out HW_.out (by kernel_rfl)) (fun _ _ _ h => h) (Or.inl ⟨by rfl, ?_⟩) hHeld ?_ ?_
    rotate_left
    · rintro w' ⟨s1, s2, s3, s4, s5, s6⟩
      have x0 := (blk_cell s6 0).trans rfl
      have x1 := (blk_cell s6 1).trans rfl
      have x2 := (blk_cell s6 2).trans rfl
      have x3 := (blk_cell s6 3).trans rfl
      have x4 := (blk_cell s6 4).trans rfl
      have x5 := (blk_cell s6 5).trans rfl
      clear s1 s2 s3 s4 s5 s6
      go_simp
      with_reducible rfl
    rotate_left
    · simp only [Act.put, List.setIfInBounds_toArray, List.set_cons_zero, List.set_cons_succ, i64_w, i32_w]
      rfl
    refine one_ (i := 16) (N := some 49) #[true, true, true, true, true, true, true, true, true, true, true, true, true, true, true, true, true, false, false, false, false, false, false, false, false, false, false, false, false, false, false, false, false] rfl rfl (one_of HT_.out (by kernel_rfl)) (by decide) (fun K hK => ?_)
    refine goes_ Try.func26 (by kernel_rfl) rfl #[.agg #[.int .i64 i, .int .i64 f, .slice s.X1 q.length s.d1, .slice s.X2 (noOpt an).length s.d2, .slice s.X3 (noOpt ns).length s.d3, .slice s.X4 (noOpt ar).length s.d4], .agg #[.int .i64 i, .int .i64 f, .slice s.Y1 q.length s.e1, .slice s.Y2 (noOpt an).length s.e2, .slice s.Y3 (noOpt ns).length s.e3, .slice s.Y4 (noOpt ar).length s.e4]] (by rfl) rfl rfl (by (try simp only [List.map_toArray, List.map_cons, List.map_nil]); first | done | rfl) ?_
    with_reducible refine (gSM _ HV.out).mono ?_
    rintro e V2 ⟨rfl, hb⟩
    refine ⟨_, rfl, ?_⟩
    replace HV := Aside0.mk (below_step HV.out hb)
    clear hb
    refine hK.out _ _ ⟨blk_below J3.out HV.out, blk_below J1.out HV.out, blk_below J4.out HV.out, blk_below J7.out HV.out, blk_below J10.out HV.out, blk_below J11.out HV.out⟩ (fun hHeld => ?_)
    clear hK K
    refine norm_ (a' := ?_) ?_ ?_
    rotate_left
    · show Act.put _ (some 49) _ = _
      simp only [Act.put, List.setIfInBounds_toArray, List.set_cons_zero, List.set_cons_succ, i64_w, i32_w]
      rfl
    refine pure_ (i := 17) (N := some 50) (v := ?_) (a' := ?_) #[true, true, true, true, true, true, true, true, true, true, true, true, true, true, true, true, true, true, false, false, false, false, false, false, false, false, false, false, false, false, false, false, false] rfl rfl (any_of HT_.out (by kernel_rfl)) (fun _ _ _ h => h) (Or.inl ⟨by rfl, ?_⟩) ?_ ?_
    rotate_left
    · intro w'
      go_simp
      with_reducible rfl
    rotate_left
    · simp only [Act.put, List.setIfInBounds_toArray, List.set_cons_zero, List.set_cons_succ, i64_w, i32_w]
      rfl
    refine pure_ (i := 18) (N := some 51) (v := ?_) (a' := ?_) #[true, true, true, true, true, true, true, true, true, true, true, true, true, true, true, true, true, true, true, false, false, false, false, false, false, false, false, false, false, false, false, false, false] rfl rfl (any_of HT_.out (by kernel_rfl)) (fun _ _ _ h => h) (Or.inl ⟨by rfl, ?_⟩) ?_ ?_
    rotate_left
    · intro w'
      go_simp
      with_reducible rfl
    rotate_left
    · simp only [Act.put, List.setIfInBounds_toArray, List.set_cons_zero, List.set_cons_succ, i64_w, i32_w]
      rfl
    refine take_ (i := 19) (N := some 52) (v := ?_) (a' := ?_) #[true, true, true, true, true, true, true, true, true, true, true, true, true, true, true, true, true, true, true, true, false, false, false, false, false, false, false, false, false, false, false, false, false] rfl rfl (take_ofW HT_.out HW_.out (by kernel_rfl)) (fun _ _ _ h => h) (Or.inl ⟨by rfl, ?_⟩) hHeld ?_ ?_
    rotate_left
    · rintro w' ⟨s1, s2, s3, s4, s5, s6⟩
      have x0 := (blk_cell s1 0).trans rfl
      have x1 := (blk_cell s1 1).trans rfl
      have x2 := (blk_cell s1 2).trans rfl
      have x3 := (blk_cell s1 3).trans rfl
      have x4 := (blk_cell s1 4).trans rfl
      have x5 := (blk_cell s1 5).trans rfl
      clear s1 s2 s3 s4 s5 s6
      go_simp
      with_reducible rfl
    rotate_left
    · simp only [Act.put, List.setIfInBounds_toArray, List.set_cons_zero, List.set_cons_succ, i64_w, i32_w]
      rfl
    refine take_ (i := 21) (N := some 54) (v := ?_) (a' := ?_) #[true, true, true, true, true, true, true, true, true, true, true, true, true, true, true, true, true, true, true, true, false, true, false, false, false, false, false, false, false, false, false, false, false] rfl rfl (take_ofW HT_.out HW_.out (by kernel_rfl)) (fun _ _ _ h => h) (Or.inl ⟨by rfl, ?_⟩) hHeld ?_ ?_
    rotate_left
    · rintro w' ⟨s1, s2, s3, s4, s5, s6⟩
      have x0 := (blk_cell s2 0).trans rfl
      have x1 := (blk_cell s2 1).trans rfl
      have x2 := (blk_cell s2 2).trans rfl
      have x3 := (blk_cell s2 3).trans rfl
      have x4 := (blk_cell s2 4).trans rfl
      have x5 := (blk_cell s2 5).trans rfl
      clear s1 s2 s3 s4 s5 s6
      go_simp
      with_reducible rfl
    rotate_left
    · simp only [Act.put, List.setIfInBounds_toArray, List.set_cons_zero, List.set_cons_succ, i64_w, i32_w]
      rfl
    refine one_ (i := 20) (N := some 53) #[true, true, true, true, true, true, true, true, true, true, true, true, true, true, true, true, true, true, true, true, true, true, false, false, false, false, false, false, false, false, false, false, false] rfl rfl (one_of HT_.out (by kernel_rfl)) (by decide) (fun K hK => ?_)
    refine goes_ Try.func37 (by kernel_rfl) rfl #[.agg #[.int .i64 i, .int .i64 f, .slice A1 q.length c1, .slice A2 an.length c2, .slice A3 ns.length c3, .slice A4 ar.length c4]] (by rfl) rfl rfl (by (try simp only [List.map_toArray, List.map_cons, List.map_nil]); first | done | rfl) ?_
    with_reducible refine (gCo _ HV.out).mono ?_
    rintro e V3 ⟨rfl, hb⟩
    refine ⟨_, rfl, ?_⟩
    replace HV := Aside0.mk (below_step HV.out hb)
    clear hb
    refine hK.out _ _ ⟨blk_below J3.out HV.out, blk_below J1.out HV.out, blk_below J4.out HV.out, blk_below J7.out HV.out, blk_below J10.out HV.out, blk_below J11.out HV.out⟩ (fun hHeld => ?_)
    clear hK K
    refine norm_ (a' := ?_) ?_ ?_
    rotate_left
    · show Act.put _ (some 53) _ = _
      simp only [Act.put, List.setIfInBounds_toArray, List.set_cons_zero, List.set_cons_succ, i64_w, i32_w]
      rfl
    refine one_ (i := 22) (N := some 55) #[true, true, true, true, true, true, true, true, true, true, true, true, true, true, true, true, true, true, true, true, true, true, true, false, false, false, false, false, false, false, false, false, false] rfl rfl (one_of HT_.out (by kernel_rfl)) (by decide) (fun K hK => ?_)
    refine goes_ Try.func38 (by kernel_rfl) rfl #[.agg #[.int .i64 i, .int .i64 f, .slice Aq q.length cq, .slice Aa an.length ca, .slice An ns.length cn, .slice Ar ar.length cr]] (by rfl) rfl rfl (by (try simp only [List.map_toArray, List.map_cons, List.map_nil]); first | done | rfl) ?_
    with_reducible refine (gRc _ HV.out).mono ?_
    rintro e V4 ⟨rfl, hb⟩
    refine ⟨_, rfl, ?_⟩
    replace HV := Aside0.mk (below_step HV.out hb)
    clear hb
    refine hK.out _ _ ⟨blk_below J3.out HV.out, blk_below J1.out HV.out, blk_below J4.out HV.out, blk_below J7.out HV.out, blk_below J10.out HV.out, blk_below J11.out HV.out⟩ (fun hHeld => ?_)
    clear hK K
    refine norm_ (a' := ?_) ?_ ?_
    rotate_left
    · show Act.put _ (some 55) _ = _
      simp only [Act.put, List.setIfInBounds_toArray, List.set_cons_zero, List.set_cons_succ, i64_w, i32_w]
      rfl
    refine pure_ (i := 23) (N := some 56) (v := ?_) (a' := ?_) #[true, true, true, true, true, true, true, true, true, true, true, true, true, true, true, true, true, true, true, true, true, true, true, true, false, false, false, false, false, false, false, false, false] rfl rfl (any_of HT_.out (by kernel_rfl)) (fun _ _ _ h => h) (Or.inl ⟨by rfl, ?_⟩) ?_ ?_
    rotate_left
    · intro w'
      go_simp
      with_reducible rfl
    rotate_left
    · simp only [Act.put, List.setIfInBounds_toArray, List.set_cons_zero, List.set_cons_succ, i64_w, i32_w]
      rfl
    refine pure_ (i := 24) (N := some 57) (v := ?_) (a' := ?_) #[true, true, true, true, true, true, true, true, true, true, true, true, true, true, true, true, true, true, true, true, true, true, true, true, true, false, false, false, false, false, false, false, false] rfl rfl (any_of HT_.out (by kernel_rfl)) (fun _ _ _ h => h) (Or.inl ⟨by rfl, ?_⟩) ?_ ?_
    rotate_left
    · intro w'
      go_simp
      with_reducible rfl
    rotate_left
    · simp only [Act.put, List.setIfInBounds_toArray, List.set_cons_zero, List.set_cons_succ, i64_w, i32_w]
      rfl
    refine pure_ (i := 25) (N := some 58) (v := ?_) (a' := ?_) #[true, true, true, true, true, true, true, true, true, true, true, true, true, true, true, true, true, true, true, true, true, true, true, true, true, true, false, false, false, false, false, false, false] rfl rfl (any_of HT_.out (by kernel_rfl)) (fun _ _ _ h => h) (Or.inl ⟨by rfl, ?_⟩) ?_ ?_
    rotate_left
    · intro w'
      go_simp
      with_reducible rfl
    rotate_left
    · simp only [Act.put, List.setIfInBounds_toArray, List.set_cons_zero, List.set_cons_succ, i64_w, i32_w]
      rfl
    refine take_ (i := 26) (N := some 59) (v := ?_) (a' := ?_) #[true, true, true, true, true, true, true, true, true, true, true, true, true, true, true, true, true, true, true, true, true, true, true, true, true, true, true, false, false, false, false, false, false] rfl rfl (take_ofW HT_.out HW_.out (by kernel_rfl)) (fun _ _ _ h => h) (Or.inl ⟨by rfl, ?_⟩) hHeld ?_ ?_
    rotate_left
    · rintro w' ⟨s1, s2, s3, s4, s5, s6⟩
      have x0 := (blk_cell s1 0).trans rfl
      have x1 := (blk_cell s1 1).trans rfl
      have x2 := (blk_cell s1 2).trans rfl
      have x3 := (blk_cell s1 3).trans rfl
      have x4 := (blk_cell s1 4).trans rfl
      have x5 := (blk_cell s1 5).trans rfl
      clear s1 s2 s3 s4 s5 s6
      go_simp
      with_reducible rfl
    rotate_left
    · simp only [Act.put, List.setIfInBounds_toArray, List.set_cons_zero, List.set_cons_succ, i64_w, i32_w]
      rfl
    refine take_ (i := 28) (N := some 61) (v := ?_) (a' := ?_) #[true, true, true, true, true, true, true, true, true, true, true, true, true, true, true, true, true, true, true, true, true, true, true, true, true, true, true, false, true, false, false, false, false] rfl rfl (take_ofW HT_.out HW_.out (by kernel_rfl)) (fun _ _ _ h => h) (Or.inl ⟨by rfl, ?_⟩) hHeld ?_ ?_
    rotate_left
    · rintro w' ⟨s1, s2, s3, s4, s5, s6⟩
      have x0 := (blk_cell s2 0).trans rfl
      have x1 := (blk_cell s2 1).trans rfl
      have x2 := (blk_cell s2 2).trans rfl
      have x3 := (blk_cell s2 3).trans rfl
      have x4 := (blk_cell s2 4).trans rfl
      have x5 := (blk_cell s2 5).trans rfl
      clear s1 s2 s3 s4 s5 s6
      go_simp
      with_reducible rfl
    rotate_left
    · simp only [Act.put, List.setIfInBounds_toArray, List.set_cons_zero, List.set_cons_succ, i64_w, i32_w]
      rfl
    refine one_ (i := 27) (N := some 60) #[true, true, true, true, true, true, true, true, true, true, true, true, true, true, true, true, true, true, true, true, true, true, true, true, true, true, true, true, true, false, false, false, false] rfl rfl (one_of HT_.out (by kernel_rfl)) (by decide) (fun K hK => ?_)
    refine goes_ Try.func39 (by kernel_rfl) rfl #[.agg #[.int .i64 i, .int .i64 f, .slice A1 q.length c1, .slice A2 an.length c2, .slice A3 ns.length c3, .slice A4 ar.length c4]] (by rfl) rfl rfl (by (try simp only [List.map_toArray, List.map_cons, List.map_nil]); first | done | rfl) ?_
    with_reducible refine (gRo _ HV.out).mono ?_
    rintro e V5 ⟨rfl, hb⟩
    refine ⟨_, rfl, ?_⟩
    replace HV := Aside0.mk (below_step HV.out hb)
    clear hb
    refine hK.out _ _ ⟨blk_below J3.out HV.out, blk_below J1.out HV.out, blk_below J4.out HV.out, blk_below J7.out HV.out, blk_below J10.out HV.out, blk_below J11.out HV.out⟩ (fun hHeld => ?_)
    clear hK K
    refine norm_ (a' := ?_) ?_ ?_
    rotate_left
    · show Act.put _ (some 60) _ = _
      simp only [Act.put, List.setIfInBounds_toArray, List.set_cons_zero, List.set_cons_succ, i64_w, i32_w]
      rfl
    refine one_ (i := 29) (N := some 62) #[true, true, true, true, true, true, true, true, true, true, true, true, true, true, true, true, true, true, true, true, true, true, true, true, true, true, true, true, true, true, false, false, false] rfl rfl (one_of HT_.out (by kernel_rfl)) (by decide) (fun K hK => ?_)
    refine goes_ Try.func40 (by kernel_rfl) rfl #[.agg #[.int .i64 i, .int .i64 f, .slice Aq q.length cq, .slice Aa an.length ca, .slice An ns.length cn, .slice Ar ar.length cr]] (by rfl) rfl rfl (by (try simp only [List.map_toArray, List.map_cons, List.map_nil]); first | done | rfl) ?_
    with_reducible refine (gRr _ HV.out).mono ?_
    rintro e V6 ⟨rfl, hb⟩
    refine ⟨_, rfl, ?_⟩
    replace HV := Aside0.mk (below_step HV.out hb)
    clear hb
    refine hK.out _ _ ⟨blk_below J3.out HV.out, blk_below J1.out HV.out, blk_below J4.out HV.out, blk_below J7.out HV.out, blk_below J10.out HV.out, blk_below J11.out HV.out⟩ (fun hHeld => ?_)
    clear hK K
    refine norm_ (a' := ?_) ?_ ?_
    rotate_left
    · show Act.put _ (some 62) _ = _
      simp only [Act.put, List.setIfInBounds_toArray, List.set_cons_zero, List.set_cons_succ, i64_w, i32_w]
      rfl
    refine pure_ (i := 30) (N := some 63) (v := ?_) (a' := ?_) #[true, true, true, true, true, true, true, true, true, true, true, true, true, true, true, true, true, true, true, true, true, true, true, true, true, true, true, true, true, true, true, false, false] rfl rfl (any_of HT_.out (by kernel_rfl)) (fun _ _ _ h => h) (Or.inl ⟨by rfl, ?_⟩) ?_ ?_
    rotate_left
    · intro w'
      go_simp
      with_reducible rfl
    rotate_left
    · simp only [Act.put, List.setIfInBounds_toArray, List.set_cons_zero, List.set_cons_succ, i64_w, i32_w]
      rfl
    refine pure_ (i := 31) (N := some 64) (v := ?_) (a' := ?_) #[true, true, true, true, true, true, true, true, true, true, true, true, true, true, true, true, true, true, true, true, true, true, true, true, true, true, true, true, true, true, true, true, false] rfl rfl (any_of HT_.out (by kernel_rfl)) (fun _ _ _ h => h) (Or.inl ⟨by rfl, ?_⟩) ?_ ?_
    rotate_left
    · intro w'
      go_simp
      with_reducible rfl
    rotate_left
    · simp only [Act.put, List.setIfInBounds_toArray, List.set_cons_zero, List.set_cons_succ, i64_w, i32_w]
      rfl
    refine pure_ (i := 32) (N := some 12) (v := ?_) (a' := ?_) #[true, true, true, true, true, true, true, true, true, true, true, true, true, true, true, true, true, true, true, true, true, true, true, true, true, true, true, true, true, true, true, true, true] rfl rfl (any_of HT_.out (by kernel_rfl)) (fun _ _ _ h => h) (Or.inl ⟨by rfl, ?_⟩) ?_ ?_
    rotate_left
    · intro w'
      go_simp
      with_reducible rfl
    rotate_left
    · simp only [Act.put, List.setIfInBounds_toArray, List.set_cons_zero, List.set_cons_succ, i64_w, i32_w]
      rfl
    refine done_ (done_of HT_.out (by kernel_rfl)) ?_
    dsimp only [onlyNormal]
    clear HT_ HW_ hHeld gSE gSM gCo gRc gRo gRr
    have J10c := blk_below J10.out HV.out
    have y0 : V6.cell? ⟨s.b10, 0, none⟩ = some (.int .i64 i) := (blk_cell J10c 0).trans rfl
    have y1 : V6.cell? ⟨s.b10, 1, none⟩ = some (.int .i64 f) := (blk_cell J10c 1).trans rfl
    have y2 : V6.cell? ⟨s.b10, 2, none⟩ = some (.slice s.X1 q.length s.d1) := (blk_cell J10c 2).trans rfl
    have y3 : V6.cell? ⟨s.b10, 3, none⟩ = some (.slice s.X2 (noOpt an).length s.d2) := (blk_cell J10c 3).trans rfl
    have y4 : V6.cell? ⟨s.b10, 4, none⟩ = some (.slice s.X3 (noOpt ns).length s.d3) := (blk_cell J10c 4).trans rfl
    have y5 : V6.cell? ⟨s.b10, 5, none⟩ = some (.slice s.X4 (noOpt ar).length s.d4) := (blk_cell J10c 5).trans rfl
    have P1 := Aside0.mk (Kd.R_below JX.out.r1 HV.out)
    have P2 := Aside0.mk (Kd.R_below JX.out.r2 HV.out)
    have P3 := Aside0.mk (Kd.R_below JX.out.r3 HV.out)
    have P4 := Aside0.mk (Kd.R_below JX.out.r4 HV.out)
    have n2 := noOpt_len an
    have n3 := noOpt_len ns
    have n4 := noOpt_len ar
    have HB6 := Aside0.mk (below_step HBw.out HV.out)
    have HZ6 := Aside0.mk (below_step HBz.out HV.out)
    have Z3 := Aside0.mk (blk_below J3.out HV.out)
    have Z1 := Aside0.mk (blk_below J1.out HV.out)
    have hsz := HV.out.size
    have hOv := overMessage_calls W5.heap.size i f s.X1 q.length s.d1 s.X2 (noOpt an).length s.d2 s.X3 (noOpt ns).length s.d3 s.X4 (noOpt ar).length s.d4 V6 (by omega) (Wide.of_R P1.out) (Wide.of_R P2.out) (Wide.of_R P3.out) (Wide.of_R P4.out) (by omega) (by omega) (by omega) (by omega) (Kd.R_reads' P1.out).2.1 (Kd.R_reads' P2.out).2.1 (Kd.R_reads' P3.out).2.1 (Kd.R_reads' P4.out).2.1
    have hKp := fun W (hb : Below w2.heap.size w2 W) (hb2 : Below w.heap.size w W) => keptMessage_calls k i f i f A1 c1 q A2 c2 an A3 c3 ns A4 c4 ar Aq cq q Aa ca an An cn ns Ar cr ar true W (Kd.C_below hC1 hb) m1 (Kd.C_below hC2 hb) m2 (Kd.C_below hC3 hb) m3 (Kd.C_below hC4 hb) m4 (Kd.C_below HQ.out hb2) lq (Kd.C_below HA.out hb2) la (Kd.C_below HN.out hb2) ln (Kd.C_below HR.out hb2) lr (by omega) HKM_.out
    clear J10c P1 P2 P3 P4 JX J1 J3 J4 J7 J10 J11 JB HBw HBz HB HV
    have hle2 : w2.heap.size ≤ W5.heap.size := by omega
    have hlez : w.heap.size ≤ W5.heap.size := by omega
    go_wp2_with (first
      | (go_at_call 29; (with_reducible refine hOv.mono ?_); rintro e w8 ⟨⟨v8, rfl⟩, ho⟩; have e3 := Aside0.mk ((ho.block _ L3).trans Z3.out); have e1 := Aside0.mk ((ho.block _ L1).trans Z1.out); have Q2 := Aside0.mk (HB6.out.trans (ho.mono hle2)); have Qz := Aside0.mk (HZ6.out.trans (ho.mono hlez)); clear ho; have p0 : w8.cell? ⟨w2.heap.size, 0, none⟩ = some (.int .i64 i) := (blk_cell e3.out 0).trans rfl; have p1 : w8.cell? ⟨w2.heap.size, 1, none⟩ = some (.int .i64 f) := (blk_cell e3.out 1).trans rfl; have p2 : w8.cell? ⟨w2.heap.size, 2, none⟩ = some (.slice A1 q.length c1) := (blk_cell e3.out 2).trans rfl; have p3 : w8.cell? ⟨w2.heap.size, 3, none⟩ = some (.slice A2 an.length c2) := (blk_cell e3.out 3).trans rfl; have p4 : w8.cell? ⟨w2.heap.size, 4, none⟩ = some (.slice A3 ns.length c3) := (blk_cell e3.out 4).trans rfl; have p5 : w8.cell? ⟨w2.heap.size, 5, none⟩ = some (.slice A4 ar.length c4) := (blk_cell e3.out 5).trans rfl; have q0 : w8.cell? ⟨w.heap.size, 0, none⟩ = some (.int .i64 i) := (blk_cell e1.out 0).trans rfl; have q1 : w8.cell? ⟨w.heap.size, 1, none⟩ = some (.int .i64 f) := (blk_cell e1.out 1).trans rfl; have q2 : w8.cell? ⟨w.heap.size, 2, none⟩ = some (.slice Aq q.length cq) := (blk_cell e1.out 2).trans rfl; have q3 : w8.cell? ⟨w.heap.size, 3, none⟩ = some (.slice Aa an.length ca) := (blk_cell e1.out 3).trans rfl; have q4 : w8.cell? ⟨w.heap.size, 4, none⟩ = some (.slice An ns.length cn) := (blk_cell e1.out 4).trans rfl; have q5 : w8.cell? ⟨w.heap.size, 5, none⟩ = some (.slice Ar ar.length cr) := (blk_cell e1.out 5).trans rfl)
      | (go_at_call 30; (with_reducible refine (hKp _ ?hb1 ?hb2).mono ?_); (case hb1 => exact Q2.out); (case hb2 => exact Qz.out); rintro e w9 ⟨rfl, hb⟩; have Qy := Aside0.mk (below_step Qz.out hb); clear hb)
      | (go_at_call 32; (with_reducible refine (ostiarylaw09_awake.calls 20 true _ awake_true).mono ?_); rintro e w10 ⟨rfl, hb⟩; have Qx := Aside0.mk (below_step Qy.out hb); clear hb))
    go_ret
    exact ⟨rfl, Qx.out⟩
end Go.Proofs.Yteahdaddbmhfgaa.P
end
section
namespace Go.Proofs.Yteahdaddbmhfgaa.P
open Go.RowKit Go.Proofs.YteahdaddbmhfgaaW.PrintWords Go.Proofs.YteahdaddbmhfgaaW.PrintLast Go.Proofs.YteahdaddbmhfgaaW.PrintMore
open Go.Proofs.YteahdaddbmhfgaaW
set_option linter.unusedVariables false
set_option linter.unusedSimpArgs false
theorem optsL_len : ∀ (k : Nat) (b : List Int) (l : List S82), optsL k b = some l → l.length ≤ k
  | k, [], l, h => by
    rw [optsL_nil] at h
    obtain rfl := Option.some.inj h
    simp
  | 0, a :: r, l, h => by simp [optsL] at h
  | k + 1, [a], l, h => by simp [optsL] at h
  | k + 1, [a, b], l, h => by simp [optsL] at h
  | k + 1, [a, b, c], l, h => by simp [optsL] at h
  | k + 1, a :: b :: c :: d :: r, l, h => by
    simp only [optsL] at h
    split at h
    · cases h
    obtain ⟨m, hm, rfl⟩ := Option.map_eq_some_iff.1 h
    have := optsL_len k _ m hm
    simp; omega
theorem ofS_told {an ns ar : List S48} (hb : ar.any (bigRec 66000) = false) : ∃ t, ofS an ns ar = some t ∧ t.2.2.2.2.1.length ≤ 16777216 := by
  unfold ofS
  by_cases h : ar.countP isOpt + (an.countP isOpt + ns.countP isOpt) = 0
  · rw [if_pos h]; exact ⟨_, rfl, by simp⟩
  · rw [if_neg h]
    by_cases h2 : ar.countP isOpt ≠ 1 ∨ 0 < an.countP isOpt + ns.countP isOpt
    · rw [if_pos h2]; exact ⟨_, rfl, by simp⟩
    · rw [if_neg h2]
      have hp : 0 < ar.countP isOpt := by omega
      obtain ⟨x, hx, hx2⟩ := List.countP_pos_iff.1 hp
      cases hf : ar.find? isOpt with
      | none => rw [List.find?_eq_none] at hf; exact (hf x hx hx2).elim
      | some y =>
        have hy : y ∈ ar := List.mem_of_find?_eq_some hf
        have hs : y.f4.size ≤ 16777216 := by
          rw [List.any_eq_false] at hb
          have := hb y hy
          unfold bigRec at this
          simp at this
          omega
        rw [Option.bind_some]
        unfold edns_options.f
        rw [if_pos hs, Option.bind_some]
        have hl : (optsOf (bytesOf y.f4)).1.length ≤ 16777216 := by
          unfold optsOf
          split
          · rename_i l e
            have := optsL_len _ _ _ e
            rw [bytesOf_len] at this
            show l.length ≤ _
            omega
          · simp
        split
        · exact ⟨_, rfl, hl⟩
        · exact ⟨_, rfl, by simp⟩
set_option maxHeartbeats 1000000 in
theorem tells_big (k : Nat) (i f : Int) (Aq : Option Addr) (cq : Nat) (q : List S79) (Aa : Option Addr) (ca : Nat) (an : List S48) (An : Option Addr) (cn : Nat) (ns : List S48) (Ar : Option Addr) (cr : Nat) (ar : List S48) (w : World)
    (hq : Kd.C k79 w Aq q.length q) (lq : q.length ≤ cq) (ha : Kd.C k48 w Aa an.length an) (la : an.length ≤ ca) (hn : Kd.C k48 w An ns.length ns) (ln : ns.length ≤ cn) (hr : Kd.C k48 w Ar ar.length ar) (lr : ar.length ≤ cr)
    (hbig : ostiarykit_BigMessage.f k i f q an ns ar 200 66000 = some true) :
    Calls Try.prog 4 #[.agg #[.int .i64 i, .int .i64 f, .slice Aq q.length cq, .slice Aa an.length ca, .slice An ns.length cn, .slice Ar ar.length cr]] w fun e w' => e = .returned (.bool true) ∧ Below w.heap.size w w' := by
  have hBM := fun W (hb : Below w.heap.size w W) => ostiarykit_BigMessage.calls k i f Aq cq q Aa ca an An cn ns Ar cr ar 200 66000 true W (Kd.C_below hq hb) lq (Kd.C_below ha hb) la (Kd.C_below hn hb) ln (Kd.C_below hr hb) lr hbig
  clear hq ha hn hr hbig
  go_enter Try.func4, Try.ntmps4
  go_wp2_with (go_at_call 20; (with_reducible refine (hBM _ ?hb).mono ?_); (case hb => exact below_alloc (Below.refl _ _) _); rintro e w1 ⟨rfl, hd⟩; have HB1 := Aside0.mk (below_step (below_alloc (Below.refl w.heap.size w) (.cells #[.int .i64 i, .int .i64 f, .slice Aq q.length cq, .slice Aa an.length ca, .slice An ns.length cn, .slice Ar ar.length cr] 25)) hd); clear hd)
  go_ret
  exact ⟨rfl, HB1.out⟩
theorem tells_all (i f : Int) (Aq : Option Addr) (cq : Nat) (q : List S79) (Aa : Option Addr) (ca : Nat) (an : List S48) (An : Option Addr) (cn : Nat) (ns : List S48) (Ar : Option Addr) (cr : Nat) (ar : List S48) (w : World)
    (hq : Kd.C k79 w Aq q.length q) (lq : q.length ≤ cq) (ha : Kd.C k48 w Aa an.length an) (la : an.length ≤ ca) (hn : Kd.C k48 w An ns.length ns) (ln : ns.length ≤ cn) (hr : Kd.C k48 w Ar ar.length ar) (lr : ar.length ≤ cr)
    (hs : q.length + an.length + ns.length + ar.length < 4611686018427387904) :
    Calls Try.prog 4 #[.agg #[.int .i64 i, .int .i64 f, .slice Aq q.length cq, .slice Aa an.length ca, .slice An ns.length cn, .slice Ar ar.length cr]] w fun e w' => e = .returned (.bool true) ∧ Below w.heap.size w w' := by
  have hM := fun k hk => bigMsg_f (x0 := i) (x1 := f) (b := 66000) (most := 200) (k := k) hs hk
  cases hbig : bigMsg q an ns ar 200 66000 with
  | true => rw [hbig] at hM; exact tells_big _ i f Aq cq q Aa ca an An cn ns Ar cr ar w hq lq ha la hn ln hr lr (hM (q.length + (an.length + ns.length + ar.length) + 2) (by omega))
  | false =>
    rw [hbig] at hM
    unfold bigMsg at hbig
    simp only [Bool.or_eq_false_iff, decide_eq_false_iff_not] at hbig
    obtain ⟨h200, -, -, -, hbar⟩ := hbig
    have hle : q.length + an.length + ns.length + ar.length ≤ 200 := by omega
    have l1 := noOpt_len an
    have l2 := noOpt_len ns
    have l3 := noOpt_len ar
    obtain ⟨⟨r1, r2, r3, r4, r5, r6, r7⟩, ht, hz⟩ := ofS_told (an := an) (ns := ns) hbar
    have hz5 : r5.length ≤ 16777216 := hz
    have eCode : ∃ v, edns_Code.f i f q an ns ar = some v := by
      unfold edns_Code.f edns_Of.f msg_Code.f
      rw [if_pos (by omega), ht]
      exact ⟨_, rfl⟩
    have eRoom : ∃ v, edns_Room.f i f q an ns ar = some v := by
      unfold edns_Room.f edns_Of.f
      rw [if_pos (by omega), ht]
      exact ⟨_, rfl⟩
    obtain ⟨v1, hv1⟩ := eCode
    obtain ⟨v2, hv2⟩ := eRoom
    obtain ⟨x, hx, hxi⟩ := sameMsg_f i f i f q q (noOpt an) (noOpt an) (noOpt ns) (noOpt ns) (noOpt ar) (noOpt ar) (k := 20000000) (by omega) (by omega)
    obtain rfl : x = true := hxi.2 ⟨rfl, rfl, rfl, rfl, rfl, rfl⟩
    obtain ⟨y, hy, hyi⟩ := sameMsg_f i f i f q q an an ns ns ar ar (k := 20000000) (by omega) (by omega)
    obtain rfl : y = true := hyi.2 ⟨rfl, rfl, rfl, rfl, rfl, rfl⟩
    exact tells_walk 20000000 i f Aq cq q Aa ca an An cn ns Ar cr ar w hq lq ha la hn ln hr lr hle r1 r2 r3 r4 r5 r6 r7 ht (by rw [refOf_f (by omega) (by omega)]; exact ht) (hM _ (by omega))
      (by unfold edns_Strip.f edns_without.f; rw [if_pos (by simp; omega), if_pos (by omega), if_pos (by omega), if_pos (by omega)]; rfl) (refStrip_f (by omega) (by omega)) (sameEdns_f (by omega) (by omega)) hx hy v1 v2 hv1
      (by rw [← code_same (by omega) (by omega)]; exact hv1) hv2 (by rw [← room_same (by omega) (by omega)]; exact hv2)
end Go.Proofs.Yteahdaddbmhfgaa.P
end
