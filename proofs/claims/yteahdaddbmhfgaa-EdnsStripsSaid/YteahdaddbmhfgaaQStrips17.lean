import Derived.Test.YteahdaddbmhfgaaQStrips1
import Derived.Test.YteahdaddbmhfgaaQStrips2
import Derived.Test.YteahdaddbmhfgaaQStrips3
import Derived.Test.YteahdaddbmhfgaaQStrips4
import Derived.Test.YteahdaddbmhfgaaQStrips5
import Derived.Test.YteahdaddbmhfgaaQStrips6
import Derived.Test.YteahdaddbmhfgaaQStrips7
import Derived.Test.YteahdaddbmhfgaaQStrips8
import Derived.Test.YteahdaddbmhfgaaQStrips9
import Derived.Test.YteahdaddbmhfgaaQStrips10
import Derived.Test.YteahdaddbmhfgaaQStrips11
import Derived.Test.YteahdaddbmhfgaaQStrips12
import Derived.Test.YteahdaddbmhfgaaQStrips13
import Derived.Test.YteahdaddbmhfgaaQStrips14
import Derived.Test.YteahdaddbmhfgaaQStrips15
import Derived.Test.YteahdaddbmhfgaaQStrips16
section
namespace Go.Proofs.Yteahdaddbmhfgaa.P
open Go.RowKit Go.Proofs.YteahdaddbmhfgaaW.PrintWords Go.Proofs.YteahdaddbmhfgaaW.PrintLast Go.Proofs.YteahdaddbmhfgaaW.PrintMore
set_option linter.unusedVariables false
set_option linter.unusedSimpArgs false
theorem LeO.up {α : Type} {f : Nat → Option α} (h : ∀ k, LeO (f k) (f (k + 1))) {k m : Nat} (hk : k ≤ m) {r : α} (e : f k = some r) : f m = some r := by
  obtain ⟨d, rfl⟩ := Nat.le.dest hk
  induction d with
  | zero => exact e
  | succ d ih => exact h _ _ (ih (Nat.le_add_right _ _))
theorem awake_big {k : Nat} (hk : 20 ≤ k) : ostiarylaw09_awake.f k = some true := LeO.up ostiarylaw09_awake.mono hk awake_true
theorem and15 (x : Int) : 0 ≤ bits .and .i64 x 15 ∧ bits .and .i64 x 15 < 16 := by
  have h : (BitVec.ofInt 64 x &&& BitVec.ofInt 64 15).toNat < 2 ^ 4 := by
    rw [BitVec.toNat_and]
    exact Nat.and_lt_two_pow _ (by decide)
  have e : bits .and .i64 x 15 = IntKind.i64.wrap ((BitVec.ofInt 64 x &&& BitVec.ofInt 64 15).toNat : Nat) := rfl
  rw [e, IntKind.wrap_i64]
  omega
theorem or_zero (y : Int) (h0 : 0 ≤ y) (h1 : y < 16) : bits .or .i64 0 y = y := by
  rw [bits_or_add 62 0 y (by omega) (by decide) (by decide) h0 (by omega) (by omega)]; omega
theorem noOpt_count (l : List S48) : (noOpt l).countP isOpt = 0 := by
  rw [List.countP_eq_zero]
  intro r hr
  have := (List.mem_filter.1 hr).2
  simpa using this
theorem noOpt_id {l : List S48} (h : l.countP isOpt = 0) : noOpt l = l := by
  rw [List.countP_eq_zero] at h
  exact List.filter_eq_self.2 (fun r hr => by simpa using h r hr)
theorem noOpt_twice (l : List S48) : noOpt (noOpt l) = noOpt l := noOpt_id (noOpt_count l)
theorem ofS_none {an ns ar : List S48} (h1 : an.countP isOpt = 0) (h2 : ns.countP isOpt = 0) (h3 : ar.countP isOpt = 0) : ofS an ns ar = some (0, 0, 0, false, [], false, 0) := by
  unfold ofS; rw [h1, h2, h3]; rfl
theorem ofS_some {an ns ar : List S48} (hb : ar.any (bigRec 1000) = false) : ∃ t, ofS an ns ar = some t ∧ (t.2.2.2.2.2.1 = false → t.2.2.2.2.2.2 = 0 → an.countP isOpt = 0 ∧ ns.countP isOpt = 0 ∧ ar.countP isOpt = 0) := by
  unfold ofS
  by_cases h : ar.countP isOpt + (an.countP isOpt + ns.countP isOpt) = 0
  · rw [if_pos h]; exact ⟨_, rfl, fun _ _ => ⟨by omega, by omega, by omega⟩⟩
  · rw [if_neg h]
    by_cases h2 : ar.countP isOpt ≠ 1 ∨ 0 < an.countP isOpt + ns.countP isOpt
    · rw [if_pos h2]; exact ⟨_, rfl, fun _ e => by cases e⟩
    · rw [if_neg h2]
      have hp : 0 < ar.countP isOpt := by omega
      obtain ⟨x, hx, hx2⟩ := List.countP_pos_iff.1 hp
      cases hf : ar.find? isOpt with
      | none => rw [List.find?_eq_none] at hf; exact (hf x hx hx2).elim
      | some y =>
        have hy : y ∈ ar := List.mem_of_find?_eq_some hf
        have hs : y.f4.size ≤ 16777216 := by
          rw [List.any_eq_false] at hb
          have := hb y hy
          unfold bigRec at this
          simp at this
          omega
        rw [Option.bind_some]
        unfold edns_options.f
        rw [if_pos hs, Option.bind_some]
        split
        · exact ⟨_, rfl, fun e => by cases e⟩
        · exact ⟨_, rfl, fun _ e => by cases e⟩
theorem strips_plain (i f : Int) (q : List S79) (an ns ar : List S48) (hs : q.length + an.length + ns.length + ar.length < 4611686018427387904) :
    ∃ k, ostiarylaw09_EdnsStripsA.f k i f q an ns ar = some true ∨ ostiarylaw09_EdnsStripsB.f k i f q an ns ar = some true := by
  refine ⟨q.length + (an.length + ns.length + ar.length) + 30, ?_⟩
  have hA := awake_big (k := q.length + (an.length + ns.length + ar.length) + 30) (by omega)
  have hM := bigMsg_f (x0 := i) (x1 := f) (b := 1000) (most := 100) (k := q.length + (an.length + ns.length + ar.length) + 30) hs (by omega)
  cases hbig : bigMsg q an ns ar 100 1000 with
  | true =>
    left
    unfold ostiarylaw09_EdnsStripsA.f
    rw [hA, Option.bind_some, hM, hbig]; rfl
  | false =>
    rw [hbig] at hM
    unfold bigMsg at hbig
    simp only [Bool.or_eq_false_iff, decide_eq_false_iff_not] at hbig
    obtain ⟨h100, -, -, -, hbar⟩ := hbig
    have hle : q.length + an.length + ns.length + ar.length ≤ 100 := by omega
    have l1 : (noOpt an).length ≤ an.length := List.length_filter_le _ _
    have l2 : (noOpt ns).length ≤ ns.length := List.length_filter_le _ _
    have l3 : (noOpt ar).length ≤ ar.length := List.length_filter_le _ _
    have eStrip : ∀ (q : List S79) (an ns ar : List S48), q.length + an.length + ns.length + ar.length ≤ 100 → edns_Strip.f i f q an ns ar = some (i, f, q, noOpt an, noOpt ns, noOpt ar) := by
      intro q an ns ar h
      unfold edns_Strip.f edns_without.f
      rw [if_pos (by simp; omega), if_pos (by omega), if_pos (by omega), if_pos (by omega)]
      rfl
    have eOf : ∀ (q : List S79) (an ns ar : List S48), q.length + an.length + ns.length + ar.length ≤ 100 → edns_Of.f i f q an ns ar = ofS an ns ar := fun q an ns ar h => by unfold edns_Of.f; rw [if_pos (by omega)]
    have eNone : edns_Of.f i f q (noOpt an) (noOpt ns) (noOpt ar) = some (0, 0, 0, false, [], false, 0) := by rw [eOf _ _ _ _ (by omega), ofS_none (noOpt_count _) (noOpt_count _) (noOpt_count _)]
    obtain ⟨t, ht, hz⟩ := ofS_some (an := an) (ns := ns) hbar
    have eRoom : edns_Room.f i f q (noOpt an) (noOpt ns) (noOpt ar) = some 512 := by unfold edns_Room.f; rw [eNone]; rfl
    have eCode : edns_Code.f i f q (noOpt an) (noOpt ns) (noOpt ar) = some (bits .and .i64 f 15) := by
      unfold edns_Code.f msg_Code.f
      rw [eNone]
      simp only [Option.bind_some]
      rw [show wrap64 (0 * 16) = 0 by unfold wrap64; omega, or_zero _ (and15 f).1 (and15 f).2]
    obtain ⟨r, hr, hri⟩ := sameMsg_f i f i f q q (noOpt (noOpt an)) (noOpt an) (noOpt (noOpt ns)) (noOpt ns) (noOpt (noOpt ar)) (noOpt ar) (k := q.length + (an.length + ns.length + ar.length) + 30) (by simp only [noOpt_twice]; omega) (by simp only [noOpt_twice]; omega)
    have hr1 : r = true := hri.2 ⟨rfl, rfl, rfl, noOpt_twice _, noOpt_twice _, noOpt_twice _⟩
    subst hr1
    cases hw : t.2.2.2.2.2.1 with
    | true =>
      left
      unfold ostiarylaw09_EdnsStripsA.f
      rw [hA, Option.bind_some, hM, Option.bind_some, if_neg (by decide), eStrip q an ns ar hle, Option.bind_some]
      simp only []
      rw [eNone, Option.bind_some, eOf q an ns ar hle, ht, Option.bind_some]
      simp only []
      rw [if_neg (by decide), if_pos trivial, eStrip _ _ _ _ (by omega), Option.bind_some]
      simp only []
      rw [hr, Option.bind_some, if_pos rfl, eRoom, Option.bind_some, if_pos rfl, eCode, Option.bind_some]
      unfold msg_Code.f
      rw [Option.bind_some, if_pos rfl, if_pos trivial, hw, if_pos rfl]
    | false =>
      right
      unfold ostiarylaw09_EdnsStripsB.f
      rw [hA, Option.bind_some, hM, Option.bind_some, if_neg (by decide), eStrip q an ns ar hle, Option.bind_some]
      simp only []
      rw [eNone, Option.bind_some, eOf q an ns ar hle, ht, Option.bind_some]
      simp only []
      rw [if_neg (by decide), if_pos trivial, eStrip _ _ _ _ (by omega), Option.bind_some]
      simp only []
      rw [hr, Option.bind_some, if_pos rfl, eRoom, Option.bind_some, if_pos rfl, eCode, Option.bind_some]
      unfold msg_Code.f
      rw [Option.bind_some, if_pos rfl, if_pos trivial, hw, if_neg (by decide)]
      by_cases h0 : t.2.2.2.2.2.2 = 0
      · rw [if_pos h0]
        obtain ⟨z1, z2, z3⟩ := hz hw h0
        obtain ⟨r2, hr2, hri2⟩ := sameMsg_f i f i f q q (noOpt an) an (noOpt ns) ns (noOpt ar) ar (k := q.length + (an.length + ns.length + ar.length) + 30) (by omega) (by omega)
        rw [hr2, hri2.2 ⟨rfl, rfl, rfl, noOpt_id z1, noOpt_id z2, noOpt_id z3⟩]
        rfl
      · rw [if_neg h0]
end Go.Proofs.Yteahdaddbmhfgaa.P
end
