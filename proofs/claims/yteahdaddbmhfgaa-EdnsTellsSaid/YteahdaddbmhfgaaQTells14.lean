import Derived.Test.YteahdaddbmhfgaaQTells1
import Derived.Test.YteahdaddbmhfgaaQTells2
import Derived.Test.YteahdaddbmhfgaaQTells3
import Derived.Test.YteahdaddbmhfgaaQTells4
import Derived.Test.YteahdaddbmhfgaaQTells5
import Derived.Test.YteahdaddbmhfgaaQTells6
import Derived.Test.YteahdaddbmhfgaaQTells7
import Derived.Test.YteahdaddbmhfgaaQTells8
import Derived.Test.YteahdaddbmhfgaaQTells9
import Derived.Test.YteahdaddbmhfgaaQTells10
import Derived.Test.YteahdaddbmhfgaaQTells11
import Derived.Test.YteahdaddbmhfgaaQTells12
import Derived.Test.YteahdaddbmhfgaaQTells13
section
namespace Go.Proofs.Yteahdaddbmhfgaa.P
open Go.RowKit Go.Proofs.YteahdaddbmhfgaaW.PrintWords Go.Proofs.YteahdaddbmhfgaaW.PrintLast Go.Proofs.YteahdaddbmhfgaaW.PrintMore
set_option linter.unusedVariables false
set_option linter.unusedSimpArgs false
theorem and15_range (x : Int) : 0 ≤ bits .and .i64 x 15 ∧ bits .and .i64 x 15 < 16 := by
  have h : (BitVec.ofInt 64 x &&& BitVec.ofInt 64 15).toNat < 2 ^ 4 := by
    rw [BitVec.toNat_and]
    exact Nat.and_lt_two_pow _ (by decide)
  have e : bits .and .i64 x 15 = IntKind.i64.wrap ((BitVec.ofInt 64 x &&& BitVec.ofInt 64 15).toNat : Nat) := rfl
  rw [e, IntKind.wrap_i64]
  omega
theorem ofS_shape {an ns ar : List S48} {t : Int × Int × Int × Bool × List S82 × Bool × Int} (h : ofS an ns ar = some t) : (t.2.2.2.2.2.1 = true ∧ 0 ≤ t.2.1 ∧ t.2.1 ≤ 127) ∨ (t.2.2.2.2.2.1 = false ∧ t.1 = 0 ∧ t.2.1 = 0) := by
  unfold ofS at h
  split at h
  · obtain rfl := Option.some.inj h; exact .inr ⟨rfl, rfl, rfl⟩
  split at h
  · obtain rfl := Option.some.inj h; exact .inr ⟨rfl, rfl, rfl⟩
  obtain ⟨x, _, h⟩ := Option.bind_eq_some_iff.1 h
  obtain ⟨u, _, h⟩ := Option.bind_eq_some_iff.1 h
  split at h
  · rename_i hc
    obtain rfl := Option.some.inj h
    refine .inl ⟨rfl, ?_, ?_⟩
    · show 0 ≤ x.f3 / 16777216
      omega
    · show x.f3 / 16777216 ≤ 127
      omega
  · obtain rfl := Option.some.inj h; exact .inr ⟨rfl, rfl, rfl⟩
theorem code_same {i f : Int} {q : List S79} {an ns ar : List S48} {k : Nat} (hs : an.length + ns.length + ar.length ≤ 1000000) (hk : an.length + ns.length + ar.length + 1 < k) : edns_Code.f i f q an ns ar = ostiaryref09_Code.f k i f q an ns ar := by
  unfold edns_Code.f ostiaryref09_Code.f edns_Of.f
  rw [if_pos hs, refOf_f (by omega) hk]
  cases h : ofS an ns ar with
  | none => rfl
  | some t =>
    unfold msg_Code.f ostiaryref08_Code.f
    simp only [Option.bind_some]
    obtain ⟨y0, y1⟩ := and15_range f
    rcases ofS_shape h with ⟨h1, h2, h3⟩ | ⟨h1, h2, h3⟩
    · rw [if_pos h1, wrap64_id (x := t.2.1 * 16) (by omega) (by omega), wrap64_id (x := 16 * t.2.1) (by omega) (by omega), wrap64_id (by omega) (by omega), bits_or_add 4 _ _ (by omega) (by omega) (by omega) y0 (by omega) (by omega)]
      congr 1
      omega
    · rw [if_neg (by rw [h1]; decide), h3, show wrap64 (0 * 16) = 0 by unfold wrap64; omega, bits_or_add 4 _ _ (by omega) (by omega) (by omega) y0 (by omega) (by omega)]
      congr 1
      omega
theorem room_same {i f : Int} {q : List S79} {an ns ar : List S48} {k : Nat} (hs : an.length + ns.length + ar.length ≤ 1000000) (hk : an.length + ns.length + ar.length + 1 < k) : edns_Room.f i f q an ns ar = ostiaryref09_Room.f k i f q an ns ar := by
  unfold edns_Room.f ostiaryref09_Room.f edns_Of.f
  rw [if_pos hs, refOf_f (by omega) hk]
  cases h : ofS an ns ar with
  | none => rfl
  | some t =>
    simp only [Option.bind_some]
    rcases ofS_shape h with ⟨h1, h2, h3⟩ | ⟨h1, h2, h3⟩
    · rw [if_pos h1]
    · rw [if_neg (by rw [h1]; decide), h2]; rfl
end Go.Proofs.Yteahdaddbmhfgaa.P
end
