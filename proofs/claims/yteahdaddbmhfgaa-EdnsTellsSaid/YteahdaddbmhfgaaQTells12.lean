import Derived.Test.YteahdaddbmhfgaaQTells1
import Derived.Test.YteahdaddbmhfgaaQTells2
import Derived.Test.YteahdaddbmhfgaaQTells3
import Derived.Test.YteahdaddbmhfgaaQTells4
import Derived.Test.YteahdaddbmhfgaaQTells5
import Derived.Test.YteahdaddbmhfgaaQTells6
import Derived.Test.YteahdaddbmhfgaaQTells7
import Derived.Test.YteahdaddbmhfgaaQTells8
import Derived.Test.YteahdaddbmhfgaaQTells9
import Derived.Test.YteahdaddbmhfgaaQTells10
import Derived.Test.YteahdaddbmhfgaaQTells11
section
namespace Go.Proofs.Yteahdaddbmhfgaa.P
open Go.RowKit Go.Proofs.YteahdaddbmhfgaaW.PrintWords Go.Proofs.YteahdaddbmhfgaaW.PrintLast Go.Proofs.YteahdaddbmhfgaaW.PrintMore
set_option linter.unusedVariables false
set_option linter.unusedSimpArgs false
theorem many_l {l : List S48} (hl : l.length < 4611686018427387904) : ∀ (n i k c : Nat), i + n = l.length → n < k → c ≤ i → ostiaryref09_many.l0 k l (c : Int) (i : Int) = some ((c + (l.drop i).countP isOpt : Nat) : Int)
  | 0, i, k + 1, c, hi, hk, hc => by
    rw [ostiaryref09_many.l0, if_neg (by omega), List.drop_eq_nil_of_le (by omega)]; simp
  | n + 1, i, k + 1, c, hi, hk, hc => by
    have hlt : i < l.length := by omega
    rw [ostiaryref09_many.l0, if_pos (by omega), if_pos (by omega), rd48 hlt, List.drop_eq_getElem_cons hlt, List.countP_cons, wrap64_id (x := (i : Int) + 1) (by omega) (by omega), wrap64_id (x := (c : Int) + 1) (by omega) (by omega)]
    by_cases h : l[i].f1 = 41
    · rw [if_pos h, show ((i : Int) + 1) = ((i + 1 : Nat) : Int) by simp, show ((c : Int) + 1) = ((c + 1 : Nat) : Int) by simp, many_l hl n (i + 1) k (c + 1) (by omega) (by omega) (by omega)]
      have : isOpt l[i] = true := by simp [isOpt, h]
      rw [this]
      simp; omega
    · rw [if_neg h, show ((i : Int) + 1) = ((i + 1 : Nat) : Int) by simp, many_l hl n (i + 1) k c (by omega) (by omega) (by omega)]
      have : isOpt l[i] = false := by simp [isOpt, h]
      rw [this]
      simp
theorem many_f {l : List S48} {k : Nat} (hl : l.length < 4611686018427387904) (hk : l.length < k) : ostiaryref09_many.f k l = some ((l.countP isOpt : Nat) : Int) := by
  have := many_l hl l.length 0 k 0 (by omega) hk (Nat.le_refl _)
  simpa [ostiaryref09_many.f] using this
theorem noOpt_yes {x : S48} {r : List S48} (h : x.f1 = 41) : noOpt (x :: r) = noOpt r := by simp [noOpt, isOpt, h]
theorem noOpt_no {x : S48} {r : List S48} (h : x.f1 ≠ 41) : noOpt (x :: r) = x :: noOpt r := by simp [noOpt, isOpt, h]
theorem without_l {l : List S48} (hl : l.length < 2000000000000) : ∀ (n i k : Nat) (acc : List S48), i + n = l.length → n < k → acc.length ≤ i → ostiaryref09_without.l0 k l acc (i : Int) = some (acc ++ noOpt (l.drop i))
  | 0, i, k + 1, acc, hi, hk, hc => by
    rw [ostiaryref09_without.l0, if_neg (by omega), List.drop_eq_nil_of_le (by omega)]; simp [noOpt]
  | n + 1, i, k + 1, acc, hi, hk, hc => by
    have hlt : i < l.length := by omega
    rw [ostiaryref09_without.l0, if_pos (by omega), if_pos (by omega), rd48 hlt, List.drop_eq_getElem_cons hlt, wrap64_id (x := (i : Int) + 1) (by omega) (by omega)]
    by_cases h : l[i].f1 = 41
    · rw [if_pos h, show ((i : Int) + 1) = ((i + 1 : Nat) : Int) by simp, without_l hl n (i + 1) k acc (by omega) (by omega) (by omega), noOpt_yes h]
    · rw [if_neg h, if_pos (by omega), show ((i : Int) + 1) = ((i + 1 : Nat) : Int) by simp, without_l hl n (i + 1) k _ (by omega) (by omega) (by simp; omega), noOpt_no h, List.append_assoc]
      rfl
theorem without_f {l : List S48} {k : Nat} (hl : l.length < 2000000000000) (hk : l.length < k) : ostiaryref09_without.f k l = some (noOpt l) := by
  have := without_l hl l.length 0 k [] (by omega) hk (Nat.le_refl _)
  simpa [ostiaryref09_without.f] using this
theorem refStrip_f {i f : Int} {q : List S79} {an ns ar : List S48} {k : Nat} (hs : q.length + an.length + ns.length + ar.length < 1000000000) (hk : q.length + an.length + ns.length + ar.length < k) : ostiaryref09_Strip.f k i f q an ns ar = some (i, f, q, noOpt an, noOpt ns, noOpt ar) := by
  unfold ostiaryref09_Strip.f
  rw [Option.bind_some, if_pos (by simp; omega), without_f (by omega) (by omega), without_f (by omega) (by omega), without_f (by omega) (by omega)]
  rfl
end Go.Proofs.Yteahdaddbmhfgaa.P
end
section
namespace Go.Proofs.Yteahdaddbmhfgaa.P
open Go.RowKit Go.Proofs.YteahdaddbmhfgaaW.PrintWords Go.Proofs.YteahdaddbmhfgaaW.PrintLast Go.Proofs.YteahdaddbmhfgaaW.PrintMore
set_option linter.unusedVariables false
set_option linter.unusedSimpArgs false
def ofX (x : S48) : Option (Int × Int × Int × Bool × List S82 × Bool × Int) := (edns_options.f x.f4).bind fun t =>
    if t.2 = true ∧ x.f0 = ⟨#[0]⟩ ∧ (0 ≤ x.f2 ∧ x.f2 ≤ 65535) ∧ (0 ≤ x.f3 ∧ x.f3 ≤ 2147483647) then some (x.f2, x.f3 / 16777216, x.f3 / 65536 % 256, decide (x.f3 / 32768 % 2 = 1), t.1, true, 0)
    else some (0, 0, 0, false, [], false, 4)
theorem toList_zero (s : ByteArray) : s.toList = ([0] : List UInt8) ↔ s = ⟨#[0]⟩ := by
  rw [ByteArray.toList_eq]
  constructor
  · intro e; exact ByteArray.ext (Array.toList_inj.1 e)
  · intro e; subst e; rfl
theorem short_f (a : Int) : ostiaryref09_short.f a = some (decide (0 ≤ a ∧ a ≤ 65535)) := by
  unfold ostiaryref09_short.f
  by_cases h : 0 ≤ a
  · rw [if_pos h]; simp [h]
  · rw [if_neg h]; simp [h]
theorem refOf_l {a0 a1 : Int} {q : List S79} {an ns ar : List S48} {x : S48} (hl : ar.length < 4611686018427387904) : ∀ (n i k : Nat), i + n = ar.length → n < k → (ar.drop i).find? isOpt = some x → ostiaryref09_Of.l0 k (i : Int) a0 a1 q an ns ar = ofX x
  | 0, i, k + 1, hi, hk, hf => by
    rw [List.drop_eq_nil_of_le (by omega)] at hf; cases hf
  | n + 1, i, k + 1, hi, hk, hf => by
    have hlt : i < ar.length := by omega
    rw [List.drop_eq_getElem_cons hlt, List.find?_cons] at hf
    rw [ostiaryref09_Of.l0, if_pos (by omega), if_pos (by omega), rd48 hlt, wrap64_id (x := (i : Int) + 1) (by omega) (by omega)]
    by_cases h : ar[i].f1 = 41
    · have hb : isOpt ar[i] = true := by simp [isOpt, h]
      rw [hb] at hf
      obtain rfl := Option.some.inj hf
      rw [if_pos h]
      unfold ofX ostiaryref09_options.f
      cases edns_options.f ar[i].f4 with
      | none => rfl
      | some t =>
        simp only [Option.bind_some, toList_zero, short_f]
        by_cases c1 : ar[i].f0 = ⟨#[0]⟩
        · rw [if_pos c1]
          by_cases c2 : 0 ≤ ar[i].f2 ∧ ar[i].f2 ≤ 65535
          · rw [if_pos (decide_eq_true c2)]
            by_cases c3 : ar[i].f3 < 0
            · rw [if_pos c3, if_neg (by omega)]
            · rw [if_neg c3]
              by_cases c4 : ar[i].f3 ≥ 2147483648
              · rw [if_pos c4, if_neg (by omega)]
              · rw [if_neg c4]
                by_cases c5 : t.2 = true
                · rw [if_pos c5, if_pos ⟨c5, c1, c2, by omega, by omega⟩, and255 _ (by omega) (by omega), Int.tmod_eq_emod_of_nonneg (by omega)]
                  rfl
                · rw [if_neg c5, if_neg (fun e => c5 e.1)]
          · rw [if_neg (by simpa using c2), if_neg (fun e => c2 e.2.2.1)]
        · rw [if_neg c1, if_neg (fun e => c1 e.2.1)]
    · have hb : isOpt ar[i] = false := by simp [isOpt, h]
      rw [hb] at hf
      rw [if_neg h, show ((i : Int) + 1) = ((i + 1 : Nat) : Int) by simp]
      exact refOf_l hl n (i + 1) k (by omega) (by omega) hf
theorem refOf_f {a0 a1 : Int} {q : List S79} {an ns ar : List S48} {k : Nat} (hs : an.length + ns.length + ar.length < 1000000000) (hk : an.length + ns.length + ar.length + 1 < k) : ostiaryref09_Of.f k a0 a1 q an ns ar = ofS an ns ar := by
  unfold ostiaryref09_Of.f ofS
  have h1 : an.countP isOpt ≤ an.length := List.countP_le_length
  have h2 : ns.countP isOpt ≤ ns.length := List.countP_le_length
  have h3 : ar.countP isOpt ≤ ar.length := List.countP_le_length
  rw [many_f (by omega) (by omega), Option.bind_some, many_f (by omega) (by omega), Option.bind_some, many_f (by omega) (by omega), Option.bind_some]
  simp only [Option.bind_some]
  rw [wrap64_id (x := ((ar.countP isOpt : Nat) : Int) + ((an.countP isOpt : Nat) : Int)) (by omega) (by omega), wrap64_id (x := ((ar.countP isOpt : Nat) : Int) + ((an.countP isOpt : Nat) : Int) + ((ns.countP isOpt : Nat) : Int)) (by omega) (by omega), wrap64_id (x := ((an.countP isOpt : Nat) : Int) + ((ns.countP isOpt : Nat) : Int)) (by omega) (by omega)]
  obtain ⟨k, rfl⟩ : ∃ k', k = k' + 1 := ⟨k - 1, by omega⟩
  by_cases c1 : ar.countP isOpt + (an.countP isOpt + ns.countP isOpt) = 0
  · rw [if_pos (by omega), if_pos c1]
  · rw [if_neg (by omega), if_neg c1]
    by_cases c2 : ar.countP isOpt = 1
    · rw [if_pos (by omega)]
      by_cases c3 : 0 < an.countP isOpt + ns.countP isOpt
      · rw [if_pos (.inr c3), ostiaryref09_Of.j0, if_pos (decide_eq_true (by omega))]
      · rw [if_neg (by omega), ostiaryref09_Of.j0, if_neg (by simp; omega)]
        obtain ⟨x, hx, hx2⟩ := List.countP_pos_iff.1 (by omega : 0 < ar.countP isOpt)
        cases hf : ar.find? isOpt with
        | none => rw [List.find?_eq_none] at hf; exact (hf x hx hx2).elim
        | some y =>
          have := refOf_l (a0 := a0) (a1 := a1) (q := q) (an := an) (ns := ns) (ar := ar) (x := y) (by omega) ar.length 0 k (by omega) (by omega) (by simpa using hf)
          rw [show ((0 : Nat) : Int) = 0 from rfl] at this
          rw [this]; rfl
    · rw [if_neg (by omega), if_pos (.inl c2), ostiaryref09_Of.j0, if_pos rfl]
end Go.Proofs.Yteahdaddbmhfgaa.P
end
section
namespace Go.Proofs.Yteahdaddbmhfgaa.P
open Go.RowKit Go.Proofs.YteahdaddbmhfgaaW.PrintWords Go.Proofs.YteahdaddbmhfgaaW.PrintLast Go.Proofs.YteahdaddbmhfgaaW.PrintMore
set_option linter.unusedVariables false
set_option linter.unusedSimpArgs false
theorem sameEdns_l {a b c : Int} {d : Bool} {l : List S82} (hl : l.length < 4611686018427387904) : ∀ (n i k : Nat), i + n = l.length → n < k → ostiarykit_SameEdns.l0 k (i : Int) a b c d l a b c d l = some true
  | 0, i, k + 1, hi, hk => by rw [ostiarykit_SameEdns.l0, if_neg (by omega)]
  | n + 1, i, k + 1, hi, hk => by
    have hlt : i < l.length := by omega
    rw [ostiarykit_SameEdns.l0, if_pos (by omega), if_pos (by omega), if_pos (by omega), if_neg (by simp), wrap64_id (by omega) (by omega), show ((i : Int) + 1) = ((i + 1 : Nat) : Int) by simp]
    exact sameEdns_l hl n (i + 1) k (by omega) (by omega)
theorem sameEdns_f {a b c : Int} {d : Bool} {l : List S82} {k : Nat} (hl : l.length < 4611686018427387904) (hk : l.length + 1 < k) : ostiarykit_SameEdns.f k a b c d l a b c d l = some true := by
  unfold ostiarykit_SameEdns.f
  obtain ⟨k, rfl⟩ : ∃ k', k = k' + 1 := ⟨k - 1, by omega⟩
  rw [if_pos rfl, if_pos rfl, if_pos rfl, if_neg (by simp), show ((l.length : Int) != (l.length : Int)) = false by simp, ostiarykit_SameEdns.j0, if_neg (by decide)]
  have := sameEdns_l (a := a) (b := b) (c := c) (d := d) hl l.length 0 k (by omega) (by omega)
  exact this
end Go.Proofs.Yteahdaddbmhfgaa.P
end
