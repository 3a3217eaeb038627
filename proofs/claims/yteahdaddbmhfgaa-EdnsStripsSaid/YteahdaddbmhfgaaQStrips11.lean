import Derived.Test.YteahdaddbmhfgaaQStrips1
import Derived.Test.YteahdaddbmhfgaaQStrips2
import Derived.Test.YteahdaddbmhfgaaQStrips3
import Derived.Test.YteahdaddbmhfgaaQStrips4
import Derived.Test.YteahdaddbmhfgaaQStrips5
import Derived.Test.YteahdaddbmhfgaaQStrips9
import Derived.Test.YteahdaddbmhfgaaQStrips10
section
namespace Go.Proofs.Yteahdaddbmhfgaa.P
open Go.RowKit Go.Proofs.YteahdaddbmhfgaaW.PrintWords Go.Proofs.YteahdaddbmhfgaaW.PrintLast Go.Proofs.YteahdaddbmhfgaaW.PrintMore
set_option linter.unusedVariables false
theorem bytesOf_is (s : ByteArray) : IsBytes (bytesOf s) := by
  intro x hx
  simp only [bytesOf, List.mem_map] at hx
  obtain ⟨b, _, rfl⟩ := hx
  have := b.toNat_lt
  omega
theorem get16_ok {l : List Int} (hb : IsBytes l) {i : Int} (h0 : 0 ≤ i) (h : i + 2 ≤ l.length) : octet_Get16.f l i = some (be ((l.drop i.toNat).take 2), i + 2, 0, 0) := by
  unfold octet_Get16.f
  rw [if_pos hb, if_neg (by omega), if_neg (by omega)]
theorem get16_short {l : List Int} (hb : IsBytes l) {i : Int} (h0 : 0 ≤ i) (h1 : i ≤ l.length) (h : (l.length : Int) < i + 2) : octet_Get16.f l i = some (0, 0, 4, (l.length : Int)) := by
  unfold octet_Get16.f
  rw [if_pos hb, if_neg (by omega), if_pos (by omega)]
theorem wrap_add {a b : Int} (h0 : 0 ≤ a) (h1 : 0 ≤ b) (h : a + b ≤ 281474976710656) : wrap64 (a + b) = a + b := by unfold wrap64; omega
theorem wrap_sub {a b : Int} (h0 : 0 ≤ a) (h1 : 0 ≤ b) (ha : a ≤ 281474976710656) (hb : b ≤ 281474976710656) : wrap64 (a - b) = a - b := by unfold wrap64; omega
theorem take_drop_cut (l : List Int) {i n : Int} (h0 : 0 ≤ i) (h1 : 0 ≤ n) : (l.take (i + n).toNat).drop i.toNat = (l.drop i.toNat).take n.toNat := by
  rw [List.drop_take]
  congr 1
  omega
theorem bytes_ok {l : List Int} {i n : Int} (k : Nat) (h0 : 0 ≤ i) (h1 : 0 ≤ n) (h : i + n ≤ l.length) (hl : l.length ≤ 140737488351232) : octet_Bytes.f (k + 1) l i n = some ((l.drop i.toNat).take n.toNat, i + n, 0, 0) := by
  unfold octet_Bytes.f
  rw [if_neg (by omega), if_neg (by omega)]
  simp only [octet_Bytes.j0]
  rw [if_neg (by simp; omega), wrap_sub (by omega) h0 (by omega) (by omega), if_neg (by omega)]
  simp only [Option.bind_some]
  rw [if_pos h0, wrap_add h0 h1 (by omega), if_pos (by omega), if_pos (by omega), take_drop_cut l h0 h1, if_pos (by simp; omega)]
  simp
theorem bytes_short {l : List Int} {i n : Int} (k : Nat) (h0 : 0 ≤ i) (hi : i ≤ l.length) (h1 : 0 ≤ n) (h : (l.length : Int) < i + n) (hl : l.length ≤ 140737488351232) : octet_Bytes.f (k + 1) l i n = some ([], 0, 4, (l.length : Int)) := by
  unfold octet_Bytes.f
  rw [if_neg (by omega), if_neg (by omega)]
  simp only [octet_Bytes.j0]
  rw [if_neg (by simp; omega), wrap_sub (by omega) h0 (by omega) (by omega), if_pos (by omega)]
def optsL : Nat → List Int → Option (List S82)
  | _, [] => some []
  | 0, _ :: _ => none
  | k + 1, a :: b :: c :: d :: r => if (r.length : Int) < c * 256 + d then none else (optsL k (r.drop (c * 256 + d).toNat)).map (⟨a * 256 + b, strOfNums (r.take (c * 256 + d).toNat)⟩ :: ·)
  | _ + 1, _ => none
theorem optsL_nil (k : Nat) : optsL k [] = some [] := by cases k <;> rfl
theorem be2 (a b : Int) (r : List Int) : be ((a :: b :: r).take 2) = a * 256 + b := by simp [be]
theorem optsL_short {k : Nat} {r : List Int} (h0 : 0 < r.length) (h : r.length < 4) : optsL (k + 1) r = none := by
  match r, h0, h with
  | [a], _, _ => rfl
  | [a, b], _, _ => rfl
  | [a, b, c], _, _ => rfl
theorem optsL_step {k : Nat} {r : List Int} (h : 4 ≤ r.length) : optsL (k + 1) r = if ((r.length : Int) - 4) < be ((r.drop 2).take 2) then none else (optsL k (r.drop (4 + (be ((r.drop 2).take 2)).toNat))).map (⟨be (r.take 2), strOfNums ((r.drop 4).take (be ((r.drop 2).take 2)).toNat)⟩ :: ·) := by
  match r, h with
  | a :: b :: c :: d :: r, _ =>
    have e1 : be ((a :: b :: c :: d :: r).take 2) = a * 256 + b := be2 a b _
    have e2 : be (((a :: b :: c :: d :: r).drop 2).take 2) = c * 256 + d := be2 c d _
    rw [e1, e2]
    simp only [optsL, List.length_cons, List.drop_succ_cons, List.drop_zero]
    have e3 : ((r.length + 1 + 1 + 1 + 1 : Nat) : Int) - 4 = r.length := by omega
    rw [e3, show 4 + (c * 256 + d).toNat = (c * 256 + d).toNat + 1 + 1 + 1 + 1 by omega]
    rfl
def optsOf (b : List Int) : List S82 × Bool := match optsL b.length b with | some l => (l, true) | none => ([], false)
theorem opts_round {b : List Int} (hb : IsBytes b) {i k : Nat} {acc : List S82} {T : Option (List S82)} (hi : i < b.length) (hk : b.length - i ≤ k) (hT : (optsL k (b.drop i)).map (acc ++ ·) = T) :
    (b.length < i + 4 ∧ T = none) ∨ (i + 4 ≤ b.length ∧ ∃ n : Int, n = be ((b.drop (i + 2)).take 2) ∧ 0 ≤ n ∧ n < 65536 ∧
      (((b.length : Int) < i + 4 + n ∧ T = none) ∨ (i + 4 + n ≤ (b.length : Int) ∧ ∃ k', b.length - (i + 4 + n.toNat) ≤ k' ∧ (optsL k' (b.drop (i + 4 + n.toNat))).map ((acc ++ [⟨be ((b.drop i).take 2), strOfNums ((b.drop (i + 4)).take n.toNat)⟩]) ++ ·) = T))) := by
  obtain ⟨k, rfl⟩ : ∃ m, k = m + 1 := ⟨k - 1, by omega⟩
  by_cases h4 : b.length < i + 4
  · left
    refine ⟨h4, ?_⟩
    rw [← hT, optsL_short (by simp; omega) (by simp; omega)]; rfl
  · right
    have hbd := be_bound _ (bytes_sub hb (i + 2) 2)
    have hl2 : ((b.drop (i + 2)).take 2).length = 2 := by simp; omega
    rw [hl2] at hbd
    refine ⟨by omega, _, rfl, hbd.1, by omega, ?_⟩
    rw [optsL_step (by simp; omega)] at hT
    simp only [List.drop_drop, List.length_drop] at hT
    by_cases hn : ((b.length : Int) < i + 4 + be ((b.drop (i + 2)).take 2))
    · left
      refine ⟨hn, ?_⟩
      rw [if_pos (by omega)] at hT
      exact hT.symm
    · right
      refine ⟨by omega, k, by omega, ?_⟩
      rw [if_neg (by omega)] at hT
      rw [← hT, Option.map_map]
      simp only [Nat.add_assoc]
      congr 1
      funext x
      simp
end Go.Proofs.Yteahdaddbmhfgaa.P
end
section
namespace Go.Proofs.Yteahdaddbmhfgaa.P
open Go.RowKit Go.Proofs.YteahdaddbmhfgaaW.PrintWords Go.Proofs.YteahdaddbmhfgaaW.PrintLast Go.Proofs.YteahdaddbmhfgaaW.PrintMore
set_option linter.unusedVariables false
set_option linter.unusedSimpArgs false
def edns_options.f (s : ByteArray) : Option (List S82 × Bool) := if s.size ≤ 16777216 then some (optsOf (bytesOf s)) else none
set_option maxRecDepth 100000 in
set_option maxHeartbeats 1000000 in
theorem edns_options.calls (a0 : ByteArray) (r1 : List S82) (r2 : Bool) (w : World) (h : edns_options.f a0 = some (r1, r2)) :
    Calls Try.prog 88 #[.string a0] w fun e w' => ∃ v0_ : Value, e = .returned (.tuple #[v0_, .bool r2]) ∧ Kd.R k82 82 w' w.heap.size (fun _ => True) v0_ r1 ∧ Below w.heap.size w w' := by
  unfold edns_options.f at h
  split at h
  case isFalse => cases h
  rename_i hsz
  obtain ⟨hr⟩ : Aside0 (optsOf (bytesOf a0) = (r1, r2)) := ⟨Option.some.inj h⟩
  clear h
  have HR := Aside0.mk hr; clear hr
  have hrun := conv_run w a0
  have HC := Aside0.mk (conv_C w a0 (by omega))
  have HW := Aside0.mk (conv_below w a0)
  have HL := Aside0.mk (bytesOf_is a0)
  have HLEN := Aside0.mk (bytesOf_len a0)
  have hsz1 : w.heap.size < (Lib.bytesWorld w 5 a0).heap.size := by rw [Lib.bytesWorld_size]; omega
  go_enter Try.func88, Try.ntmps88
  go_wp2_with fail
  clear hrun
  obtain ⟨W1, hW1⟩ : ∃ W1, Lib.bytesWorld w 5 a0 = W1 := ⟨_, rfl⟩
  rw [hW1] at HC HW hsz1 ⊢
  clear hW1
  obtain ⟨cap, hcap⟩ : ∃ cap, grownCap w a0.size 0 5 = cap := ⟨_, rfl⟩
  have HCAP := Aside0.mk (show a0.size ≤ cap by rw [← hcap]; exact grownCap_ge w _ _ _)
  rw [hcap]
  clear hcap
  go_loopw [5, 6] (fun v i wr => ∃ (k f : Nat) (acc : List S82), k ≤ a0.size ∧ i = .int .i64 k ∧ Aside0 (a0.size - k ≤ f) ∧ Aside0 ((optsL f ((bytesOf a0).drop k)).map (acc ++ ·) = optsL (bytesOf a0).length (bytesOf a0)) ∧ Aside0 (acc.length ≤ k) ∧ Aside0 (Kd.R k82 82 wr w.heap.size (fun q => W1.heap.size ≤ q) v acc) ∧ Aside0 (Below w.heap.size w wr) ∧ Aside0 (Below W1.heap.size W1 wr)) (fun _ i _ => a0.size - (intOf i).toNat)
  case atStart => exact ⟨0, a0.size, [], Nat.zero_le _, rfl, ⟨by omega⟩, ⟨by rw [List.drop_zero, HLEN.out]; simp⟩, ⟨by simp⟩, ⟨Kd.R_nil _ _ _ _ _⟩, HW, ⟨Below.refl _ _⟩⟩
  case round =>
    obtain ⟨k, f, acc, hk, rfl, HF, HT, HAL, HO, HB, HB1⟩ := hrel
    by_cases hlt : k < a0.size
    · have hC1 : ∀ W, Below W1.heap.size W1 W → Kd.C (Kd.int .u8) W (some ⟨w.heap.size, 0, none⟩) (bytesOf a0).length (bytesOf a0) := fun W hb => by rw [HLEN.out]; exact Kd.C_below HC.out hb
      have hlen := HLEN.out
      have hround := opts_round HL.out (i := k) (k := f) (acc := acc) (by omega) (by have := HF.out; omega) HT.out
      rcases hround with ⟨h4, hno⟩ | ⟨h4, n, hn, hn0, hn1, hrest⟩
      · have hfin : optsL (bytesOf a0).length (bytesOf a0) = none := hno
        have HFIN := Aside0.mk hfin; clear hfin hno
        have hout : (([] : List S82), false) = (r1, r2) := by
          have hh := HR.out
          unfold optsOf at hh
          rwa [HFIN.out] at hh
        simp only [Prod.mk.injEq] at hout
        obtain ⟨rfl, rfl⟩ := hout
        have HLN := Aside0.mk hlen; clear hlen
        by_cases h2 : k + 2 ≤ a0.size
        · have G1 : ∀ W, Below W1.heap.size W1 W → Calls Try.prog 113 #[.slice (some ⟨w.heap.size, 0, none⟩) a0.size cap, .int .i64 k] W fun e w' => e = .returned (.tuple #[.int .i64 (be (((bytesOf a0).drop k).take 2)), .int .i64 (k + 2), .agg #[.int .i64 0, .int .i64 0]]) ∧ Below W.heap.size W w' := fun W hb => by
            have := octet_Get16.calls (some ⟨w.heap.size, 0, none⟩) cap (bytesOf a0) (k : Int) _ _ _ _ W (hC1 W hb) (by have := HCAP.out; have := HLN.out; omega) (get16_ok HL.out (by omega) (by have := HLN.out; omega))
            rwa [HLN.out] at this
          have G2 : ∀ W, Below W1.heap.size W1 W → Calls Try.prog 113 #[.slice (some ⟨w.heap.size, 0, none⟩) a0.size cap, .int .i64 (k + 2)] W fun e w' => e = .returned (.tuple #[.int .i64 0, .int .i64 0, .agg #[.int .i64 4, .int .i64 a0.size]]) ∧ Below W.heap.size W w' := fun W hb => by
            have := octet_Get16.calls (some ⟨w.heap.size, 0, none⟩) cap (bytesOf a0) ((k : Int) + 2) _ _ _ _ W (hC1 W hb) (by have := HCAP.out; have := HLN.out; omega) (get16_short HL.out (by omega) (by have := HLN.out; omega) (by have := HLN.out; omega))
            rwa [HLN.out] at this
          go_wp2_with (first
            | (go_at_call 113; (with_reducible refine (G1 _ ?hb1).mono ?_); (case hb1 => exact HB1.out); rintro e w2 ⟨rfl, HB2⟩; have K2 := Aside0.mk HB2; clear HB2)
            | (go_at_call 113; (with_reducible refine (G2 _ ?hb2).mono ?_); (case hb2 => exact own_below_at HB1.out (below_alloc K2.out _)); rintro e w3 ⟨rfl, HB3⟩; have K3 := Aside0.mk (own_below_at (below_alloc K2.out _) HB3); have hcA : w3.cell? ⟨w2.heap.size, 0, none⟩ = some (.int .i64 0) := (HB3.cell (by simp)).trans (by simp); have hcB : w3.cell? ⟨w2.heap.size, 1, none⟩ = some (.int .i64 0) := (HB3.cell (by simp)).trans (by simp); have hfA : w3.frozen? ⟨w2.heap.size, 0, none⟩ = false := (HB3.frozen (p := ⟨w2.heap.size, 0, none⟩) (by simp)).trans (by simp); have hfB : w3.frozen? ⟨w2.heap.size, 1, none⟩ = false := (HB3.frozen (p := ⟨w2.heap.size, 1, none⟩) (by simp)).trans (by simp); have S3 := HB3.size; simp only [World.size_alloc] at S3; clear HB3))
          go_ret2
          exact ⟨_, rfl, Kd.R_nil _ _ _ _ _, own_below_at HB.out ((K3.out.setCell (by simpa using K2.out.size) _).setCell (by simpa using K2.out.size) _)⟩
        · have G1 : ∀ W, Below W1.heap.size W1 W → Calls Try.prog 113 #[.slice (some ⟨w.heap.size, 0, none⟩) a0.size cap, .int .i64 k] W fun e w' => e = .returned (.tuple #[.int .i64 0, .int .i64 0, .agg #[.int .i64 4, .int .i64 a0.size]]) ∧ Below W.heap.size W w' := fun W hb => by
            have := octet_Get16.calls (some ⟨w.heap.size, 0, none⟩) cap (bytesOf a0) (k : Int) _ _ _ _ W (hC1 W hb) (by have := HCAP.out; have := HLN.out; omega) (get16_short HL.out (by omega) (by have := HLN.out; omega) (by have := HLN.out; omega))
            rwa [HLN.out] at this
          go_wp2_with (first
            | (go_at_call 113; (with_reducible refine (G1 _ ?hb1).mono ?_); (case hb1 => exact HB1.out); rintro e w2 ⟨rfl, HB2⟩; have K2 := Aside0.mk HB2; clear HB2))
          go_ret2
          exact ⟨_, rfl, Kd.R_nil _ _ _ _ _, own_below_at HB.out (below_alloc K2.out _)⟩
      · have G1 : ∀ W, Below W1.heap.size W1 W → Calls Try.prog 113 #[.slice (some ⟨w.heap.size, 0, none⟩) a0.size cap, .int .i64 k] W fun e w' => e = .returned (.tuple #[.int .i64 (be (((bytesOf a0).drop k).take 2)), .int .i64 (k + 2), .agg #[.int .i64 0, .int .i64 0]]) ∧ Below W.heap.size W w' := fun W hb => by
          have := octet_Get16.calls (some ⟨w.heap.size, 0, none⟩) cap (bytesOf a0) (k : Int) _ _ _ _ W (hC1 W hb) (by have := HCAP.out; omega) (get16_ok HL.out (by omega) (by omega))
          rwa [hlen] at this
        have G2 : ∀ W, Below W1.heap.size W1 W → Calls Try.prog 113 #[.slice (some ⟨w.heap.size, 0, none⟩) a0.size cap, .int .i64 (k + 2)] W fun e w' => e = .returned (.tuple #[.int .i64 n, .int .i64 (k + 4), .agg #[.int .i64 0, .int .i64 0]]) ∧ Below W.heap.size W w' := fun W hb => by
          have := octet_Get16.calls (some ⟨w.heap.size, 0, none⟩) cap (bytesOf a0) ((k : Int) + 2) _ _ _ _ W (hC1 W hb) (by have := HCAP.out; omega) (get16_ok HL.out (by omega) (by omega))
          rw [hlen, show ((k : Int) + 2).toNat = k + 2 by omega, ← hn, show (k : Int) + 2 + 2 = k + 4 by omega] at this
          exact this
        have HLN := Aside0.mk hlen; clear hlen
        have HN := Aside0.mk hn; clear hn
        rcases hrest with ⟨h5, hno⟩ | ⟨h5, k', hk', hT'⟩
        · have hfin : optsL (bytesOf a0).length (bytesOf a0) = none := hno
          have HFIN := Aside0.mk hfin; clear hfin hno
          have hout : (([] : List S82), false) = (r1, r2) := by
            have hh := HR.out
            unfold optsOf at hh
            rwa [HFIN.out] at hh
          simp only [Prod.mk.injEq] at hout
          obtain ⟨rfl, rfl⟩ := hout
          have G3 : ∀ W, Below W1.heap.size W1 W → Calls Try.prog 121 #[.slice (some ⟨w.heap.size, 0, none⟩) a0.size cap, .int .i64 (k + 4), .int .i64 n] W fun e w' => ∃ v0_ : Value, e = .returned (.tuple #[v0_, .int .i64 0, .agg #[.int .i64 4, .int .i64 a0.size]]) ∧ Kd.R (Kd.int .u8) 5 w' W.heap.size (fun _ => True) v0_ [] ∧ Below W.heap.size W w' := fun W hb => by
            have := octet_Bytes.calls 1 (some ⟨w.heap.size, 0, none⟩) cap (bytesOf a0) ((k : Int) + 4) n _ _ _ _ W (hC1 W hb) (by have := HCAP.out; have := HLN.out; omega) (bytes_short 0 (by omega) (by have := HLN.out; omega) hn0 (by have := HLN.out; omega) (by have := HLN.out; omega))
            rwa [HLN.out] at this
          clear h5
          go_wp2_with (first
            | (go_at_call 113; (with_reducible refine (G1 _ ?hb1).mono ?_); (case hb1 => exact HB1.out); rintro e w2 ⟨rfl, HB2⟩; have K2 := Aside0.mk HB2; clear HB2)
            | (go_at_call 113; (with_reducible refine (G2 _ ?hb2).mono ?_); (case hb2 => exact own_below_at HB1.out (below_alloc K2.out _)); rintro e w3 ⟨rfl, HB3⟩; have K3 := Aside0.mk (own_below_at (below_alloc K2.out _) HB3); have hcA : w3.cell? ⟨w2.heap.size, 0, none⟩ = some (.int .i64 0) := (HB3.cell (by simp)).trans (by simp); have hcB : w3.cell? ⟨w2.heap.size, 1, none⟩ = some (.int .i64 0) := (HB3.cell (by simp)).trans (by simp); have hfA : w3.frozen? ⟨w2.heap.size, 0, none⟩ = false := (HB3.frozen (p := ⟨w2.heap.size, 0, none⟩) (by simp)).trans (by simp); have hfB : w3.frozen? ⟨w2.heap.size, 1, none⟩ = false := (HB3.frozen (p := ⟨w2.heap.size, 1, none⟩) (by simp)).trans (by simp); have S3 := HB3.size; simp only [World.size_alloc] at S3; clear HB3; have K33 := fun x y => Aside0.mk ((K3.out.setCell (p := ⟨w2.heap.size, 0, none⟩) K2.out.size x).setCell (p := ⟨w2.heap.size, 1, none⟩) K2.out.size y))
            | (go_at_call 121; (with_reducible refine (G3 _ ?hb3).mono ?_); (case hb3 => exact own_below_at HB1.out (K33 _ _).out); rintro e w4 ⟨vb, rfl, HD, HB4⟩; have K4 := Aside0.mk (own_below_at (K33 _ _).out HB4); have hcA4 : w4.cell? ⟨w2.heap.size, 0, none⟩ = some (.int .i64 0) := (HB4.cell (by simp; omega)).trans (by simp [go_sem, hcA, hcB]); have hcB4 : w4.cell? ⟨w2.heap.size, 1, none⟩ = some (.int .i64 0) := (HB4.cell (by simp; omega)).trans (by simp [go_sem, hcA, hcB]); have hfA4 : w4.frozen? ⟨w2.heap.size, 0, none⟩ = false := (HB4.frozen (p := ⟨w2.heap.size, 0, none⟩) (by simp; omega)).trans (by simp [go_sem, hfA]); have hfB4 : w4.frozen? ⟨w2.heap.size, 1, none⟩ = false := (HB4.frozen (p := ⟨w2.heap.size, 1, none⟩) (by simp; omega)).trans (by simp [go_sem, hfB]); clear hcA hcB hfA hfB))
          go_ret2
          exact ⟨_, rfl, Kd.R_nil _ _ _ _ _, own_below_at HB.out ((K4.out.setCell (p := ⟨w2.heap.size, 0, none⟩) K2.out.size _).setCell (p := ⟨w2.heap.size, 1, none⟩) K2.out.size _)⟩
        · have G3 : ∀ W, Below W1.heap.size W1 W → Calls Try.prog 121 #[.slice (some ⟨w.heap.size, 0, none⟩) a0.size cap, .int .i64 (k + 4), .int .i64 n] W fun e w' => ∃ v0_ : Value, e = .returned (.tuple #[v0_, .int .i64 (k + 4 + n), .agg #[.int .i64 0, .int .i64 0]]) ∧ Kd.R (Kd.int .u8) 5 w' W.heap.size (fun _ => True) v0_ (((bytesOf a0).drop (k + 4)).take n.toNat) ∧ Below W.heap.size W w' := fun W hb => by
            have := octet_Bytes.calls 1 (some ⟨w.heap.size, 0, none⟩) cap (bytesOf a0) ((k : Int) + 4) n _ _ _ _ W (hC1 W hb) (by have := HCAP.out; have := HLN.out; omega) (bytes_ok 0 (by omega) hn0 (by have := HLN.out; omega) (by have := HLN.out; omega))
            rw [HLN.out, show ((k : Int) + 4).toNat = k + 4 by omega] at this
            exact this
          have h5' : (k : Int) + 4 + n ≤ a0.size := by have := HLN.out; omega
          have HT' := Aside0.mk hT'; clear hT' h5
          have HK' := Aside0.mk hk'; clear hk'
          go_wp2_with (first
            | (go_at_call 113; (with_reducible refine (G1 _ ?hb1).mono ?_); (case hb1 => exact HB1.out); rintro e w2 ⟨rfl, HB2⟩; have K2 := Aside0.mk HB2; clear HB2)
            | (go_at_call 113; (with_reducible refine (G2 _ ?hb2).mono ?_); (case hb2 => exact own_below_at HB1.out (below_alloc K2.out _)); rintro e w3 ⟨rfl, HB3⟩; have K3 := Aside0.mk (own_below_at (below_alloc K2.out _) HB3); have hcA : w3.cell? ⟨w2.heap.size, 0, none⟩ = some (.int .i64 0) := (HB3.cell (by simp)).trans (by simp); have hcB : w3.cell? ⟨w2.heap.size, 1, none⟩ = some (.int .i64 0) := (HB3.cell (by simp)).trans (by simp); have hfA : w3.frozen? ⟨w2.heap.size, 0, none⟩ = false := (HB3.frozen (p := ⟨w2.heap.size, 0, none⟩) (by simp)).trans (by simp); have hfB : w3.frozen? ⟨w2.heap.size, 1, none⟩ = false := (HB3.frozen (p := ⟨w2.heap.size, 1, none⟩) (by simp)).trans (by simp); have S3 := HB3.size; simp only [World.size_alloc] at S3; clear HB3; have K33 := fun x y => Aside0.mk ((K3.out.setCell (p := ⟨w2.heap.size, 0, none⟩) K2.out.size x).setCell (p := ⟨w2.heap.size, 1, none⟩) K2.out.size y))
            | (go_at_call 121; ((with_reducible refine (G3 _ ?hb3).mono ?_); (case hb3 => exact own_below_at HB1.out (K33 _ _).out); rintro e w4 ⟨vb, rfl, HD, HB4⟩; have K4 := Aside0.mk (own_below_at (K33 _ _).out HB4); have hcA4 : w4.cell? ⟨w2.heap.size, 0, none⟩ = some (.int .i64 0) := (HB4.cell (by simp; omega)).trans (by simp [go_sem, hcA, hcB]); have hcB4 : w4.cell? ⟨w2.heap.size, 1, none⟩ = some (.int .i64 0) := (HB4.cell (by simp; omega)).trans (by simp [go_sem, hcA, hcB]); have hfA4 : w4.frozen? ⟨w2.heap.size, 0, none⟩ = false := (HB4.frozen (p := ⟨w2.heap.size, 0, none⟩) (by simp; omega)).trans (by simp [go_sem, hfA]); have hfB4 : w4.frozen? ⟨w2.heap.size, 1, none⟩ = false := (HB4.frozen (p := ⟨w2.heap.size, 1, none⟩) (by simp; omega)).trans (by simp [go_sem, hfB]); clear hcA hcB hfA hfB; have K44 := fun x y => Aside0.mk ((K4.out.setCell (p := ⟨w2.heap.size, 0, none⟩) K2.out.size x).setCell (p := ⟨w2.heap.size, 1, none⟩) K2.out.size y); have hcv := fun x y => conv_row (R_far2 (g := w2.heap.size) (R_far2 HD (g := w2.heap.size) (by simp; omega) 0 x) (by simp; omega) 1 y); clear HD))
            | (at_builtin; (refine app_opt (w0 := w) (p := ⟨be (((bytesOf a0).drop k).take 2), strOfNums (((bytesOf a0).drop (k + 4)).take n.toNat)⟩) rfl _ _ rfl rfl (by simp [go_sem]) (Aside0.mk (Kd.R_below HO.out (K44 _ _).out)) (Aside0.mk (own_below_at HB.out (K44 _ _).out)) (fun q hq => Nat.le_trans (Nat.le_trans HB1.out.size (K44 (.int .i64 0) (.int .i64 0)).out.size) (by simpa using hq)) (by have := HAL.out; have := HLN.out; omega) ?_; intro v5 w5 HO5 HB5 HG5)))
          go_roundw
          case rel => exact ⟨k + 4 + n.toNat, k', acc ++ [⟨be (((bytesOf a0).drop k).take 2), strOfNums (((bytesOf a0).drop (k + 4)).take n.toNat)⟩], by omega, by rw [show ((k + 4 + n.toNat : Nat) : Int) = (k : Int) + 4 + n by omega], ⟨by have := HK'.out; have := HLN.out; omega⟩, HT', ⟨by have := HAL.out; simp; omega⟩, HO5, HB5, ⟨(own_below_at HB1.out (K44 _ _).out).grown HG5.out (Nat.le_trans HB1.out.size (K44 _ _).out.size) (fun q hq => HO.out.1 q hq)⟩⟩
          case measure => simp [intOf]; omega
    · obtain rfl : k = a0.size := by omega
      have hfin : optsL (bytesOf a0).length (bytesOf a0) = some acc := by
        rw [← HT.out, List.drop_of_length_le (by rw [HLEN.out]; omega), optsL_nil]; simp
      have HFIN := Aside0.mk hfin; clear hfin
      go_wp2_with fail
      go_ret2
      have hh := HR.out
      unfold optsOf at hh
      rw [HFIN.out] at hh
      simp only [Prod.mk.injEq] at hh
      obtain ⟨rfl, rfl⟩ := hh
      exact ⟨_, rfl, Kd.R_mono HO.out (fun _ _ => trivial), HB.out⟩
end Go.Proofs.Yteahdaddbmhfgaa.P
end
