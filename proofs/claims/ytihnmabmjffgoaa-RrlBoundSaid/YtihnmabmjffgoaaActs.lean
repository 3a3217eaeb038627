/- A list of answers (Act) that came in: what its cells hold; and whether it is long. -/
import Derived.Test.YtihnmabmjffgoaaOne
import Derived.Deep.Slices
import Derived.Deep.Strs
namespace Go.Proofs.Ytihnmabmjffgoaa
open Go.RowKit Go.Maps

structure Act where
  c : Int
  s : ByteArray
  n : Int
structure ActOk (a : Act) : Prop where
  key : KeyOk a.c a.s
  now : (Lit.int .i64 a.n).wf = true
/-- What the cells of a list hold. -/
structure ActsAt (w : World) (A : Option Addr) (l : List Act) : Prop where
  ok : ∀ a ∈ l, ActOk a
  few : l.length ≤ maxLen
  at_ : 0 < l.length → ∃ b off, A = some ⟨b, off, none⟩ ∧ b < w.heap.size ∧ ∀ i (h : i < l.length), w.cell? ⟨b, off + i * 3, none⟩ = some (.int .i64 l[i].c) ∧ w.cell? ⟨b, off + i * 3 + 1, none⟩ = some (.string l[i].s) ∧ w.cell? ⟨b, off + i * 3 + 2, none⟩ = some (.int .i64 l[i].n)
theorem ActsAt.below {w w' : World} {A : Option Addr} {l : List Act} (h : ActsAt w A l) {B : Nat} (hB : w.heap.size ≤ B) (hb : Below B w w') : ActsAt w' A l := by
  refine ⟨h.ok, h.few, fun hl => ?_⟩
  obtain ⟨b, off, e, hlt, hc⟩ := h.at_ hl
  refine ⟨b, off, e, Nat.lt_of_lt_of_le hlt hb.size, fun i hi => ?_⟩
  have hcell : ∀ j, w'.cell? ⟨b, j, none⟩ = w.cell? ⟨b, j, none⟩ := fun j => hb.cell (p := ⟨b, j, none⟩) (show b < B by omega)
  rw [hcell, hcell, hcell]
  exact hc i hi
def longB (l : List Act) : Bool := l.any (fun a => decide (300 < a.s.size)) || decide (200 < l.length)

set_option maxHeartbeats 1000000 in
theorem Long_calls (A : Option Addr) (cap : Nat) (l : List Act) (w : World) (h : ActsAt w A l) : Calls Try.prog 13 #[.slice A l.length cap] w fun e w' => e = .returned (.bool (longB l)) ∧ w' = w := by
  have hm := h.few
  unfold maxLen at hm
  have H := Lib.hid h; clear h
  go_enter Try.func13, Try.ntmps13
  go_wp2_with fail
  go_loop [3] (fun i => ∃ k : Nat, k ≤ l.length ∧ i = .int .i64 k ∧ (l.take k).any (fun a => decide (300 < a.s.size)) = false) (fun i => l.length - (intOf i).toNat)
  case atStart => exact ⟨0, Nat.zero_le _, rfl, rfl⟩
  case round =>
    obtain ⟨k, hk, rfl, hno⟩ := hrel
    by_cases hlt : k < l.length
    · obtain ⟨b, off, rfl, _, hc⟩ := H.out.at_ (by omega)
      obtain ⟨_, c1, _⟩ := hc k hlt
      have hs : l[k].s.size ≤ maxLen := (H.out.ok _ (List.getElem_mem hlt)).key.len
      unfold maxLen at hs
      have HNO := Lib.hid hno; clear hno hc
      by_cases hlong : 300 < l[k].s.size
      · have hfin : longB l = true := by
          unfold longB
          rw [Bool.or_eq_true, List.any_eq_true]
          exact .inl ⟨l[k], List.getElem_mem hlt, by simpa using hlong⟩
        have HF := Lib.hid hfin; clear hfin
        go_wp2_with fail
        go_ret
        exact ⟨by rw [HF.out]; rfl, rfl⟩
      · have hnext : (l.take (k + 1)).any (fun a => decide (300 < a.s.size)) = false := by
          rw [List.take_succ_eq_append_getElem hlt, List.any_append, HNO.out]
          simp; omega
        have HN := Lib.hid hnext; clear hnext
        go_wp2_with fail
        go_round
        case rel => exact ⟨k + 1, by omega, by go_num, HN.out⟩
        case measure => simp [intOf]; omega
    · obtain rfl : k = l.length := by omega
      have hfin : longB l = decide ((200 : Int) < (l.length : Int)) := by
        unfold longB
        rw [List.take_length] at hno
        rw [hno, Bool.false_or]
        exact decide_eq_decide.2 (by omega)
      have HF := Lib.hid hfin; clear hfin hno
      go_wp2_with fail
      go_ret
      refine ⟨?_, rfl⟩
      rw [HF.out]
      rfl
/-- A list that came in, opened. -/
theorem cells40 : Try.prog.cellsOf 40 = 3 := by kernel_rfl
theorem open_acts {H : Type} {enc : TypeId × Value → H} {w : World} {A : Option Addr} {n cap : Nat} {fuel : Nat} {x : DataW H × List MemPlace} (h : DataW.trod enc Try.prog w 0 (fun _ => true) true fuel 36 [.slice A n cap] = some x) :
    ∃ l : List Act, l.length = n ∧ ActsAt w A l := by
  rcases Go.Deep.open_slice Try.underlying36 h with ⟨hcs, _⟩ | ⟨a, len, cap', m, k, D, Pl, hcs, _, hl, hm, rfl, _, hel⟩
  · simp only [List.cons.injEq, Value.slice.injEq, and_true] at hcs
    obtain ⟨rfl, rfl, rfl⟩ := hcs
    exact ⟨[], rfl, ⟨fun a ha => (by cases ha), (by simp), fun h => absurd h (by simp)⟩⟩
  · simp only [List.cons.injEq, Value.slice.injEq, and_true] at hcs
    obtain ⟨rfl, rfl, rfl⟩ := hcs
    have he : ∀ i, i < n → ∃ e : Act, ActOk e ∧ w.cell? (a.add (i * 3)) = some (.int .i64 e.c) ∧ w.cell? ((a.add (i * 3)).add 1) = some (.string e.s) ∧ w.cell? ((a.add (i * 3)).add 2) = some (.int .i64 e.n) := fun i hi => by
      obtain ⟨cs, hc, ht⟩ := hel i (by first | omega | (simp; omega))
      rw [cells40] at hc
      obtain ⟨_, hlen, hget⟩ := World.cells?_some hc
      obtain ⟨y0, y1, y2, q, _, _, t0, t1, t2⟩ := Go.Deep.trod_struct3 Try.underlying40 ht
      match cs, hlen with
      | [v0, v1, v2], _ =>
        simp only [cells3, cells9] at t0 t1 t2
        obtain ⟨c, e0, _, w0⟩ := DataW.trod_int Try.underlying3 t0
        obtain ⟨s, e1, _, w1⟩ := DataW.trod_string Try.underlying9 t1
        obtain ⟨nn, e2, _, w2⟩ := DataW.trod_int Try.underlying3 t2
        simp at e0 e1 e2
        subst e0; subst e1; subst e2
        refine ⟨⟨c, s, nn⟩, ⟨⟨w0, w1⟩, w2⟩, ?_, hget 1 (by omega), hget 2 (by omega)⟩
        have := hget 0 (by omega)
        rw [show (a.add (i * 3)).add 0 = a.add (i * 3) from by simp [Addr.add]] at this
        exact this
    have : Inhabited Act := ⟨⟨0, ByteArray.empty, 0⟩⟩
    obtain ⟨f, hf⟩ := Go.Deep.choose_lt he
    refine ⟨(List.range n).map f, by simp, ⟨fun e he' => ?_, by simp; omega, fun hn => ?_⟩⟩
    · obtain ⟨i, hi, rfl⟩ := List.mem_map.1 he'
      exact (hf i (List.mem_range.1 hi)).1
    · have hn' : 0 < n := by simpa using hn
      obtain ⟨b, off, sp⟩ := a
      have hsp : sp = none := by
        obtain ⟨_, h1, _⟩ := hf 0 hn'
        cases sp with
        | none => rfl
        | some z =>
          unfold World.cell? Addr.add at h1
          split at h1
          · simp at h1
          · cases h1
      subst hsp
      have hadd : ∀ j, (⟨b, off, none⟩ : Addr).add j = ⟨b, off + j, none⟩ := fun j => by unfold Addr.add; split <;> simp_all
      refine ⟨b, off, rfl, ?_, fun i hi => ?_⟩
      · obtain ⟨_, h1, _⟩ := hf 0 hn'
        have := World.block_lt_of_cell? w _ h1
        rw [hadd] at this
        exact this
      · have hi' : i < n := by simpa using hi
        obtain ⟨_, h1, h2, h3⟩ := hf i hi'
        have hadd2 : ∀ j k, (⟨b, j, none⟩ : Addr).add k = ⟨b, j + k, none⟩ := fun j k => by unfold Addr.add; split <;> simp_all
        rw [hadd] at h1 h2 h3
        rw [hadd2] at h2 h3
        simp only [List.getElem_map, List.getElem_range]
        exact ⟨h1, h2, h3⟩
end Go.Proofs.Ytihnmabmjffgoaa
