import Derived.Test.YteahdaddbmhfgaaQPuts1
import Derived.Test.YteahdaddbmhfgaaQPuts2
import Derived.Test.YteahdaddbmhfgaaQPuts3
import Derived.Test.YteahdaddbmhfgaaQPuts4
import Derived.Test.YteahdaddbmhfgaaQPuts5
import Derived.Test.YteahdaddbmhfgaaRows
import Derived.WalkKit
import Derived.WalkSpells
import Derived.WalkLawsBesides
import Derived.Below
import Derived.Lib.Hide
import Derived.Deep.Slices
import Derived.Deep.Strs
section
namespace Go.Proofs.Yteahdaddbmhfgaa.P
open Go.RowKit Go.Deep
open Go.Proofs.YteahdaddbmhfgaaW.PrintWords
set_option linter.unusedVariables false
structure RowAt {α : Type} (k : Nat) (cells : α → List Value) (w : World) (A : Option Addr) (l : List α) : Prop where
  few : l.length ≤ maxLen
  at_ : 0 < l.length → ∃ b off, A = some ⟨b, off, none⟩ ∧ b < w.heap.size ∧ ∀ i (h : i < l.length) j v, (cells l[i])[j]? = some v → w.cell? ⟨b, off + i * k + j, none⟩ = some v
theorem RowAt.below {α : Type} {k : Nat} {cells : α → List Value} {w w' : World} {A : Option Addr} {l : List α} (h : RowAt k cells w A l) {B : Nat} (hB : w.heap.size ≤ B) (hb : Below B w w') : RowAt k cells w' A l := by
  refine ⟨h.few, fun hl => ?_⟩
  obtain ⟨b, off, e, hlt, hc⟩ := h.at_ hl
  refine ⟨b, off, e, Nat.lt_of_lt_of_le hlt hb.size, fun i hi j v hv => ?_⟩
  rw [hb.cell (p := ⟨b, off + i * k + j, none⟩) (show b < B by omega)]
  exact hc i hi j v hv
theorem open_row {α : Type} {H : Type} {enc : TypeId × Value → H} {P : Program} {w : World} {t e : TypeId} {k : Nat} {cells : α → List Value} {A : Option Addr} {n cap : Nat} {fuel : Nat} {x : DataW H × List MemPlace}
    (ok : α → Prop) (d : α) (ht : P.underlying t = some (.slice e)) (hk : P.cellsOf e = k) (hk0 : 0 < k) (hel : ∀ n cs y, DataW.trod enc P w 0 (fun _ => true) true n e cs = some y → ∃ a, ok a ∧ cs = cells a) (hlen : ∀ a, (cells a).length = k)
    (h : DataW.trod enc P w 0 (fun _ => true) true fuel t [.slice A n cap] = some x) : ∃ l : List α, l.length = n ∧ n ≤ cap ∧ cap ≤ maxLen ∧ (∀ a ∈ l, ok a) ∧ RowAt k cells w A l := by
  rcases open_slice ht h with ⟨hcs, _⟩ | ⟨a, len, cap', m, n', D, Pl, hcs, _, hl, hm, rfl, _, hget⟩
  · simp only [List.cons.injEq, Value.slice.injEq, and_true] at hcs
    obtain ⟨rfl, rfl, rfl⟩ := hcs
    exact ⟨[], rfl, Nat.le_refl _, Nat.zero_le _, fun a ha => (by cases ha), ⟨Nat.zero_le _, fun h => absurd h (by simp)⟩⟩
  · simp only [List.cons.injEq, Value.slice.injEq, and_true] at hcs
    obtain ⟨rfl, rfl, rfl⟩ := hcs
    have he : ∀ i, i < n → ∃ c : α, ok c ∧ ∀ j v, (cells c)[j]? = some v → w.cell? ((a.add (i * k)).add j) = some v := fun i hi => by
      obtain ⟨cs, hc, htr⟩ := hget i (by first | omega | (simp; omega))
      rw [hk] at hc
      obtain ⟨_, hcl, hg⟩ := World.cells?_some hc
      obtain ⟨c, hok, rfl⟩ := hel _ _ _ htr
      refine ⟨c, hok, fun j v hv => ?_⟩
      have hj : j < k := by
        rw [← hlen c]
        exact (List.getElem?_eq_some_iff.1 hv).1
      rw [hg j hj]; exact hv
    have : Inhabited α := ⟨d⟩
    obtain ⟨f, hf⟩ := choose_lt he
    refine ⟨(List.range n).map f, by simp, hl, hm, fun c hc => ?_, by simp; omega, fun hn => ?_⟩
    · obtain ⟨i, hi, rfl⟩ := List.mem_map.1 hc
      exact (hf i (List.mem_range.1 hi)).1
    · have hn' : 0 < n := by simpa using hn
      have hfirst : ∃ v, w.cell? a = some v := by
        have hl0 : 0 < (cells (f 0)).length := by rw [hlen]; exact hk0
        have h1 := (hf 0 hn').2 0 _ (List.getElem?_eq_getElem hl0)
        rw [Nat.zero_mul, show (a.add 0).add 0 = a from by simp [Addr.add]] at h1
        exact ⟨_, h1⟩
      obtain ⟨b, off, sp⟩ := a
      have hsp : sp = none := by
        obtain ⟨v, h1⟩ := hfirst
        cases sp with
        | none => rfl
        | some z =>
          unfold World.cell? at h1
          split at h1
          · simp at h1
          · cases h1
      subst hsp
      have hadd : ∀ i j, (⟨b, i, none⟩ : Addr).add j = ⟨b, i + j, none⟩ := fun i j => by unfold Addr.add; split <;> simp_all
      refine ⟨b, off, rfl, ?_, fun i hi j v hv => ?_⟩
      · obtain ⟨v, h1⟩ := hfirst
        exact World.block_lt_of_cell? w _ h1
      · have hi' : i < n := by simpa using hi
        simp only [List.getElem_map, List.getElem_range] at hv
        have := (hf i hi').2 j v hv
        rw [hadd, hadd] at this
        exact this
def recCells (r : S48) : List Value := [.string r.f0, .int .i64 r.f1, .int .i64 r.f2, .int .i64 r.f3, .string r.f4]
def questCells (r : S79) : List Value := [.string r.f0, .int .i64 r.f1, .int .i64 r.f2]
def optCells (r : S82) : List Value := [.int .i64 r.f0, .string r.f1]
theorem cells3 : Try.prog.cellsOf 3 = 1 := by kernel_rfl
theorem cells9 : Try.prog.cellsOf 9 = 1 := by kernel_rfl
theorem cells48 : Try.prog.cellsOf 48 = 5 := by kernel_rfl
theorem cells79 : Try.prog.cellsOf 79 = 3 := by kernel_rfl
theorem cells82 : Try.prog.cellsOf 82 = 2 := by kernel_rfl
structure RecOk (r : S48) : Prop where
  name : r.f0.size ≤ maxLen
  type : (Lit.int .i64 r.f1).wf = true
  cls : (Lit.int .i64 r.f2).wf = true
  ttl : (Lit.int .i64 r.f3).wf = true
  data : r.f4.size ≤ maxLen
structure QuestOk (r : S79) : Prop where
  name : r.f0.size ≤ maxLen
  type : (Lit.int .i64 r.f1).wf = true
  cls : (Lit.int .i64 r.f2).wf = true
structure OptOk (r : S82) : Prop where
  code : (Lit.int .i64 r.f0).wf = true
  data : r.f1.size ≤ maxLen
theorem list2 {α : Type} {l : List α} (h : l.length = 2) : ∃ a b, l = [a, b] := by
  match l, h with
  | [a, b], _ => exact ⟨a, b, rfl⟩
theorem list3 {α : Type} {l : List α} (h : l.length = 3) : ∃ a b c, l = [a, b, c] := by
  match l, h with
  | [a, b, c], _ => exact ⟨a, b, c, rfl⟩
theorem list5 {α : Type} {l : List α} (h : l.length = 5) : ∃ a b c d e, l = [a, b, c, d, e] := by
  match l, h with
  | [a, b, c, d, e], _ => exact ⟨a, b, c, d, e, rfl⟩
section
variable {H : Type} {enc : TypeId × Value → H} {w : World}
theorem open_rec {n : Nat} {cs : List Value} {y : DataW H × List MemPlace} (h : DataW.trod enc Try.prog w 0 (fun _ => true) true n 48 cs = some y) : ∃ r : S48, RecOk r ∧ cs = recCells r := by
  obtain ⟨xs, m, _, rfl, hl, hlen, hf⟩ := DataW.trod_struct Try.underlying48 h
  rw [cells48] at hl
  obtain ⟨v0, v1, v2, v3, v4, rfl⟩ := list5 hl
  obtain ⟨y0, y1, y2, y3, y4, rfl⟩ := list5 hlen
  have t0 := hf 0 _ rfl
  have t1 := hf 1 _ rfl
  have t2 := hf 2 _ rfl
  have t3 := hf 3 _ rfl
  have t4 := hf 4 _ rfl
  simp [cells3, cells9] at t0 t1 t2 t3 t4
  obtain ⟨s, e0, _, w0⟩ := DataW.trod_string Try.underlying9 t0
  obtain ⟨c1, e1, _, w1⟩ := DataW.trod_int Try.underlying3 t1
  obtain ⟨c2, e2, _, w2⟩ := DataW.trod_int Try.underlying3 t2
  obtain ⟨c3, e3, _, w3⟩ := DataW.trod_int Try.underlying3 t3
  obtain ⟨d, e4, _, w4⟩ := DataW.trod_string Try.underlying9 t4
  simp at e0 e1 e2 e3 e4
  subst e0; subst e1; subst e2; subst e3; subst e4
  exact ⟨⟨s, c1, c2, c3, d⟩, ⟨w0, w1, w2, w3, w4⟩, rfl⟩
theorem open_quest {n : Nat} {cs : List Value} {y : DataW H × List MemPlace} (h : DataW.trod enc Try.prog w 0 (fun _ => true) true n 79 cs = some y) : ∃ r : S79, QuestOk r ∧ cs = questCells r := by
  obtain ⟨xs, m, _, rfl, hl, hlen, hf⟩ := DataW.trod_struct Try.underlying79 h
  rw [cells79] at hl
  obtain ⟨v0, v1, v2, rfl⟩ := list3 hl
  obtain ⟨y0, y1, y2, rfl⟩ := list3 hlen
  have t0 := hf 0 _ rfl
  have t1 := hf 1 _ rfl
  have t2 := hf 2 _ rfl
  simp [cells3, cells9] at t0 t1 t2
  obtain ⟨s, e0, _, w0⟩ := DataW.trod_string Try.underlying9 t0
  obtain ⟨c1, e1, _, w1⟩ := DataW.trod_int Try.underlying3 t1
  obtain ⟨c2, e2, _, w2⟩ := DataW.trod_int Try.underlying3 t2
  simp at e0 e1 e2
  subst e0; subst e1; subst e2
  exact ⟨⟨s, c1, c2⟩, ⟨w0, w1, w2⟩, rfl⟩
theorem open_opt {n : Nat} {cs : List Value} {y : DataW H × List MemPlace} (h : DataW.trod enc Try.prog w 0 (fun _ => true) true n 82 cs = some y) : ∃ r : S82, OptOk r ∧ cs = optCells r := by
  obtain ⟨xs, m, _, rfl, hl, hlen, hf⟩ := DataW.trod_struct Try.underlying82 h
  rw [cells82] at hl
  obtain ⟨v0, v1, rfl⟩ := list2 hl
  obtain ⟨y0, y1, rfl⟩ := list2 hlen
  have t0 := hf 0 _ rfl
  have t1 := hf 1 _ rfl
  simp [cells3, cells9] at t0 t1
  obtain ⟨c1, e1, _, w1⟩ := DataW.trod_int Try.underlying3 t0
  obtain ⟨s, e0, _, w0⟩ := DataW.trod_string Try.underlying9 t1
  simp at e0 e1
  subst e0; subst e1
  exact ⟨⟨c1, s⟩, ⟨w1, w0⟩, rfl⟩
def RecsAt (w : World) (A : Option Addr) (l : List S48) : Prop := RowAt 5 recCells w A l
def QuestsAt (w : World) (A : Option Addr) (l : List S79) : Prop := RowAt 3 questCells w A l
def OptsAt (w : World) (A : Option Addr) (l : List S82) : Prop := RowAt 2 optCells w A l
theorem open_recs {A : Option Addr} {n cap fuel : Nat} {x : DataW H × List MemPlace} (h : DataW.trod enc Try.prog w 0 (fun _ => true) true fuel 23 [.slice A n cap] = some x) : ∃ l : List S48, l.length = n ∧ n ≤ cap ∧ cap ≤ maxLen ∧ (∀ a ∈ l, RecOk a) ∧ RecsAt w A l :=
  open_row RecOk ⟨ByteArray.empty, 0, 0, 0, ByteArray.empty⟩ Try.underlying23 cells48 (by decide) (fun _ _ _ h => open_rec h) (fun _ => rfl) h
theorem open_quests {A : Option Addr} {n cap fuel : Nat} {x : DataW H × List MemPlace} (h : DataW.trod enc Try.prog w 0 (fun _ => true) true fuel 22 [.slice A n cap] = some x) : ∃ l : List S79, l.length = n ∧ n ≤ cap ∧ cap ≤ maxLen ∧ (∀ a ∈ l, QuestOk a) ∧ QuestsAt w A l :=
  open_row QuestOk ⟨ByteArray.empty, 0, 0⟩ Try.underlying22 cells79 (by decide) (fun _ _ _ h => open_quest h) (fun _ => rfl) h
theorem open_opts {A : Option Addr} {n cap fuel : Nat} {x : DataW H × List MemPlace} (h : DataW.trod enc Try.prog w 0 (fun _ => true) true fuel 26 [.slice A n cap] = some x) : ∃ l : List S82, l.length = n ∧ n ≤ cap ∧ cap ≤ maxLen ∧ (∀ a ∈ l, OptOk a) ∧ OptsAt w A l :=
  open_row OptOk ⟨0, ByteArray.empty⟩ Try.underlying26 cells82 (by decide) (fun _ _ _ h => open_opt h) (fun _ => rfl) h
end
theorem row_small {H : Type} {enc : TypeId × Value → H} {P : Program} {w : World} {t e : TypeId} {A : Option Addr} {n cap fuel : Nat} {x : DataW H × List MemPlace} (ht : P.underlying t = some (.slice e)) {B : Nat} (hB : P.bytesOf e = B)
    (h : DataW.trod enc P w 0 (fun _ => true) true fuel t [.slice A n cap] = some x) (hw : (x.1.weights P t).all (· ≤ reachBytes) = true) : cap * B ≤ reachBytes ∨ A = none ∧ cap = 0 := by
  rcases open_slice ht h with ⟨hcs, _⟩ | ⟨a, len, cap', m, n', D, Pl, hcs, _, hl, hm, rfl, rfl, _⟩
  · right
    simp only [List.cons.injEq, Value.slice.injEq, and_true] at hcs
    exact ⟨hcs.1, hcs.2.2⟩
  · left
    simp only [List.cons.injEq, Value.slice.injEq, and_true] at hcs
    obtain ⟨rfl, rfl, rfl⟩ := hcs
    simp only [DataW.weights, ht, List.all_cons, Bool.and_eq_true, decide_eq_true_eq, List.length_map, List.length_range, hB] at hw
    have := hw.1
    rwa [show n + (cap - n) = cap by omega] at this
theorem bytes48 : Try.prog.bytesOf 48 = 56 := by kernel_rfl
theorem bytes79 : Try.prog.bytesOf 79 = 32 := by kernel_rfl
theorem bytes82 : Try.prog.bytesOf 82 = 24 := by kernel_rfl
def ListAt {α : Type} (ok : α → Prop) (k : Nat) (cells : α → List Value) (w : World) (v : Value) (l : List α) : Prop :=
  ∃ A cap, v = .slice A l.length cap ∧ l.length ≤ cap ∧ cap ≤ 8796093022208 ∧ (∀ a ∈ l, ok a) ∧ RowAt k cells w A l
theorem ListAt.below {α : Type} {ok : α → Prop} {k : Nat} {cells : α → List Value} {w w' : World} {v : Value} {l : List α} (h : ListAt ok k cells w v l) {B : Nat} (hB : w.heap.size ≤ B) (hb : Below B w w') : ListAt ok k cells w' v l := by
  obtain ⟨A, cap, h1, h2, h3, h4, h5⟩ := h
  exact ⟨A, cap, h1, h2, h3, h4, h5.below hB hb⟩
section
variable {H : Type} {enc : TypeId × Value → H} {P : Program} {w : World}
theorem slice_shape {t e : TypeId} {v : Value} {fuel : Nat} {x : DataW H × List MemPlace} (ht : P.underlying t = some (.slice e)) (h : DataW.trod enc P w 0 (fun _ => true) true fuel t [v] = some x) : ∃ A n cap, v = .slice A n cap := by
  rcases open_slice ht h with ⟨hcs, _⟩ | ⟨a, len, cap', _, _, _, _, hcs, _⟩
  · exact ⟨_, _, _, by simpa using hcs⟩
  · exact ⟨_, _, _, by simpa using hcs⟩
theorem list_recs {v : Value} {fuel : Nat} {x : DataW H × List MemPlace} (h : DataW.trod enc Try.prog w 0 (fun _ => true) true fuel 23 [v] = some x) (hw : (x.1.weights Try.prog 23).all (· ≤ reachBytes) = true) : ∃ l, ListAt RecOk 5 recCells w v l := by
  obtain ⟨A, n, cap, rfl⟩ := slice_shape Try.underlying23 h
  have hs := row_small Try.underlying23 bytes48 h hw
  obtain ⟨l, rfl, h2, _, h4, h5⟩ := open_recs h
  exact ⟨l, A, cap, rfl, h2, by unfold reachBytes at hs; omega, h4, h5⟩
theorem list_quests {v : Value} {fuel : Nat} {x : DataW H × List MemPlace} (h : DataW.trod enc Try.prog w 0 (fun _ => true) true fuel 22 [v] = some x) (hw : (x.1.weights Try.prog 22).all (· ≤ reachBytes) = true) : ∃ l, ListAt QuestOk 3 questCells w v l := by
  obtain ⟨A, n, cap, rfl⟩ := slice_shape Try.underlying22 h
  have hs := row_small Try.underlying22 bytes79 h hw
  obtain ⟨l, rfl, h2, _, h4, h5⟩ := open_quests h
  exact ⟨l, A, cap, rfl, h2, by unfold reachBytes at hs; omega, h4, h5⟩
theorem list_opts {v : Value} {fuel : Nat} {x : DataW H × List MemPlace} (h : DataW.trod enc Try.prog w 0 (fun _ => true) true fuel 26 [v] = some x) (hw : (x.1.weights Try.prog 26).all (· ≤ reachBytes) = true) : ∃ l, ListAt OptOk 2 optCells w v l := by
  obtain ⟨A, n, cap, rfl⟩ := slice_shape Try.underlying26 h
  have hs := row_small Try.underlying26 bytes82 h hw
  obtain ⟨l, rfl, h2, _, h4, h5⟩ := open_opts h
  exact ⟨l, A, cap, rfl, h2, by unfold reachBytes at hs; omega, h4, h5⟩
end
structure Msg where
  id : Int
  flags : Int
  q : List S79
  an : List S48
  ns : List S48
  ar : List S48
structure MsgAt (w : World) (cs : List Value) (m : Msg) : Prop where
  shape : ∃ vq va vn vr, cs = [.int .i64 m.id, .int .i64 m.flags, vq, va, vn, vr] ∧ ListAt QuestOk 3 questCells w vq m.q ∧ ListAt RecOk 5 recCells w va m.an ∧ ListAt RecOk 5 recCells w vn m.ns ∧ ListAt RecOk 5 recCells w vr m.ar
  id : (Lit.int .i64 m.id).wf = true
  flags : (Lit.int .i64 m.flags).wf = true
theorem MsgAt.below {w w' : World} {cs : List Value} {m : Msg} (h : MsgAt w cs m) {B : Nat} (hB : w.heap.size ≤ B) (hb : Below B w w') : MsgAt w' cs m := by
  obtain ⟨⟨vq, va, vn, vr, e, h1, h2, h3, h4⟩, h5, h6⟩ := h
  exact ⟨⟨vq, va, vn, vr, e, h1.below hB hb, h2.below hB hb, h3.below hB hb, h4.below hB hb⟩, h5, h6⟩
theorem cells22 : Try.prog.cellsOf 22 = 1 := by kernel_rfl
theorem cells23 : Try.prog.cellsOf 23 = 1 := by kernel_rfl
theorem cells25 : Try.prog.cellsOf 25 = 6 := by kernel_rfl
theorem list6 {α : Type} {l : List α} (h : l.length = 6) : ∃ a b c d e f, l = [a, b, c, d, e, f] := by
  match l, h with
  | [a, b, c, d, e, f], _ => exact ⟨a, b, c, d, e, f, rfl⟩
theorem open_msg {H : Type} {enc : TypeId × Value → H} {w : World} {n : Nat} {cs : List Value} {y : DataW H × List MemPlace} (h : DataW.trod enc Try.prog w 0 (fun _ => true) true n 25 cs = some y) (hw : (y.1.weights Try.prog 25).all (· ≤ reachBytes) = true) : ∃ m, MsgAt w cs m := by
  obtain ⟨xs, m, _, rfl, hl, hlen, hf⟩ := DataW.trod_struct Try.underlying25 h
  rw [cells25] at hl
  obtain ⟨v0, v1, v2, v3, v4, v5, rfl⟩ := list6 hl
  obtain ⟨y0, y1, y2, y3, y4, y5, rfl⟩ := list6 hlen
  have t0 := hf 0 _ rfl
  have t1 := hf 1 _ rfl
  have t2 := hf 2 _ rfl
  have t3 := hf 3 _ rfl
  have t4 := hf 4 _ rfl
  have t5 := hf 5 _ rfl
  simp only [DataW.weights, Try.underlying25, List.map_cons, List.map_nil, DataW.weightsEach, List.all_append, Bool.and_eq_true] at hw
  obtain ⟨_, _, z2, z3, z4, z5, _⟩ := hw
  simp [cells3, cells22, cells23] at t0 t1 t2 t3 t4 t5
  obtain ⟨i, e0, _, w0⟩ := DataW.trod_int Try.underlying3 t0
  obtain ⟨f, e1, _, w1⟩ := DataW.trod_int Try.underlying3 t1
  obtain ⟨q, hq⟩ := list_quests t2 z2
  obtain ⟨an, ha⟩ := list_recs t3 z3
  obtain ⟨ns, hn⟩ := list_recs t4 z4
  obtain ⟨ar, hr⟩ := list_recs t5 z5
  simp at e0 e1
  subst e0; subst e1
  exact ⟨⟨i, f, q, an, ns, ar⟩, ⟨v2, v3, v4, v5, rfl, hq, ha, hn, hr⟩, w0, w1⟩
theorem RowAt.toC {α : Type} {d : Kd α} {cells : α → List Value} {w : World} {A : Option Addr} {l : List α} (h : RowAt d.sz cells w A l) (hlen : ∀ a, (cells a).length = d.sz) (hK : ∀ a, d.K w a (cells a)) : Kd.C d w A l.length l := by
  refine ⟨rfl, by have := h.few; unfold maxLen at this; omega, fun hn => ?_⟩
  obtain ⟨b, off, e, _, hc⟩ := h.at_ hn
  refine ⟨⟨b, off, none⟩, e, fun j p hj => ?_⟩
  obtain ⟨hlt, rfl⟩ := List.getElem?_eq_some_iff.1 hj
  refine ⟨cells l[j], hlen _, hK _, fun i u hu => ?_⟩
  have := hc j hlt i u hu
  have hadd : ∀ i j, (⟨b, i, none⟩ : Addr).add j = ⟨b, i + j, none⟩ := fun i j => by unfold Addr.add; split <;> simp_all
  rw [hadd, ← Nat.add_assoc]
  exact this
theorem recs_C {w : World} {A : Option Addr} {l : List S48} (h : RowAt 5 recCells w A l) : Kd.C k48 w A l.length l := RowAt.toC (d := k48) h (fun _ => rfl) (fun a => k48_mk w a)
theorem quests_C {w : World} {A : Option Addr} {l : List S79} (h : RowAt 3 questCells w A l) : Kd.C k79 w A l.length l := RowAt.toC (d := k79) h (fun _ => rfl) (fun a => k79_mk w a)
theorem opts_C {w : World} {A : Option Addr} {l : List S82} (h : RowAt 2 optCells w A l) : Kd.C k82 w A l.length l := RowAt.toC (d := k82) h (fun _ => rfl) (fun a => k82_mk w a)
end Go.Proofs.Yteahdaddbmhfgaa.P
end
section
namespace Go.Proofs.Yteahdaddbmhfgaa.P
open Go.RowKit Go.ChangeShapes Go.WideShapes
set_option linter.unusedVariables false
theorem cells26 : Try.prog.cellsOf 26 = 1 := by kernel_rfl
theorem cells28 : Try.prog.cellsOf 28 = 5 := by kernel_rfl
theorem cells4 : Try.prog.cellsOf 4 = 1 := by kernel_rfl
theorem open_edns {H : Type} {enc : TypeId × Value → H} {w : World} {n : Nat} {cs : List Value} {y : DataW H × List MemPlace} (h : DataW.trod enc Try.prog w 0 (fun _ => true) true n 28 cs = some y) (hw : (y.1.weights Try.prog 28).all (· ≤ reachBytes) = true) :
    ∃ (e1 e2 e3 : Int) (e4 : Bool) (vo : Value) (eo : List S82), cs = [.int .i64 e1, .int .i64 e2, .int .i64 e3, .bool e4, vo] ∧ ListAt OptOk 2 optCells w vo eo := by
  obtain ⟨xs, m, _, rfl, hl, hlen, hf⟩ := DataW.trod_struct Try.underlying28 h
  rw [cells28] at hl
  obtain ⟨v0, v1, v2, v3, v4, rfl⟩ := list5 hl
  obtain ⟨y0, y1, y2, y3, y4, rfl⟩ := list5 hlen
  have t0 := hf 0 _ rfl
  have t1 := hf 1 _ rfl
  have t2 := hf 2 _ rfl
  have t3 := hf 3 _ rfl
  have t4 := hf 4 _ rfl
  simp only [DataW.weights, Try.underlying28, List.map_cons, List.map_nil, DataW.weightsEach, List.all_append, Bool.and_eq_true] at hw
  obtain ⟨_, _, _, _, z4, _⟩ := hw
  simp [cells3, cells26, cells4] at t0 t1 t2 t3 t4
  obtain ⟨i, e0, _, w0⟩ := DataW.trod_int Try.underlying3 t0
  obtain ⟨f, e1, _, w1⟩ := DataW.trod_int Try.underlying3 t1
  obtain ⟨g, e2, _, w2⟩ := DataW.trod_int Try.underlying3 t2
  obtain ⟨b, e3, _⟩ := DataW.trod_bool Try.underlying4 t3
  obtain ⟨l, hq⟩ := list_opts t4 z4
  simp at e0 e1 e2 e3
  subst e0; subst e1; subst e2; subst e3
  exact ⟨_, _, _, _, _, l, rfl, hq⟩
end Go.Proofs.Yteahdaddbmhfgaa.P
end
