/- RrlBound: what memory holds while the answers are judged. -/
import Derived.Test.YtihnmabmjffgoaaBoundP
import Derived.Test.YtihnmabmjffgoaaKnown
import Derived.Laws.MakeOwn
import Derived.Deep.RegionHeld3
namespace Go.Proofs.Ytihnmabmjffgoaa
open Go.RowKit Go.Maps

def noAct : Act := ⟨0, ByteArray.empty, 0⟩
def act (l : List Act) (k : Nat) : Act := l.getD k noAct
theorem act_get {l : List Act} {k : Nat} (h : k < l.length) : l[k] = act l k := by unfold act; rw [List.getD_eq_getElem?_getD, List.getElem?_eq_getElem h]; rfl
def runX (x0 : Lim) (l : List Act) : Nat → Lim
  | 0 => x0
  | k + 1 => (judgeA (runX x0 l k) (act l k).c (act l k).s (act l k).n).2
def saidAt (x0 : Lim) (l : List Act) (k : Nat) : Int := (judgeA (runX x0 l k) (act l k).c (act l k).s (act l k).n).1
structure RanAt (x0 : Lim) (l : List Act) (j : Nat) : Prop where
  good : Good (runX x0 l j)
  now : (runX x0 l j).now ≤ (act l j).n
  t0 : 0 ≤ (act l j).n
  t1 : (act l j).n ≤ 1073741824
  up : 0 < j → (act l (j - 1)).n ≤ (act l j).n
def Ran (x0 : Lim) (l : List Act) (k : Nat) : Prop := ∀ j, j < k → RanAt x0 l j
theorem ran_same {x0 : Lim} {l : List Act} : ∀ {k : Nat}, Ran x0 l k → (runX x0 l k).most = x0.most ∧ (runX x0 l k).limit = x0.limit ∧ (runX x0 l k).window = x0.window ∧ (runX x0 l k).slip = x0.slip
  | 0, _ => ⟨rfl, rfl, rfl, rfl⟩
  | k + 1, h => by
    obtain ⟨h1, h2, h3, h4⟩ := ran_same (k := k) (fun j hj => h j (by omega))
    obtain ⟨e1, e2, e3, e4, _⟩ := judgeA_same (c := (act l k).c) (s := (act l k).s) (h k (by omega)).now
    exact ⟨e1.trans h1, e2.trans h2, e3.trans h3, e4.trans h4⟩
theorem ran_now {x0 : Lim} {l : List Act} {k : Nat} (h : Ran x0 l k) (h0 : x0.now = 0) (ht : 0 ≤ (act l k).n) (hu : 0 < k → (act l (k - 1)).n ≤ (act l k).n) : (runX x0 l k).now ≤ (act l k).n := by
  cases k with
  | zero => show x0.now ≤ _; omega
  | succ j =>
    obtain ⟨_, _, _, _, e⟩ := judgeA_same (c := (act l j).c) (s := (act l j).s) (h j (by omega)).now
    have := hu (by omega)
    rw [Nat.add_sub_cancel] at this
    exact Int.le_trans e this
theorem ran_up {x0 : Lim} {l : List Act} {n : Nat} (h : Ran x0 l n) : ∀ {i k : Nat}, i ≤ k → k < n → (act l i).n ≤ (act l k).n := by
  intro i k hik hk
  induction k with
  | zero => obtain rfl : i = 0 := by omega
            exact Int.le_refl _
  | succ k ih =>
    by_cases e : i = k + 1
    · rw [e]; exact Int.le_refl _
    · have h1 := ih (by omega) (by omega)
      have h2 := (h (k + 1) hk).up (by omega)
      rw [Nat.add_sub_cancel] at h2
      exact Int.le_trans h1 h2
theorem said_range (x0 : Lim) (l : List Act) {k : Nat} (h : Ran x0 l k) : saidAt x0 l k = 0 ∨ saidAt x0 l k = 2 ∨ (saidAt x0 l k = 1 ∧ 0 < x0.slip) := by
  have := judgeA_range (x := runX x0 l k) (c := (act l k).c) (s := (act l k).s) (t := (act l k).n)
  rw [(ran_same h).2.2.2] at this
  exact this

/-- The row of what was said. -/
def SaidRow (w : World) (bs : Nat) (x0 : Lim) (l : List Act) (k : Nat) : Prop :=
  ∃ cur : Array Value, w.heap[bs]? = some (.cells cur 3 (0, 0)) ∧ cur.size = l.length ∧ ∀ j, j < k → cur[j]? = some (.int .i64 (saidAt x0 l j))
theorem SaidRow.cell {w : World} {bs : Nat} {x0 : Lim} {l : List Act} {k : Nat} (h : SaidRow w bs x0 l k) {j : Nat} (hj : j < k) : w.cell? ⟨bs, j, none⟩ = some (.int .i64 (saidAt x0 l j)) := by
  obtain ⟨cur, h1, _, h3⟩ := h
  rw [blk_cell h1]; exact h3 j hj
theorem SaidRow.room {w : World} {bs : Nat} {x0 : Lim} {l : List Act} {k : Nat} (h : SaidRow w bs x0 l k) {j : Nat} (hj : j < l.length) : (∃ v, w.cell? ⟨bs, j, none⟩ = some v) ∧ w.frozen? ⟨bs, j, none⟩ = false := by
  obtain ⟨cur, h1, h2, _⟩ := h
  refine ⟨⟨cur[j]'(by omega), ?_⟩, blk_frozen h1 _⟩
  rw [blk_cell h1]; exact Array.getElem?_eq_getElem (by omega)
theorem SaidRow.of {w w' : World} {bs : Nat} {x0 : Lim} {l : List Act} {k : Nat} (h : SaidRow w bs x0 l k) (hw : w'.heap[bs]? = w.heap[bs]?) : SaidRow w' bs x0 l k := by
  obtain ⟨cur, h1, h2, h3⟩ := h
  exact ⟨cur, hw.trans h1, h2, h3⟩
theorem SaidRow.store {w : World} {bs : Nat} {x0 : Lim} {l : List Act} {k : Nat} (h : SaidRow w bs x0 l k) (hk : k < l.length) : SaidRow (w.setCell ⟨bs, k, none⟩ (.int .i64 (saidAt x0 l k))) bs x0 l (k + 1) := by
  obtain ⟨cur, h1, h2, h3⟩ := h
  refine ⟨_, blk_set h1 k _, by simpa using h2, fun j hj => ?_⟩
  rw [Array.getElem?_setIfInBounds]
  by_cases e : k = j
  · subst e
    rw [if_pos rfl, if_pos (by omega)]
  · rw [if_neg e]
    exact h3 j (by omega)
structure BInv (w : World) (g bs : Nat) (x0 : Lim) (l : List Act) (k : Nat) (wr : World) : Prop where
  lim : LimInv w (fun j => j = bs) g (runX x0 l k) wr
  said : SaidRow wr bs x0 l k
  ran : Ran x0 l k
  above : w.heap.size ≤ bs
theorem BInv.drewN {w wr : World} {g bs : Nat} {x0 : Lim} {l : List Act} {k : Nat} (h : BInv w g bs x0 l k wr) (n : Nat) : BInv w g bs x0 l k (wr.drewN n) := ⟨h.lim.drewN n, h.said.of rfl, h.ran, h.above⟩
theorem BInv.good {w wr : World} {g bs : Nat} {x0 : Lim} {l : List Act} {k : Nat} (h : BInv w g bs x0 l k wr) : Good (runX x0 l k) := by
  obtain ⟨S, h1, _⟩ := h.lim.lim
  exact h1.good
/-- Between a judgement and the store of what it told. -/
structure BMid (w : World) (g bs : Nat) (x0 : Lim) (l : List Act) (k : Nat) (wr : World) : Prop where
  lim : LimInv w (fun j => j = bs) g (runX x0 l (k + 1)) wr
  said : SaidRow wr bs x0 l k
  above : w.heap.size ≤ bs
theorem BInv.judge {w wr : World} {g bs : Nat} {x0 : Lim} {l : List Act} {k : Nat} (h : BInv w g bs x0 l k wr) (hk : KeyOk (act l k).c (act l k).s) :
    Calls Try.prog 9 #[.pointer (some ⟨g, 0, none⟩), .int .i64 (act l k).c, .string (act l k).s, .int .i64 (act l k).n] wr fun e w' => e = .returned (.int .i64 (saidAt x0 l k)) ∧ BMid w g bs x0 l k w' :=
  (h.lim.judge (act l k).n hk fun bm _ => room_said _ g bm).mono fun _ _ ⟨he, h1, h2⟩ =>
    ⟨he, h1, h.said.of (h2.block bs (h.lim.own bs rfl) (fun z => z.2 rfl)), h.above⟩
theorem BMid.store {w wr : World} {g bs : Nat} {x0 : Lim} {l : List Act} {k : Nat} (h : BMid w g bs x0 l k wr) (hk : k < l.length) (hr : Ran x0 l (k + 1)) : BInv w g bs x0 l (k + 1) (wr.setCell ⟨bs, k, none⟩ (.int .i64 (saidAt x0 l k))) := by
  have hkept : KeptOff (fun j => j = bs) wr (wr.setCell ⟨bs, k, none⟩ (.int .i64 (saidAt x0 l k))) := KeptOff.setCell (S := fun j => j = bs) wr (p := ⟨bs, k, none⟩) rfl _
  obtain ⟨S, h1, h2⟩ := h.lim.lim
  refine ⟨⟨⟨S, h1.kept hkept fun j hj => (h2 j hj).2, h2⟩, hkept.below h.lim.below h.lim.below.size fun j hj => hj ▸ h.above, fun j hj => Nat.lt_of_lt_of_le (h.lim.own j hj) hkept.size⟩, h.said.store hk, hr, h.above⟩
theorem BInv.len {w wr : World} {g bs : Nat} {x0 : Lim} {l : List Act} {k : Nat} (h : BInv w g bs x0 l k wr) : ∃ n : Nat, (n : Int) ≤ x0.most ∧ Calls Try.prog 10 #[.pointer (some ⟨g, 0, none⟩)] wr fun e w' => e = .returned (.int .i64 (n : Int)) ∧ w' = wr := by
  refine ⟨(runX x0 l k).L.length, ?_, h.lim.len⟩
  have := h.good.ok.few
  rw [(ran_same h.ran).1] at this
  exact this
structure FInv (w : World) (bs : Nat) (x0 : Lim) (l : List Act) (wr : World) : Prop where
  below : Below w.heap.size w wr
  said : SaidRow wr bs x0 l l.length
theorem FInv.drewN {w wr : World} {bs : Nat} {x0 : Lim} {l : List Act} (h : FInv w bs x0 l wr) (n : Nat) : FInv w bs x0 l (wr.drewN n) := ⟨⟨h.below.os, h.below.tape, h.below.output, h.below.size, h.below.block⟩, h.said.of rfl⟩

/-! ### One round of the counts -/
theorem pass_step {x0 : Lim} {l : List Act} {n : Nat} (hr : Ran x0 l n) (hl : 0 ≤ x0.limit) (hl2 : x0.limit ≤ 1000) {i k : Nat} (hi : i ≤ k) (hk : k < n) (hin : (act l k).n - (act l i).n < x0.window) {p : Int}
    (h : PInv (act l i).n x0.limit p (view (runX x0 l k) (act l i).c (act l i).s)) :
    PInv (act l i).n x0.limit (if ((act l k).c = (act l i).c ∧ (act l k).s = (act l i).s) ∧ saidAt x0 l k = 0 then p + 1 else p) (view (runX x0 l (k + 1)) (act l i).c (act l i).s) := by
  obtain ⟨_, e2, e3, e4⟩ := ran_same (k := k) (fun j hj => hr j (by omega))
  have hk' := hr k hk
  have hup := ran_up hr hi hk
  by_cases hkey : (act l k).c = (act l i).c ∧ (act l k).s = (act l i).s
  · have hs := step_own (x := runX x0 l k) (c := (act l i).c) (s := (act l i).s) hk'.now
    rw [e2, e3, e4] at hs
    have := h.own hl hl2 hup (by omega) hs
    have er : runX x0 l (k + 1) = (judgeA (runX x0 l k) (act l i).c (act l i).s (act l k).n).2 := by rw [← hkey.1, ← hkey.2]; rfl
    have es : saidAt x0 l k = (judgeA (runX x0 l k) (act l i).c (act l i).s (act l k).n).1 := by rw [← hkey.1, ← hkey.2]; rfl
    rw [er, es]
    simp only [hkey, and_self, true_and]
    exact this
  · have hs := step_other (x := runX x0 l k) hk'.good (c := (act l i).c) (s := (act l i).s) (c' := (act l k).c) (s' := (act l k).s) hk'.now hkey
    rw [e3] at hs
    rw [if_neg (fun z => hkey z.1)]
    exact h.other (by omega) hs
theorem slip_step {x0 : Lim} {l : List Act} {n : Nat} (hr : Ran x0 l n) (hl : 0 ≤ x0.limit) (hs1 : 1 ≤ x0.slip) {i k : Nat} (hk : k < n) (hn : n ≤ 1000) {m q : Int}
    (h : SInv x0.limit x0.slip m q k (view (runX x0 l k) (act l i).c (act l i).s)) :
    SInv x0.limit x0.slip (if ((act l k).c = (act l i).c ∧ (act l k).s = (act l i).s) ∧ saidAt x0 l k = 1 then m + x0.slip else m) (if ((act l k).c = (act l i).c ∧ (act l k).s = (act l i).s) ∧ saidAt x0 l k ≠ 0 then q + 1 else q) (k + 1) (view (runX x0 l (k + 1)) (act l i).c (act l i).s) := by
  obtain ⟨_, e2, e3, e4⟩ := ran_same (k := k) (fun j hj => hr j (by omega))
  have hk' := hr k hk
  by_cases hkey : (act l k).c = (act l i).c ∧ (act l k).s = (act l i).s
  · have hs := step_own (x := runX x0 l k) (c := (act l i).c) (s := (act l i).s) hk'.now
    rw [e2, e3, e4] at hs
    have := h.own (by omega) hl hs1 hs
    have er : runX x0 l (k + 1) = (judgeA (runX x0 l k) (act l i).c (act l i).s (act l k).n).2 := by rw [← hkey.1, ← hkey.2]; rfl
    have es : saidAt x0 l k = (judgeA (runX x0 l k) (act l i).c (act l i).s (act l k).n).1 := by rw [← hkey.1, ← hkey.2]; rfl
    rw [er, es]
    simp only [hkey, and_self, true_and, ne_eq, ite_not]
    exact this
  · have hs := step_other (x := runX x0 l k) hk'.good (c := (act l i).c) (s := (act l i).s) (c' := (act l k).c) (s' := (act l k).s) hk'.now hkey
    rw [e3] at hs
    rw [if_neg (fun z => hkey z.1), if_neg (fun z => hkey z.1)]
    exact h.other hs1 hs

theorem toList_inj1 {a b : ByteArray} (h : a.toList = b.toList) : a = b := by
  rw [ByteArray.toList_eq, ByteArray.toList_eq] at h
  exact ByteArray.ext (Array.toList_inj.1 h)
theorem make38 (n : Nat) (hn : n ≤ 1000) (w : World) : (Instr.makeSlice 38 (.int .i64 n) (.int .i64 n)).run Try.prog w = .ok (.slice (some ⟨w.heap.size, 0, none⟩) n n) (w.alloc (.cells (madeCells #[.int .i64 0] n) 3)) := by
  obtain ⟨i, hi, hz, hs, hb⟩ : ∃ i, Try.prog.info? 3 = some i ∧ i.zero = some (.int .i64 0) ∧ i.size = 1 ∧ i.bytes = 8 := ⟨_, rfl, by kernel_rfl, by kernel_rfl, by kernel_rfl⟩
  have := run_make (P := Try.prog) w 38 3 i (.int .i64 0) Try.underlying38 hi hz .i64 .i64 n n (by omega) (by omega) (by rw [hb]; omega) (by omega)
  rw [hs] at this
  simp only [Int.toNat_natCast, Nat.mul_one] at this
  exact this
theorem said_new (w : World) (x0 : Lim) (l : List Act) : SaidRow (w.alloc (.cells (madeCells #[.int .i64 0] l.length) 3)) w.heap.size x0 l 0 :=
  ⟨_, heap_alloc_new w _, size_madeCells _ _, fun j hj => absurd hj (by omega)⟩
end Go.Proofs.Ytihnmabmjffgoaa
