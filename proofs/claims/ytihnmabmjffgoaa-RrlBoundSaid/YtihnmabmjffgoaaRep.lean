/- The limiter of package rrl as memory: what its blocks hold, and what a call may have turned. -/
import Derived.Test.YtihnmabmjffgoaaMap
import Derived.Deep.Draws
namespace Go.Proofs.Ytihnmabmjffgoaa
open Go.RowKit Go.Maps

/-- What lay there, but for the blocks of S, lies as it lay. -/
structure KeptOff (S : Nat → Prop) (w w' : World) : Prop where
  os : w'.os = w.os
  tape : w'.tape = w.tape
  output : w'.output = w.output
  size : w.heap.size ≤ w'.heap.size
  block : ∀ k, k < w.heap.size → ¬ S k → w'.heap[k]? = w.heap[k]?
theorem KeptOff.refl (S : Nat → Prop) (w : World) : KeptOff S w w := ⟨rfl, rfl, rfl, Nat.le_refl _, fun _ _ _ => rfl⟩
theorem KeptOff.trans {S T : Nat → Prop} {a b c : World} (h : KeptOff S a b) (k : KeptOff T b c) (hT : ∀ j, T j → S j ∨ a.heap.size ≤ j) : KeptOff S a c :=
  ⟨k.os.trans h.os, k.tape.trans h.tape, k.output.trans h.output, Nat.le_trans h.size k.size, fun i hi hs => (k.block i (Nat.lt_of_lt_of_le hi h.size) (fun ht => by rcases hT i ht with h1 | h1; exact hs h1; omega)).trans (h.block i hi hs)⟩
theorem KeptOff.then {S : Nat → Prop} {a b c : World} (h : KeptOff S a b) (k : KeptOff S b c) : KeptOff S a c := h.trans k (fun _ hj => .inl hj)
theorem KeptOff.mono {S T : Nat → Prop} {a b : World} (h : KeptOff S a b) (hT : ∀ j, S j → T j) : KeptOff T a b := ⟨h.os, h.tape, h.output, h.size, fun i hi hs => h.block i hi (fun h' => hs (hT i h'))⟩
theorem KeptOff.drewN (S : Nat → Prop) (w : World) (n : Nat) : KeptOff S w (w.drewN n) := ⟨rfl, rfl, rfl, Nat.le_refl _, fun _ _ _ => rfl⟩
theorem KeptOff.alloc (S : Nat → Prop) (w : World) (o : Obj) : KeptOff S w (w.alloc o) := ⟨rfl, rfl, rfl, by simp, fun k hk _ => Below.heap_alloc _ _ _ hk⟩
theorem KeptOff.setCell {S : Nat → Prop} (w : World) {p : Addr} (hp : S p.block) (u : Value) : KeptOff S w (w.setCell p u) := ⟨rfl, rfl, rfl, by simp, fun k _ hs => Below.heap_setCell _ _ _ _ (fun e => hs (e ▸ hp))⟩
theorem KeptOff.grown {S : Nat → Prop} {w w' : World} {row : Option Nat} (hg : w.grownBy w' row) (hr : ∀ k, row = some k → S k) : KeptOff S w w' :=
  ⟨hg.os, hg.tape, hg.output, hg.size, fun k hk hs => hg.block k hk (fun e => hs (hr k e.symm))⟩
theorem KeptOff.below {S : Nat → Prop} {B : Nat} {a w w' : World} (h : KeptOff S w w') (hb : Below B a w) (hB : B ≤ w.heap.size) (hS : ∀ k, S k → B ≤ k) : Below B a w' :=
  hb.trans ⟨h.os, h.tape, h.output, h.size, fun k hk => h.block k (Nat.lt_of_lt_of_le hk hB) (fun hs => by have := hS k hs; omega)⟩

structure Ent where
  c : Int
  s : ByteArray
  began : Int
  cnt : Int
structure Lim where
  most : Int
  limit : Int
  window : Int
  slip : Int
  now : Int
  L : List Ent

/-- An entry's bounds. -/
structure EntOk (x : Lim) (e : Ent) : Prop where
  key : KeyOk e.c e.s
  b0 : 0 ≤ e.began
  b1 : e.began ≤ x.now
  n0 : 0 ≤ e.cnt
  n1 : e.cnt ≤ 1073741824
structure LimOk (x : Lim) : Prop where
  m0 : 1 ≤ x.most
  m1 : x.most ≤ 1024
  l0 : 0 ≤ x.limit
  l1 : x.limit ≤ 1073741824
  w0 : 1 ≤ x.window
  w1 : x.window ≤ 1073741824
  s0 : 0 ≤ x.slip
  s1 : x.slip ≤ 1073741824
  n0 : 0 ≤ x.now
  n1 : x.now ≤ 1099511627776
  few : (x.L.length : Int) ≤ x.most
  ents : ∀ e ∈ x.L, EntOk x e

def same (c : Int) (s : ByteArray) (e : Ent) : Prop := e.c = c ∧ e.s = s

/-- An entry and the block of its window. -/
structure Put where
  e : Ent
  t : Nat
def keyCells (l : List Put) : List Value := l.flatMap fun p => [.int .i64 p.e.c, .string p.e.s]
def limCells (x : Lim) (bm : Nat) (v : Value) : Array Value := #[.int .i64 x.most, .int .i64 x.limit, .int .i64 x.window, .int .i64 x.slip, .int .i64 x.now, .map (some bm), v]

/-- Block g of w holds the limiter x, whose blocks are all in S. -/
structure LimAt (w : World) (g : Nat) (S : Nat → Prop) (x : Lim) (bm : Nat) (v : Value) (l : List Put) (m : Int → ByteArray → Option Nat) : Prop where
  ok : LimOk x
  head : w.heap[g]? = some (.cells (limCells x bm v) 27 (0, 0))
  keys : IsMapK w bm l.length m
  row : w.ownsRow 0 46 2 v l.length (keyCells l)
  ents : x.L = l.map (·.e)
  at_ : ∀ p ∈ l, m p.e.c p.e.s = some p.t ∧ w.heap[p.t]? = some (.cells #[.int .i64 p.e.began, .int .i64 p.e.cnt] 50 (0, 0))
  only : ∀ c s, KeyOk c s → (∀ p ∈ l, ¬ same c s p.e) → m c s = none
  apart : l.Pairwise fun p q => p.t ≠ q.t ∧ ¬ same p.e.c p.e.s q.e
  sg : S g
  sm : S bm
  sv : ∀ k, v.ownBlock = some k → S k
  st : ∀ p ∈ l, S p.t
  lt : ∀ k, S k → k < w.heap.size

def IsLim (w : World) (g : Nat) (S : Nat → Prop) (x : Lim) : Prop := ∃ bm v l m, LimAt w g S x bm v l m

theorem blk_cell {w : World} {g : Nat} {cs : Array Value} {t : TypeId} {fr : Nat × Nat} (h : w.heap[g]? = some (.cells cs t fr)) (j : Nat) : w.cell? ⟨g, j, none⟩ = cs[j]? := by simp [World.cell?, h]
theorem blk_frozen {w : World} {g : Nat} {cs : Array Value} {t : TypeId} (h : w.heap[g]? = some (.cells cs t (0, 0))) (j : Nat) : w.frozen? ⟨g, j, none⟩ = false := by simp [World.frozen?, h]
theorem blk_set {w : World} {g : Nat} {cs : Array Value} {t : TypeId} {fr : Nat × Nat} (h : w.heap[g]? = some (.cells cs t fr)) (j : Nat) (v : Value) : (w.setCell ⟨g, j, none⟩ v).heap[g]? = some (.cells (cs.setIfInBounds j v) t fr) := by
  simp [World.setCell, Array.getElem?_modify, h]

theorem LimAt.kept {w w' : World} {g : Nat} {S T : Nat → Prop} {x : Lim} {bm : Nat} {v : Value} {l : List Put} {m : Int → ByteArray → Option Nat} (h : LimAt w g S x bm v l m) (hk : KeptOff T w w') (hd : ∀ k, S k → ¬ T k) : LimAt w' g S x bm v l m := by
  have hb : ∀ k, S k → w'.heap[k]? = w.heap[k]? := fun k hs => hk.block k (h.lt k hs) (hd k hs)
  refine { ok := h.ok, head := (hb g h.sg).trans h.head, keys := h.keys.kept (hb bm h.sm), row := ?_, ents := h.ents, at_ := fun p hp => ⟨(h.at_ p hp).1, (hb _ (h.st p hp)).trans (h.at_ p hp).2⟩, only := h.only, apart := h.apart, sg := h.sg, sm := h.sm, sv := h.sv, st := h.st, lt := fun k hs => Nat.lt_of_lt_of_le (h.lt k hs) hk.size }
  obtain ⟨h1, h2⟩ := h.row
  refine ⟨h1, ?_⟩
  rcases h2 with h2 | ⟨a, cap, cur, rfl, h3, h4, r⟩
  · exact .inl h2
  · exact .inr ⟨a, cap, cur, rfl, h3, (hb a (h.sv a rfl)).trans h4, r⟩
theorem IsLim.kept {w w' : World} {g : Nat} {S T : Nat → Prop} {x : Lim} (h : IsLim w g S x) (hk : KeptOff T w w') (hd : ∀ k, S k → ¬ T k) : IsLim w' g S x := by
  obtain ⟨bm, v, l, m, h⟩ := h
  exact ⟨bm, v, l, m, h.kept hk hd⟩
theorem LimAt.cells {w : World} {g : Nat} {S : Nat → Prop} {x : Lim} {bm : Nat} {v : Value} {l : List Put} {m : Int → ByteArray → Option Nat} (h : LimAt w g S x bm v l m) :
    w.cell? ⟨g, 0, none⟩ = some (.int .i64 x.most) ∧ w.cell? ⟨g, 1, none⟩ = some (.int .i64 x.limit) ∧ w.cell? ⟨g, 2, none⟩ = some (.int .i64 x.window) ∧ w.cell? ⟨g, 3, none⟩ = some (.int .i64 x.slip) ∧ w.cell? ⟨g, 4, none⟩ = some (.int .i64 x.now) ∧ w.cell? ⟨g, 5, none⟩ = some (.map (some bm)) ∧ w.cell? ⟨g, 6, none⟩ = some v :=
  ⟨blk_cell h.head 0, blk_cell h.head 1, blk_cell h.head 2, blk_cell h.head 3, blk_cell h.head 4, blk_cell h.head 5, blk_cell h.head 6⟩
theorem LimAt.gbm {w : World} {g : Nat} {S : Nat → Prop} {x : Lim} {bm : Nat} {v : Value} {l : List Put} {m : Int → ByteArray → Option Nat} (h : LimAt w g S x bm v l m) : g ≠ bm := by
  rintro rfl
  obtain ⟨D, ⟨es, clock, hb, _⟩, _⟩ := h.keys
  rw [h.head] at hb
  cases hb
theorem LimAt.gt {w : World} {g : Nat} {S : Nat → Prop} {x : Lim} {bm : Nat} {v : Value} {l : List Put} {m : Int → ByteArray → Option Nat} (h : LimAt w g S x bm v l m) {p : Put} (hp : p ∈ l) : g ≠ p.t := by
  intro e
  have h2 := (h.at_ p hp).2
  rw [← e, h.head] at h2
  injection h2 with h2
  injection h2 with _ h2
  cases h2
theorem LimAt.gv {w : World} {g : Nat} {S : Nat → Prop} {x : Lim} {bm : Nat} {v : Value} {l : List Put} {m : Int → ByteArray → Option Nat} (h : LimAt w g S x bm v l m) : v.ownBlock ≠ some g := by
  rcases h.row.2 with ⟨rfl, _⟩ | ⟨a, cap, cur, rfl, h3, h4, r⟩
  · simp [Value.ownBlock]
  · simp only [Value.ownBlock, ne_eq, Option.some.injEq]
    rintro rfl
    rw [h.head] at h4
    injection h4 with h2
    injection h2 with _ h2
    cases h2
end Go.Proofs.Ytihnmabmjffgoaa
