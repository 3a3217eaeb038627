/- Walks over rrl: Count, New as a limiter. -/
import Derived.Test.YtihnmabmjffgoaaW1
namespace Go.Proofs.Ytihnmabmjffgoaa
open Go.RowKit Go.Maps

set_option maxHeartbeats 400000 in
theorem Count_some (g bm n t : Nat) (k : Int) (m : Int → ByteArray → Option Nat) (c : Int) (s : ByteArray) (hk : KeyOk c s) (w : World) (h5 : w.cell? ⟨g, 5, none⟩ = some (.map (some bm))) (hm : IsMapK w bm n m) (he : m c s = some t)
    (ht : w.cell? ⟨t, 1, none⟩ = some (.int .i64 k)) :
    Calls Try.prog 11 #[.pointer (some ⟨g, 0, none⟩), .int .i64 c, .string s] w fun e w' => e = .returned (.int .i64 k) ∧ Below w.heap.size w w' := by
  have hl := hm.look hk true
  rw [he] at hl
  simp only [if_true] at hl
  have hlt : t < w.heap.size := World.block_lt_of_cell? w _ ht
  clear hk hm he
  unfold keyV at hl
  go_enter Try.func11, Try.ntmps11
  go_wp2
  go_ret
  exact ⟨rfl, by repeat (first | exact Below.refl _ _ | (refine Below.alloc ?_ (by simp) _) | (refine Below.setCell ?_ (by simp) _) | refine Below.drew ?_)⟩
set_option maxHeartbeats 400000 in
theorem Count_none (g bm n : Nat) (m : Int → ByteArray → Option Nat) (c : Int) (s : ByteArray) (hk : KeyOk c s) (w : World) (h5 : w.cell? ⟨g, 5, none⟩ = some (.map (some bm))) (hm : IsMapK w bm n m) (he : m c s = none) :
    Calls Try.prog 11 #[.pointer (some ⟨g, 0, none⟩), .int .i64 c, .string s] w fun e w' => e = .returned (.int .i64 0) ∧ Below w.heap.size w w' := by
  have hl := hm.look hk true
  rw [he] at hl
  simp only [if_true] at hl
  clear hk hm he
  unfold keyV at hl
  go_enter Try.func11, Try.ntmps11
  go_wp2
  go_ret
  exact ⟨rfl, by repeat (first | exact Below.refl _ _ | (refine Below.alloc ?_ (by simp) _) | (refine Below.setCell ?_ (by simp) _) | refine Below.drew ?_)⟩

def hit (c : Int) (s : ByteArray) (e : Ent) : Bool := decide (e.c = c ∧ e.s = s)
def findE (L : List Ent) (c : Int) (s : ByteArray) : Option Ent := L.find? (hit c s)
def countE (L : List Ent) (c : Int) (s : ByteArray) : Int := match findE L c s with | some e => e.cnt | none => 0

theorem LimAt.found {w : World} {g : Nat} {S : Nat → Prop} {x : Lim} {bm : Nat} {v : Value} {l : List Put} {m : Int → ByteArray → Option Nat} (h : LimAt w g S x bm v l m) {c : Int} {s : ByteArray} {e : Ent} (hf : findE x.L c s = some e) :
    e.c = c ∧ e.s = s ∧ ∃ p ∈ l, p.e = e ∧ m c s = some p.t ∧ w.heap[p.t]? = some (.cells #[.int .i64 e.began, .int .i64 e.cnt] 50 (0, 0)) := by
  unfold findE at hf
  have h1 := List.mem_of_find?_eq_some hf
  have h2 := List.find?_some hf
  simp only [hit, decide_eq_true_eq] at h2
  rw [h.ents] at h1
  obtain ⟨p, hp, rfl⟩ := List.mem_map.1 h1
  obtain ⟨a1, a2⟩ := h.at_ p hp
  exact ⟨h2.1, h2.2, p, hp, rfl, by rw [← h2.1, ← h2.2]; exact a1, a2⟩
theorem LimAt.missing {w : World} {g : Nat} {S : Nat → Prop} {x : Lim} {bm : Nat} {v : Value} {l : List Put} {m : Int → ByteArray → Option Nat} (h : LimAt w g S x bm v l m) {c : Int} {s : ByteArray} (hk : KeyOk c s) (hf : findE x.L c s = none) : m c s = none := by
  refine h.only c s hk fun p hp hs => ?_
  unfold findE at hf
  rw [List.find?_eq_none] at hf
  have := hf p.e (by rw [h.ents]; exact List.mem_map_of_mem hp)
  simp only [hit, decide_eq_true_eq] at this
  exact this ⟨hs.1, hs.2⟩

theorem Count_calls (g : Nat) (S : Nat → Prop) (x : Lim) (c : Int) (s : ByteArray) (hk : KeyOk c s) (w : World) (h : IsLim w g S x) :
    Calls Try.prog 11 #[.pointer (some ⟨g, 0, none⟩), .int .i64 c, .string s] w fun e w' => e = .returned (.int .i64 (countE x.L c s)) ∧ Below w.heap.size w w' := by
  obtain ⟨bm, v, l, m, h⟩ := h
  unfold countE
  cases hf : findE x.L c s with
  | some e =>
    obtain ⟨_, _, p, hp, _, h1, h2⟩ := h.found hf
    exact Count_some g bm _ p.t e.cnt m c s hk w (blk_cell h.head 5) h.keys h1 (blk_cell h2 1)
  | none => exact Count_none g bm _ m c s hk w (blk_cell h.head 5) h.keys (h.missing hk hf)
theorem Len_lim (g : Nat) (S : Nat → Prop) (x : Lim) (w : World) (h : IsLim w g S x) :
    Calls Try.prog 10 #[.pointer (some ⟨g, 0, none⟩)] w fun e w' => e = .returned (.int .i64 (x.L.length : Int)) ∧ w' = w := by
  obtain ⟨bm, v, l, m, h⟩ := h
  rw [h.ents, List.length_map]
  exact Len_calls g bm _ m w (blk_cell h.head 5) h.keys

theorem New_good (a b c d : Int) (w : World) (h1 : 1 ≤ a) (h2 : a ≤ 1024) (h3 : 0 ≤ b) (h4 : b ≤ 1073741824) (h5 : 1 ≤ c) (h6 : c ≤ 1073741824) (h7 : 0 ≤ d) (h8 : d ≤ 1073741824) :
    Calls Try.prog 12 #[.int .i64 a, .int .i64 b, .int .i64 c, .int .i64 d] w fun e w' =>
      e = .returned (.tuple #[.pointer (some ⟨w.heap.size + 1, 0, none⟩), .int .i64 0]) ∧ IsLim w' (w.heap.size + 1) (fun k => k = w.heap.size ∨ k = w.heap.size + 1) (newLim a b c d) ∧ Below w.heap.size w w' := by
  refine (New_good0 a b c d w h1 h2 h3 h4 h5 h6 h7 h8).mono fun e w' ⟨he, hw⟩ => ⟨he, ?_, ?_⟩
  · subst hw
    refine ⟨w.heap.size, .slice none 0 0, [], fun _ _ => none, ?_⟩
    have hl := MapKept.heap_alloc (w.alloc (.map #[] 0)) (.cells (limCells (newLim a b c d) w.heap.size (.slice none 0 0)) 27 (0, 0))
    rw [World.size_alloc] at hl
    exact { ok := ⟨h1, h2, h3, h4, h5, h6, h7, h8, Int.le_refl _, by simp [newLim], by simp [newLim]; omega, fun e he => by simp [newLim] at he⟩
            head := hl.1, keys := (IsMapK.made w).kept (Below.heap_alloc _ _ _ (by simp)), row := World.ownsRow_nil _ _ _ _, ents := rfl, at_ := fun p hp => (by cases hp), only := fun _ _ _ _ => rfl
            apart := List.Pairwise.nil, sg := .inr rfl, sm := .inl rfl, sv := fun k hk => (by simp [Value.ownBlock] at hk), st := fun p hp => (by cases hp), lt := fun k hk => by simp; omega }
  · subst hw
    exact ((Below.refl _ _).alloc (Nat.le_refl _) _).alloc (by simp) _

set_option maxHeartbeats 400000 in
theorem room_yes (g bm n : Nat) (most : Int) (m : Int → ByteArray → Option Nat) (w : World) (h0 : w.cell? ⟨g, 0, none⟩ = some (.int .i64 most)) (h5 : w.cell? ⟨g, 5, none⟩ = some (.map (some bm))) (hm : IsMapK w bm n m) (hlt : (n : Int) < most) :
    Calls Try.prog 15 #[.pointer (some ⟨g, 0, none⟩)] w fun e w' => e = .returned (.bool true) ∧ ∃ n, w' = w.drewN n := by
  have hl : ∀ ty k, (Builtin.len_ #[24] ty #[.map (some bm)]).run Try.prog (w.drewN k) = .ok (.int .i64 (n : Int)) (w.drewN k) := fun ty k => (hm.kept (w' := w.drewN k) rfl).len ty
  clear hm
  go_enter Try.func15, Try.ntmps15
  go_wp2_with fail
  go_quiet (fail)
  go_wp2
  go_ret
  exact ⟨rfl, _, rfl⟩
end Go.Proofs.Ytihnmabmjffgoaa
