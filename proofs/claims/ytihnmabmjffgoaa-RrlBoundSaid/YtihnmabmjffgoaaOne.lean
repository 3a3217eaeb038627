/- A limiter of one key: what Judge tells of it, time after time; and a limiter in memory between two calls. -/
import Derived.Test.YtihnmabmjffgoaaAw
namespace Go.Proofs.Ytihnmabmjffgoaa
open Go.RowKit Go.Maps

/-- A limiter in memory, while the blocks of K are the caller's own. -/
structure LimInv (w : World) (K : Nat → Prop) (g : Nat) (x : Lim) (wr : World) : Prop where
  lim : ∃ S, IsLim wr g S x ∧ ∀ j, S j → w.heap.size ≤ j ∧ ¬ K j
  below : Below w.heap.size w wr
  own : ∀ j, K j → j < wr.heap.size
theorem LimInv.drewN {w wr : World} {K : Nat → Prop} {g : Nat} {x : Lim} (h : LimInv w K g x wr) (n : Nat) : LimInv w K g x (wr.drewN n) := by
  obtain ⟨S, h1, h2⟩ := h.lim
  exact ⟨⟨S, h1.kept (T := fun _ => False) (KeptOff.drewN _ _ _) (fun _ _ h => h), h2⟩, ⟨h.below.os, h.below.tape, h.below.output, h.below.size, h.below.block⟩, h.own⟩
theorem LimInv.then {w wr wr' : World} {K : Nat → Prop} {g : Nat} {x : Lim} (h : LimInv w K g x wr) (hb : Below wr.heap.size wr wr') : LimInv w K g x wr' := by
  obtain ⟨S, h1, h2⟩ := h.lim
  refine ⟨⟨S, h1.kept (T := fun _ => False) ⟨hb.os, hb.tape, hb.output, hb.size, fun k hk _ => hb.block k hk⟩ (fun _ _ h => h), h2⟩, h.below.trans (hb.mono h.below.size), fun j hj => Nat.lt_of_lt_of_le (h.own j hj) hb.size⟩
theorem LimInv.step {w wr wr' : World} {K : Nat → Prop} {g : Nat} {x : Lim} {r : Int × Lim} {e : Ending} {S : Nat → Prop} (h : LimInv w K g x wr) (hS : ∀ j, S j → w.heap.size ≤ j ∧ ¬ K j) (hl : Left wr g S r e wr') : LimInv w K g r.2 wr' := by
  obtain ⟨he, hk, S', h1, h2⟩ := hl
  refine ⟨⟨S', h1, fun j hj => ?_⟩, hk.below h.below h.below.size (fun j hj => (hS j hj).1), fun j hj => Nat.lt_of_lt_of_le (h.own j hj) hk.size⟩
  rcases h2 j hj with h3 | h3
  · exact hS j h3
  · exact ⟨by have := h.below.size; omega, fun hK => by have := h.own j hK; omega⟩
theorem LimInv.judge {w wr : World} {K : Nat → Prop} {g : Nat} {x : Lim} (h : LimInv w K g x wr) {c : Int} {s : ByteArray} (now : Int) (hk : KeyOk c s) (hroom : ∀ bm, findE x.L c s = none → RoomSaid (nowE x now) g bm) :
    Calls Try.prog 9 #[.pointer (some ⟨g, 0, none⟩), .int .i64 c, .string s, .int .i64 now] wr fun e w' => e = .returned (.int .i64 (judgeA x c s now).1) ∧ LimInv w K g (judgeA x c s now).2 w' ∧ KeptOff (fun j => w.heap.size ≤ j ∧ ¬ K j) wr w' := by
  obtain ⟨S, h1, h2⟩ := h.lim
  exact (Judge_any g S x c s now wr hk h1 hroom).mono fun e w' hl => ⟨hl.1, h.step h2 hl, hl.2.1.mono h2⟩
theorem LimInv.judge_few {w wr : World} {K : Nat → Prop} {g : Nat} {x : Lim} (h : LimInv w K g x wr) {c : Int} {s : ByteArray} (now : Int) (hk : KeyOk c s) (hroom : findE x.L c s = none → (x.L.length : Int) < x.most) :
    Calls Try.prog 9 #[.pointer (some ⟨g, 0, none⟩), .int .i64 c, .string s, .int .i64 now] wr fun e w' => e = .returned (.int .i64 (judgeA x c s now).1) ∧ LimInv w K g (judgeA x c s now).2 w' ∧ KeptOff (fun j => w.heap.size ≤ j ∧ ¬ K j) wr w' :=
  h.judge now hk fun _ hf => room_few (hroom hf)
theorem LimInv.len {w wr : World} {K : Nat → Prop} {g : Nat} {x : Lim} (h : LimInv w K g x wr) : Calls Try.prog 10 #[.pointer (some ⟨g, 0, none⟩)] wr fun e w' => e = .returned (.int .i64 (x.L.length : Int)) ∧ w' = wr := by
  obtain ⟨S, h1, _⟩ := h.lim
  exact Len_lim g S x wr h1
theorem LimInv.count {w wr : World} {K : Nat → Prop} {g : Nat} {x : Lim} (h : LimInv w K g x wr) {c : Int} {s : ByteArray} (hk : KeyOk c s) :
    Calls Try.prog 11 #[.pointer (some ⟨g, 0, none⟩), .int .i64 c, .string s] wr fun e w' => e = .returned (.int .i64 (countE x.L c s)) ∧ LimInv w K g x w' ∧ Below wr.heap.size wr w' := by
  obtain ⟨S, h1, _⟩ := h.lim
  exact (Count_calls g S x c s hk wr h1).mono fun e w' ⟨he, hb⟩ => ⟨he, h.then hb, hb⟩
theorem LimInv.new {w w' : World} {K : Nat → Prop} {wr : World} {x : Lim} (hb : Below w.heap.size w wr) (h : IsLim w' (wr.heap.size + 1) (fun k => k = wr.heap.size ∨ k = wr.heap.size + 1) x) (hb' : Below wr.heap.size wr w') (hK : ∀ j, K j → j < wr.heap.size) : LimInv w K (wr.heap.size + 1) x w' :=
  ⟨⟨_, h, fun j hj => ⟨by have := hb.size; omega, fun hk => by have := hK j hk; omega⟩⟩, hb.trans (hb'.mono hb.size), fun j hj => Nat.lt_of_lt_of_le (hK j hj) hb'.size⟩

/-! ### One key -/
def one (limit window slip : Int) (c : Int) (s : ByteArray) (b n : Int) : Lim := ⟨1, limit, window, slip, b, [⟨c, s, b, n⟩]⟩
theorem one_find (limit window slip : Int) (c : Int) (s : ByteArray) (b n : Int) : findE (one limit window slip c s b n).L c s = some ⟨c, s, b, n⟩ := by simp [findE, one, hit]

theorem judge_first {limit window slip : Int} {c : Int} {s : ByteArray} {t : Int} (hw : 1 ≤ window) (hs : s.size ≤ 255) (t0 : 0 ≤ t) (t1 : t ≤ 1099511627776) :
    judgeA (newLim 1 limit window slip) c s t = (verdict (newLim 1 limit window slip) ⟨c, s, t, 1⟩, one limit window slip c s t 1) := by
  have e1 : nowE (newLim 1 limit window slip) t = ⟨1, limit, window, slip, t, []⟩ := by
    unfold nowE newLim
    simp only
    congr 1
    split <;> omega
  have e2 : stepE ⟨1, limit, window, slip, t, [⟨c, s, t, 0⟩]⟩ ⟨c, s, t, 0⟩ = ⟨c, s, t, 1⟩ := by
    unfold stepE overE
    simp only
    rw [if_neg (by simp; omega)]
    simp
  unfold judgeA
  rw [if_neg (by omega)]
  unfold judge
  have e3 : findE (newLim 1 limit window slip).L c s = none := rfl
  rw [e3, e1]
  have e4 : roomE ⟨1, limit, window, slip, t, []⟩ = some [] := by unfold roomE; simp
  rw [e4]
  unfold finE
  have e5 : findE ([] ++ [(⟨c, s, t, 0⟩ : Ent)]) c s = some ⟨c, s, t, 0⟩ := by simp [findE, hit]
  simp only [e5]
  simp only [List.nil_append, e2]
  refine Prod.ext rfl ?_
  simp [one, hit]
theorem judge_same {limit window slip : Int} {c : Int} {s : ByteArray} {b n : Int} (hw : 1 ≤ window) (hs : s.size ≤ 255) (t0 : 0 ≤ b) (t1 : b ≤ 1099511627776) (hn : n + 1 < 1073741824) :
    judgeA (one limit window slip c s b n) c s b = (verdict (newLim 1 limit window slip) ⟨c, s, b, n + 1⟩, one limit window slip c s b (n + 1)) := by
  have e1 : nowE (one limit window slip c s b n) b = one limit window slip c s b n := by simp [nowE, one]
  have e2 : stepE (one limit window slip c s b n) ⟨c, s, b, n⟩ = ⟨c, s, b, n + 1⟩ := by
    unfold stepE overE one
    simp only
    rw [if_neg (by simp; omega), if_pos hn]
  unfold judgeA
  rw [if_neg (by omega)]
  unfold judge
  rw [one_find, e1]
  unfold finE
  rw [one_find]
  simp only [e2]
  refine Prod.ext rfl ?_
  simp [one, hit]
theorem judge_over {limit window slip : Int} {c : Int} {s : ByteArray} {b n : Int} (hw : 1 ≤ window) (hs : s.size ≤ 255) (t0 : 0 ≤ b) (t1 : b + window ≤ 1099511627776) :
    judgeA (one limit window slip c s b n) c s (b + window) = (verdict (newLim 1 limit window slip) ⟨c, s, b + window, 1⟩, one limit window slip c s (b + window) 1) := by
  have e1 : nowE (one limit window slip c s b n) (b + window) = ⟨1, limit, window, slip, b + window, [⟨c, s, b, n⟩]⟩ := by
    unfold nowE one
    simp only
    rw [if_pos (by omega)]
  have e2 : stepE ⟨1, limit, window, slip, b + window, [⟨c, s, b, n⟩]⟩ ⟨c, s, b, n⟩ = ⟨c, s, b + window, 1⟩ := by
    unfold stepE overE
    simp only
    rw [if_pos (by simp; omega)]
  have e3 : findE [(⟨c, s, b, n⟩ : Ent)] c s = some ⟨c, s, b, n⟩ := by simp [findE, hit]
  unfold judgeA
  rw [if_neg (by omega)]
  unfold judge
  rw [one_find, e1]
  unfold finE
  simp only [e3, e2]
  refine Prod.ext rfl ?_
  simp [one, hit]
theorem verdict_zero {x : Lim} {c : Int} {s : ByteArray} {b n : Int} : verdict x ⟨c, s, b, n⟩ = 0 ↔ n ≤ x.limit := by
  unfold verdict
  simp only
  split
  · simp; omega
  · split <;> simp <;> omega
theorem one_room (limit window slip : Int) (c : Int) (s : ByteArray) (b n : Int) : findE (one limit window slip c s b n).L c s = none → ((one limit window slip c s b n).L.length : Int) < (one limit window slip c s b n).most := by
  rw [one_find]; intro h; cases h
end Go.Proofs.Ytihnmabmjffgoaa
