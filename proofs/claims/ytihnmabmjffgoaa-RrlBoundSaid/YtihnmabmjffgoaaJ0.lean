/- What each step of Judge makes of a limiter in memory, without any code. -/
import Derived.Test.YtihnmabmjffgoaaW2
namespace Go.Proofs.Ytihnmabmjffgoaa
open Go.RowKit Go.Maps

theorem EntOk.later {x : Lim} {e : Ent} (h : EntOk x e) {n : Int} (hn : x.now ≤ n) (L : List Ent) : EntOk { x with now := n, L := L } e := ⟨h.key, h.b0, Int.le_trans h.b1 hn, h.n0, h.n1⟩

variable {w : World} {g : Nat} {S : Nat → Prop} {x : Lim} {bm : Nat} {v : Value} {l : List Put} {m : Int → ByteArray → Option Nat}

/-- The time is set. -/
theorem LimAt.setNow (h : LimAt w g S x bm v l m) {n : Int} (hn : x.now ≤ n) (hn1 : n ≤ 1099511627776) : LimAt (w.setCell ⟨g, 4, none⟩ (.int .i64 n)) g S { x with now := n } bm v l m := by
  have hb : ∀ k, k ≠ g → (w.setCell ⟨g, 4, none⟩ (.int .i64 n)).heap[k]? = w.heap[k]? := fun k hk => Below.heap_setCell _ _ _ _ hk
  have o := h.ok
  refine { ok := { m0 := o.m0, m1 := o.m1, l0 := o.l0, l1 := o.l1, w0 := o.w0, w1 := o.w1, s0 := o.s0, s1 := o.s1, n0 := Int.le_trans o.n0 hn, n1 := hn1, few := o.few, ents := fun e he => (o.ents e he).later hn _ }, head := ?_, keys := h.keys.kept (hb bm (Ne.symm h.gbm)), row := ?_, ents := h.ents, at_ := fun p hp => ⟨(h.at_ p hp).1, (hb _ (Ne.symm (h.gt hp))).trans (h.at_ p hp).2⟩, only := h.only, apart := h.apart, sg := h.sg, sm := h.sm, sv := h.sv, st := h.st, lt := fun k hs => by simpa using h.lt k hs }
  · have := blk_set h.head 4 (.int .i64 n)
    exact this
  · exact h.row.kept (row := some g) ⟨rfl, rfl, rfl, by simp, fun k _ hk => hb k (fun e => hk (by rw [e]))⟩ (.inr h.gv)

/-- A key's window and count are set. -/
def setT (t : Nat) (b n : Int) (p : Put) : Put := if p.t = t then ⟨⟨p.e.c, p.e.s, b, n⟩, p.t⟩ else p
theorem setT_key (t : Nat) (b n : Int) (p : Put) : (setT t b n p).e.c = p.e.c ∧ (setT t b n p).e.s = p.e.s ∧ (setT t b n p).t = p.t := by
  unfold setT; split <;> exact ⟨rfl, rfl, rfl⟩
theorem keyCells_setT (t : Nat) (b n : Int) (l : List Put) : keyCells (l.map (setT t b n)) = keyCells l := by
  induction l with
  | nil => rfl
  | cons p r ih =>
    have := setT_key t b n p
    simp only [keyCells, List.map_cons, List.flatMap_cons] at ih ⊢
    rw [ih, this.1, this.2.1]
theorem LimAt.setEnt {w' : World} (h : LimAt w g S x bm v l m) {t : Nat} {p : Put} (hp : p ∈ l) (ht : p.t = t) {b n : Int} (hk : KeptOff (fun k => k = t) w w') (hc : w'.heap[t]? = some (.cells #[.int .i64 b, .int .i64 n] 50 (0, 0)))
    (b0 : 0 ≤ b) (b1 : b ≤ x.now) (n0 : 0 ≤ n) (n1 : n ≤ 1073741824) : LimAt w' g S { x with L := (l.map (setT t b n)).map (·.e) } bm v (l.map (setT t b n)) m := by
  have hgt : g ≠ t := ht ▸ h.gt hp
  have hbt : bm ≠ t := by
    rintro rfl
    obtain ⟨D, ⟨es, clock, hb, _⟩, _⟩ := h.keys
    have := (h.at_ p hp).2
    rw [ht, hb] at this
    cases this
  have hvt : v.ownBlock ≠ some t := by
    rcases h.row.2 with ⟨rfl, _⟩ | ⟨a, cap, cur, rfl, h3, h4, r⟩
    · simp [Value.ownBlock]
    · simp only [Value.ownBlock, ne_eq, Option.some.injEq]
      rintro rfl
      have := (h.at_ p hp).2
      rw [ht, h4] at this
      injection this with h2
      injection h2 with _ h2
      cases h2
  have hb : ∀ k, S k → k ≠ t → w'.heap[k]? = w.heap[k]? := fun k hs hkt => hk.block k (h.lt k hs) hkt
  have o := h.ok
  refine { ok := { m0 := o.m0, m1 := o.m1, l0 := o.l0, l1 := o.l1, w0 := o.w0, w1 := o.w1, s0 := o.s0, s1 := o.s1, n0 := o.n0, n1 := o.n1, few := ?_, ents := ?_ }, head := (hb g h.sg hgt).trans h.head, keys := ?_, row := ?_, ents := rfl, at_ := ?_, only := ?_, apart := ?_, sg := h.sg, sm := h.sm, sv := h.sv, st := ?_, lt := fun k hs => Nat.lt_of_lt_of_le (h.lt k hs) hk.size }
  · have := o.few; rw [h.ents] at this; simpa using this
  · intro e he
    simp only [List.map_map, List.mem_map, Function.comp_apply] at he
    obtain ⟨q, hq, rfl⟩ := he
    have hq' := o.ents q.e (by rw [h.ents]; exact List.mem_map_of_mem hq)
    unfold setT
    split
    · exact ⟨hq'.key, b0, b1, n0, n1⟩
    · exact ⟨hq'.key, hq'.b0, hq'.b1, hq'.n0, hq'.n1⟩
  · rw [List.length_map]; exact h.keys.kept (hb bm h.sm hbt)
  · rw [List.length_map, keyCells_setT]
    exact h.row.kept (row := some t) ⟨hk.os, hk.tape, hk.output, hk.size, fun k hlt hne => hk.block k hlt (fun e => hne (by rw [e]))⟩ (.inr hvt)
  · intro q hq
    obtain ⟨q0, hq0, rfl⟩ := List.mem_map.1 hq
    obtain ⟨k1, k2, k3⟩ := setT_key t b n q0
    rw [k1, k2, k3]
    refine ⟨(h.at_ q0 hq0).1, ?_⟩
    by_cases e : q0.t = t
    · simp only [setT, if_pos e]; rw [e]; exact hc
    · simp only [setT, if_neg e]
      exact (hb _ (h.st q0 hq0) e).trans (h.at_ q0 hq0).2
  · intro c s hk' hne
    refine h.only c s hk' fun q hq hs => hne (setT t b n q) (List.mem_map_of_mem hq) ?_
    obtain ⟨k1, k2, _⟩ := setT_key t b n q
    exact ⟨k1.trans hs.1, k2.trans hs.2⟩
  · rw [List.pairwise_map]
    refine h.apart.imp fun {p q} hpq => ?_
    obtain ⟨k1, k2, k3⟩ := setT_key t b n p
    obtain ⟨j1, j2, j3⟩ := setT_key t b n q
    rw [k1, k2, k3, j3]
    exact ⟨hpq.1, fun hs => hpq.2 ⟨j1 ▸ hs.1, j2 ▸ hs.2⟩⟩
  · intro q hq
    obtain ⟨q0, hq0, rfl⟩ := List.mem_map.1 hq
    rw [(setT_key t b n q0).2.2]
    exact h.st q0 hq0

/-- A key more. -/
theorem LimAt.add {w' : World} (h : LimAt w g S x bm v l m) {c : Int} {s : ByteArray} (hk : KeyOk c s) (hn : m c s = none) (hfew : (l.length : Int) < x.most) {t : Nat} {v' : Value}
    (hkept : KeptOff (fun k => k = g ∨ k = bm ∨ v.ownBlock = some k) w w') (hhead : w'.heap[g]? = some (.cells (limCells x bm v') 27 (0, 0))) (hm : IsMapK w' bm (l.length + 1) (put m c s (some t)))
    (hrow : w'.ownsRow 0 46 2 v' (l.length + 1) (keyCells l ++ [.int .i64 c, .string s])) (hv : ∀ k, v'.ownBlock = some k → v.ownBlock = some k ∨ w.heap.size ≤ k)
    (ht : w'.heap[t]? = some (.cells #[.int .i64 x.now, .int .i64 0] 50 (0, 0))) (ht0 : w.heap.size ≤ t) :
    LimAt w' g (fun k => S k ∨ (w.heap.size ≤ k ∧ k < w'.heap.size)) { x with L := x.L ++ [⟨c, s, x.now, 0⟩] } bm v' (l ++ [⟨⟨c, s, x.now, 0⟩, t⟩]) (put m c s (some t)) := by
  have o := h.ok
  have htl : t < w'.heap.size := (Array.getElem?_eq_some_iff.1 ht).1
  have hb : ∀ p ∈ l, w'.heap[p.t]? = w.heap[p.t]? := fun p hp => hkept.block _ (h.lt _ (h.st p hp)) (by
    rintro (e | e | e)
    · exact h.gt hp e.symm
    · obtain ⟨D, ⟨es, clock, hb, _⟩, _⟩ := h.keys
      have := (h.at_ p hp).2
      rw [e, hb] at this
      cases this
    · rcases h.row.2 with ⟨rfl, _⟩ | ⟨a, cap, cur, rfl, h3, h4, r⟩
      · simp [Value.ownBlock] at e
      · simp only [Value.ownBlock, Option.some.injEq] at e
        have := (h.at_ p hp).2
        rw [← e, h4] at this
        injection this with h2
        injection h2 with _ h2
        cases h2)
  refine { ok := { m0 := o.m0, m1 := o.m1, l0 := o.l0, l1 := o.l1, w0 := o.w0, w1 := o.w1, s0 := o.s0, s1 := o.s1, n0 := o.n0, n1 := o.n1, few := ?_, ents := ?_ }, head := hhead, keys := ?_, row := ?_, ents := ?_, at_ := ?_, only := ?_, apart := ?_, sg := .inl h.sg, sm := .inl h.sm, sv := ?_, st := ?_, lt := ?_ }
  · have := h.ents; simp only [this, List.length_append, List.length_map, List.length_cons, List.length_nil]; push_cast; omega
  · intro e he
    rcases List.mem_append.1 he with he | he
    · exact ⟨(o.ents e he).key, (o.ents e he).b0, (o.ents e he).b1, (o.ents e he).n0, (o.ents e he).n1⟩
    · simp only [List.mem_singleton] at he
      subst he
      exact ⟨hk, o.n0, Int.le_refl _, Int.le_refl _, by simp⟩
  · simpa using hm
  · rw [List.length_append]
    have : keyCells (l ++ [⟨⟨c, s, x.now, 0⟩, t⟩]) = keyCells l ++ [.int .i64 c, .string s] := by simp [keyCells, List.flatMap_append]
    rw [this]; exact hrow
  · simp [h.ents]
  · intro p hp
    rcases List.mem_append.1 hp with hp | hp
    · refine ⟨?_, (hb p hp).trans (h.at_ p hp).2⟩
      have hne : ¬ (p.e.c = c ∧ p.e.s = s) := fun ⟨e1, e2⟩ => by have := (h.at_ p hp).1; rw [e1, e2, hn] at this; cases this
      simp only [put, if_neg hne]
      exact (h.at_ p hp).1
    · simp only [List.mem_singleton] at hp
      subst hp
      exact ⟨by simp [put], ht⟩
  · intro c' s' hk' hne
    have h1 : ¬ (c' = c ∧ s' = s) := fun ⟨e1, e2⟩ => hne ⟨⟨c, s, x.now, 0⟩, t⟩ (by simp) ⟨e1.symm, e2.symm⟩
    simp only [put, if_neg h1]
    exact h.only c' s' hk' fun p hp => hne p (by simp [hp])
  · rw [List.pairwise_append]
    refine ⟨h.apart, by simp, fun p hp q hq => ?_⟩
    simp only [List.mem_singleton] at hq
    subst hq
    refine ⟨fun e => ?_, fun hs => ?_⟩
    · have := h.lt _ (h.st p hp); simp only at e; omega
    · have := (h.at_ p hp).1
      obtain ⟨e1, e2⟩ := hs
      simp only at e1 e2
      rw [← e1, ← e2, hn] at this
      cases this
  · intro k hk'
    rcases hv k hk' with h1 | h1
    · exact .inl (h.sv k h1)
    · refine .inr ⟨h1, ?_⟩
      exact (hrow.lt k hk').2
  · intro p hp
    rcases List.mem_append.1 hp with hp | hp
    · exact .inl (h.st p hp)
    · simp only [List.mem_singleton] at hp
      subst hp
      exact .inr ⟨ht0, htl⟩
  · intro k hk'
    rcases hk' with hk' | hk'
    · exact Nat.lt_of_lt_of_le (h.lt k hk') hkept.size
    · exact hk'.2

/-! ### What Judge tells, over lists -/
def overE (x : Lim) (e : Ent) : Bool := decide (x.window ≤ x.now - e.began)
def stepE (x : Lim) (e : Ent) : Ent :=
  if overE x e then ⟨e.c, e.s, x.now, 1⟩ else ⟨e.c, e.s, e.began, if e.cnt + 1 < 1073741824 then e.cnt + 1 else 1073741824⟩
def verdict (x : Lim) (e : Ent) : Int := if e.cnt - x.limit ≤ 0 then 0 else if 0 < x.slip ∧ (e.cnt - x.limit) % x.slip = 0 then 1 else 2
def goesE (x : Lim) : List Ent → Nat → Option (Nat × Int) → Option (Nat × Int)
  | [], _, b => b
  | e :: r, i, b => goesE x r (i + 1) (if overE x e ∧ (∀ y, b = some y → e.began < y.2) then some (i, e.began) else b)
def roomE (x : Lim) : Option (List Ent) :=
  if (x.L.length : Int) < x.most then some x.L else (goesE x x.L 0 none).map fun y => x.L.eraseIdx y.1
def finE (x : Lim) (c : Int) (s : ByteArray) : Int × Lim :=
  match findE x.L c s with
  | none => (2, x)
  | some e => (verdict x (stepE x e), { x with L := x.L.map fun q => if hit c s q then stepE x e else q })
def nowE (x : Lim) (now : Int) : Lim := { x with now := if x.now < now then now else x.now }
def judge (x : Lim) (c : Int) (s : ByteArray) (now : Int) : Int × Lim :=
  match findE x.L c s with
  | some _ => finE (nowE x now) c s
  | none => match roomE (nowE x now) with
    | none => (2, nowE x now)
    | some L => finE { nowE x now with L := L ++ [⟨c, s, (nowE x now).now, 0⟩] } c s

/-- The contract of 'room', as Judge uses it. -/
def RoomPost (w : World) (g : Nat) (S : Nat → Prop) (x : Lim) (bm : Nat) (e : Ending) (w' : World) : Prop :=
  match roomE x with
  | none => e = .returned (.bool false) ∧ Below w.heap.size w w'
  | some L => e = .returned (.bool true) ∧ KeptOff S w w' ∧ ∃ v l m, LimAt w' g S { x with L := L } bm v l m ∧ (L.length : Int) < x.most
def RoomSaid (x : Lim) (g bm : Nat) : Prop := ∀ S w v l m, LimAt w g S x bm v l m → Calls Try.prog 15 #[.pointer (some ⟨g, 0, none⟩)] w (RoomPost w g S x bm)

theorem room_few {x : Lim} {g bm : Nat} (h : (x.L.length : Int) < x.most) : RoomSaid x g bm := fun S w v l m hl => by
  refine (room_yes g bm l.length x.most m w (blk_cell hl.head 0) (blk_cell hl.head 5) hl.keys (by have := hl.ents; rw [this, List.length_map] at h; exact h)).mono fun e w' ⟨he, n, hw⟩ => ?_
  unfold RoomPost
  have : roomE x = some x.L := by unfold roomE; rw [if_pos h]
  rw [this]
  subst hw
  exact ⟨he, KeptOff.drewN _ _ _, v, l, m, hl.kept (T := fun _ => False) (KeptOff.drewN _ _ _) (fun _ _ h => h), h⟩

theorem roomE_sub {x : Lim} {L : List Ent} (h : roomE x = some L) : ∀ e ∈ L, e ∈ x.L := by
  unfold roomE at h
  split at h
  · cases h; exact fun _ h => h
  · simp only [Option.map_eq_some_iff] at h
    obtain ⟨y, _, rfl⟩ := h
    exact fun e he => List.mem_of_mem_eraseIdx he
theorem findE_sub {L L' : List Ent} {c : Int} {s : ByteArray} (hs : ∀ e ∈ L', e ∈ L) (h : findE L c s = none) : findE L' c s = none := by
  unfold findE at *
  rw [List.find?_eq_none] at *
  exact fun e he => h e (hs e he)

theorem LimAt.few' (h : LimAt w g S x bm v l m) : l.length ≤ 1024 := by
  have a := h.ok.few
  have b := h.ok.m1
  rw [h.ents, List.length_map] at a
  omega

/-! ### A key is stored, and put behind the others -/
theorem LimAt.vbm (h : LimAt w g S x bm v l m) : v.ownBlock ≠ some bm := by
  intro e
  obtain ⟨D, ⟨es, clock, hb, _⟩, _⟩ := h.keys
  rcases h.row.2 with ⟨e1, _⟩ | ⟨a, cap, cur, e1, _, h4, _⟩
  · rw [e1] at e; simp [Value.ownBlock] at e
  · rw [e1] at e
    simp only [Value.ownBlock, Option.some.injEq] at e
    rw [e, hb] at h4
    cases h4
theorem not_map {w : World} {b k : Nat} {n : Nat} {m : Int → ByteArray → Option Nat} (h : IsMapK w b n m) {cs : Array Value} {t : TypeId} {fr : Nat × Nat} (hk : w.heap[k]? = some (.cells cs t fr)) : k ≠ b := by
  rintro rfl
  obtain ⟨D, ⟨es, clock, hb, _⟩, _⟩ := h
  rw [hk] at hb
  cases hb

structure Stored (w : World) (g bm : Nat) (v : Value) (l : List Put) (m : Int → ByteArray → Option Nat) (c : Int) (s : ByteArray) (kb : Nat) (cs : Array Value) (x : Lim) (w5 : World) : Prop where
  size : w5.heap.size = w.heap.size + 1
  head : w5.heap[g]? = some (.cells (limCells x bm v) 27 (0, 0))
  key : w5.heap[kb]? = some (.cells cs 46 (0, 0))
  turn : w5.heap[w.heap.size]? = some (.cells #[.int .i64 x.now, .int .i64 0] 50 (0, 0))
  map : IsMapK w5 bm (l.length + 1) (put m c s (some w.heap.size))
  row : w5.ownsRow 0 46 2 v l.length (keyCells l)
  kept : KeptOff (fun k => k = bm) w w5
theorem LimAt.stored (h : LimAt w g S x bm v l m) {c : Int} {s : ByteArray} (hk : KeyOk c s) (hn : m c s = none) {kb : Nat} {cs : Array Value} (hkb : w.heap[kb]? = some (.cells cs 46 (0, 0))) :
    ∃ w5, (Instr.mapUpdate 24 (.map (some bm)) (.agg #[.int .i64 c, .string s]) (ptrV w.heap.size)).run Try.prog (w.alloc (.cells #[.int .i64 x.now, .int .i64 0] 50)).drew = .ok () w5 ∧ Stored w g bm v l m c s kb cs x w5 := by
  obtain ⟨w5, hrun, hm5, hturn⟩ := (h.keys.kept (w' := (w.alloc (.cells #[.int .i64 x.now, .int .i64 0] 50)).drew) (Below.heap_alloc _ _ _ h.keys.lt)).store hk hn (by have := h.few'; unfold maxLen; omega) w.heap.size
  have hg5 := hturn.grown
  have hb5 : ∀ k, k < w.heap.size + 1 → k ≠ bm → w5.heap[k]? = (w.alloc (.cells #[.int .i64 x.now, .int .i64 0] 50)).heap[k]? := fun k hk' hne => hg5.block k (by simpa using hk') (fun e => hne (by injection e))
  have hz : w5.heap.size = w.heap.size + 1 := by obtain ⟨es, clock, es', clock', hb, e⟩ := hturn; rw [e]; simp [ChangeMaps.setBlock]
  have hlt := h.lt g h.sg
  have hklt := (Array.getElem?_eq_some_iff.1 hkb).1
  refine ⟨w5, hrun, { size := hz, head := (hb5 g (by omega) h.gbm).trans ((Below.heap_alloc _ _ _ hlt).trans h.head), key := (hb5 kb (by omega) (not_map h.keys hkb)).trans ((Below.heap_alloc _ _ _ hklt).trans hkb), turn := (hb5 _ (by omega) (fun e => by have := h.keys.lt; omega)).trans (heap_alloc_new w _), map := hm5, row := ?_, kept := ?_ }⟩
  · exact (h.row.alloc (.cells #[.int .i64 x.now, .int .i64 0] 50)).kept (w := (w.alloc (.cells #[.int .i64 x.now, .int .i64 0] 50))) (row := some bm) ⟨hg5.os, hg5.tape, hg5.output, hg5.size, hg5.block⟩ (.inr h.vbm)
  · exact ⟨hg5.os, hg5.tape, hg5.output, by omega, fun k hk' hs => (hb5 k (by omega) hs).trans (Below.heap_alloc _ _ _ hk')⟩

theorem LimAt.appended (h : LimAt w g S x bm v l m) {c : Int} {s : ByteArray} (hk : KeyOk c s) (hn : m c s = none) (hfew : (l.length : Int) < x.most) {kb : Nat} {cs : Array Value} {w5 w5' w6 : World} (h5 : Stored w g bm v l m c s kb cs x w5)
    (hb5 : Below w5.heap.size w5 w5') {g' cap : Nat} (hrow : w6.ownsRow 0 46 2 (.slice (some ⟨g', 0, none⟩) (l.length + 1) cap) (l.length + 1) (keyCells l ++ [.int .i64 c, .string s])) (hgrow : w5'.grownBy w6 v.ownBlock) (hat : v.ownBlock = some g' ∨ g' = w5.heap.size + 1) (n : Nat) :
    LimAt ((w6.setCell ⟨g, 6, none⟩ (.slice (some ⟨g', 0, none⟩) (l.length + 1) cap)).drewN n) g (fun k => S k ∨ (w.heap.size ≤ k ∧ k < w6.heap.size)) { x with L := x.L ++ [⟨c, s, x.now, 0⟩] } bm (.slice (some ⟨g', 0, none⟩) (l.length + 1) cap) (l ++ [⟨⟨c, s, x.now, 0⟩, w.heap.size⟩]) (put m c s (some w.heap.size))
      ∧ KeptOff (fun k => k = g ∨ k = bm ∨ v.ownBlock = some k) w ((w6.setCell ⟨g, 6, none⟩ (.slice (some ⟨g', 0, none⟩) (l.length + 1) cap)).drewN n) := by
  have hz := h5.size
  have hz5 := hb5.size
  have hz6 := hgrow.size
  have hlt := h.lt g h.sg
  have hb6 : ∀ k, k < w5.heap.size → v.ownBlock ≠ some k → w6.heap[k]? = w5.heap[k]? := fun k hk' hne => (hgrow.block k (by omega) (fun e => hne e.symm)).trans (hb5.block k hk')
  have hgg' : g' ≠ g := by
    rintro rfl
    rcases hat with h1 | h1
    · exact h.gv h1
    · omega
  have hkept : KeptOff (fun k => k = g ∨ k = bm ∨ v.ownBlock = some k) w ((w6.setCell ⟨g, 6, none⟩ (.slice (some ⟨g', 0, none⟩) (l.length + 1) cap)).drewN n) := by
    refine ⟨hgrow.os.trans (hb5.os.trans h5.kept.os), hgrow.tape.trans (hb5.tape.trans h5.kept.tape), hgrow.output.trans (hb5.output.trans h5.kept.output), ?_, fun k hk' hs => ?_⟩
    · simp only [World.heap_drewN, World.size_setCell]; omega
    · have h1 : k ≠ g := fun e => hs (.inl e)
      have h2 : k ≠ bm := fun e => hs (.inr (.inl e))
      have h3 : v.ownBlock ≠ some k := fun e => hs (.inr (.inr e))
      exact (Below.heap_setCell _ _ _ _ h1).trans ((hb6 k (by omega) h3).trans (h5.kept.block k hk' h2))
  refine ⟨?_, hkept⟩
  have hs6 : ((w6.setCell ⟨g, 6, none⟩ (.slice (some ⟨g', 0, none⟩) (l.length + 1) cap)).drewN n).heap.size = w6.heap.size := by simp
  rw [← hs6]
  refine h.add hk hn hfew hkept ?_ ?_ ?_ ?_ ?_ (Nat.le_refl _)
  · have h6 : w6.heap[g]? = some (.cells (limCells x bm v) 27 (0, 0)) := (hb6 g (by omega) h.gv).trans h5.head
    exact blk_set h6 6 _
  · refine h5.map.kept ?_
    have hbl := h.keys.lt
    exact (Below.heap_setCell _ _ _ _ (Ne.symm h.gbm)).trans (hb6 bm (by omega) h.vbm)
  · exact hrow.kept (row := some g) ⟨rfl, rfl, rfl, by simp, fun k _ hne => Below.heap_setCell _ _ _ _ (fun e => hne (by rw [e]))⟩ (.inr (by simp only [Value.ownBlock, ne_eq, Option.some.injEq]; exact hgg'))
  · intro k hk'
    simp only [Value.ownBlock, Option.some.injEq] at hk'
    subst hk'
    rcases hat with h1 | h1
    · exact .inl h1
    · right; omega
  · have hne : w.heap.size ≠ g := by omega
    refine (Below.heap_setCell _ _ _ _ hne).trans ((hb6 _ (by omega) (fun e => ?_)).trans h5.turn)
    have := (h.row.lt _ e).2
    omega

/-! ### The count -/
theorem find_mem_apart {l : List Put} {p : Put} (hp : p ∈ l) (ha : l.Pairwise fun p q => p.t ≠ q.t ∧ ¬ same p.e.c p.e.s q.e) : findE (l.map (·.e)) p.e.c p.e.s = some p.e := by
  induction l with
  | nil => cases hp
  | cons q r ih =>
    obtain ⟨h1, h2⟩ := List.pairwise_cons.1 ha
    unfold findE at ih ⊢
    rw [List.map_cons, List.find?_cons]
    rcases List.mem_cons.1 hp with rfl | hp
    · simp [hit]
    · have : hit p.e.c p.e.s q.e = false := by
        simp only [hit, decide_eq_false_iff_not]
        exact fun ⟨e1, e2⟩ => (h1 p hp).2 ⟨e1.symm, e2.symm⟩
      rw [this]
      exact ih hp h2
theorem apart_of {α : Type} {R : α → α → Prop} (hs : ∀ {a b}, R a b → R b a) : ∀ {l : List α}, l.Pairwise R → ∀ {a b}, a ∈ l → b ∈ l → a ≠ b → R a b
  | [], _, _, _, ha, _, _ => by cases ha
  | x :: r, h, a, b, ha, hb, hne => by
    obtain ⟨h1, h2⟩ := List.pairwise_cons.1 h
    rcases List.mem_cons.1 ha with rfl | ha'
    · rcases List.mem_cons.1 hb with rfl | hb'
      · exact absurd rfl hne
      · exact h1 b hb'
    · rcases List.mem_cons.1 hb with rfl | hb'
      · exact hs (h1 a ha')
      · exact apart_of hs h2 ha' hb' hne
theorem map_step {l : List Put} {p : Put} (hp : p ∈ l) (ha : l.Pairwise fun p q => p.t ≠ q.t ∧ ¬ same p.e.c p.e.s q.e) (b n : Int) :
    (l.map (setT p.t b n)).map (·.e) = (l.map (·.e)).map fun q => if hit p.e.c p.e.s q then ⟨p.e.c, p.e.s, b, n⟩ else q := by
  rw [List.map_map, List.map_map]
  refine List.map_congr_left fun q hq => ?_
  simp only [Function.comp_apply]
  by_cases e : q = p
  · subst e
    simp [setT, hit]
  · have key : q.t ≠ p.t ∧ ¬ (q.e.c = p.e.c ∧ q.e.s = p.e.s) := by
      refine apart_of (R := fun a b : Put => a.t ≠ b.t ∧ ¬ (a.e.c = b.e.c ∧ a.e.s = b.e.s)) (fun ⟨h1, h2⟩ => ⟨Ne.symm h1, fun ⟨e1, e2⟩ => h2 ⟨e1.symm, e2.symm⟩⟩) ?_ hq hp e
      exact ha.imp fun {a b} ⟨h1, h2⟩ => ⟨h1, fun ⟨e1, e2⟩ => h2 ⟨e1.symm, e2.symm⟩⟩
    have hh : hit p.e.c p.e.s q.e = false := by simpa [hit] using key.2
    rw [hh]
    simp [setT, if_neg key.1]
theorem LimAt.fin (h : LimAt w g S x bm v l m) {p : Put} (hp : p ∈ l) :
    finE x p.e.c p.e.s = (verdict x (stepE x p.e), { x with L := (l.map (setT p.t (stepE x p.e).began (stepE x p.e).cnt)).map (·.e) }) := by
  unfold finE
  rw [h.ents, find_mem_apart hp h.apart]
  have hs : stepE x p.e = ⟨p.e.c, p.e.s, (stepE x p.e).began, (stepE x p.e).cnt⟩ := by unfold stepE; split <;> rfl
  simp only
  rw [map_step hp h.apart]
  congr 2
  refine List.map_congr_left fun q hq => ?_
  by_cases hh : hit p.e.c p.e.s q = true
  · have : q = p.e := by
      obtain ⟨q0, hq0, rfl⟩ := List.mem_map.1 hq
      simp only [hit, decide_eq_true_eq] at hh
      by_cases e : q0 = p
      · rw [e]
      · have := apart_of (R := fun a b : Put => a.t ≠ b.t ∧ ¬ (a.e.c = b.e.c ∧ a.e.s = b.e.s)) (fun ⟨h1, h2⟩ => ⟨Ne.symm h1, fun ⟨e1, e2⟩ => h2 ⟨e1.symm, e2.symm⟩⟩) (h.apart.imp fun {a b} ⟨h1, h2⟩ => ⟨h1, fun ⟨e1, e2⟩ => h2 ⟨e1.symm, e2.symm⟩⟩) hq0 hp e
        exact absurd hh this.2
    rw [if_pos hh, if_pos hh]; exact hs
  · rw [if_neg hh, if_neg hh]
theorem stepE_began {x : Lim} {e : Ent} (h : EntOk x e) (hx : 0 ≤ x.now) : 0 ≤ (stepE x e).began ∧ (stepE x e).began ≤ x.now := by
  unfold stepE; split
  · exact ⟨hx, Int.le_refl _⟩
  · exact ⟨h.b0, h.b1⟩
theorem stepE_cnt {x : Lim} {e : Ent} (h : EntOk x e) : 0 ≤ (stepE x e).cnt ∧ (stepE x e).cnt ≤ 1073741824 := by
  have := h.n0
  unfold stepE
  split
  · simp
  · simp only; split <;> omega
/-- The count is told, and kept. -/
theorem LimAt.done {w' : World} (h : LimAt w g S x bm v l m) {p : Put} (hp : p ∈ l) (hk : KeptOff (fun k => k = p.t) w w') (hc : w'.heap[p.t]? = some (.cells #[.int .i64 (stepE x p.e).began, .int .i64 (stepE x p.e).cnt] 50 (0, 0))) :
    IsLim w' g S (finE x p.e.c p.e.s).2 := by
  have ho := h.ok.ents p.e (by rw [h.ents]; exact List.mem_map_of_mem hp)
  rw [h.fin hp]
  exact ⟨bm, v, _, m, h.setEnt hp rfl hk hc (stepE_began ho h.ok.n0).1 (stepE_began ho h.ok.n0).2 (stepE_cnt ho).1 (stepE_cnt ho).2⟩

theorem KeptOff.cellT (w : World) (t j : Nat) (u : Value) : KeptOff (fun k => k = t) w (w.setCell ⟨t, j, none⟩ u) := KeptOff.setCell (S := fun k => k = t) w (p := ⟨t, j, none⟩) rfl u
theorem wrote_over {w : World} {t : Nat} {a b : Value} {T : TypeId} (n : Nat) (h : w.heap[t]? = some (.cells #[a, b] T (0, 0))) (u z o : Value) :
    KeptOff (fun k => k = t) w ((((w.drewN n).setCell ⟨t, 0, none⟩ u).setCell ⟨t, 1, none⟩ z).setCell ⟨t, 1, none⟩ o) ∧ ((((w.drewN n).setCell ⟨t, 0, none⟩ u).setCell ⟨t, 1, none⟩ z).setCell ⟨t, 1, none⟩ o).heap[t]? = some (.cells #[u, o] T (0, 0)) :=
  ⟨(((KeptOff.drewN _ w n).then (KeptOff.cellT _ t 0 u)).then (KeptOff.cellT _ t 1 z)).then (KeptOff.cellT _ t 1 o), blk_set (blk_set (blk_set (w := w.drewN n) h 0 u) 1 z) 1 o⟩
theorem wrote_not {w : World} {t : Nat} {a b : Value} {T : TypeId} (n : Nat) (h : w.heap[t]? = some (.cells #[a, b] T (0, 0))) (o : Value) :
    KeptOff (fun k => k = t) w ((w.drewN n).setCell ⟨t, 1, none⟩ o) ∧ ((w.drewN n).setCell ⟨t, 1, none⟩ o).heap[t]? = some (.cells #[a, o] T (0, 0)) :=
  ⟨(KeptOff.drewN _ w n).then (KeptOff.cellT _ t 1 o), blk_set (w := w.drewN n) h 1 o⟩
theorem stepE_over {x : Lim} {e : Ent} (h : x.window ≤ x.now - e.began) : stepE x e = ⟨e.c, e.s, x.now, 1⟩ := by simp [stepE, overE, h]
theorem stepE_not {x : Lim} {e : Ent} (h : ¬ x.window ≤ x.now - e.began) : stepE x e = ⟨e.c, e.s, e.began, if e.cnt + 1 < 1073741824 then e.cnt + 1 else 1073741824⟩ := by simp [stepE, overE, h]

theorem verdict_pass {x : Lim} {c : Int} {s : ByteArray} {b n : Int} (h : n - x.limit ≤ 0) : verdict x ⟨c, s, b, n⟩ = 0 := by simp [verdict, h]
theorem verdict_slip {x : Lim} {c : Int} {s : ByteArray} {b n : Int} (h : 0 < n - x.limit) (h2 : 0 < x.slip) (h3 : ((n - x.limit) % x.slip == 0) = true) : verdict x ⟨c, s, b, n⟩ = 1 := by
  unfold verdict
  simp only
  rw [if_neg (by omega), if_pos ⟨h2, by simpa using h3⟩]
theorem verdict_drop {x : Lim} {c : Int} {s : ByteArray} {b n : Int} (h : 0 < n - x.limit) (_h2 : 0 < x.slip) (h3 : ((n - x.limit) % x.slip == 0) = false) : verdict x ⟨c, s, b, n⟩ = 2 := by
  unfold verdict
  simp only
  rw [if_neg (by omega), if_neg (fun h4 => by have := h4.2; simp [this] at h3)]
theorem verdict_none {x : Lim} {c : Int} {s : ByteArray} {b n : Int} (h : 0 < n - x.limit) (h2 : x.slip ≤ 0) : verdict x ⟨c, s, b, n⟩ = 2 := by
  unfold verdict
  simp only
  rw [if_neg (by omega), if_neg (fun h4 => by have := h4.1; omega)]
end Go.Proofs.Ytihnmabmjffgoaa
