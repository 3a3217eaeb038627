/- room: which key goes, and the limiter without it. -/
import Derived.Test.YtihnmabmjffgoaaDel
import Derived.Deep.QuietTactic
import Derived.BigQuiet
import Derived.Deep.DeepCutAuto
import Derived.Deep.LoopGhost
namespace Go.Proofs.Ytihnmabmjffgoaa
open Go.RowKit Go.Maps

def goesStep (x : Lim) (e : Ent) (i : Nat) (b : Option (Nat × Int)) : Option (Nat × Int) := if overE x e ∧ (∀ y, b = some y → e.began < y.2) then some (i, e.began) else b
theorem goesE_snoc (x : Lim) (e : Ent) : ∀ (L : List Ent) (i : Nat) (b : Option (Nat × Int)), goesE x (L ++ [e]) i b = goesStep x e (i + L.length) (goesE x L i b)
  | [], i, b => rfl
  | f :: r, i, b => by
    simp only [List.cons_append, goesE]
    rw [goesE_snoc x e r (i + 1)]
    simp only [List.length_cons]
    rw [show i + 1 + r.length = i + (r.length + 1) by omega]
def goesTo (x : Lim) (i : Nat) : Option (Nat × Int) := goesE x (x.L.take i) 0 none
theorem goesTo_succ (x : Lim) {i : Nat} (hi : i < x.L.length) : goesTo x (i + 1) = goesStep x x.L[i] i (goesTo x i) := by
  unfold goesTo
  rw [List.take_succ_eq_append_getElem hi, goesE_snoc]
  simp [Nat.min_eq_left (Nat.le_of_lt hi)]
theorem goesTo_all (x : Lim) : goesTo x x.L.length = goesE x x.L 0 none := by simp [goesTo]
theorem goesTo_inv (x : Lim) : ∀ i, i ≤ x.L.length → ∀ j b, goesTo x i = some (j, b) → ∃ h : j < x.L.length, j < i ∧ x.L[j].began = b ∧ overE x x.L[j] = true
  | 0, _, j, b, h => by simp [goesTo, goesE] at h
  | i + 1, hi, j, b, h => by
    rw [goesTo_succ x (by omega)] at h
    unfold goesStep at h
    split at h
    · rename_i hc
      cases h
      exact ⟨by omega, by omega, rfl, by simpa using hc.1⟩
    · obtain ⟨h1, h2, h3, h4⟩ := goesTo_inv x i (by omega) j b h
      exact ⟨h1, by omega, h3, h4⟩
def goesV (o : Option (Nat × Int)) : Int := match o with | none => -1 | some y => (y.1 : Int)

variable {w : World} {g : Nat} {S : Nat → Prop} {x : Lim} {bm : Nat} {v : Value} {l : List Put} {m : Int → ByteArray → Option Nat}

theorem keyCells_length (l : List Put) : (keyCells l).length = l.length * 2 := by
  induction l with
  | nil => rfl
  | cons p r ih => simp only [keyCells, List.flatMap_cons, List.length_append, List.length_cons, List.length_nil] at ih ⊢; omega
theorem keyCells_at : ∀ (l : List Put) (i : Nat) (hi : i < l.length), (keyCells l)[i * 2]? = some (.int .i64 l[i].e.c) ∧ (keyCells l)[i * 2 + 1]? = some (.string l[i].e.s)
  | p :: r, 0, _ => ⟨rfl, rfl⟩
  | p :: r, i + 1, hi => by
    have := keyCells_at r i (by simpa using hi)
    have e : keyCells (p :: r) = .int .i64 p.e.c :: .string p.e.s :: keyCells r := rfl
    rw [e, show (i + 1) * 2 = i * 2 + 1 + 1 by omega]
    simpa using this
theorem keyCells_erase : ∀ (l : List Put) (i : Nat), i < l.length → keyCells (l.eraseIdx i) = (keyCells l).take (i * 2) ++ (keyCells l).drop ((i + 1) * 2)
  | p :: r, 0, _ => by simp [keyCells]
  | p :: r, i + 1, hi => by
    have e : ∀ q : List Put, keyCells (p :: q) = .int .i64 p.e.c :: .string p.e.s :: keyCells q := fun _ => rfl
    rw [List.eraseIdx_cons_succ, e, e, keyCells_erase r i (by simpa using hi), show (i + 1) * 2 = i * 2 + 1 + 1 by omega, show (i + 1 + 1) * 2 = (i + 1) * 2 + 1 + 1 by omega]
    simp only [List.take_succ_cons, List.drop_succ_cons, List.cons_append]
    rw [show i * 2 + 1 + 1 = (i + 1) * 2 by omega]

/-- The order's row, where there is a key. -/
theorem LimAt.order (h : LimAt w g S x bm v l m) (hn : 0 < l.length) : ∃ a cap cur, v = .slice (some ⟨a, 0, none⟩) l.length cap ∧ w.heap[a]? = some (.cells cur 46 (0, 0)) ∧ l.length ≤ cap ∧ cap ≤ maxLen ∧ cur.size = cap * 2 ∧ cur.toList.take (l.length * 2) = keyCells l := by
  rcases h.row.2 with ⟨_, h2⟩ | ⟨a, cap, cur, rfl, _, h4, h5, h6, h7, h8⟩
  · omega
  · exact ⟨a, cap, cur, rfl, h4, h5, h6, h7, h8⟩
theorem order_at {w : World} {a : Nat} {cur : Array Value} {l : List Put} (hb : w.heap[a]? = some (.cells cur 46 (0, 0))) (ht : cur.toList.take (l.length * 2) = keyCells l) {i : Nat} (hi : i < l.length) :
    w.cell? ⟨a, i * 2, none⟩ = some (.int .i64 l[i].e.c) ∧ w.cell? ⟨a, i * 2 + 1, none⟩ = some (.string l[i].e.s) := by
  obtain ⟨h1, h2⟩ := keyCells_at l i hi
  rw [← ht, List.getElem?_take, if_pos (by omega), Array.getElem?_toList] at h1 h2
  exact ⟨by rw [blk_cell hb]; exact h1, by rw [blk_cell hb]; exact h2⟩

theorem map_erase {α β : Type} (f : α → β) : ∀ (l : List α) (j : Nat), (l.map f).eraseIdx j = (l.eraseIdx j).map f
  | [], _ => rfl
  | _ :: _, 0 => rfl
  | a :: r, j + 1 => by simp only [List.map_cons, List.eraseIdx_cons_succ, map_erase f r j]
theorem split_at {α : Type} {l : List α} {j : Nat} (hj : j < l.length) : l = l.take j ++ l[j] :: l.drop (j + 1) ∧ l.eraseIdx j = l.take j ++ l.drop (j + 1) := by
  refine ⟨?_, List.eraseIdx_eq_take_drop_succ l j⟩
  rw [← List.drop_eq_getElem_cons hj, List.take_append_drop]

/-- A limiter without one of its keys. -/
theorem LimAt.dropped {a cap cap0 : Nat} {cur cur' : Array Value} {w5 w6 : World} (h : LimAt w g S x bm (.slice (some ⟨a, 0, none⟩) l.length cap0) l m) (ha : w.heap[a]? = some (.cells cur 46 (0, 0))) {j n : Nat} (hj : j < l.length) (hn : l.length = n + 1)
    (hmap : IsMapK w5 bm n (put m l[j].e.c l[j].e.s none)) (hk5 : KeptOff (fun k => k = bm) w w5) (hk6 : KeptOff (fun k => k = a) w5 w6) (hcur : w6.heap[a]? = some (.cells cur' 46 (0, 0))) (hsz : cur'.size = cap * 2) (hcap : n ≤ cap) (hcap2 : cap ≤ maxLen)
    (htake : cur'.toList.take (n * 2) = keyCells (l.eraseIdx j)) (q : Nat) :
    LimAt ((w6.setCell ⟨g, 6, none⟩ (.slice (some ⟨a, 0, none⟩) n cap)).drewN q) g S { x with L := x.L.eraseIdx j } bm (.slice (some ⟨a, 0, none⟩) n cap) (l.eraseIdx j) (put m l[j].e.c l[j].e.s none) ∧ KeptOff S w ((w6.setCell ⟨g, 6, none⟩ (.slice (some ⟨a, 0, none⟩) n cap)).drewN q) := by
  have hSa : S a := h.sv a rfl
  have hga : g ≠ a := fun e => h.gv (by rw [e]; rfl)
  have hba : bm ≠ a := fun e => h.vbm (by rw [e]; rfl)
  have hlt : ∀ k, S k → k < w5.heap.size := fun k hs => Nat.lt_of_lt_of_le (h.lt k hs) hk5.size
  have hb6 : ∀ k, S k → k ≠ bm → k ≠ a → w6.heap[k]? = w.heap[k]? := fun k hs h1 h2 => (hk6.block k (hlt k hs) h2).trans (hk5.block k (h.lt k hs) h1)
  have hb7 : ∀ k, S k → k ≠ bm → k ≠ a → k ≠ g → ((w6.setCell ⟨g, 6, none⟩ (.slice (some ⟨a, 0, none⟩) n cap)).drewN q).heap[k]? = w.heap[k]? := fun k hs h1 h2 h3 => (Below.heap_setCell _ _ _ _ h3).trans (hb6 k hs h1 h2)
  have hkeep : KeptOff S w ((w6.setCell ⟨g, 6, none⟩ (.slice (some ⟨a, 0, none⟩) n cap)).drewN q) :=
    (((hk5.mono (fun k hk => hk ▸ h.sm)).then (hk6.mono (fun k hk => hk ▸ hSa))).then (KeptOff.setCell _ h.sg _)).then (KeptOff.drewN _ _ _)
  obtain ⟨hs1, hs2⟩ := split_at hj
  have hsub : ∀ p ∈ l.eraseIdx j, p ∈ l := fun p hp => List.mem_of_mem_eraseIdx hp
  have hta : ∀ p ∈ l, p.t ≠ a := fun p hp e => by
    have := (h.at_ p hp).2
    rw [e, ha] at this
    injection this with h2
    injection h2 with _ h2
    cases h2
  have htb : ∀ p ∈ l, p.t ≠ bm := fun p hp => not_map h.keys (h.at_ p hp).2
  have hother : ∀ p ∈ l.eraseIdx j, ¬ (p.e.c = l[j].e.c ∧ p.e.s = l[j].e.s) := fun p hp => by
    have hpw := h.apart
    rw [hs1, List.pairwise_append] at hpw
    obtain ⟨_, h2, h3⟩ := hpw
    rw [List.pairwise_cons] at h2
    rw [hs2, List.mem_append] at hp
    rcases hp with hp | hp
    · have := (h3 p hp l[j] List.mem_cons_self).2
      exact fun ⟨e1, e2⟩ => this ⟨e1.symm, e2.symm⟩
    · have := (h2.1 p hp).2
      exact this
  have hl' : (l.eraseIdx j).length = n := by rw [List.length_eraseIdx_of_lt hj]; omega
  have o := h.ok
  refine ⟨{ ok := { m0 := o.m0, m1 := o.m1, l0 := o.l0, l1 := o.l1, w0 := o.w0, w1 := o.w1, s0 := o.s0, s1 := o.s1, n0 := o.n0, n1 := o.n1, few := ?_, ents := ?_ }, head := ?_, keys := ?_, row := ?_, ents := ?_, at_ := ?_, only := ?_, apart := h.apart.sublist (List.eraseIdx_sublist l j), sg := h.sg, sm := h.sm, sv := ?_, st := fun p hp => h.st p (hsub p hp), lt := ?_ }, hkeep⟩
  · have := o.few
    have h2 := List.length_eraseIdx_le x.L j
    simp only
    omega
  · intro e he
    have he' := o.ents e (List.mem_of_mem_eraseIdx he)
    exact ⟨he'.key, he'.b0, he'.b1, he'.n0, he'.n1⟩
  · have h6 : w6.heap[g]? = some (.cells (limCells x bm (.slice (some ⟨a, 0, none⟩) l.length cap0)) 27 (0, 0)) := (hb6 g h.sg h.gbm hga).trans h.head
    exact blk_set h6 6 _
  · rw [hl']
    exact hmap.kept ((Below.heap_setCell _ _ _ _ (Ne.symm h.gbm)).trans (hk6.block bm (hlt bm h.sm) hba))
  · rw [hl']
    refine ⟨by rw [keyCells_length, hl'], .inr ⟨a, cap, cur', rfl, Nat.zero_le _, ?_, hcap, hcap2, hsz, htake⟩⟩
    exact (Below.heap_setCell _ _ _ _ (Ne.symm hga)).trans hcur
  · show x.L.eraseIdx j = _
    rw [h.ents, map_erase]
  · intro p hp
    have hp' := hsub p hp
    refine ⟨?_, (hb7 _ (h.st p hp') (htb p hp') (hta p hp') (Ne.symm (h.gt hp'))).trans (h.at_ p hp').2⟩
    simp only [put, if_neg (hother p hp)]
    exact (h.at_ p hp').1
  · intro c s hk hne
    by_cases e : c = l[j].e.c ∧ s = l[j].e.s
    · simp only [put, if_pos e]
    · simp only [put, if_neg e]
      refine h.only c s hk fun p hp hs => ?_
      rw [hs1, List.mem_append, List.mem_cons] at hp
      rcases hp with hp | hp | hp
      · exact hne p (by rw [hs2]; simp [hp]) hs
      · subst hp; exact e ⟨hs.1.symm, hs.2.symm⟩
      · exact hne p (by rw [hs2]; simp [hp]) hs
  · intro k hk
    simp only [Value.ownBlock, Option.some.injEq] at hk
    subst hk
    exact hSa
  · intro k hs
    have h1 := hlt k hs
    have h2 := hk6.size
    simp only [World.heap_drewN, World.size_setCell]
    omega

theorem keyCells_one : ∀ (l : List Put), ∀ u ∈ keyCells l, u.oneCell' = true := by
  intro l u hu
  simp only [keyCells, List.mem_flatMap] at hu
  obtain ⟨p, _, hp⟩ := hu
  simp only [List.mem_cons, List.not_mem_nil, or_false] at hp
  rcases hp with rfl | rfl <;> rfl
theorem hkB {w w' : World} {S : Nat → Prop} (hb : Below w.heap.size w w') : KeptOff S w w' := ⟨hb.os, hb.tape, hb.output, hb.size, fun k hk _ => hb.block k hk⟩
theorem LimAt.below {w' : World} (h : LimAt w g S x bm v l m) (hb : Below w.heap.size w w') : LimAt w' g S x bm v l m :=
  h.kept (T := fun _ => False) ⟨hb.os, hb.tape, hb.output, hb.size, fun k hk _ => hb.block k hk⟩ (fun _ _ h => h)

set_option maxRecDepth 100000 in
set_option maxHeartbeats 2000000 in
theorem room_full (h : LimAt w g S x bm v l m) (hfull : ¬ (x.L.length : Int) < x.most) : Calls Try.prog 15 #[.pointer (some ⟨g, 0, none⟩)] w (RoomPost w g S x bm) := by
  have hlen : x.L.length = l.length := by rw [h.ents, List.length_map]
  have hnm : ¬ (l.length : Int) < x.most := by rw [← hlen]; exact hfull
  have hn : 0 < l.length := by have := h.ok.m0; omega
  have hfew := h.few'
  obtain ⟨a, cap, cur, rfl, hcur, hcap1, hcap2, hcs, hct⟩ := h.order hn
  have hl : ∀ ty k, (Builtin.len_ #[24] ty #[.map (some bm)]).run Try.prog (w.drewN k) = .ok (.int .i64 (l.length : Int)) (w.drewN k) := fun ty k => (h.keys.kept (w' := w.drewN k) rfl).len ty
  obtain ⟨h0, h1, h2, h3, h4, h5, h6⟩ := h.cells
  have HH := Lib.hid h; clear h
  have HL := Lib.hid hlen; clear hlen
  have HCT := Lib.hid hct; clear hct
  have HCS := Lib.hid hcs; clear hcs
  have HCUR := Lib.hid hcur; clear hcur
  unfold maxLen at hcap2
  clear hfull
  go_enter Try.func15, Try.ntmps15
  go_wp2_with fail
  go_quiet (fail)
  clear hl
  go_wp2_with fail
  go_loopw [22, 3] (fun i gs wr => ∃ k : Nat, k ≤ l.length ∧ i = .int .i64 k ∧ gs = .int .i64 (goesV (goesTo x k)) ∧ Below w.heap.size w wr) (fun i _ _ => l.length - (intOf i).toNat)
  case atStart => exact ⟨0, Nat.zero_le _, rfl, rfl, (Below.refl _ w).trans ⟨rfl, rfl, rfl, Nat.le_refl _, fun _ _ => rfl⟩⟩
  case round =>
    obtain ⟨k, hk, rfl, rfl, hB⟩ := hrel
    have hW := HH.out.below hB
    by_cases hlt : k < l.length
    · have hB1 : Below w.heap.size w (wr.alloc (Obj.cells #[Value.int IntKind.i64 l[k].e.c, Value.string l[k].e.s] 46)) := hB.alloc hB.size _
      have hW1 := HH.out.below hB1
      have hcur2 := (hB.block a (Array.getElem?_eq_some_iff.1 HCUR.out).1).trans HCUR.out
      have hcur1 := (hB1.block a (Array.getElem?_eq_some_iff.1 HCUR.out).1).trans HCUR.out
      obtain ⟨c0, c1⟩ := order_at hcur2 HCT.out hlt
      have hkb : (wr.alloc (Obj.cells #[Value.int IntKind.i64 l[k].e.c, Value.string l[k].e.s] 46)).heap[wr.heap.size]? = some (.cells #[Value.int IntKind.i64 l[k].e.c, Value.string l[k].e.s] 46 (0, 0)) := heap_alloc_new wr _
      clear h0 h1 h2 h3 h4 h5 h6 hW
      go_upto_region 7 with fail
      generalize hW1e : wr.alloc (Obj.cells #[Value.int IntKind.i64 l[k].e.c, Value.string l[k].e.s] 46) = W1 at hB1 hW1 hcur1 hkb ⊢
      clear hW1e
      generalize wr.heap.size = kb at hkb ⊢
      obtain ⟨_, _, _, _, _, d5, _⟩ := hW1.cells
      obtain ⟨hmk, _⟩ := hW1.at_ l[k] (List.getElem_mem hlt)
      have k0 : W1.cell? ⟨kb, 0, none⟩ = some (.int .i64 l[k].e.c) := blk_cell hkb 0
      have k1 : W1.cell? ⟨kb, 1, none⟩ = some (.string l[k].e.s) := blk_cell hkb 1
      have eok := hW1.ok.ents l[k].e (by rw [hW1.ents]; exact List.mem_map_of_mem (List.getElem_mem hlt))
      have hlook : ∀ j, (Instr.lookup 24 (.map (some bm)) (.agg #[.int .i64 l[k].e.c, .string l[k].e.s]) false).run Try.prog (W1.drewN j) = .ok (ptrV l[k].t) (W1.drewN j) := fun j => by
        have := (hW1.keys.kept (w' := W1.drewN j) rfl).look eok.key false
        rw [hmk] at this
        exact this
      have hgs := goesTo_succ x (i := k) (by rw [HL.out]; exact hlt)
      have hxk : x.L[k]'(by rw [HL.out]; exact hlt) = l[k].e := by
        have := hW1.ents
        simp only [this, List.getElem_map]
      rw [hxk] at hgs
      have HW1 := Lib.hid hW1; clear hW1
      have HC1 := Lib.hid hcur1; clear hcur1
      have HGS := Lib.hid hgs; clear hgs
      have HB1 := Lib.hid hB1; clear hB1
      have HEOK := Lib.hid eok; clear eok
      clear hcur2 hkb hmk hxk hB c0 c1
      go_quiet (fail)
      clear hlook d5 k0 k1
      have hW2 := HW1.out.kept (T := fun _ => False) (KeptOff.drewN _ W1 nq) (fun _ _ h => h)
      have hB2 : Below w.heap.size w (W1.drewN nq) := HB1.out.trans ⟨rfl, rfl, rfl, Nat.le_refl _, fun _ _ => rfl⟩
      have hc2 : (W1.drewN nq).heap[a]? = some (.cells cur 46 (0, 0)) := HC1.out
      generalize W1.drewN nq = W2 at hW2 hB2 hc2 ⊢
      obtain ⟨d0, d1, d2, d3, d4, d5, d6⟩ := hW2.cells
      obtain ⟨_, htk⟩ := hW2.at_ l[k] (List.getElem_mem hlt)
      have tk0 : W2.cell? ⟨l[k].t, 0, none⟩ = some (.int .i64 l[k].e.began) := blk_cell htk 0
      have hcall : ∀ j, Calls Try.prog 16 #[.pointer (some ⟨g, 0, none⟩), .pointer (some ⟨l[k].t, 0, none⟩)] (W2.drewN j) fun e w' => e = .returned (.bool (decide (x.window ≤ x.now - l[k].e.began))) ∧ ∃ n, w' = (W2.drewN j).drewN n := fun j =>
        over_calls g l[k].t x.now x.window l[k].e.began (W2.drewN j) d4 d2 tk0 hW2.ok.n0 hW2.ok.n1 HEOK.out.b0 (Int.le_trans HEOK.out.b1 hW2.ok.n1)
      have HW2 := Lib.hid hW2; clear hW2
      have HB2 := Lib.hid hB2; clear hB2
      have HC2 := Lib.hid hc2; clear hc2
      clear htk HW1 HB1 HC1
      by_cases hov : x.window ≤ x.now - l[k].e.began
      · have hd : decide (x.window ≤ x.now - l[k].e.began) = true := by simpa using hov
        rw [hd] at hcall
        have HC := Lib.hid hcall; clear hcall
        cases hgt : goesTo x k with
        | none =>
          have hgk : goesV (goesTo x (k + 1)) = k := by
            rw [HGS.out, hgt]; unfold goesStep; rw [if_pos ⟨by simp only [overE, hd], fun y hy => by cases hy⟩]; rfl
          have HGK := Lib.hid hgk; clear hgk hd hov hgt
          have hv2 : goesV (none : Option (Nat × Int)) = -1 := rfl
          rw [hv2]
          clear hv2
          go_wp2_with fail
          go_quiet ((go_at_call 16; exact Calls.quiet_of (HC.out _)))
          go_wp2_with fail
          go_roundw
          case rel => exact ⟨k + 1, by omega, by go_num, by rw [HGK.out], HB2.out.trans ⟨rfl, rfl, rfl, Nat.le_refl _, fun _ _ => rfl⟩⟩
          case measure => simp [intOf]; omega
        | some y =>
          obtain ⟨jj, bb⟩ := y
          obtain ⟨hj1, hj2, hj3, _⟩ := goesTo_inv x k (by rw [HL.out]; exact hk) jj bb hgt
          have hjl : jj < l.length := by rw [← HL.out]; exact hj1
          have hxj : x.L[jj]'hj1 = l[jj].e := by
            have := HW2.out.ents
            simp only [this, List.getElem_map]
          rw [hxj] at hj3
          obtain ⟨e0, e1⟩ := order_at HC2.out HCT.out hjl
          obtain ⟨hmj, htj⟩ := HW2.out.at_ l[jj] (List.getElem_mem hjl)
          have tj0 : W2.cell? ⟨l[jj].t, 0, none⟩ = some (.int .i64 l[jj].e.began) := blk_cell htj 0
          have eokj := HW2.out.ok.ents l[jj].e (by rw [HW2.out.ents]; exact List.mem_map_of_mem (List.getElem_mem hjl))
          have hlook : ∀ j, (Instr.lookup 24 (.map (some bm)) (.agg #[.int .i64 l[jj].e.c, .string l[jj].e.s]) false).run Try.prog (W2.drewN j) = .ok (ptrV l[jj].t) (W2.drewN j) := fun j => by
            have := (HW2.out.keys.kept (w' := W2.drewN j) rfl).look eokj.key false
            rw [hmj] at this
            exact this
          have hv2 : goesV (some (jj, bb)) = (jj : Int) := rfl
          rw [hv2]
          clear hv2
          have z1 : (0 : Int) ≤ (jj : Int) := by omega
          have z2 : (jj : Int) < (l.length : Int) := by omega
          have HJ3 := Lib.hid hj3; clear hj3
          have HGT := Lib.hid hgt; clear hgt
          have HD := Lib.hid hd; clear hd hov htj hmj eokj hxj
          by_cases hlt2 : l[k].e.began < l[jj].e.began
          · have hgk : goesV (goesTo x (k + 1)) = k := by
              rw [HGS.out, HGT.out]; unfold goesStep; rw [if_pos ⟨by simp only [overE, HD.out], fun y hy => by cases hy; rw [← HJ3.out]; exact hlt2⟩]; rfl
            have HGK := Lib.hid hgk; clear hgk
            go_wp2_with fail
            go_quiet ((go_at_call 16; exact Calls.quiet_of (HC.out _)))
            go_wp2_with fail
            go_roundw
            case rel => exact ⟨k + 1, by omega, by go_num, by rw [HGK.out], HB2.out.trans ⟨rfl, rfl, rfl, Nat.le_refl _, fun _ _ => rfl⟩⟩
            case measure => simp [intOf]; omega
          · have hgk : goesV (goesTo x (k + 1)) = jj := by
              rw [HGS.out, HGT.out]; unfold goesStep; rw [if_neg (fun hc => hlt2 (by have := hc.2 _ rfl; rw [← HJ3.out] at this; exact this))]; rfl
            have HGK := Lib.hid hgk; clear hgk
            have hdd : decide (l[k].e.began < l[jj].e.began) = false := by simpa using hlt2
            go_wp2_with fail
            go_quiet ((go_at_call 16; exact Calls.quiet_of (HC.out _)))
            go_wp2_with fail
            go_roundw
            case rel => exact ⟨k + 1, by omega, by go_num, by rw [HGK.out], HB2.out.trans ⟨rfl, rfl, rfl, Nat.le_refl _, fun _ _ => rfl⟩⟩
            case measure => simp [intOf]; omega
      · have hd : decide (x.window ≤ x.now - l[k].e.began) = false := by simpa using hov
        rw [hd] at hcall
        have HC := Lib.hid hcall; clear hcall
        have hgk : goesTo x (k + 1) = goesTo x k := by
          rw [HGS.out]; unfold goesStep; rw [if_neg (fun hc => by have := hc.1; simp only [overE, hd] at this; cases this)]
        have HGK := Lib.hid hgk; clear hgk hd hov
        go_wp2_with fail
        go_quiet ((go_at_call 16; exact Calls.quiet_of (HC.out _)))
        go_wp2_with fail
        go_roundw
        case rel => exact ⟨k + 1, by omega, by go_num, by rw [HGK.out], HB2.out.trans ⟨rfl, rfl, rfl, Nat.le_refl _, fun _ _ => rfl⟩⟩
        case measure => simp [intOf]; omega
    · obtain rfl : k = l.length := by omega
      have hall : goesTo x l.length = goesE x x.L 0 none := by rw [← HL.out]; exact goesTo_all x
      have hr : roomE x = (goesTo x l.length).map fun y => x.L.eraseIdx y.1 := by unfold roomE; rw [if_neg (by rw [HL.out]; omega), hall]
      have HR := Lib.hid hr; clear hr hall
      clear h0 h1 h2 h3 h4 h5 h6
      cases hgt : goesTo x l.length with
      | none =>
        have hfin : RoomPost w g S x bm (.returned (.bool false)) wr := by
          unfold RoomPost; rw [HR.out, hgt]; exact ⟨rfl, hB⟩
        have HFIN := Lib.hid hfin; clear hfin hgt hB hW
        have hv2 : goesV (none : Option (Nat × Int)) = -1 := rfl
        rw [hv2]
        clear hv2
        go_wp2_with fail
        go_ret
        exact HFIN.out
      | some y =>
        obtain ⟨jj, bb⟩ := y
        obtain ⟨hj1, _, _, _⟩ := goesTo_inv x l.length (by rw [HL.out]; exact Nat.le_refl _) jj bb hgt
        have hjl : jj < l.length := by rw [← HL.out]; exact hj1
        obtain ⟨n, hn1⟩ : ∃ n, l.length = n + 1 := ⟨l.length - 1, by omega⟩
        have hcur2 := (hB.block a (Array.getElem?_eq_some_iff.1 HCUR.out).1).trans HCUR.out
        obtain ⟨c0, c1⟩ := order_at hcur2 HCT.out hjl
        obtain ⟨d0, d1, d2, d3, d4, d5, d6⟩ := hW.cells
        obtain ⟨hmj, _⟩ := hW.at_ l[jj] (List.getElem_mem hjl)
        have eokj := hW.ok.ents l[jj].e (by rw [hW.ents]; exact List.mem_map_of_mem (List.getElem_mem hjl))
        have hkeys := hW.keys
        rw [hn1] at hkeys
        obtain ⟨w5, hrun5, hm5, ht5⟩ := (hkeys.kept (w' := wr.drew) rfl).drop eokj.key (by rw [hmj]; rfl) 0
        have hv2 : goesV (some (jj, bb)) = (jj : Int) := rfl
        rw [hv2]
        clear hv2
        have z1 : (0 : Int) ≤ (jj : Int) := by omega
        have z2 : (jj : Int) < (l.length : Int) := by omega
        have hrun : (Builtin.delete_ #[24, 46] 0 #[.map (some bm), .agg #[.int .i64 l[jj].e.c, .string l[jj].e.s]]).run Try.prog wr.drew = .ok (.tuple #[]) w5 := hrun5
        have HM5 := Lib.hid hm5; clear hm5
        have HT5 := Lib.hid ht5; clear ht5
        have HW := Lib.hid hW; clear hW
        have HC2 := Lib.hid hcur2; clear hcur2
        have HN1 := Lib.hid hn1; clear hn1
        have HGT := Lib.hid hgt; clear hgt
        clear hrun5 hkeys hmj eokj
        go_wp2_with fail
        go_region
        clear hrun c0 c1 d0 d1 d2 d3 d4 d5 d6
        have hg5 := HT5.out.grown
        have hk5 : KeptOff (fun q => q = bm) wr w5 := ⟨hg5.os, hg5.tape, hg5.output, hg5.size, fun q hq hne => hg5.block q hq (fun e => hne (by injection e))⟩
        have hga : g ≠ a := fun e => HW.out.gv (by rw [e]; rfl)
        have hba : bm ≠ a := fun e => HW.out.vbm (by rw [e]; rfl)
        have hb5 : w5.heap[g]? = some (.cells (limCells x bm (.slice (some ⟨a, 0, none⟩) l.length cap)) 27 (0, 0)) := (hk5.block g (HW.out.lt g HW.out.sg) HW.out.gbm).trans HW.out.head
        have ha5 : w5.heap[a]? = some (.cells cur 46 (0, 0)) := (hk5.block a (Array.getElem?_eq_some_iff.1 HC2.out).1 (Ne.symm hba)).trans HC2.out
        have d6 : w5.cell? ⟨g, 6, none⟩ = some (.slice (some ⟨a, 0, none⟩) l.length cap) := blk_cell hb5 6
        have f6 := blk_frozen hb5 6
        have hdel := Del_calls a l.length cap jj cur w5 ha5 HCS.out hcap1 (by unfold maxLen; omega) hjl (by rw [HCT.out]; exact keyCells_one l)
        rw [HCT.out] at hdel
        have HK5 := Lib.hid hk5; clear hk5
        have HB5 := Lib.hid hb5; clear hb5
        have HD := Lib.hid hdel; clear hdel hg5
        go_wp2_with fail
        refine HD.out.mono ?_
        rintro e w6 ⟨rfl, hk6, cur', hc6, hs6, ht6⟩
        have d6' : w6.cell? ⟨g, 6, none⟩ = some (.slice (some ⟨a, 0, none⟩) l.length cap) := (World.cell?_of_block (hk6.block g (Array.getElem?_eq_some_iff.1 HB5.out).1 hga)).trans d6
        have f6' : w6.frozen? ⟨g, 6, none⟩ = false := (World.frozen?_of_block (hk6.block g (Array.getElem?_eq_some_iff.1 HB5.out).1 hga)).trans f6
        have e1 : l.length - 1 = n := by rw [HN1.out]; rfl
        have hdrop := HW.out.dropped HC2.out hjl HN1.out HM5.out HK5.out hk6 hc6 hs6 (by rw [HN1.out] at hcap1; omega) (by unfold maxLen; omega) (by rw [← e1, ht6, keyCells_erase l jj hjl]) 0
        have hfin : RoomPost w g S x bm (.returned (.bool true)) (w6.setCell ⟨g, 6, none⟩ (.slice (some ⟨a, 0, none⟩) n cap)) := by
          unfold RoomPost; rw [HR.out, HGT.out]
          refine ⟨rfl, (hkB hB).then hdrop.2, _, _, _, hdrop.1, ?_⟩
          have h1 := HW.out.ok.few
          simp only
          rw [List.length_eraseIdx_of_lt hj1]
          omega
        have HFIN := Lib.hid hfin; clear hfin hdrop d6 f6 hk6 hc6 hs6 ht6
        go_wp2_with fail
        go_ret
        exact HFIN.out

/-- room's contract, whole. -/
theorem room_said (x : Lim) (g bm : Nat) : RoomSaid x g bm := by
  by_cases h : (x.L.length : Int) < x.most
  · exact room_few h
  · exact fun S w v l m hl => room_full hl h
end Go.Proofs.Ytihnmabmjffgoaa
