/- RrlApart, the plain law: a limiter that sees all answers and one that sees those of one key tell the same of that key. -/
import Derived.Test.YtihnmabmjffgoaaActs
import Derived.Test.YtihnmabmjffgoaaRoom
namespace Go.Proofs.Ytihnmabmjffgoaa
open Go.RowKit Go.Maps

theorem hit_iff {c : Int} {s : ByteArray} {e : Ent} : hit c s e = true ↔ e.c = c ∧ e.s = s := by simp [hit]
theorem hit_key {c : Int} {s : ByteArray} {e : Ent} {c' : Int} {s' : ByteArray} (h : hit c' s' e = true) (hne : ¬ (c' = c ∧ s' = s)) : hit c s e = false := by
  rw [hit_iff] at h
  simp only [hit, decide_eq_false_iff_not]
  exact fun ⟨e1, e2⟩ => hne ⟨h.1.symm.trans e1, h.2.symm.trans e2⟩

theorem find_map_same {c : Int} {s : ByteArray} {e' : Ent} (he : hit c s e' = true) : ∀ (L : List Ent) {e : Ent}, findE L c s = some e → findE (L.map fun q => if hit c s q then e' else q) c s = some e'
  | [], _, h => by cases h
  | q :: r, e, h => by
    unfold findE at h ⊢
    rw [List.map_cons, List.find?_cons]
    rw [List.find?_cons] at h
    cases hq : hit c s q with
    | true => simp only [if_true, he]
    | false =>
      rw [hq] at h
      simp only [Bool.false_eq_true, if_false, hq]
      exact find_map_same he r h
theorem find_map_other {c c' : Int} {s s' : ByteArray} {e' : Ent} (he : hit c' s' e' = true) (hne : ¬ (c' = c ∧ s' = s)) : ∀ (L : List Ent), findE (L.map fun q => if hit c' s' q then e' else q) c s = findE L c s
  | [] => rfl
  | q :: r => by
    have ih := find_map_other he hne r
    unfold findE at ih ⊢
    rw [List.map_cons, List.find?_cons, List.find?_cons, ih]
    cases hq : hit c' s' q with
    | true => simp only [if_true, hit_key he hne, hit_key hq hne]
    | false => simp only [Bool.false_eq_true, if_false]
theorem find_append (L : List Ent) (e : Ent) (c : Int) (s : ByteArray) : findE (L ++ [e]) c s = (findE L c s).or (if hit c s e then some e else none) := by
  unfold findE
  rw [List.find?_append]
  congr 1
  rw [List.find?_cons]
  cases hit c s e <;> rfl
theorem stepE_hit {x : Lim} {e : Ent} : hit e.c e.s (stepE x e) = true := by
  unfold stepE; split <;> simp [hit]

theorem finE_some {x : Lim} {c : Int} {s : ByteArray} {e : Ent} (h : findE x.L c s = some e) : finE x c s = (verdict x (stepE x e), { x with L := x.L.map fun q => if hit c s q then stepE x e else q }) := by
  unfold finE; rw [h]
theorem find_hit {L : List Ent} {c : Int} {s : ByteArray} {e : Ent} (h : findE L c s = some e) : hit c s e = true := List.find?_some h

/-- What one judgement makes of a limiter that has room. -/
theorem judge_room {x : Lim} {c : Int} {s : ByteArray} {t : Int} (hr : findE x.L c s = none → (x.L.length : Int) < x.most) :
    ∃ L e0, (L = x.L ∨ (findE x.L c s = none ∧ L = x.L ++ [⟨c, s, (nowE x t).now, 0⟩])) ∧ findE L c s = some e0 ∧ (e0 = (findE x.L c s).getD ⟨c, s, (nowE x t).now, 0⟩) ∧
      judge x c s t = (verdict x (stepE (nowE x t) e0), { nowE x t with L := L.map fun q => if hit c s q then stepE (nowE x t) e0 else q }) := by
  cases hf : findE x.L c s with
  | some e =>
    refine ⟨x.L, e, .inl rfl, hf, rfl, ?_⟩
    unfold judge
    rw [hf]
    simp only
    rw [finE_some (x := nowE x t) hf]
    rfl
  | none =>
    have hlt := hr hf
    have e1 : roomE (nowE x t) = some x.L := by
      show (if (x.L.length : Int) < x.most then some x.L else _) = some x.L
      rw [if_pos hlt]
    have e2 : findE (x.L ++ [⟨c, s, (nowE x t).now, 0⟩]) c s = some ⟨c, s, (nowE x t).now, 0⟩ := by
      rw [find_append, hf]; simp [hit]
    refine ⟨x.L ++ [⟨c, s, (nowE x t).now, 0⟩], ⟨c, s, (nowE x t).now, 0⟩, .inr ⟨rfl, rfl⟩, e2, rfl, ?_⟩
    unfold judge
    rw [hf, e1]
    simp only
    rw [finE_some (x := { nowE x t with L := x.L ++ [⟨c, s, (nowE x t).now, 0⟩] }) e2]
    rfl

/-- Two limiters that say the same of one key. -/
structure Agree (X Y : Lim) (c : Int) (s : ByteArray) (k : Nat) (T : Int) : Prop where
  lim : X.limit = Y.limit
  win : X.window = Y.window
  slip : X.slip = Y.slip
  mx : X.most = 200
  my : Y.most = 1
  find : findE X.L c s = findE Y.L c s
  alone : ∀ e ∈ Y.L, hit c s e = true
  few : X.L.length ≤ k
  fewy : Y.L.length ≤ 1
  nx : X.now ≤ 0 ∨ X.now ≤ T
  ny : Y.now ≤ 0 ∨ Y.now ≤ T

theorem nowE_is {X : Lim} {T t : Int} (h : X.now ≤ 0 ∨ X.now ≤ T) (hT : T ≤ t) (h0 : 0 ≤ t) : (nowE X t).now = t := by
  unfold nowE; simp only; split <;> omega
theorem step_agree {X Y : Lim} {t : Int} (hw : X.window = Y.window) (hx : (nowE X t).now = t) (hy : (nowE Y t).now = t) (e : Ent) : stepE (nowE X t) e = stepE (nowE Y t) e := by
  have h1 : (nowE X t).window = (nowE Y t).window := hw
  unfold stepE overE
  rw [hx, hy, h1]
theorem verdict_agree {X Y : Lim} (hl : X.limit = Y.limit) (hs : X.slip = Y.slip) (e : Ent) : verdict X e = verdict Y e := by
  unfold verdict; rw [hl, hs]

variable {X Y : Lim} {c : Int} {s : ByteArray} {k : Nat} {T : Int}
theorem Agree.room (h : Agree X Y c s k T) (hk : k < 200) : (X.L.length : Int) < X.most := by
  have := h.few; rw [h.mx]; omega
theorem Agree.roomy (h : Agree X Y c s k T) : findE Y.L c s = none → (Y.L.length : Int) < Y.most := by
  intro hf
  rw [h.my]
  cases hL : Y.L with
  | nil => simp
  | cons e r =>
    unfold findE at hf
    rw [List.find?_eq_none] at hf
    have h1 : e ∈ Y.L := by rw [hL]; exact List.mem_cons_self
    exact absurd (h.alone e h1) (hf e h1)

/-- Another key's judgement. -/
theorem Agree.other (h : Agree X Y c s k T) (hk : k < 200) {c' : Int} {s' : ByteArray} {t : Int} (hne : ¬ (c' = c ∧ s' = s)) (hT : T ≤ t) : Agree (judgeA X c' s' t).2 Y c s (k + 1) t := by
  unfold judgeA
  split
  · exact { lim := h.lim, win := h.win, slip := h.slip, mx := h.mx, my := h.my, find := h.find, alone := h.alone, few := Nat.le_succ_of_le h.few, fewy := h.fewy, nx := h.nx.imp id (fun z => Int.le_trans z hT), ny := h.ny.imp id (fun z => Int.le_trans z hT) }
  · rename_i hb
    obtain ⟨L, e0, hL, hf, _, hj⟩ := judge_room (x := X) (c := c') (s := s') (t := t) (fun _ => h.room hk)
    have hn := nowE_is h.nx hT (by omega)
    have hfind : findE L c s = findE X.L c s := by
      rcases hL with rfl | ⟨_, rfl⟩
      · rfl
      · rw [find_append]
        have : hit c s (⟨c', s', (nowE X t).now, 0⟩ : Ent) = false := hit_key (c' := c') (s' := s') (by simp [hit]) hne
        rw [this]; simp
    have he : hit c' s' (stepE (nowE X t) e0) = true := by
      have h1 := find_hit hf
      rw [hit_iff] at h1
      have := @stepE_hit (nowE X t) e0
      rw [h1.1, h1.2] at this
      exact this
    rw [hj]
    refine { lim := h.lim, win := h.win, slip := h.slip, mx := h.mx, my := h.my, find := ?_, alone := h.alone, few := ?_, fewy := h.fewy, nx := .inr (by rw [show ({ nowE X t with L := L.map fun q => if hit c' s' q then stepE (nowE X t) e0 else q } : Lim).now = (nowE X t).now from rfl, hn]; exact Int.le_refl _), ny := h.ny.imp id (fun z => Int.le_trans z hT) }
    · show findE (L.map _) c s = _
      rw [find_map_other he hne, hfind]; exact h.find
    · show (L.map _).length ≤ _
      rw [List.length_map]
      have := h.few
      rcases hL with rfl | ⟨_, rfl⟩
      · omega
      · simp; omega

/-- The key's own judgement: both tell the same. -/
theorem Agree.own (h : Agree X Y c s k T) (hk : k < 200) {t : Int} (hT : T ≤ t) : (judgeA X c s t).1 = (judgeA Y c s t).1 ∧ Agree (judgeA X c s t).2 (judgeA Y c s t).2 c s (k + 1) t := by
  unfold judgeA
  by_cases hb : 255 < s.size ∨ t < 0 ∨ 1099511627776 < t
  · rw [if_pos hb, if_pos hb]
    exact ⟨rfl, { lim := h.lim, win := h.win, slip := h.slip, mx := h.mx, my := h.my, find := h.find, alone := h.alone, few := Nat.le_succ_of_le h.few, fewy := h.fewy, nx := h.nx.imp id (fun z => Int.le_trans z hT), ny := h.ny.imp id (fun z => Int.le_trans z hT) }⟩
  · rw [if_neg hb, if_neg hb]
    obtain ⟨L, e0, hL, hf, he0, hj⟩ := judge_room (x := X) (c := c) (s := s) (t := t) (fun _ => h.room hk)
    obtain ⟨L', e0', hL', hf', he0', hj'⟩ := judge_room (x := Y) (c := c) (s := s) (t := t) h.roomy
    have hn := nowE_is h.nx hT (by omega)
    have hn' := nowE_is h.ny hT (by omega)
    rw [hn] at he0
    rw [hn', ← h.find] at he0'
    have hee : e0 = e0' := he0.trans he0'.symm
    have hst := step_agree h.win hn hn' e0
    have he : hit c s (stepE (nowE X t) e0) = true := by
      have h1 := find_hit hf
      rw [hit_iff] at h1
      have := @stepE_hit (nowE X t) e0
      rw [h1.1, h1.2] at this
      exact this
    rw [hj, hj', ← hee, ← hst]
    refine ⟨verdict_agree h.lim h.slip _, { lim := h.lim, win := h.win, slip := h.slip, mx := h.mx, my := h.my, find := ?_, alone := ?_, few := ?_, fewy := ?_, nx := .inr (by rw [show ({ nowE X t with L := L.map fun q => if hit c s q then stepE (nowE X t) e0 else q } : Lim).now = (nowE X t).now from rfl, hn]; exact Int.le_refl _), ny := .inr (by rw [show ({ nowE Y t with L := L'.map fun q => if hit c s q then stepE (nowE X t) e0 else q } : Lim).now = (nowE Y t).now from rfl, hn']; exact Int.le_refl _) }⟩
    · show findE (L.map _) c s = findE (L'.map _) c s
      rw [find_map_same he L hf, find_map_same he L' hf']
    · intro e hm
      obtain ⟨q, hmem, rfl⟩ := List.mem_map.1 hm
      split
      · exact he
      · rename_i hq
        rcases hL' with rfl | ⟨_, rfl⟩
        · exact absurd (h.alone q hmem) hq
        · rcases List.mem_append.1 hmem with h1 | h1
          · exact absurd (h.alone q h1) hq
          · simp only [List.mem_singleton] at h1
            subst h1
            simp [hit] at hq
    · show (L.map _).length ≤ _
      rw [List.length_map]
      have := h.few
      rcases hL with rfl | ⟨_, rfl⟩
      · omega
      · simp; omega
    · show (L'.map _).length ≤ _
      rw [List.length_map]
      have h2 := h.fewy
      rcases hL' with rfl | ⟨h1, rfl⟩
      · exact h2
      · have h3 := h.roomy h1
        rw [h.my] at h3
        rw [List.length_append]
        show _ + 1 ≤ 1
        omega
end Go.Proofs.Ytihnmabmjffgoaa
