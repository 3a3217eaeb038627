/- RrlBound, the plain law: what one judgement does to one key; passes within a window, and slips. -/
import Derived.Test.YtihnmabmjffgoaaApartP
namespace Go.Proofs.Ytihnmabmjffgoaa
open Go.RowKit Go.Maps

structure Good (x : Lim) : Prop where
  ok : LimOk x
  uniq : x.L.Pairwise fun a b => ¬ same a.c a.s b
def view (x : Lim) (c : Int) (s : ByteArray) : Option (Int × Int) := (findE x.L c s).map fun e => (e.began, e.cnt)
def verdictN (limit slip n : Int) : Int := if n - limit ≤ 0 then 0 else if 0 < slip ∧ (n - limit) % slip = 0 then 1 else 2
theorem verdict_n (x : Lim) (e : Ent) : verdict x e = verdictN x.limit x.slip e.cnt := rfl
def more (n : Int) : Int := if n + 1 < 1073741824 then n + 1 else 1073741824
/-- The key's own judgement. -/
def KOwn (window limit slip t v : Int) (V V' : Option (Int × Int)) : Prop :=
  (v = 2 ∧ V' = V) ∨
  (∃ B n, V = some (B, n) ∧ t < B + window ∧ v = verdictN limit slip (more n) ∧ V' = some (B, more n)) ∨
  ((V = none ∨ ∃ B n, V = some (B, n) ∧ B + window ≤ t) ∧ v = verdictN limit slip 1 ∧ V' = some (t, 1))
/-- Another key's. -/
def KOther (window t : Int) (V V' : Option (Int × Int)) : Prop := V' = V ∨ (V' = none ∧ ∃ B n, V = some (B, n) ∧ B + window ≤ t)

theorem find_erase {L : List Ent} (hu : L.Pairwise fun a b => ¬ same a.c a.s b) {j : Nat} (hj : j < L.length) (c : Int) (s : ByteArray) :
    findE (L.eraseIdx j) c s = findE L c s ∨ (findE (L.eraseIdx j) c s = none ∧ findE L c s = some L[j]) := by
  obtain ⟨h1, h2⟩ := split_at hj
  have hu' := hu
  rw [h1, List.pairwise_append] at hu'
  obtain ⟨_, hr, hlr⟩ := hu'
  rw [List.pairwise_cons] at hr
  cases hh : hit c s L[j] with
  | false =>
    left
    unfold findE
    rw [h2]
    conv => rhs; rw [h1]
    rw [List.find?_append, List.find?_append, List.find?_cons, hh]
  | true =>
    have hk := hit_iff.1 hh
    have e1 : findE (L.take j) c s = none := by
      unfold findE
      rw [List.find?_eq_none]
      intro e he hh2
      have hk2 := hit_iff.1 hh2
      exact hlr e he L[j] List.mem_cons_self ⟨hk.1.trans hk2.1.symm, hk.2.trans hk2.2.symm⟩
    have e2 : findE (L.drop (j + 1)) c s = none := by
      unfold findE
      rw [List.find?_eq_none]
      intro e he hh2
      have hk2 := hit_iff.1 hh2
      exact hr.1 e he ⟨hk2.1.trans hk.1.symm, hk2.2.trans hk.2.symm⟩
    right
    unfold findE at e1 e2 ⊢
    rw [h2]
    refine ⟨?_, ?_⟩
    · rw [List.find?_append, e1, e2]; rfl
    · conv => lhs; rw [h1]
      rw [List.find?_append, e1, List.find?_cons, hh]; rfl

theorem roomE_cases {x : Lim} {L : List Ent} (h : roomE x = some L) : L = x.L ∨ ∃ j, ∃ hj : j < x.L.length, L = x.L.eraseIdx j ∧ overE x x.L[j] = true := by
  unfold roomE at h
  split at h
  · left; cases h; rfl
  · right
    cases hg : goesE x x.L 0 none with
    | none => rw [hg] at h; cases h
    | some y =>
      rw [hg] at h
      cases h
      rw [← goesTo_all] at hg
      obtain ⟨h1, h2, h3, h4⟩ := goesTo_inv x _ (Nat.le_refl _) y.1 y.2 hg
      exact ⟨y.1, h1, rfl, h4⟩

theorem now_is {x : Lim} {t : Int} (h : x.now ≤ t) : (nowE x t).now = t := by unfold nowE; simp only; split <;> omega

/-- A judgement, taken apart. -/
theorem judge_parts {x : Lim} {c : Int} {s : ByteArray} {t : Int} (hn : x.now ≤ t) :
    (judge x c s t = (2, nowE x t) ∧ findE x.L c s = none) ∨
    ∃ L e0, (L = x.L ∧ findE x.L c s = some e0 ∨ (findE x.L c s = none ∧ e0 = ⟨c, s, t, 0⟩ ∧ ∃ L0, L = L0 ++ [e0] ∧ roomE (nowE x t) = some L0)) ∧ findE L c s = some e0 ∧
      judge x c s t = (verdict (nowE x t) (stepE (nowE x t) e0), { nowE x t with L := L.map fun q => if hit c s q then stepE (nowE x t) e0 else q }) := by
  have hN := now_is hn
  cases hf : findE x.L c s with
  | some e =>
    refine .inr ⟨x.L, e, .inl ⟨rfl, rfl⟩, hf, ?_⟩
    unfold judge
    rw [hf]
    simp only
    rw [finE_some (x := nowE x t) hf]
    rfl
  | none =>
    cases hr : roomE (nowE x t) with
    | none =>
      left
      unfold judge
      rw [hf, hr]
      exact ⟨rfl, rfl⟩
    | some L0 =>
      have hnone : findE L0 c s = none := findE_sub (roomE_sub hr) hf
      have e2 : findE (L0 ++ [⟨c, s, t, 0⟩]) c s = some ⟨c, s, t, 0⟩ := by
        rw [find_append, hnone]; simp [hit]
      refine .inr ⟨L0 ++ [⟨c, s, t, 0⟩], ⟨c, s, t, 0⟩, .inr ⟨rfl, rfl, L0, rfl, rfl⟩, e2, ?_⟩
      unfold judge
      rw [hf, hr, hN]
      simp only
      rw [finE_some (x := { nowE x t with L := L0 ++ [⟨c, s, t, 0⟩] }) e2]
      rfl

theorem step_hit {x : Lim} {e : Ent} {c : Int} {s : ByteArray} (h : hit c s e = true) : hit c s (stepE x e) = true := by
  have h1 := hit_iff.1 h
  have := @stepE_hit x e
  rw [h1.1, h1.2] at this
  exact this

theorem step_own {x : Lim} {c : Int} {s : ByteArray} {t : Int} (hn : x.now ≤ t) :
    KOwn x.window x.limit x.slip t (judgeA x c s t).1 (view x c s) (view (judgeA x c s t).2 c s) := by
  unfold judgeA
  split
  · exact .inl ⟨rfl, rfl⟩
  · have hN := now_is hn
    rcases judge_parts (c := c) (s := s) hn with ⟨hj, _⟩ | ⟨L, e0, hL, hf, hj⟩
    · rw [hj]; exact .inl ⟨rfl, rfl⟩
    · rw [hj]
      have hv : view { nowE x t with L := L.map fun q => if hit c s q then stepE (nowE x t) e0 else q } c s = some ((stepE (nowE x t) e0).began, (stepE (nowE x t) e0).cnt) := by
        unfold view
        rw [show ({ nowE x t with L := L.map fun q => if hit c s q then stepE (nowE x t) e0 else q } : Lim).L = L.map fun q => if hit c s q then stepE (nowE x t) e0 else q from rfl, find_map_same (step_hit (find_hit hf)) L hf]
        rfl
      rw [hv, verdict_n]
      show KOwn x.window x.limit x.slip t (verdictN x.limit x.slip (stepE (nowE x t) e0).cnt) _ _
      have hw : (nowE x t).window = x.window := rfl
      by_cases ho : x.window ≤ t - e0.began
      · have e1 : stepE (nowE x t) e0 = ⟨e0.c, e0.s, t, 1⟩ := by rw [stepE_over (by rw [hw, hN]; exact ho), hN]
        rw [e1]
        refine .inr (.inr ⟨?_, rfl, rfl⟩)
        rcases hL with ⟨_, h1⟩ | ⟨h1, _⟩
        · right
          refine ⟨e0.began, e0.cnt, ?_, by omega⟩
          unfold view; rw [h1]; rfl
        · left; unfold view; rw [h1]; rfl
      · have e1 : stepE (nowE x t) e0 = ⟨e0.c, e0.s, e0.began, more e0.cnt⟩ := by rw [stepE_not (by rw [hw, hN]; exact ho)]; rfl
        rw [e1]
        rcases hL with ⟨_, h1⟩ | ⟨h1, h2, _⟩
        · refine .inr (.inl ⟨e0.began, e0.cnt, ?_, by omega, rfl, rfl⟩)
          unfold view; rw [h1]; rfl
        · subst h2
          refine .inr (.inr ⟨.inl ?_, rfl, rfl⟩)
          unfold view; rw [h1]; rfl

theorem step_other {x : Lim} (hg : Good x) {c c' : Int} {s s' : ByteArray} {t : Int} (hn : x.now ≤ t) (hne : ¬ (c' = c ∧ s' = s)) :
    KOther x.window t (view x c s) (view (judgeA x c' s' t).2 c s) := by
  unfold judgeA
  split
  · exact .inl rfl
  · have hN := now_is hn
    rcases judge_parts (c := c') (s := s') hn with ⟨hj, _⟩ | ⟨L, e0, hL, hf, hj⟩
    · rw [hj]; exact .inl rfl
    · rw [hj]
      have hv : view { nowE x t with L := L.map fun q => if hit c' s' q then stepE (nowE x t) e0 else q } c s = (findE L c s).map fun e => (e.began, e.cnt) := by
        unfold view
        rw [show ({ nowE x t with L := L.map fun q => if hit c' s' q then stepE (nowE x t) e0 else q } : Lim).L = L.map fun q => if hit c' s' q then stepE (nowE x t) e0 else q from rfl, find_map_other (step_hit (find_hit hf)) hne L]
      show KOther x.window t (view x c s) (view { nowE x t with L := L.map fun q => if hit c' s' q then stepE (nowE x t) e0 else q } c s)
      rw [hv]
      rcases hL with ⟨rfl, _⟩ | ⟨_, he, L0, hL0, hr⟩
      · exact .inl rfl
      · subst he
        have e1 : findE L c s = findE L0 c s := by
          rw [hL0, find_append]
          have : hit c s (⟨c', s', t, 0⟩ : Ent) = false := hit_key (c' := c') (s' := s') (by simp [hit]) hne
          rw [this]; simp
        rw [e1]
        rcases roomE_cases hr with rfl | ⟨j, hj', rfl, ho⟩
        · exact .inl rfl
        · rcases find_erase (L := x.L) hg.uniq hj' c s with h1 | ⟨h1, h2⟩
          · left
            show (findE (x.L.eraseIdx j) c s).map _ = _
            rw [h1]; rfl
          · right
            refine ⟨?_, x.L[j].began, x.L[j].cnt, ?_, ?_⟩
            · show (findE (x.L.eraseIdx j) c s).map _ = _
              rw [h1]; rfl
            · unfold view; rw [h2]; rfl
            · have ho' : overE (nowE x t) x.L[j] = true := ho
              unfold overE at ho'
              have := of_decide_eq_true ho'
              rw [hN] at this
              have : x.window ≤ t - x.L[j].began := this
              omega

/-! ### Passes within a window -/
def PInv (t0 limit c : Int) (V : Option (Int × Int)) : Prop :=
  0 ≤ c ∧ ((V = none ∧ c ≤ limit) ∨ ∃ B n, V = some (B, n) ∧ 0 ≤ n ∧ n ≤ 1073741824 ∧ ((c ≤ n ∧ c ≤ limit) ∨ (t0 ≤ B ∧ c ≤ limit + n ∧ c ≤ 2 * limit)))
theorem verdictN_zero {limit slip n : Int} : verdictN limit slip n = 0 ↔ n ≤ limit := by
  unfold verdictN
  split
  · simp; omega
  · split <;> simp <;> omega
theorem more_is (n : Int) (h : n ≤ 1073741824) : n ≤ more n ∧ more n ≤ 1073741824 ∧ more n ≤ n + 1 ∧ (more n ≤ 1000 → more n = n + 1) := by
  unfold more; split <;> omega
theorem PInv.own {t0 limit c window slip t v : Int} {V V' : Option (Int × Int)} (h : PInv t0 limit c V) (hl : 0 ≤ limit) (hl2 : limit ≤ 1000) (ht0 : t0 ≤ t) (ht : t < t0 + window) (hs : KOwn window limit slip t v V V') :
    PInv t0 limit (if v = 0 then c + 1 else c) V' := by
  obtain ⟨h0, h⟩ := h
  rcases hs with ⟨rfl, rfl⟩ | ⟨B, n, rfl, hb, rfl, rfl⟩ | ⟨hV, rfl, rfl⟩
  · rw [if_neg (by decide)]; exact ⟨h0, h⟩
  · rcases h with ⟨h, _⟩ | ⟨B', n', he, hn0, hn1, h⟩
    · cases h
    · cases he
      obtain ⟨m1, m2, m3, m4⟩ := more_is n hn1
      by_cases hp : more n ≤ limit
      · rw [if_pos (verdictN_zero.2 hp)]
        have := m4 (by omega)
        refine ⟨by omega, .inr ⟨B, more n, rfl, by omega, m2, ?_⟩⟩
        rcases h with h | h
        · left; omega
        · right; omega
      · rw [if_neg (fun h => hp (verdictN_zero.1 h))]
        refine ⟨h0, .inr ⟨B, more n, rfl, by omega, m2, ?_⟩⟩
        rcases h with h | h
        · left; omega
        · right; omega
  · have hc : c ≤ limit := by
      rcases h with ⟨_, h⟩ | ⟨B', n', rfl, hn0, hn1, h⟩
      · exact h
      · rcases hV with hV | ⟨B, n, he, hb⟩
        · cases hV
        · cases he
          omega
    by_cases hp : (1 : Int) ≤ limit
    · rw [if_pos (verdictN_zero.2 hp)]
      exact ⟨by omega, .inr ⟨t, 1, rfl, by omega, by omega, .inr ⟨ht0, by omega, by omega⟩⟩⟩
    · rw [if_neg (fun h => hp (verdictN_zero.1 h))]
      exact ⟨by omega, .inr ⟨t, 1, rfl, by omega, by omega, .inr ⟨ht0, by omega, by omega⟩⟩⟩
theorem PInv.other {t0 limit c window t : Int} {V V' : Option (Int × Int)} (h : PInv t0 limit c V) (ht : t < t0 + window) (hs : KOther window t V V') : PInv t0 limit c V' := by
  rcases hs with rfl | ⟨rfl, B, n, rfl, hb⟩
  · exact h
  · obtain ⟨h0, ⟨h, _⟩ | ⟨B', n', he, hn0, hn1, h⟩⟩ := h
    · cases h
    · cases he
      exact ⟨h0, .inl ⟨rfl, by omega⟩⟩
theorem PInv.end_ {t0 limit c : Int} {V : Option (Int × Int)} (h : PInv t0 limit c V) (hl : 0 ≤ limit) : c ≤ 2 * limit := by
  obtain ⟨h0, ⟨_, h⟩ | ⟨B', n', he, hn0, hn1, h⟩⟩ := h <;> omega
theorem PInv.start {x : Lim} (hg : Good x) (t0 : Int) {c : Int} {s : ByteArray} : PInv t0 x.limit 0 (view x c s) := by
  refine ⟨by omega, ?_⟩
  cases hf : findE x.L c s with
  | none => left; exact ⟨by unfold view; rw [hf]; rfl, hg.ok.l0⟩
  | some e =>
    have he := hg.ok.ents e (List.mem_of_find?_eq_some hf)
    right
    exact ⟨e.began, e.cnt, by unfold view; rw [hf]; rfl, he.n0, he.n1, .inl ⟨he.n0, hg.ok.l0⟩⟩

/-! ### Slips -/
def left_ (limit slip n : Int) : Int := if n ≤ limit then 0 else (n - limit) % slip
/-- m: slips times slip. -/
def SInv (limit slip m rest : Int) (j : Nat) (V : Option (Int × Int)) : Prop :=
  (V = none ∧ m ≤ rest) ∨ ∃ B n, V = some (B, n) ∧ 0 ≤ n ∧ n ≤ j ∧ m + left_ limit slip n ≤ rest
theorem left_nonneg {limit slip n : Int} (h : 1 ≤ slip) : 0 ≤ left_ limit slip n := by
  unfold left_; split
  · exact Int.le_refl _
  · exact Int.emod_nonneg _ (by omega)
theorem SInv.end_ {limit slip m rest : Int} {j : Nat} {V : Option (Int × Int)} (h : SInv limit slip m rest j V) (hs : 1 ≤ slip) : m ≤ rest := by
  rcases h with ⟨_, h⟩ | ⟨B, n, _, _, _, h⟩
  · exact h
  · have := left_nonneg (limit := limit) (n := n) hs
    omega
theorem mod_next {d slip : Int} (hs : 1 ≤ slip) : (d + 1) % slip = 0 ∧ d % slip = slip - 1 ∨ (d + 1) % slip ≠ 0 ∧ (d + 1) % slip = d % slip + 1 := by
  have h0 := Int.emod_nonneg d (b := slip) (by omega)
  have h1 := Int.emod_lt_of_pos d (b := slip) (by omega)
  by_cases h : d % slip = slip - 1
  · left
    refine ⟨?_, h⟩
    rw [Int.add_emod, h]
    by_cases h2 : slip = 1
    · subst h2; simp
    · rw [Int.emod_eq_of_lt (show (0 : Int) ≤ 1 by omega) (by omega), show slip - 1 + 1 = slip by omega, Int.emod_self]
  · right
    have e : (d + 1) % slip = d % slip + 1 := by
      rw [Int.add_emod, Int.emod_eq_of_lt (show (0 : Int) ≤ 1 by omega) (by omega), Int.emod_eq_of_lt (by omega) (by omega)]
    exact ⟨by omega, e⟩
theorem SInv.other {limit slip m rest window t : Int} {j : Nat} {V V' : Option (Int × Int)} (h : SInv limit slip m rest j V) (hs : 1 ≤ slip) (hk : KOther window t V V') : SInv limit slip m rest (j + 1) V' := by
  rcases hk with rfl | ⟨rfl, _⟩
  · rcases h with ⟨h1, h⟩ | ⟨B, n, h1, h2, h3, h⟩
    · exact .inl ⟨h1, h⟩
    · exact .inr ⟨B, n, h1, h2, by omega, h⟩
  · exact .inl ⟨rfl, h.end_ hs⟩
theorem SInv.own {limit slip m rest window t v : Int} {j : Nat} {V V' : Option (Int × Int)} (h : SInv limit slip m rest j V) (hj : j ≤ 1000000) (hl : 0 ≤ limit) (hs : 1 ≤ slip) (hk : KOwn window limit slip t v V V') :
    SInv limit slip (if v = 1 then m + slip else m) (if v = 0 then rest else rest + 1) (j + 1) V' := by
  have hend := h.end_ hs
  rcases hk with ⟨rfl, rfl⟩ | ⟨B, n, rfl, hb, rfl, rfl⟩ | ⟨hV, rfl, rfl⟩
  · rw [if_neg (by decide), if_neg (by decide)]
    rcases h with ⟨h1, h⟩ | ⟨B, n, h1, h2, h3, h⟩
    · exact .inl ⟨h1, by omega⟩
    · exact .inr ⟨B, n, h1, h2, by omega, by omega⟩
  · rcases h with ⟨h1, h⟩ | ⟨B', n', h1, h2, h3, h⟩
    · cases h1
    · cases h1
      have em : more n = n + 1 := by unfold more; rw [if_pos (by omega)]
      rw [em]
      refine .inr ⟨B, n + 1, rfl, by omega, by omega, ?_⟩
      by_cases hp : n + 1 ≤ limit
      · have e0 : verdictN limit slip (n + 1) = 0 := verdictN_zero.2 hp
        rw [e0, if_neg (by decide), if_pos rfl]
        have e1 : left_ limit slip (n + 1) = 0 := by unfold left_; rw [if_pos hp]
        rw [e1]; omega
      · have e1 : left_ limit slip (n + 1) = (n - limit + 1) % slip := by unfold left_; rw [if_neg hp]; congr 1; omega
        have e2 : left_ limit slip n = (n - limit) % slip := by
          unfold left_
          split
          · have : n - limit = 0 := by omega
            rw [this]; simp
          · rfl
        have ev : verdictN limit slip (n + 1) = if (n - limit + 1) % slip = 0 then 1 else 2 := by
          unfold verdictN
          rw [if_neg (by omega), show n + 1 - limit = n - limit + 1 by omega]
          by_cases hq : (n - limit + 1) % slip = 0
          · rw [if_pos ⟨by omega, hq⟩, if_pos hq]
          · rw [if_neg (fun z => hq z.2), if_neg hq]
        rw [e2] at h
        rw [e1, ev]
        rcases mod_next (d := n - limit) hs with ⟨q1, q2⟩ | ⟨q1, q2⟩
        · rw [if_pos q1, if_pos rfl, if_neg (by decide), q1]; omega
        · rw [if_neg q1, if_neg (by decide), if_neg (by decide), q2]; omega
  · refine .inr ⟨t, 1, rfl, by omega, by omega, ?_⟩
    by_cases hp : (1 : Int) ≤ limit
    · have e0 : verdictN limit slip 1 = 0 := verdictN_zero.2 hp
      rw [e0, if_neg (by decide), if_pos rfl]
      have e1 : left_ limit slip 1 = 0 := by unfold left_; rw [if_pos hp]
      rw [e1]; omega
    · have hl0 : limit = 0 := by omega
      subst hl0
      by_cases h1 : slip = 1
      · subst h1
        have ev : verdictN 0 1 1 = 1 := by decide
        have e1 : left_ 0 1 1 = 0 := by decide
        rw [ev, e1, if_pos rfl, if_neg (by decide)]; omega
      · have e1 : left_ 0 slip 1 = 1 := by
          unfold left_
          rw [if_neg (by decide)]
          exact Int.emod_eq_of_lt (by decide) (by omega)
        have ev : verdictN 0 slip 1 = 2 := by
          unfold verdictN
          rw [if_neg (by decide), if_neg]
          intro z
          have := z.2
          rw [Int.emod_eq_of_lt (by decide) (by omega)] at this
          omega
        rw [ev, e1, if_neg (by decide), if_neg (by decide)]; omega
theorem SInv.start (limit slip : Int) (j : Nat) : SInv limit slip 0 0 j none := .inl ⟨rfl, Int.le_refl _⟩

/-! ### What a judgement tells at all -/
theorem judgeA_range {x : Lim} {c : Int} {s : ByteArray} {t : Int} : (judgeA x c s t).1 = 0 ∨ (judgeA x c s t).1 = 2 ∨ ((judgeA x c s t).1 = 1 ∧ 0 < x.slip) := by
  have hfin : ∀ y : Lim, y.slip = x.slip → (finE y c s).1 = 0 ∨ (finE y c s).1 = 2 ∨ ((finE y c s).1 = 1 ∧ 0 < x.slip) := fun y hy => by
    unfold finE
    split
    · exact .inr (.inl rfl)
    · unfold verdict
      simp only
      split
      · exact .inl rfl
      · split
        · rename_i hc; exact .inr (.inr ⟨rfl, hy ▸ hc.1⟩)
        · exact .inr (.inl rfl)
  unfold judgeA
  split
  · exact .inr (.inl rfl)
  · unfold judge
    split
    · exact hfin _ rfl
    · split
      · exact .inr (.inl rfl)
      · exact hfin _ rfl
theorem finE_same (y : Lim) (c : Int) (s : ByteArray) : (finE y c s).2.most = y.most ∧ (finE y c s).2.limit = y.limit ∧ (finE y c s).2.window = y.window ∧ (finE y c s).2.slip = y.slip ∧ (finE y c s).2.now = y.now := by
  unfold finE; split <;> exact ⟨rfl, rfl, rfl, rfl, rfl⟩
theorem judgeA_same {x : Lim} {c : Int} {s : ByteArray} {t : Int} (h : x.now ≤ t) : (judgeA x c s t).2.most = x.most ∧ (judgeA x c s t).2.limit = x.limit ∧ (judgeA x c s t).2.window = x.window ∧ (judgeA x c s t).2.slip = x.slip ∧ (judgeA x c s t).2.now ≤ t := by
  have hN := now_is h
  unfold judgeA
  split
  · exact ⟨rfl, rfl, rfl, rfl, h⟩
  · unfold judge
    split
    · obtain ⟨h1, h2, h3, h4, h5⟩ := finE_same (nowE x t) c s
      exact ⟨h1, h2, h3, h4, by rw [h5, hN]; exact Int.le_refl _⟩
    · split
      · exact ⟨rfl, rfl, rfl, rfl, by rw [hN]; exact Int.le_refl _⟩
      · rename_i L _
        obtain ⟨h1, h2, h3, h4, h5⟩ := finE_same { nowE x t with L := L ++ [⟨c, s, (nowE x t).now, 0⟩] } c s
        exact ⟨h1, h2, h3, h4, by rw [h5]; show (nowE x t).now ≤ t; rw [hN]; exact Int.le_refl _⟩
theorem IsLim.good {w : World} {g : Nat} {S : Nat → Prop} {x : Lim} (h : IsLim w g S x) : Good x := by
  obtain ⟨bm, v, l, m, h⟩ := h
  refine ⟨h.ok, ?_⟩
  rw [h.ents, List.pairwise_map]
  exact h.apart.imp fun hp => hp.2
end Go.Proofs.Ytihnmabmjffgoaa
