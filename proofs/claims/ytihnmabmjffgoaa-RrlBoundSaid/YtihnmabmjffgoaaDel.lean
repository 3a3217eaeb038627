/- slices.Delete at the keys of rrl: one element is taken out of a row that a limiter owns. -/
import Derived.Test.YtihnmabmjffgoaaJ0
import Derived.Deep.RegionLaw
import Derived.Lib.Hide
import Derived.Lib.SliceRun
namespace Go.Proofs.Ytihnmabmjffgoaa
open Go.RowKit Go.Maps

def layA : Array Value → Nat → List Value → Array Value
  | d, _, [] => d
  | d, k, v :: r => layA (d.setIfInBounds k v) (k + 1) r
theorem layA_size : ∀ (vs : List Value) (d : Array Value) (k : Nat), (layA d k vs).size = d.size
  | [], _, _ => rfl
  | v :: r, d, k => by rw [layA, layA_size r]; simp
theorem layA_get : ∀ (vs : List Value) (d : Array Value) (k t : Nat), k + vs.length ≤ d.size → (layA d k vs)[t]? = if k ≤ t ∧ t < k + vs.length then vs[t - k]? else d[t]?
  | [], d, k, t, _ => by simp only [layA, List.length_nil]; rw [if_neg (by omega)]
  | v :: r, d, k, t, h => by
    simp only [List.length_cons] at h
    rw [layA, layA_get r _ _ _ (by simp; omega)]
    simp only [List.length_cons]
    by_cases h1 : t = k
    · subst h1
      rw [if_neg (by omega), if_pos (by omega), Nat.sub_self, Array.getElem?_setIfInBounds_self]
      simp; omega
    · rw [Array.getElem?_setIfInBounds_ne (by omega)]
      by_cases h2 : k + 1 ≤ t ∧ t < k + 1 + r.length
      · rw [if_pos h2, if_pos (by omega), show t - k = (t - (k + 1)) + 1 by omega, List.getElem?_cons_succ]
      · rw [if_neg h2, if_neg (by omega)]
theorem setCells_heap {t : TypeId} {fr : Nat × Nat} (b : Nat) : ∀ (vs : List Value) (o : Nat) (w : World) (cur : Array Value), w.heap[b]? = some (.cells cur t fr) → (w.setCells b o vs).heap[b]? = some (.cells (layA cur o vs) t fr) ∧ KeptOff (fun k => k = b) w (w.setCells b o vs)
  | [], _, w, _, h => ⟨h, KeptOff.refl _ _⟩
  | v :: r, o, w, cur, h => by
    obtain ⟨h1, h2⟩ := setCells_heap b r (o + 1) (w.setCell ⟨b, o, none⟩ v) _ (blk_set h o v)
    exact ⟨h1, (KeptOff.cellT w b o v).then h2⟩

theorem clear_one (w : World) (a o c : Nat) (cur : Array Value) (hb : w.heap[a]? = some (.cells cur 46 (0, 0))) (ho : o + 2 ≤ cur.size) (ty : TypeId) :
    (Builtin.clear_ #[25] ty #[.slice (some ⟨a, o, none⟩) 1 c]).run Try.prog w = .ok (.tuple #[]) (w.setCells a o [.int .i64 0, .string ⟨#[]⟩]) := by
  have hst := run_storeCells_cells (P := Try.prog) a o [.int .i64 0, .string ⟨#[]⟩] 0 w (fun j hj => by rw [blk_cell hb]; simp at hj ⊢; omega) (fun j hj => blk_frozen hb _) (by intro v hv; simp at hv; rcases hv with rfl | rfl <;> rfl)
  simp only [Nat.add_zero] at hst
  have hz : (Builtin.zeroCells (Value.agg #[.int .i64 0, .string ⟨#[]⟩]).cells 1).toList = [.int .i64 0, .string ⟨#[]⟩] := by kernel_rfl
  simp [Builtin.clear_, run_underlying Try.underlying25, hz, hst]

theorem info46' : ∃ i0, Try.prog.info? 46 = some i0 ∧ i0.size = 2 := by
  have h : (Try.prog.info? 46).map (fun i => i.size) = some 2 := by kernel_rfl
  cases e : Try.prog.info? 46 with
  | none => rw [e] at h; cases h
  | some i0 => rw [e] at h; exact ⟨i0, rfl, by simpa using h⟩

/-- What slices.Delete leaves of the row's first cells. -/
theorem del_take (cur : Array Value) (n i : Nat) (hi : i < n) (hs : n * 2 ≤ cur.size) (z : List Value) (hz : z.length = 2) :
    (layA (layA cur (i * 2) ((cur.toList.take (n * 2)).drop ((i + 1) * 2))) ((n - 1) * 2) z).toList.take ((n - 1) * 2) = (cur.toList.take (n * 2)).take (i * 2) ++ (cur.toList.take (n * 2)).drop ((i + 1) * 2) := by
  have hl : ((cur.toList.take (n * 2)).drop ((i + 1) * 2)).length = n * 2 - (i + 1) * 2 := by simp; omega
  apply List.ext_getElem?
  intro t
  by_cases ht : t < (n - 1) * 2
  · rw [List.getElem?_take, if_pos ht, Array.getElem?_toList, layA_get _ _ _ _ (by rw [layA_size, hz]; omega), if_neg (by omega), layA_get _ _ _ _ (by rw [hl]; omega), hl]
    by_cases h1 : t < i * 2
    · rw [if_neg (by omega), List.getElem?_append_left (by simp; omega), List.getElem?_take, if_pos h1, List.getElem?_take, if_pos (by omega), Array.getElem?_toList]
    · rw [if_pos (by omega), List.getElem?_append_right (by simp; omega)]
      congr 1
      simp; omega
  · rw [List.getElem?_take, if_neg ht]
    symm
    rw [List.getElem?_eq_none_iff]
    simp; omega

set_option maxRecDepth 100000 in
set_option maxHeartbeats 1000000 in
theorem Del_calls (a n cap i : Nat) (cur : Array Value) (w : World) (hb : w.heap[a]? = some (.cells cur 46 (0, 0))) (hsz : cur.size = cap * 2) (hn : n ≤ cap) (_hc : cap ≤ maxLen) (hi : i < n) (h1 : ∀ u ∈ cur.toList.take (n * 2), u.oneCell' = true) :
    Calls Try.prog 17 #[.slice (some ⟨a, 0, none⟩) n cap, .int .i64 i, .int .i64 ((i : Int) + 1)] w fun e w' => e = .returned (.slice (some ⟨a, 0, none⟩) (n - 1) cap) ∧ KeptOff (fun k => k = a) w w' ∧
      ∃ cur', w'.heap[a]? = some (.cells cur' 46 (0, 0)) ∧ cur'.size = cap * 2 ∧ cur'.toList.take ((n - 1) * 2) = (cur.toList.take (n * 2)).take (i * 2) ++ (cur.toList.take (n * 2)).drop ((i + 1) * 2) := by
  unfold maxLen at _hc
  obtain ⟨news, hnews⟩ : ∃ news, news = (cur.toList.take (n * 2)).drop ((i + 1) * 2) := ⟨_, rfl⟩
  have hlen : news.length = (n - (i + 1)) * 2 := by rw [hnews]; simp; omega
  obtain ⟨A, hA, hsrc⟩ : ∃ A : Addr, (if cap = i + 1 then some (⟨a, 0, none⟩ : Addr) else some ⟨a, (i + 1) * 2, none⟩) = some A ∧ Hid (∀ t u, news[t]? = some u → w.drew.cell? (A.add t) = some u) := by
    by_cases h : cap = i + 1
    · refine ⟨⟨a, 0, none⟩, by simp [h], fun t u hu => ?_⟩
      have h0 : news.length = 0 := by rw [hlen]; omega
      rw [List.length_eq_zero_iff.1 h0] at hu
      simp at hu
    · refine ⟨⟨a, (i + 1) * 2, none⟩, by simp [h], fun t u hu => ?_⟩
      rw [hnews, List.getElem?_drop, List.getElem?_take] at hu
      split at hu
      · have : (⟨a, (i + 1) * 2, none⟩ : Addr).add t = ⟨a, (i + 1) * 2 + t, none⟩ := by unfold Addr.add; split <;> simp_all
        rw [this]
        show w.cell? _ = _
        rw [blk_cell hb, ← Array.getElem?_toList]; exact hu
      · cases hu
  have s1 : Hid (news.length = (n - (i + 1)) * 2) := hlen
  have s2 : Hid (∀ u ∈ news, u.oneCell' = true) := fun u hu => h1 u (by rw [hnews] at hu; exact List.mem_of_mem_drop hu)
  have s3 : Hid (∀ t, t < news.length → (w.drew.cell? ⟨a, 0 + i * 2 + t, none⟩).isSome = true ∧ w.drew.frozen? ⟨a, 0 + i * 2 + t, none⟩ = false) := fun t ht => by
    rw [hlen] at ht
    refine ⟨?_, blk_frozen (w := w) hb _⟩
    show (w.cell? _).isSome = true
    rw [blk_cell hb]
    simp; omega
  obtain ⟨g1, g2⟩ := setCells_heap a news (0 + i * 2) w.drew cur hb
  obtain ⟨W1, hW1⟩ : ∃ W1, W1 = w.drew.setCells a (0 + i * 2) news := ⟨_, rfl⟩
  rw [← hW1] at g1 g2
  have hcl := clear_one W1 a ((n - 1) * 2) (cap - (n - 1)) _ g1 (by rw [layA_size]; omega)
  have hfin : KeptOff (fun k => k = a) w (W1.setCells a ((n - 1) * 2) [.int .i64 0, .string ⟨#[]⟩]) ∧ ∃ cur', (W1.setCells a ((n - 1) * 2) [.int .i64 0, .string ⟨#[]⟩]).heap[a]? = some (.cells cur' 46 (0, 0)) ∧ cur'.size = cap * 2 ∧ cur'.toList.take ((n - 1) * 2) = (cur.toList.take (n * 2)).take (i * 2) ++ (cur.toList.take (n * 2)).drop ((i + 1) * 2) := by
    obtain ⟨k1, k2⟩ := setCells_heap a [.int .i64 0, .string ⟨#[]⟩] ((n - 1) * 2) W1 _ g1
    refine ⟨((KeptOff.drewN _ w 1).then g2).then k2, _, k1, by rw [layA_size, layA_size]; exact hsz, ?_⟩
    rw [hnews, Nat.zero_add]
    exact del_take cur n i hi (by omega) _ rfl
  have HW : Hid (W1 = w.drew.setCells a (0 + i * 2) news) := hW1
  have e1 : i + (n - (i + 1)) = n - 1 := by omega
  have hcl2 : ∀ ty, (Builtin.clear_ #[25] ty #[.slice (some ⟨a, (i + (n - (i + 1))) * 2, none⟩) (n - (i + (n - (i + 1)))) (cap - (i + (n - (i + 1))))]).run Try.prog W1 = .ok (.tuple #[]) (W1.setCells a ((n - 1) * 2) [.int .i64 0, .string ⟨#[]⟩]) := fun ty => by
    rw [e1, show n - (n - 1) = 1 by omega]; exact hcl ty
  have E1 := Lib.hid e1; clear e1 hcl
  have HFIN := Lib.hid hfin; clear hfin
  obtain ⟨i0, hi0, hz0⟩ := info46'
  clear hW1 g1 g2 hb hlen hnews h1 hsz
  have hic : i ≤ cap := by omega
  have hjc : i + 1 ≤ cap := by omega
  have q1 : (0 : Int) ≤ (i : Int) + 1 := by omega
  have q2 : (i : Int) + 1 ≤ (n : Int) := by omega
  go_enter Try.func17, Try.ntmps17
  go_wp2_with fail
  go_region_law (refine step_append_room rfl (.tmp 22) (.tmp 25) 25 rfl 46 i0 2 Try.underlying25 hi0 hz0 a 0 i cap (by simp [Act.eval, Act.put]) A (n - (i + 1)) (cap - (i + 1)) news (by simp [Act.eval, Act.put]) s1.out hsrc.out s2.out (by omega) s3.out ?_; rw [← HW.out])
  go_wp2_with fail
  go_ret
  refine ⟨?_, HFIN.out⟩
  show Ending.returned (.slice (some ⟨a, 0, none⟩) (i + (n - (i + 1))) cap) = _
  rw [E1.out]
end Go.Proofs.Ytihnmabmjffgoaa
