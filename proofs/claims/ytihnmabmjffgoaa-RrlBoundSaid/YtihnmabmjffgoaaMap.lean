/- The map of package rrl: keys (client, name), elements pointers to a window's block: look-up, store, delete, length, as plain facts. -/
import Derived.Test.YtihnmabmjffgoaaRows
import Derived.WalkKit
import Derived.WalkSpells
import Derived.WalkLawsBesides
import Derived.Maps.OwnSet
import Derived.DeepKeys4
namespace Go.Proofs.Ytihnmabmjffgoaa
open Go.RowKit Go.Maps

theorem laidOut : laidOutB Try.prog = true := by kernel_rfl
theorem rowK : (46 : TypeId) < Try.prog.types.size := of_decide_eq_true (by kernel_rfl)
theorem wideK : (match Try.prog.underlying 46 with | some (.array _ _) | some (.struct _) => true | _ => false) = true := by kernel_rfl
theorem lawK : Go.WideMaps.KeyLaw Try.prog 46 := deep_law_laid laidOut (m := 2) (by omega) rowK (by kernel_rfl) wideK
theorem keyedK : Keyed Try.prog 46 := Keyed.of_law lawK
theorem tsize : Try.prog.types.size = 69 := by kernel_rfl
theorem ktype : Try.prog.keyType 46 = true := by kernel_rfl
theorem cells46 : Try.prog.cellsOf 46 = 2 := by kernel_rfl
theorem cells9 : Try.prog.cellsOf 9 = 1 := by kernel_rfl
theorem cells3 : Try.prog.cellsOf 3 = 1 := by kernel_rfl
theorem zero47 (w : World) : (zeroValue 47).run Try.prog w = .ok (.pointer none) w := by kernel_rfl

def keyV (c : Int) (s : ByteArray) : Value := .agg #[.int .i64 c, .string s]
structure KeyOk (c : Int) (s : ByteArray) : Prop where
  wf : (Lit.int .i64 c).wf = true
  len : s.size ≤ maxLen

theorem keyLits2 (d : Nat) {c : Int} {s : ByteArray} (h : KeyOk c s) : Try.prog.keyLits (d + 2) 46 [.int .i64 c, .string s] = some [.int .i64 c, .string s.data.toList] := by
  have e3 : Try.prog.keyLits (d + 1) 3 [.int .i64 c] = some [.int .i64 c] := by
    unfold Program.keyLits; rw [Try.underlying3]; simp [h.wf]
  have e9 : Try.prog.keyLits (d + 1) 9 [.string s] = some [.string s.data.toList] := by
    unfold Program.keyLits; rw [Try.underlying9]; simp [h.len]
  unfold Program.keyLits
  rw [Try.underlying46]
  simp [cells3, cells9, cells46, e3, e9]
theorem key_lit {c : Int} {s : ByteArray} (h : KeyOk c s) : ∃ kl, keyOf Try.prog 46 (keyV c s) = some kl := by
  unfold keyOf
  rw [Try.underlying46, ktype, tsize]
  have := keyLits2 68 h
  simp [Value.formed, Try.underlying46, cells46, keyV, Value.cells, this]

noncomputable def klit (c : Int) (s : ByteArray) : Lit := (keyOf Try.prog 46 (keyV c s)).getD (.bool false)
theorem klit_of {c : Int} {s : ByteArray} (h : KeyOk c s) : keyOf Try.prog 46 (keyV c s) = some (klit c s) := by
  obtain ⟨kl, e⟩ := key_lit h
  simp [klit, e]
theorem klit_inj {c c' : Int} {s s' : ByteArray} (h : KeyOk c s) (h' : KeyOk c' s') (e : klit c s = klit c' s') : c = c' ∧ s = s' := by
  have e1 := klit_of h
  have e2 := klit_of h'
  rw [← e] at e2
  have := keyedK.inj e1 e2
  simpa [keyV] using this

/-- How an element reads: the number of the block that it points to. -/
def ptrR : Value → Option (DataW Unit × List MemPlace)
  | .pointer (some ⟨b, 0, none⟩) => some (.lit (.int .i64 (b : Int)), [])
  | .pointer none => some (.nil, [])
  | _ => none
theorem ptrR_inv {v : Value} {t : Nat} {ps : List MemPlace} (h : ptrR v = some (.lit (.int .i64 (t : Int)), ps)) : v = .pointer (some ⟨t, 0, none⟩) := by
  unfold ptrR at h
  split at h
  · simp at h; obtain ⟨h, _⟩ := h; simp
  · simp at h
  · cases h

abbrev ptrV (t : Nat) : Value := .pointer (some ⟨t, 0, none⟩)

/-- Block b of w is a map of n entries; m tells where each key's element points to. -/
def IsMapK (w : World) (b n : Nat) (m : Int → ByteArray → Option Nat) : Prop :=
  ∃ D : DataW Unit, w.ownsMap Try.prog 46 ptrR b n D ∧ Maps.size D = n ∧ ∀ c s, KeyOk c s → (Maps.has D (klit c s) = (m c s).isSome ∧ ∀ t, m c s = some t → D.atKey (klit c s) .nil = .lit (.int .i64 (t : Int)))

theorem IsMapK.made (w : World) : IsMapK (w.alloc (.map #[] 0)) w.heap.size 0 (fun _ _ => none) :=
  ⟨.map [], World.ownsMap_made _ _ _ _, rfl, fun c s _ => ⟨rfl, fun t h => by cases h⟩⟩

theorem IsMapK.lt {w : World} {b n : Nat} {m : Int → ByteArray → Option Nat} (h : IsMapK w b n m) : b < w.heap.size := h.choose_spec.1.lt

theorem IsMapK.kept {w w' : World} {b n : Nat} {m : Int → ByteArray → Option Nat} (h : IsMapK w b n m) (hk : w'.heap[b]? = w.heap[b]?) : IsMapK w' b n m := by
  obtain ⟨D, ⟨es, clock, hb, F, hs, hD⟩, r⟩ := h
  exact ⟨D, ⟨es, clock, hk.trans hb, F, hs, hD⟩, r⟩

theorem IsMapK.look {w : World} {b n : Nat} {m : Int → ByteArray → Option Nat} (h : IsMapK w b n m) {c : Int} {s : ByteArray} (hk : KeyOk c s) (co : Bool) :
    (Instr.lookup 24 (.map (some b)) (keyV c s) co).run Try.prog w = .ok (match m c s with | some t => if co then .tuple #[ptrV t, .bool true] else ptrV t | none => if co then .tuple #[.pointer none, .bool false] else .pointer none) w := by
  obtain ⟨D, ⟨es, clock, hb, F, hs, rfl⟩, hsz, hm⟩ := h
  obtain ⟨h1, h2⟩ := hm c s hk
  rcases Maps.fit_look co keyedK Try.underlying24 (zero47 w) hb F (klit_of hk) with ⟨hrun, _, hat⟩ | ⟨e0, y, _, _, hrun, hR, hat, _⟩
  · have hn : m c s = none := by
      rw [Maps.has_false_of_atKey hat] at h1
      simpa using h1.symm
    rw [hn]; exact hrun
  · rw [Maps.has_true_of_atKey hat] at h1
    obtain ⟨t, ht⟩ := Option.isSome_iff_exists.1 h1.symm
    have h3 := h2 t ht
    rw [hat] at h3
    rw [ht]
    obtain ⟨y1, y2⟩ := y
    simp only at h3
    subst h3
    rw [hrun, ptrR_inv hR]

def put (m : Int → ByteArray → Option Nat) (c : Int) (s : ByteArray) (t : Option Nat) : Int → ByteArray → Option Nat := fun c' s' => if c' = c ∧ s' = s then t else m c' s'

theorem IsMapK.store {w : World} {b n : Nat} {m : Int → ByteArray → Option Nat} (h : IsMapK w b n m) {c : Int} {s : ByteArray} (hk : KeyOk c s) (hn : m c s = none) (hlt : n < maxLen) (t : Nat) :
    ∃ w', (Instr.mapUpdate 24 (.map (some b)) (keyV c s) (ptrV t)).run Try.prog w = .ok () w' ∧ IsMapK w' b (n + 1) (put m c s (some t)) ∧ w.mapTurned w' b := by
  obtain ⟨D, hown, hsz, hm⟩ := h
  obtain ⟨w', hrun, hown', ht⟩ := hown.store keyedK Try.underlying24 hlt (klit_of hk) (val := ptrV t) (d := .lit (.int .i64 (t : Int))) (ps := []) (by rfl)
  have hl := keyedK.key (klit_of hk)
  refine ⟨w', hrun, ⟨_, hown', ?_, fun c' s' hk' => ?_⟩, ht⟩
  · rw [Maps.size_put (hown.tidy keyedK), (hm c s hk).1, hn, hsz]; simp
  · by_cases e : klit c' s' = klit c s
    · obtain ⟨rfl, rfl⟩ := klit_inj hk' hk e
      simp only [put, and_self, if_true]
      refine ⟨by rw [Maps.has_put_same hown.isMap hl]; rfl, fun t' e' => ?_⟩
      cases e'
      exact Maps.atKey_put_same hown.isMap hl _ _
    · have hne : ¬ (c' = c ∧ s' = s) := fun ⟨e1, e2⟩ => e (by rw [e1, e2])
      simp only [put, if_neg hne]
      rw [Maps.has_put_other e]
      exact ⟨(hm c' s' hk').1, fun t' e' => by rw [Maps.atKey_put_other e]; exact (hm c' s' hk').2 t' e'⟩

theorem IsMapK.drop {w : World} {b n : Nat} {m : Int → ByteArray → Option Nat} (h : IsMapK w b (n + 1) m) {c : Int} {s : ByteArray} (hk : KeyOk c s) (hn : (m c s).isSome = true) (ty : TypeId) :
    ∃ w', (Builtin.delete_ #[24, 46] ty #[.map (some b), keyV c s]).run Try.prog w = .ok (.tuple #[]) w' ∧ IsMapK w' b n (put m c s none) ∧ w.mapTurned w' b := by
  obtain ⟨D, hown, hsz, hm⟩ := h
  obtain ⟨w', hrun, hown', ht⟩ := hown.drop keyedK Try.underlying24 (klit_of hk) ty
  have hl := keyedK.key (klit_of hk)
  have hs := Maps.size_del (k := klit c s) (hown.tidy keyedK)
  rw [(hm c s hk).1, hn, hsz] at hs
  simp only [if_true] at hs
  have hs' : Maps.size (D.del (klit c s)) = n := by omega
  refine ⟨w', hrun, ⟨_, ?_, hs', fun c' s' hk' => ?_⟩, ht⟩
  · obtain ⟨es, clock, hb, F, _, hD⟩ := hown'
    refine ⟨es, clock, hb, F, ?_, hD⟩
    rw [hD] at hs'
    simp only [Maps.size] at hs'
    rw [length_sorted] at hs'
    simp at hs'
    omega
  · by_cases e : klit c' s' = klit c s
    · obtain ⟨rfl, rfl⟩ := klit_inj hk' hk e
      simp only [put, and_self, if_true]
      exact ⟨by rw [Maps.has_del_same]; rfl, fun t' e' => by cases e'⟩
    · have hne : ¬ (c' = c ∧ s' = s) := fun ⟨e1, e2⟩ => e (by rw [e1, e2])
      simp only [put, if_neg hne]
      rw [Maps.has_del_other e]
      exact ⟨(hm c' s' hk').1, fun t' e' => by rw [Maps.atKey_del_other e]; exact (hm c' s' hk').2 t' e'⟩

theorem IsMapK.len {w : World} {b n : Nat} {m : Int → ByteArray → Option Nat} (h : IsMapK w b n m) (ty : TypeId) : (Builtin.len_ #[24] ty #[.map (some b)]).run Try.prog w = .ok (.int .i64 (n : Int)) w := by
  obtain ⟨D, hown, hsz, hm⟩ := h
  have := hown.len Try.underlying24 ty
  rw [hsz] at this
  exact this
end Go.Proofs.Ytihnmabmjffgoaa
