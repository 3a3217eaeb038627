import Derived.Test.YteahdaddbmhfgaaQStrips1
import Derived.Test.YteahdaddbmhfgaaQStrips2
import Derived.Test.YteahdaddbmhfgaaQStrips3
import Derived.Test.YteahdaddbmhfgaaQStrips4
import Derived.Test.YteahdaddbmhfgaaQStrips5
import Derived.Recover
import Derived.Laws.Panics
import Derived.WalkLawsBesides
import Derived.WalkSpells
section
namespace Go.Proofs.Yteahdaddbmhfgaa.P
open Go.RowKit Go.Proofs.YteahdaddbmhfgaaW.PrintWords Go.Proofs.YteahdaddbmhfgaaW.PrintLast Go.Proofs.YteahdaddbmhfgaaW.PrintMore
set_option linter.unusedVariables false
theorem bounds_drawn {P : Program} {w : World} {α : Type} (k : IntKind) (x y : Int) (code : BoundsCode) :
    ∃ s w', (boundsPanic k x y code : Sem α).run P w = .halt (.panic (boundsValue P (IntKind.i64.wrap x) y s code.toNat)) w' ∧ (w' = w ∨ w' = w.drew) := by
  unfold boundsPanic boundsValue
  split
  · refine ⟨((Question.extern "runtime.boundsError.signed" 2).cut (w.tape w.drawn (Question.extern "runtime.boundsError.signed" 2)) == 1), w.drew, ?_, .inr rfl⟩
    simp [runtimePanic, goPanic, go_sem]
  · refine ⟨k != .u64, w, ?_, .inl rfl⟩
    simp [runtimePanic, goPanic, go_sem]
theorem at_idle (p : Addr) (w : World) :
    CallsD Try.prog 176 #[.pointer (some p)] .returning w fun e u' w' => e = .returned (.tuple #[]) ∧ u' = .returning ∧ w' = w := by
  have ht : ∀ w, (Instr.typeAssert .nilIface 20 192 true).run Try.prog w = .ok (.tuple #[.nilIface, .bool false]) w := fun w => by kernel_rfl
  refine callsD_of_wpS Try.func176 rfl fun c₀ cs hu => ?_
  apply wpS_seq
  apply wpS_region
  simp [wpOpsS, go_sem, recoverD, hu, Try.ntmps176, Exit.thenS, Array.replicate_succ]
  refine wpS_of_wp ?_
  go_wp2
  cases c₀
  simp_all [bodyPostS, results, Try.results176]
theorem at_panicking (p : Addr) (u : Value) (x y : Int) (s : Bool) (c : Nat) (older : List PanicEntry) (w : World) (hc : w.cell? p = some u) (h1 : u.oneCell' = true) (hz : w.frozen? p = false) :
    CallsD Try.prog 176 #[.pointer (some p)] (.panicking ({ v := boundsValue Try.prog x y s c, recovered := false } :: older)) w fun e u' w' => e = .returned (.tuple #[]) ∧ u' = .panicking ({ v := boundsValue Try.prog x y s c, recovered := true } :: older) ∧ w' = w.setCell p (.int .i64 4) := by
  have ht : ∀ w, (Instr.typeAssert (boundsValue Try.prog x y s c) 20 192 true).run Try.prog w = .ok (.tuple #[boundsValue Try.prog x y s c, .bool true]) w := fun w => by kernel_rfl
  refine callsD_of_wpS Try.func176 rfl fun c₀ cs hu => ?_
  apply wpS_seq
  apply wpS_region
  simp [wpOpsS, go_sem, recoverD, hu, Try.ntmps176, Exit.thenS, Array.replicate_succ]
  refine wpS_of_wp ?_
  go_wp2
  cases c₀
  simp_all [bodyPostS, results, Try.results176]
theorem index_out {P : Program} {w : World} (t : TypeId) (a0 : Option Addr) (len cap : Nat) (k : IntKind) (i : Int) (h : P.underlying t = some (.slice (P.elem t))) (hnil : a0 = none → len = 0) (ho : i < 0 ∨ (len : Int) ≤ i) :
    ∃ s w', (Instr.indexAt t (.slice a0 len cap) (.int k i)).run P w = .halt (.panic (boundsValue P (IntKind.i64.wrap i) len s 0)) w' ∧ (w' = w ∨ w' = w.drew) := by
  cases a0 with
  | some a =>
    rw [run_indexAt_slice (h := h), if_neg (by omega)]
    exact bounds_drawn k i len .index
  | none =>
    obtain rfl := hnil rfl
    have e : (Instr.indexAt t (.slice none 0 cap) (.int k i)).run P w = (boundsPanic k i 0 .index).run P w := by
      simp [Instr.indexAt, run_underlying h, asIntOf]
    rw [e]
    exact bounds_drawn k i 0 .index
theorem at_out (A : Option Addr) (n c : Nat) (i : Int) (w : World) (hA : A = none → n = 0) (h : i < 0 ∨ (n : Int) ≤ i) :
    Calls Try.prog 163 #[.slice A n c, .int .i64 i] w fun e w' => e = .returned (.tuple #[.int .u8 0, .int .i64 4]) ∧ Below w.heap.size w w' := by
  have hmf : ∀ (fn : Fn) (first cap : Array Value) (w : World), (Instr.makeFunc fn first cap).run Try.prog w = .ok (.func fn first cap) w := fun _ _ _ _ => rfl
  obtain ⟨s, w1, hrun, hw1⟩ := index_out (P := Try.prog) (w := w.alloc (.cells #[.int .i64 0] 33)) 49 A n c .i64 i (by kernel_rfl) hA h
  have HW := Aside0.mk hw1; clear hw1
  go_enter_defers Try.func163, Try.ntmps163
  go_wp2
  have hc : w1.cell? ⟨w.heap.size, 0, none⟩ = some (.int .i64 0) := by rcases HW.out with rfl | rfl <;> simp [go_sem]
  have hf : w1.frozen? ⟨w.heap.size, 0, none⟩ = false := by rcases HW.out with rfl | rfl <;> simp [go_sem]
  have hb : Below w.heap.size w w1 := by
    have hb0 := (Below.refl w.heap.size w).alloc (Nat.le_refl _) (Obj.cells #[Value.int IntKind.i64 0] 33)
    rcases HW.out with rfl | rfl
    · exact hb0
    · exact hb0.drew
  refine leaves_cons (f := 176) (args := #[.pointer (some ⟨w.heap.size, 0, none⟩)]) (by simp) (by simp [go_sem]) ?_
  refine (at_panicking ⟨w.heap.size, 0, none⟩ _ _ _ _ _ [] _ hc rfl hf).mono ?_
  rintro e u' w'' ⟨rfl, rfl, rfl⟩
  have hcc := World.cell?_setCell_same' w1 ⟨w.heap.size, 0, none⟩ (.int .i64 4) (by rw [hc]; rfl)
  have hbb := hb.setCell (p := ⟨w.heap.size, 0, none⟩) (Nat.le_refl _) (.int .i64 4)
  clear hrun
  simp [Leaves, settle, results, Try.results163, go_sem, hcc, hbb]
theorem at_in (A : Option Addr) (n c : Nat) (l : List Int) (i : Int) (w : World) (hr : Kd.C u8K w A n l) (h0 : 0 ≤ i) (h1 : i < (n : Int)) :
    Calls Try.prog 163 #[.slice A n c, .int .i64 i] w fun e w' => e = .returned (.tuple #[.int .u8 (rd l i), .int .i64 0]) ∧ Below w.heap.size w w' := by
  have hmf : ∀ (fn : Fn) (first cap : Array Value) (w : World), (Instr.makeFunc fn first cap).run Try.prog w = .ok (.func fn first cap) w := fun _ _ _ _ => rfl
  obtain ⟨ad, rfl, hcell⟩ := Kd.at_int hr i h0 h1
  have hb0 := (Below.refl w.heap.size w).alloc (Nat.le_refl _) (Obj.cells #[Value.int IntKind.i64 0] 33)
  replace hcell := (hb0.cell (World.block_lt_of_cell? w _ hcell)).trans hcell
  go_enter_defers Try.func163, Try.ntmps163
  go_wp2
  have hc : (w.alloc (Obj.cells #[Value.int IntKind.i64 0] 33)).cell? ⟨w.heap.size, 0, none⟩ = some (.int .i64 0) := by simp [go_sem]
  refine leaves_cons (f := 176) (args := #[.pointer (some ⟨w.heap.size, 0, none⟩)]) (by simp) (by simp [go_sem]) ?_
  refine (at_idle ⟨w.heap.size, 0, none⟩ _).mono ?_
  rintro e u' w'' ⟨rfl, rfl, rfl⟩
  simp [Leaves, settle, results, Try.results163, go_sem, hc, hb0]
end Go.Proofs.Yteahdaddbmhfgaa.P
end
section
namespace Go.Proofs.Yteahdaddbmhfgaa.P
open Go.RowKit Go.Proofs.YteahdaddbmhfgaaW.PrintWords Go.Proofs.YteahdaddbmhfgaaW.PrintLast Go.Proofs.YteahdaddbmhfgaaW.PrintMore
set_option linter.unusedVariables false
def be (l : List Int) : Int := l.foldl (fun n c => n * 256 + c) 0
def IsBytes (l : List Int) : Prop := ∀ x ∈ l, 0 ≤ x ∧ x ≤ 255
instance (l : List Int) : Decidable (IsBytes l) := List.decidableBAll _ _
theorem be_snoc (l : List Int) (c : Int) : be (l ++ [c]) = be l * 256 + c := by simp [be]
theorem be_from : ∀ (l : List Int) (n : Int), IsBytes l → 0 ≤ n → 0 ≤ l.foldl (fun n c => n * 256 + c) n ∧ l.foldl (fun n c => n * 256 + c) n < (n + 1) * 256 ^ l.length
  | [], n, _, h => by simp; omega
  | c :: r, n, hb, h => by
    have hc := hb c (by simp)
    obtain ⟨h1, h2⟩ := be_from r (n * 256 + c) (fun x hx => hb x (by simp [hx])) (by omega)
    refine ⟨h1, Int.lt_of_lt_of_le h2 ?_⟩
    rw [List.length_cons, Int.pow_succ, Int.mul_comm (256 ^ r.length) 256, ← Int.mul_assoc]
    exact Int.mul_le_mul_of_nonneg_right (by omega) (Int.pow_nonneg (by decide))
theorem be_bound (l : List Int) (h : IsBytes l) : 0 ≤ be l ∧ be l < 256 ^ l.length := by
  have := be_from l 0 h (by omega)
  simpa [be] using this
theorem bytes_sub {l : List Int} (h : IsBytes l) (i m : Nat) : IsBytes ((l.drop i).take m) := fun x hx => h x (List.mem_of_mem_drop (List.mem_of_mem_take hx))
theorem be_step {l : List Int} (h : IsBytes l) {i : Int} {k : Nat} (h0 : 0 ≤ i) (h1 : i + k < l.length) (hk : k < 4) :
    be ((l.drop i.toNat).take (k + 1)) = be ((l.drop i.toNat).take k) * 256 + rd l (i + k) ∧ 0 ≤ be ((l.drop i.toNat).take k) ∧ be ((l.drop i.toNat).take k) < 16777216 ∧ 0 ≤ rd l (i + k) ∧ rd l (i + k) ≤ 255 := by
  have hlt : i.toNat + k < l.length := by omega
  have e : (i + k).toNat = i.toNat + k := by omega
  have hrd : rd l (i + k) = l[i.toNat + k] := by simp [rd, e, List.getD_eq_getElem?_getD, List.getElem?_eq_getElem hlt]
  have hb := be_bound _ (bytes_sub h i.toNat k)
  have hx := h _ (List.getElem_mem hlt)
  have hl : ((l.drop i.toNat).take k).length = k := by simp; omega
  rw [hl] at hb
  have hp : (256 : Int) ^ k ≤ 16777216 := by
    have : k = 0 ∨ k = 1 ∨ k = 2 ∨ k = 3 := by omega
    rcases this with rfl | rfl | rfl | rfl <;> decide
  rw [hrd]
  refine ⟨?_, hb.1, by omega, hx⟩
  rw [List.take_succ_eq_append_getElem (by simp; omega), be_snoc]
  simp
theorem or_byte (x c : Int) (h0 : 0 ≤ x) (h1 : x < 16777216) (h2 : 0 ≤ c) (h3 : c ≤ 255) : bits .or .i64 (wrap64 (x * 256)) (wrap64 c) = x * 256 + c := by
  rw [show wrap64 (x * 256) = x * 256 by unfold wrap64; omega, show wrap64 c = c by unfold wrap64; omega]
  exact bits_join .i64 63 (by decide) (fun n h0 h1 => by rw [IntKind.wrap_i64]; omega) 8 _ _ (by omega) (by omega) (by omega) h2 (by omega) (by omega)
theorem own_below_at {w w1 w2 : World} (h : Below w.heap.size w w1) (k : Below w1.heap.size w1 w2) : Below w.heap.size w w2 := below_then h h.size k
set_option maxRecDepth 10000 in
set_option maxHeartbeats 1000000 in
theorem get_in (A : Option Addr) (n c : Nat) (l : List Int) (i : Int) (m : Nat) (w : World) (hr : Kd.C u8K w A n l) (hb : IsBytes l) (h0 : 0 ≤ i) (h1 : i + m ≤ (n : Int)) (hm : m ≤ 4) :
    Calls Try.prog 144 #[.slice A n c, .int .i64 i, .int .i64 m] w fun e w' => e = .returned (.tuple #[.int .i64 (be ((l.drop i.toNat).take m)), .int .i64 (i + m), .agg #[.int .i64 0, .int .i64 0]]) ∧ Below w.heap.size w w' := by
  have hlen : n ≤ 9223372036854775807 := hr.2.1
  have hll := hr.1
  have HR := Aside0.mk hr; clear hr
  have HL := Aside0.mk hb; clear hb
  have HLL := Aside0.mk hll; clear hll
  go_enter Try.func144, Try.ntmps144
  go_wp2_with fail
  go_loopw [9, 10, 11, 12, 23, 26] (fun v _ _ _ x _ wr => ∃ k : Nat, k ≤ m ∧ x = .int .i64 k ∧ v = .int .i64 (be ((l.drop i.toNat).take k)) ∧ Aside0 (Below w.heap.size w wr) ∧ wr.heap[w.heap.size]? = some (.cells #[.int .i64 0, .int .i64 0] 68 (0, 0)) ∧ w.heap.size < wr.heap.size) (fun _ _ _ _ x _ _ => m - (intOf x).toNat)
  case atStart => exact ⟨0, by omega, rfl, rfl, ⟨(Below.refl _ _).alloc (Nat.le_refl _) _⟩, own_blk_new _ _, by simp⟩
  case round =>
    obtain ⟨k, hk, rfl, rfl, HB, hblk, hsz⟩ := hrel
    have HBK := Aside0.mk hblk; clear hblk
    by_cases hlt : k < m
    · have hcall : Calls Try.prog 163 #[.slice A n c, .int .i64 (i + k)] wr fun e w' => e = .returned (.tuple #[.int .u8 (rd l (i + k)), .int .i64 0]) ∧ Below wr.heap.size wr w' := at_in A n c l (i + k) wr (Kd.C_below HR.out HB.out) (by omega) (by omega)
      obtain ⟨hs, b0, b1, c0, c1⟩ := be_step HL.out h0 (i := i) (k := k) (by have := HLL.out; omega) (by omega)
      have HS := Aside0.mk hs; clear hs
      have HX := Aside0.mk (or_byte _ _ b0 b1 c0 c1)
      clear b0 b1 c0 c1
      go_wp2_with (first | (go_at_call 163; refine hcall.mono ?_; rintro e w' ⟨rfl, HB1⟩))
      have hblk1 := (HB1.block w.heap.size hsz).trans HBK.out
      have hsz1 : w.heap.size < w'.heap.size := Nat.lt_of_lt_of_le hsz HB1.size
      have HBB := Aside0.mk (own_below_at HB.out HB1)
      clear HB1 hcall
      refine ⟨⟨k + 1, by omega, by go_num, by rw [HX.out, HS.out], HBB, hblk1, hsz1⟩, ?_⟩
      simp [intOf]; omega
    · obtain rfl : k = m := by omega
      have hc0 : wr.cell? ⟨w.heap.size, 0, none⟩ = some (.int .i64 0) := own_blk_cell HBK.out 0
      have hc1 : wr.cell? ⟨w.heap.size, 1, none⟩ = some (.int .i64 0) := own_blk_cell HBK.out 1
      have hf := own_blk_frozen HBK.out
      go_wp2_with fail
      refine bodyPost_ret (v := .tuple #[.int .i64 (be ((l.drop i.toNat).take k)), .int .i64 (i + k), .agg #[.int .i64 0, .int .i64 0]]) (by simp [results, Try.results144, go_sem, hc0, hc1]) rfl ⟨rfl, ?_⟩
      exact (HB.out.setCell (by simp) _).setCell (by simp) _
set_option maxHeartbeats 1000000 in
theorem get_range (A : Option Addr) (n c : Nat) (i m : Int) (w : World) (h : i < 0 ∨ (n : Int) < i) :
    Calls Try.prog 144 #[.slice A n c, .int .i64 i, .int .i64 m] w fun e w' => e = .returned (.tuple #[.int .i64 0, .int .i64 0, .agg #[.int .i64 5, .int .i64 0]]) ∧ Below w.heap.size w w' := by
  rcases h with h | h
  · go_enter Try.func144, Try.ntmps144
    go_wp2_with fail
    refine bodyPost_ret (v := .tuple #[.int .i64 0, .int .i64 0, .agg #[.int .i64 5, .int .i64 0]]) (by simp [results, Try.results144, go_sem]) rfl ⟨rfl, ?_⟩
    exact (Below.refl _ _).alloc (Nat.le_refl _) _
  · have h0 : 0 ≤ i := by omega
    go_enter Try.func144, Try.ntmps144
    go_wp2_with fail
    refine bodyPost_ret (v := .tuple #[.int .i64 0, .int .i64 0, .agg #[.int .i64 5, .int .i64 0]]) (by simp [results, Try.results144, go_sem]) rfl ⟨rfl, ?_⟩
    exact (Below.refl _ _).alloc (Nat.le_refl _) _
set_option maxRecDepth 10000 in
set_option maxHeartbeats 1000000 in
theorem get_short (A : Option Addr) (n c : Nat) (l : List Int) (i : Int) (m : Nat) (w : World) (hr : Kd.C u8K w A n l) (hA : A = none → n = 0) (hb : IsBytes l) (h0 : 0 ≤ i) (h2 : i ≤ n) (h1 : (n : Int) < i + m) (hm : m ≤ 4) :
    Calls Try.prog 144 #[.slice A n c, .int .i64 i, .int .i64 m] w fun e w' => e = .returned (.tuple #[.int .i64 0, .int .i64 0, .agg #[.int .i64 4, .int .i64 n]]) ∧ Below w.heap.size w w' := by
  have hlen : n ≤ 9223372036854775807 := hr.2.1
  have hll := hr.1
  have HR := Aside0.mk hr; clear hr
  have HL := Aside0.mk hb; clear hb
  have HLL := Aside0.mk hll; clear hll
  have HAN := Aside0.mk hA; clear hA
  go_enter Try.func144, Try.ntmps144
  go_wp2_with fail
  go_loopw [9, 10, 11, 12, 23, 26] (fun v _ _ _ x _ wr => ∃ k : Nat, i + k ≤ n ∧ k < m ∧ x = .int .i64 k ∧ v = .int .i64 (be ((l.drop i.toNat).take k)) ∧ Aside0 (Below w.heap.size w wr) ∧ wr.heap[w.heap.size]? = some (.cells #[.int .i64 0, .int .i64 0] 68 (0, 0)) ∧ w.heap.size < wr.heap.size) (fun _ _ _ _ x _ _ => m - (intOf x).toNat)
  case atStart => exact ⟨0, by omega, by omega, rfl, rfl, ⟨(Below.refl _ _).alloc (Nat.le_refl _) _⟩, own_blk_new _ _, by simp⟩
  case round =>
    obtain ⟨k, hk, hlt, rfl, rfl, HB, hblk, hsz⟩ := hrel
    have HBK := Aside0.mk hblk; clear hblk
    by_cases hin : i + k < n
    · have hcall : Calls Try.prog 163 #[.slice A n c, .int .i64 (i + k)] wr fun e w' => e = .returned (.tuple #[.int .u8 (rd l (i + k)), .int .i64 0]) ∧ Below wr.heap.size wr w' := at_in A n c l (i + k) wr (Kd.C_below HR.out HB.out) (by omega) (by omega)
      obtain ⟨hs, b0, b1, c0, c1⟩ := be_step HL.out h0 (i := i) (k := k) (by have := HLL.out; omega) (by omega)
      have HS := Aside0.mk hs; clear hs
      have HX := Aside0.mk (or_byte _ _ b0 b1 c0 c1)
      clear b0 b1 c0 c1
      go_wp2_with (first | (go_at_call 163; refine hcall.mono ?_; rintro e w' ⟨rfl, HB1⟩))
      have hblk1 := (HB1.block w.heap.size hsz).trans HBK.out
      have hsz1 : w.heap.size < w'.heap.size := Nat.lt_of_lt_of_le hsz HB1.size
      have HBB := Aside0.mk (own_below_at HB.out HB1)
      clear HB1 hcall
      refine ⟨⟨k + 1, by omega, by omega, by go_num, by rw [HX.out, HS.out], HBB, hblk1, hsz1⟩, ?_⟩
      simp [intOf]; omega
    · have hcall : Calls Try.prog 163 #[.slice A n c, .int .i64 (i + k)] wr fun e w' => e = .returned (.tuple #[.int .u8 0, .int .i64 4]) ∧ Below wr.heap.size wr w' := at_out A n c (i + k) wr HAN.out (by omega)
      go_wp2_with (first | (go_at_call 163; refine hcall.mono ?_; rintro e w' ⟨rfl, HB1⟩; have hblk1 := (HB1.block w.heap.size hsz).trans HBK.out; have hc0 : w'.cell? ⟨w.heap.size, 0, none⟩ = some (.int .i64 0) := own_blk_cell hblk1 0; have hc1 : w'.cell? ⟨w.heap.size, 1, none⟩ = some (.int .i64 0) := own_blk_cell hblk1 1; have hf := own_blk_frozen hblk1; clear hblk1))
      refine bodyPost_ret (v := .tuple #[.int .i64 0, .int .i64 0, .agg #[.int .i64 4, .int .i64 n]]) (by simp [results, Try.results144, go_sem, hc0, hc1]) rfl ⟨rfl, ?_⟩
      exact ((own_below_at HB.out HB1).setCell (by simp) _).setCell (by simp) _
def octet_Get16.f (l : List Int) (i : Int) : Option (Int × Int × Int × Int) :=
  if IsBytes l then
    if i < 0 ∨ l.length < i then some (0, 0, 5, 0)
    else if (l.length : Int) < i + 2 then some (0, 0, 4, l.length)
    else some (be ((l.drop i.toNat).take 2), i + 2, 0, 0)
  else none
theorem get_calls (m : Nat) (hm : m ≤ 4) (A0 : Option Addr) (c0 : Nat) (l0 : List Int) (a1 : Int) (r1 : Int) (r2 : Int) (r3 : Int) (r4 : Int) (w : World) (hr0 : Kd.C (Kd.int .u8) w A0 l0.length l0) (hb : IsBytes l0)
    (h : (if a1 < 0 ∨ l0.length < a1 then some (0, 0, 5, 0) else if (l0.length : Int) < a1 + m then some (0, 0, 4, (l0.length : Int)) else some (be ((l0.drop a1.toNat).take m), a1 + m, 0, 0)) = some (r1, r2, r3, r4)) :
    Calls Try.prog 144 #[.slice A0 l0.length c0, .int .i64 a1, .int .i64 m] w fun e w' => e = .returned (.tuple #[.int .i64 r1, .int .i64 r2, .agg #[.int .i64 r3, .int .i64 r4]]) ∧ Below w.heap.size w w' := by
  have hA : A0 = none → l0.length = 0 := fun e => by
    subst e
    rcases Nat.eq_zero_or_pos l0.length with h0 | h0
    · exact h0
    · obtain ⟨ad, he, _⟩ := hr0.2.2 h0
      cases he
  split at h
  · simp only [Option.some.injEq, Prod.mk.injEq] at h
    obtain ⟨rfl, rfl, rfl, rfl⟩ := h
    exact get_range A0 _ c0 a1 m w (by omega)
  · split at h
    · simp only [Option.some.injEq, Prod.mk.injEq] at h
      obtain ⟨rfl, rfl, rfl, rfl⟩ := h
      exact get_short A0 _ c0 l0 a1 m w hr0 hA hb (by omega) (by omega) (by omega) hm
    · simp only [Option.some.injEq, Prod.mk.injEq] at h
      obtain ⟨rfl, rfl, rfl, rfl⟩ := h
      exact get_in A0 _ c0 l0 a1 m w hr0 hb (by omega) (by omega) hm
set_option maxHeartbeats 1000000 in
theorem octet_Get16.calls (A0 : Option Addr) (c0 : Nat) (l0 : List Int) (a1 : Int) (r1 : Int) (r2 : Int) (r3 : Int) (r4 : Int) (w : World) (hr0 : Kd.C (Kd.int .u8) w A0 l0.length l0) (hc0 : l0.length ≤ c0) (h : octet_Get16.f l0 a1 = some (r1, r2, r3, r4)) :
    Calls Try.prog 113 #[.slice A0 l0.length c0, .int .i64 a1] w fun e w' => e = .returned (.tuple #[.int .i64 r1, .int .i64 r2, .agg #[.int .i64 r3, .int .i64 r4]]) ∧ Below w.heap.size w w' := by
  unfold octet_Get16.f at h
  split at h
  case isFalse => cases h
  rename_i hb
  have hw : Below w.heap.size w (w.alloc (.cells #[.int .i64 0, .int .i64 0] 68)) := (Below.refl _ _).alloc (Nat.le_refl _) _
  have hc := get_calls 2 (by omega) A0 c0 l0 a1 r1 r2 r3 r4 _ (Kd.C_below hr0 hw) hb h
  clear h hr0
  have HL := Aside0.mk hb; clear hb
  go_enter Try.func113, Try.ntmps113
  go_wp2_with (first | (go_at_call 144; refine hc.mono ?_; rintro e w' ⟨rfl, HB1⟩; have hblk1 := (HB1.block w.heap.size (by simp)).trans (own_blk_new w _); have hc0 : w'.cell? ⟨w.heap.size, 0, none⟩ = some (.int .i64 0) := own_blk_cell hblk1 0; have hc1 : w'.cell? ⟨w.heap.size, 1, none⟩ = some (.int .i64 0) := own_blk_cell hblk1 1; have hf := own_blk_frozen hblk1; clear hblk1))
  refine bodyPost_ret (v := .tuple #[.int .i64 r1, .int .i64 r2, .agg #[.int .i64 r3, .int .i64 r4]]) (by simp [results, Try.results113, go_sem, hc0, hc1]) rfl ⟨rfl, ?_⟩
  exact ((own_below_at hw HB1).setCell (by simp) _).setCell (by simp) _
end Go.Proofs.Yteahdaddbmhfgaa.P
end
