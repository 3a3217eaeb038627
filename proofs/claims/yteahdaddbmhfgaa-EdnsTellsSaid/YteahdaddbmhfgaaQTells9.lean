import Derived.Test.YteahdaddbmhfgaaQTells1
import Derived.Test.YteahdaddbmhfgaaQTells2
import Derived.Test.YteahdaddbmhfgaaQTells3
import Derived.Test.YteahdaddbmhfgaaQTells4
import Derived.Test.YteahdaddbmhfgaaQTells5
import Derived.Recover
import Derived.Laws.Panics
import Derived.WalkLawsBesides
import Derived.WalkSpells
section
namespace Go.Proofs.Yteahdaddbmhfgaa.P
open Go.RowKit Go.Proofs.YteahdaddbmhfgaaW.PrintWords Go.Proofs.YteahdaddbmhfgaaW.PrintLast Go.Proofs.YteahdaddbmhfgaaW.PrintMore
set_option linter.unusedVariables false
theorem bounds_drawn {P : Program} {w : World} {α : Type} (k : IntKind) (x y : Int) (code : BoundsCode) :
    ∃ s w', (boundsPanic k x y code : Sem α).run P w = .halt (.panic (boundsValue P (IntKind.i64.wrap x) y s code.toNat)) w' ∧ (w' = w ∨ w' = w.drew) := by
  unfold boundsPanic boundsValue
  split
  · refine ⟨((Question.extern "runtime.boundsError.signed" 2).cut (w.tape w.drawn (Question.extern "runtime.boundsError.signed" 2)) == 1), w.drew, ?_, .inr rfl⟩
    simp [runtimePanic, goPanic, go_sem]
  · refine ⟨k != .u64, w, ?_, .inl rfl⟩
    simp [runtimePanic, goPanic, go_sem]
theorem at_idle (p : Addr) (w : World) :
    CallsD Try.prog 176 #[.pointer (some p)] .returning w fun e u' w' => e = .returned (.tuple #[]) ∧ u' = .returning ∧ w' = w := by
  have ht : ∀ w, (Instr.typeAssert .nilIface 20 192 true).run Try.prog w = .ok (.tuple #[.nilIface, .bool false]) w := fun w => by kernel_rfl
  refine callsD_of_wpS Try.func176 rfl fun c₀ cs hu => ?_
  apply wpS_seq
  apply wpS_region
  simp [wpOpsS, go_sem, recoverD, hu, Try.ntmps176, Exit.thenS, Array.replicate_succ]
  refine wpS_of_wp ?_
  go_wp2
  cases c₀
  simp_all [bodyPostS, results, Try.results176]
theorem at_panicking (p : Addr) (u : Value) (x y : Int) (s : Bool) (c : Nat) (older : List PanicEntry) (w : World) (hc : w.cell? p = some u) (h1 : u.oneCell' = true) (hz : w.frozen? p = false) :
    CallsD Try.prog 176 #[.pointer (some p)] (.panicking ({ v := boundsValue Try.prog x y s c, recovered := false } :: older)) w fun e u' w' => e = .returned (.tuple #[]) ∧ u' = .panicking ({ v := boundsValue Try.prog x y s c, recovered := true } :: older) ∧ w' = w.setCell p (.int .i64 4) := by
  have ht : ∀ w, (Instr.typeAssert (boundsValue Try.prog x y s c) 20 192 true).run Try.prog w = .ok (.tuple #[boundsValue Try.prog x y s c, .bool true]) w := fun w => by kernel_rfl
  refine callsD_of_wpS Try.func176 rfl fun c₀ cs hu => ?_
  apply wpS_seq
  apply wpS_region
  simp [wpOpsS, go_sem, recoverD, hu, Try.ntmps176, Exit.thenS, Array.replicate_succ]
  refine wpS_of_wp ?_
  go_wp2
  cases c₀
  simp_all [bodyPostS, results, Try.results176]
theorem index_out {P : Program} {w : World} (t : TypeId) (a0 : Option Addr) (len cap : Nat) (k : IntKind) (i : Int) (h : P.underlying t = some (.slice (P.elem t))) (hnil : a0 = none → len = 0) (ho : i < 0 ∨ (len : Int) ≤ i) :
    ∃ s w', (Instr.indexAt t (.slice a0 len cap) (.int k i)).run P w = .halt (.panic (boundsValue P (IntKind.i64.wrap i) len s 0)) w' ∧ (w' = w ∨ w' = w.drew) := by
  cases a0 with
  | some a =>
    rw [run_indexAt_slice (h := h), if_neg (by omega)]
    exact bounds_drawn k i len .index
  | none =>
    obtain rfl := hnil rfl
    have e : (Instr.indexAt t (.slice none 0 cap) (.int k i)).run P w = (boundsPanic k i 0 .index).run P w := by
      simp [Instr.indexAt, run_underlying h, asIntOf]
    rw [e]
    exact bounds_drawn k i 0 .index
theorem at_out (A : Option Addr) (n c : Nat) (i : Int) (w : World) (hA : A = none → n = 0) (h : i < 0 ∨ (n : Int) ≤ i) :
    Calls Try.prog 163 #[.slice A n c, .int .i64 i] w fun e w' => e = .returned (.tuple #[.int .u8 0, .int .i64 4]) ∧ Below w.heap.size w w' := by
  have hmf : ∀ (fn : Fn) (first cap : Array Value) (w : World), (Instr.makeFunc fn first cap).run Try.prog w = .ok (.func fn first cap) w := fun _ _ _ _ => rfl
  obtain ⟨s, w1, hrun, hw1⟩ := index_out (P := Try.prog) (w := w.alloc (.cells #[.int .i64 0] 33)) 49 A n c .i64 i (by kernel_rfl) hA h
  have HW := Aside0.mk hw1; clear hw1
  go_enter_defers Try.func163, Try.ntmps163
  go_wp2
  have hc : w1.cell? ⟨w.heap.size, 0, none⟩ = some (.int .i64 0) := by rcases HW.out with rfl | rfl <;> simp [go_sem]
  have hf : w1.frozen? ⟨w.heap.size, 0, none⟩ = false := by rcases HW.out with rfl | rfl <;> simp [go_sem]
  have hb : Below w.heap.size w w1 := by
    have hb0 := (Below.refl w.heap.size w).alloc (Nat.le_refl _) (Obj.cells #[Value.int IntKind.i64 0] 33)
    rcases HW.out with rfl | rfl
    · exact hb0
    · exact hb0.drew
  refine leaves_cons (f := 176) (args := #[.pointer (some ⟨w.heap.size, 0, none⟩)]) (by simp) (by simp [go_sem]) ?_
  refine (at_panicking ⟨w.heap.size, 0, none⟩ _ _ _ _ _ [] _ hc rfl hf).mono ?_
  rintro e u' w'' ⟨rfl, rfl, rfl⟩
  have hcc := World.cell?_setCell_same' w1 ⟨w.heap.size, 0, none⟩ (.int .i64 4) (by rw [hc]; rfl)
  have hbb := hb.setCell (p := ⟨w.heap.size, 0, none⟩) (Nat.le_refl _) (.int .i64 4)
  clear hrun
  simp [Leaves, settle, results, Try.results163, go_sem, hcc, hbb]
theorem at_in (A : Option Addr) (n c : Nat) (l : List Int) (i : Int) (w : World) (hr : Kd.C u8K w A n l) (h0 : 0 ≤ i) (h1 : i < (n : Int)) :
    Calls Try.prog 163 #[.slice A n c, .int .i64 i] w fun e w' => e = .returned (.tuple #[.int .u8 (rd l i), .int .i64 0]) ∧ Below w.heap.size w w' := by
  have hmf : ∀ (fn : Fn) (first cap : Array Value) (w : World), (Instr.makeFunc fn first cap).run Try.prog w = .ok (.func fn first cap) w := fun _ _ _ _ => rfl
  obtain ⟨ad, rfl, hcell⟩ := Kd.at_int hr i h0 h1
  have hb0 := (Below.refl w.heap.size w).alloc (Nat.le_refl _) (Obj.cells #[Value.int IntKind.i64 0] 33)
  replace hcell := (hb0.cell (World.block_lt_of_cell? w _ hcell)).trans hcell
  go_enter_defers Try.func163, Try.ntmps163
  go_wp2
  have hc : (w.alloc (Obj.cells #[Value.int IntKind.i64 0] 33)).cell? ⟨w.heap.size, 0, none⟩ = some (.int .i64 0) := by simp [go_sem]
  refine leaves_cons (f := 176) (args := #[.pointer (some ⟨w.heap.size, 0, none⟩)]) (by simp) (by simp [go_sem]) ?_
  refine (at_idle ⟨w.heap.size, 0, none⟩ _).mono ?_
  rintro e u' w'' ⟨rfl, rfl, rfl⟩
  simp [Leaves, settle, results, Try.results163, go_sem, hc, hb0]
end Go.Proofs.Yteahdaddbmhfgaa.P
end
section
namespace Go.Proofs.Yteahdaddbmhfgaa.P
open Go.RowKit Go.Proofs.YteahdaddbmhfgaaW.PrintWords Go.Proofs.YteahdaddbmhfgaaW.PrintLast Go.Proofs.YteahdaddbmhfgaaW.PrintMore
set_option linter.unusedVariables false
def be (l : List Int) : Int := l.foldl (fun n c => n * 256 + c) 0
def IsBytes (l : List Int) : Prop := ∀ x ∈ l, 0 ≤ x ∧ x ≤ 255
instance (l : List Int) : Decidable (IsBytes l) := List.decidableBAll _ _
theorem be_snoc (l : List Int) (c : Int) : be (l ++ [c]) = be l * 256 + c := by simp [be]
theorem be_from : ∀ (l : List Int) (n : Int), IsBytes l → 0 ≤ n → 0 ≤ l.foldl (fun n c => n * 256 + c) n ∧ l.foldl (fun n c => n * 256 + c) n < (n + 1) * 256 ^ l.length
  | [], n, _, h => by simp; omega
  | c :: r, n, hb, h => by
    have hc := hb c (by simp)
    obtain ⟨h1, h2⟩ := be_from r (n * 256 + c) (fun x hx => hb x (by simp [hx])) (by omega)
    refine ⟨h1, Int.lt_of_lt_of_le h2 ?_⟩
    rw [List.length_cons, Int.pow_succ, Int.mul_comm (256 ^ r.length) 256, ← Int.mul_assoc]
    exact Int.mul_le_mul_of_nonneg_right (by omega) (Int.pow_nonneg (by decide))
theorem be_bound (l : List Int) (h : IsBytes l) : 0 ≤ be l ∧ be l < 256 ^ l.length := by
  have := be_from l 0 h (by omega)
  simpa [be] using this
theorem bytes_sub {l : List Int} (h : IsBytes l) (i m : Nat) : IsBytes ((l.drop i).take m) := fun x hx => h x (List.mem_of_mem_drop (List.mem_of_mem_take hx))
theorem be_step {l : List Int} (h : IsBytes l) {i : Int} {k : Nat} (h0 : 0 ≤ i) (h1 : i + k < l.length) (hk : k < 4) :
    be ((l.drop i.toNat).take (k + 1)) = be ((l.drop i.toNat).take k) * 256 + rd l (i + k) ∧ 0 ≤ be ((l.drop i.toNat).take k) ∧ be ((l.drop i.toNat).take k) < 16777216 ∧ 0 ≤ rd l (i + k) ∧ rd l (i + k) ≤ 255 := by
  have hlt : i.toNat + k < l.length := by omega
  have e : (i + k).toNat = i.toNat + k := by omega
  have hrd : rd l (i + k) = l[i.toNat + k] := by simp [rd, e, List.getD_eq_getElem?_getD, List.getElem?_eq_getElem hlt]
  have hb := be_bound _ (bytes_sub h i.toNat k)
  have hx := h _ (List.getElem_mem hlt)
  have hl : ((l.drop i.toNat).take k).length = k := by simp; omega
  rw [hl] at hb
  have hp : (256 : Int) ^ k ≤ 16777216 := by
    have : k = 0 ∨ k = 1 ∨ k = 2 ∨ k = 3 := by omega
    rcases this with rfl | rfl | rfl | rfl <;> decide
  rw [hrd]
  refine ⟨?_, hb.1, by omega, hx⟩
  rw [List.take_succ_eq_append_getElem (by simp; omega), be_snoc]
  simp
theorem or_byte (x c : Int) (h0 : 0 ≤ x) (h1 : x < 16777216) (h2 : 0 ≤ c) (h3 : c ≤ 255) : bits .or .i64 (wrap64 (x * 256)) (wrap64 c) = x * 256 + c := by
  rw [show wrap64 (x * 256) = x * 256 by unfold wrap64; omega, show wrap64 c = c by unfold wrap64; omega]
  exact bits_join .i64 63 (by decide) (fun n h0 h1 => by rw [IntKind.wrap_i64]; omega) 8 _ _ (by omega) (by omega) (by omega) h2 (by omega) (by omega)
theorem own_below_at {w w1 w2 : World} (h : Below w.heap.size w w1) (k : Below w1.heap.size w1 w2) : Below w.heap.size w w2 := below_then h h.size k
set_option maxRecDepth 10000 in
set_option maxHeartbeats 1000000 in
theorem get_in (A : Option Addr) (n c : Nat) (l : List Int) (i : Int) (m : Nat) (w : World) (hr : Kd.C u8K w A n l) (hb : IsBytes l) (h0 : 0 ≤ i) (h1 : i + m ≤ (n : Int)) (hm : m ≤ 4) :
    Calls Try.prog 144 #[.slice A n c, .int .i64 i, .int .i64 m] w fun e w' => e = .returned (.tuple #[.int .i64 (be ((l.drop i.toNat).take m)), .int .i64 (i + m), .agg #[.int .i64 0, .int .i64 0]]) ∧ Below w.heap.size w w' := by
  have hlen : n ≤ 9223372036854775807 := hr.2.1
  have hll := hr.1
  have HR := Aside0.mk hr; clear hr
  have HL := Aside0.mk hb; clear hb
  have HLL := Aside0.mk hll; clear hll
  go_enter Try.func144, Try.ntmps144
  go_wp2_with fail
  go_loopw [9, 10, 11, 12, 23, 26] (fun v _ _ _ x _ wr => ∃ k : Nat, k ≤ m ∧ x = .int .i64 k ∧ v = .int .i64 (be ((l.drop i.toNat).take k)) ∧ Aside0 (Below w.heap.size w wr) ∧ wr.heap[w.heap.size]? = some (.cells #[.int .i64 0, .int .i64 0] 68 (0, 0)) ∧ w.heap.size < wr.heap.size) (fun _ _ _ _ x _ _ => m - (intOf x).toNat)
  case atStart => exact ⟨0, by omega, rfl, rfl, ⟨(Below.refl _ _).alloc (Nat.le_refl _) _⟩, own_blk_new _ _, by simp⟩
  case round =>
    obtain ⟨k, hk, rfl, rfl, HB, hblk, hsz⟩ := hrel
    have HBK := Aside0.mk hblk; clear hblk
    by_cases hlt : k < m
    · have hcall : Calls Try.prog 163 #[.slice A n c, .int .i64 (i + k)] wr fun e w' => e = .returned (.tuple #[.int .u8 (rd l (i + k)), .int .i64 0]) ∧ Below wr.heap.size wr w' := at_in A n c l (i + k) wr (Kd.C_below HR.out HB.out) (by omega) (by omega)
      obtain ⟨hs, b0, b1, c0, c1⟩ := be_step HL.out h0 (i := i) (k := k) (by have := HLL.out; omega) (by omega)
      have HS := Aside0.mk hs; clear hs
      have HX := Aside0.mk (or_byte _ _ b0 b1 c0 c1)
      clear b0 b1 c0 c1
      go_wp2_with (first | (go_at_call 163; refine hcall.mono ?_; rintro e w' ⟨rfl, HB1⟩))
      have hblk1 := (HB1.block w.heap.size hsz).trans HBK.out
      have hsz1 : w.heap.size < w'.heap.size := Nat.lt_of_lt_of_le hsz HB1.size
      have HBB := Aside0.mk (own_below_at HB.out HB1)
      clear HB1 hcall
      refine ⟨⟨k + 1, by omega, by go_num, by rw [HX.out, HS.out], HBB, hblk1, hsz1⟩, ?_⟩
      simp [intOf]; omega
    · obtain rfl : k = m := by omega
      have hc0 : wr.cell? ⟨w.heap.size, 0, none⟩ = some (.int .i64 0) := own_blk_cell HBK.out 0
      have hc1 : wr.cell? ⟨w.heap.size, 1, none⟩ = some (.int .i64 0) := own_blk_cell HBK.out 1
      have hf := own_blk_frozen HBK.out
      go_wp2_with fail
      refine bodyPost_ret (v := .tuple #[.int .i64 (be ((l.drop i.toNat).take k)), .int .i64 (i + k), .agg #[.int .i64 0, .int .i64 0]]) (by simp [results, Try.results144, go_sem, hc0, hc1]) rfl ⟨rfl, ?_⟩
      exact (HB.out.setCell (by simp) _).setCell (by simp) _
set_option maxHeartbeats 1000000 in
theorem get_range (A : Option Addr) (n c : Nat) (i m : Int) (w : World) (h : i < 0 ∨ (n : Int) < i) :
    Calls Try.prog 144 #[.slice A n c, .int .i64 i, .int .i64 m] w fun e w' => e = .returned (.tuple #[.int .i64 0, .int .i64 0, .agg #[.int .i64 5, .int .i64 0]]) ∧ Below w.heap.size w w' := by
  rcases h with h | h
  · go_enter Try.func144, Try.ntmps144
    go_wp2_with fail
    refine bodyPost_ret (v := .tuple #[.int .i64 0, .int .i64 0, .agg #[.int .i64 5, .int .i64 0]]) (by simp [results, Try.results144, go_sem]) rfl ⟨rfl, ?_⟩
    exact (Below.refl _ _).alloc (Nat.le_refl _) _
  · have h0 : 0 ≤ i := by omega
    go_enter Try.func144, Try.ntmps144
    go_wp2_with fail
    refine bodyPost_ret (v := .tuple #[.int .i64 0, .int .i64 0, .agg #[.int .i64 5, .int .i64 0]]) (by simp [results, Try.results144, go_sem]) rfl ⟨rfl, ?_⟩
    exact (Below.refl _ _).alloc (Nat.le_refl _) _
set_option maxRecDepth 10000 in
set_option maxHeartbeats 1000000 in
theorem get_short (A : Option Addr) (n c : Nat) (l : List Int) (i : Int) (m : Nat) (w : World) (hr : Kd.C u8K w A n l) (hA : A = none → n = 0) (hb : IsBytes l) (h0 : 0 ≤ i) (h2 : i ≤ n) (h1 : (n : Int) < i + m) (hm : m ≤ 4) :
    Calls Try.prog 144 #[.slice A n c, .int .i64 i, .int .i64 m] w fun e w' => e = .returned (.tuple #[.int .i64 0, .int .i64 0, .agg #[.int .i64 4, .int .i64 n]]) ∧ Below w.heap.size w w' := by
  have hlen : n ≤ 9223372036854775807 := hr.2.1
  have hll := hr.1
  have HR := Aside0.mk hr; clear hr
  have HL := Aside0.mk hb; clear hb
  have HLL := Aside0.mk hll; clear hll
  have HAN := Aside0.mk hA; clear hA
  go_enter Try.func144, Try.ntmps144
  go_wp2_with fail
  go_loopw [9, 10, 11, 12, 23, 26] (fun v _ _ _ x _ wr => ∃ k : Nat, i + k ≤ n ∧ k < m ∧ x = .int .i64 k ∧ v = .int .i64 (be ((l.drop i.toNat).take k)) ∧ Aside0 (Below w.heap.size w wr) ∧ wr.heap[w.heap.size]? = some (.cells #[.int .i64 0, .int .i64 0] 68 (0, 0)) ∧ w.heap.size < wr.heap.size) (fun _ _ _ _ x _ _ => m - (intOf x).toNat)
  case atStart => exact ⟨0, by omega, by omega, rfl, rfl, ⟨(Below.refl _ _).alloc (Nat.le_refl _) _⟩, own_blk_new _ _, by simp⟩
  case round =>
    obtain ⟨k, hk, hlt, rfl, rfl, HB, hblk, hsz⟩ := hrel
    have HBK := Aside0.mk hblk; clear hblk
    by_cases hin : i + k < n
    · have hcall : Calls Try.prog 163 #[.slice A n c, .int .i64 (i + k)] wr fun e w' => e = .returned (.tuple #[.int .u8 (rd l (i + k)), .int .i64 0]) ∧ Below wr.heap.size wr w' := at_in A n c l (i + k) wr (Kd.C_below HR.out HB.out) (by omega) (by omega)
      obtain ⟨hs, b0, b1, c0, c1⟩ := be_step HL.out h0 (i := i) (k := k) (by have := HLL.out; omega) (by omega)
      have HS := Aside0.mk hs; clear hs
      have HX := Aside0.mk (or_byte _ _ b0 b1 c0 c1)
      clear b0 b1 c0 c1
      go_wp2_with (first | (go_at_call 163; refine hcall.mono ?_; rintro e w' ⟨rfl, HB1⟩))
      have hblk1 := (HB1.block w.heap.size hsz).trans HBK.out
      have hsz1 : w.heap.size < w'.heap.size := Nat.lt_of_lt_of_le hsz HB1.size
      have HBB := Aside0.mk (own_below_at HB.out HB1)
      clear HB1 hcall
      refine ⟨⟨k + 1, by omega, by omega, by go_num, by rw [HX.out, HS.out], HBB, hblk1, hsz1⟩, ?_⟩
      simp [intOf]; omega
    · have hcall : Calls Try.prog 163 #[.slice A n c, .int .i64 (i + k)] wr fun e w' => e = .returned (.tuple #[.int .u8 0, .int .i64 4]) ∧ Below wr.heap.size wr w' := at_out A n c (i + k) wr HAN.out (by omega)
      go_wp2_with (first | (go_at_call 163; refine hcall.mono ?_; rintro e w' ⟨rfl, HB1⟩; have hblk1 := (HB1.block w.heap.size hsz).trans HBK.out; have hc0 : w'.cell? ⟨w.heap.size, 0, none⟩ = some (.int .i64 0) := own_blk_cell hblk1 0; have hc1 : w'.cell? ⟨w.heap.size, 1, none⟩ = some (.int .i64 0) := own_blk_cell hblk1 1; have hf := own_blk_frozen hblk1; clear hblk1))
      refine bodyPost_ret (v := .tuple #[.int .i64 0, .int .i64 0, .agg #[.int .i64 4, .int .i64 n]]) (by simp [results, Try.results144, go_sem, hc0, hc1]) rfl ⟨rfl, ?_⟩
      exact ((own_below_at HB.out HB1).setCell (by simp) _).setCell (by simp) _
def octet_Get16.f (l : List Int) (i : Int) : Option (Int × Int × Int × Int) :=
  if IsBytes l then
    if i < 0 ∨ l.length < i then some (0, 0, 5, 0)
    else if (l.length : Int) < i + 2 then some (0, 0, 4, l.length)
    else some (be ((l.drop i.toNat).take 2), i + 2, 0, 0)
  else none
theorem get_calls (m : Nat) (hm : m ≤ 4) (A0 : Option Addr) (c0 : Nat) (l0 : List Int) (a1 : Int) (r1 : Int) (r2 : Int) (r3 : Int) (r4 : Int) (w : World) (hr0 : Kd.C (Kd.int .u8) w A0 l0.length l0) (hb : IsBytes l0)
    (h : (if a1 < 0 ∨ l0.length < a1 then some (0, 0, 5, 0) else if (l0.length : Int) < a1 + m then some (0, 0, 4, (l0.length : Int)) else some (be ((l0.drop a1.toNat).take m), a1 + m, 0, 0)) = some (r1, r2, r3, r4)) :
    Calls Try.prog 144 #[.slice A0 l0.length c0, .int .i64 a1, .int .i64 m] w fun e w' => e = .returned (.tuple #[.int .i64 r1, .int .i64 r2, .agg #[.int .i64 r3, .int .i64 r4]]) ∧ Below w.heap.size w w' := by
  have hA : A0 = none → l0.length = 0 := fun e => by
    subst e
    rcases Nat.eq_zero_or_pos l0.length with h0 | h0
    · exact h0
    · obtain ⟨ad, he, _⟩ := hr0.2.2 h0
      cases he
  split at h
  · simp only [Option.some.injEq, Prod.mk.injEq] at h
    obtain ⟨rfl, rfl, rfl, rfl⟩ := h
    exact get_range A0 _ c0 a1 m w (by omega)
  · split at h
    · simp only [Option.some.injEq, Prod.mk.injEq] at h
      obtain ⟨rfl, rfl, rfl, rfl⟩ := h
      exact get_short A0 _ c0 l0 a1 m w hr0 hA hb (by omega) (by omega) (by omega) hm
    · simp only [Option.some.injEq, Prod.mk.injEq] at h
      obtain ⟨rfl, rfl, rfl, rfl⟩ := h
      exact get_in A0 _ c0 l0 a1 m w hr0 hb (by omega) (by omega) hm
set_option maxHeartbeats 1000000 in
theorem octet_Get16.calls (A0 : Option Addr) (c0 : Nat) (l0 : List Int) (a1 : Int) (r1 : Int) (r2 : Int) (r3 : Int) (r4 : Int) (w : World) (hr0 : Kd.C (Kd.int .u8) w A0 l0.length l0) (hc0 : l0.length ≤ c0) (h : octet_Get16.f l0 a1 = some (r1, r2, r3, r4)) :
    Calls Try.prog 113 #[.slice A0 l0.length c0, .int .i64 a1] w fun e w' => e = .returned (.tuple #[.int .i64 r1, .int .i64 r2, .agg #[.int .i64 r3, .int .i64 r4]]) ∧ Below w.heap.size w w' := by
  unfold octet_Get16.f at h
  split at h
  case isFalse => cases h
  rename_i hb
  have hw : Below w.heap.size w (w.alloc (.cells #[.int .i64 0, .int .i64 0] 68)) := (Below.refl _ _).alloc (Nat.le_refl _) _
  have hc := get_calls 2 (by omega) A0 c0 l0 a1 r1 r2 r3 r4 _ (Kd.C_below hr0 hw) hb h
  clear h hr0
  have HL := Aside0.mk hb; clear hb
  go_enter Try.func113, Try.ntmps113
  go_wp2_with (first | (go_at_call 144; refine hc.mono ?_; rintro e w' ⟨rfl, HB1⟩; have hblk1 := (HB1.block w.heap.size (by simp)).trans (own_blk_new w _); have hc0 : w'.cell? ⟨w.heap.size, 0, none⟩ = some (.int .i64 0) := own_blk_cell hblk1 0; have hc1 : w'.cell? ⟨w.heap.size, 1, none⟩ = some (.int .i64 0) := own_blk_cell hblk1 1; have hf := own_blk_frozen hblk1; clear hblk1))
  refine bodyPost_ret (v := .tuple #[.int .i64 r1, .int .i64 r2, .agg #[.int .i64 r3, .int .i64 r4]]) (by simp [results, Try.results113, go_sem, hc0, hc1]) rfl ⟨rfl, ?_⟩
  exact ((own_below_at hw HB1).setCell (by simp) _).setCell (by simp) _
end Go.Proofs.Yteahdaddbmhfgaa.P
end
section
namespace Go.Proofs.Yteahdaddbmhfgaa.P
open Go.RowKit Go.Proofs.YteahdaddbmhfgaaW.PrintWords Go.Proofs.YteahdaddbmhfgaaW.PrintLast Go.Proofs.YteahdaddbmhfgaaW.PrintMore
set_option linter.unusedVariables false
theorem bytesOf_is (s : ByteArray) : IsBytes (bytesOf s) := by
  intro x hx
  simp only [bytesOf, List.mem_map] at hx
  obtain ⟨b, _, rfl⟩ := hx
  have := b.toNat_lt
  omega
theorem get16_ok {l : List Int} (hb : IsBytes l) {i : Int} (h0 : 0 ≤ i) (h : i + 2 ≤ l.length) : octet_Get16.f l i = some (be ((l.drop i.toNat).take 2), i + 2, 0, 0) := by
  unfold octet_Get16.f
  rw [if_pos hb, if_neg (by omega), if_neg (by omega)]
theorem get16_short {l : List Int} (hb : IsBytes l) {i : Int} (h0 : 0 ≤ i) (h1 : i ≤ l.length) (h : (l.length : Int) < i + 2) : octet_Get16.f l i = some (0, 0, 4, (l.length : Int)) := by
  unfold octet_Get16.f
  rw [if_pos hb, if_neg (by omega), if_pos (by omega)]
theorem wrap_add {a b : Int} (h0 : 0 ≤ a) (h1 : 0 ≤ b) (h : a + b ≤ 281474976710656) : wrap64 (a + b) = a + b := by unfold wrap64; omega
theorem wrap_sub {a b : Int} (h0 : 0 ≤ a) (h1 : 0 ≤ b) (ha : a ≤ 281474976710656) (hb : b ≤ 281474976710656) : wrap64 (a - b) = a - b := by unfold wrap64; omega
theorem take_drop_cut (l : List Int) {i n : Int} (h0 : 0 ≤ i) (h1 : 0 ≤ n) : (l.take (i + n).toNat).drop i.toNat = (l.drop i.toNat).take n.toNat := by
  rw [List.drop_take]
  congr 1
  omega
theorem bytes_ok {l : List Int} {i n : Int} (k : Nat) (h0 : 0 ≤ i) (h1 : 0 ≤ n) (h : i + n ≤ l.length) (hl : l.length ≤ 140737488351232) : octet_Bytes.f (k + 1) l i n = some ((l.drop i.toNat).take n.toNat, i + n, 0, 0) := by
  unfold octet_Bytes.f
  rw [if_neg (by omega), if_neg (by omega)]
  simp only [octet_Bytes.j0]
  rw [if_neg (by simp; omega), wrap_sub (by omega) h0 (by omega) (by omega), if_neg (by omega)]
  simp only [Option.bind_some]
  rw [if_pos h0, wrap_add h0 h1 (by omega), if_pos (by omega), if_pos (by omega), take_drop_cut l h0 h1, if_pos (by simp; omega)]
  simp
theorem bytes_short {l : List Int} {i n : Int} (k : Nat) (h0 : 0 ≤ i) (hi : i ≤ l.length) (h1 : 0 ≤ n) (h : (l.length : Int) < i + n) (hl : l.length ≤ 140737488351232) : octet_Bytes.f (k + 1) l i n = some ([], 0, 4, (l.length : Int)) := by
  unfold octet_Bytes.f
  rw [if_neg (by omega), if_neg (by omega)]
  simp only [octet_Bytes.j0]
  rw [if_neg (by simp; omega), wrap_sub (by omega) h0 (by omega) (by omega), if_pos (by omega)]
def optsL : Nat → List Int → Option (List S82)
  | _, [] => some []
  | 0, _ :: _ => none
  | k + 1, a :: b :: c :: d :: r => if (r.length : Int) < c * 256 + d then none else (optsL k (r.drop (c * 256 + d).toNat)).map (⟨a * 256 + b, strOfNums (r.take (c * 256 + d).toNat)⟩ :: ·)
  | _ + 1, _ => none
theorem optsL_nil (k : Nat) : optsL k [] = some [] := by cases k <;> rfl
theorem be2 (a b : Int) (r : List Int) : be ((a :: b :: r).take 2) = a * 256 + b := by simp [be]
theorem optsL_short {k : Nat} {r : List Int} (h0 : 0 < r.length) (h : r.length < 4) : optsL (k + 1) r = none := by
  match r, h0, h with
  | [a], _, _ => rfl
  | [a, b], _, _ => rfl
  | [a, b, c], _, _ => rfl
theorem optsL_step {k : Nat} {r : List Int} (h : 4 ≤ r.length) : optsL (k + 1) r = if ((r.length : Int) - 4) < be ((r.drop 2).take 2) then none else (optsL k (r.drop (4 + (be ((r.drop 2).take 2)).toNat))).map (⟨be (r.take 2), strOfNums ((r.drop 4).take (be ((r.drop 2).take 2)).toNat)⟩ :: ·) := by
  match r, h with
  | a :: b :: c :: d :: r, _ =>
    have e1 : be ((a :: b :: c :: d :: r).take 2) = a * 256 + b := be2 a b _
    have e2 : be (((a :: b :: c :: d :: r).drop 2).take 2) = c * 256 + d := be2 c d _
    rw [e1, e2]
    simp only [optsL, List.length_cons, List.drop_succ_cons, List.drop_zero]
    have e3 : ((r.length + 1 + 1 + 1 + 1 : Nat) : Int) - 4 = r.length := by omega
    rw [e3, show 4 + (c * 256 + d).toNat = (c * 256 + d).toNat + 1 + 1 + 1 + 1 by omega]
    rfl
def optsOf (b : List Int) : List S82 × Bool := match optsL b.length b with | some l => (l, true) | none => ([], false)
theorem opts_round {b : List Int} (hb : IsBytes b) {i k : Nat} {acc : List S82} {T : Option (List S82)} (hi : i < b.length) (hk : b.length - i ≤ k) (hT : (optsL k (b.drop i)).map (acc ++ ·) = T) :
    (b.length < i + 4 ∧ T = none) ∨ (i + 4 ≤ b.length ∧ ∃ n : Int, n = be ((b.drop (i + 2)).take 2) ∧ 0 ≤ n ∧ n < 65536 ∧
      (((b.length : Int) < i + 4 + n ∧ T = none) ∨ (i + 4 + n ≤ (b.length : Int) ∧ ∃ k', b.length - (i + 4 + n.toNat) ≤ k' ∧ (optsL k' (b.drop (i + 4 + n.toNat))).map ((acc ++ [⟨be ((b.drop i).take 2), strOfNums ((b.drop (i + 4)).take n.toNat)⟩]) ++ ·) = T))) := by
  obtain ⟨k, rfl⟩ : ∃ m, k = m + 1 := ⟨k - 1, by omega⟩
  by_cases h4 : b.length < i + 4
  · left
    refine ⟨h4, ?_⟩
    rw [← hT, optsL_short (by simp; omega) (by simp; omega)]; rfl
  · right
    have hbd := be_bound _ (bytes_sub hb (i + 2) 2)
    have hl2 : ((b.drop (i + 2)).take 2).length = 2 := by simp; omega
    rw [hl2] at hbd
    refine ⟨by omega, _, rfl, hbd.1, by omega, ?_⟩
    rw [optsL_step (by simp; omega)] at hT
    simp only [List.drop_drop, List.length_drop] at hT
    by_cases hn : ((b.length : Int) < i + 4 + be ((b.drop (i + 2)).take 2))
    · left
      refine ⟨hn, ?_⟩
      rw [if_pos (by omega)] at hT
      exact hT.symm
    · right
      refine ⟨by omega, k, by omega, ?_⟩
      rw [if_neg (by omega)] at hT
      rw [← hT, Option.map_map]
      simp only [Nat.add_assoc]
      congr 1
      funext x
      simp
end Go.Proofs.Yteahdaddbmhfgaa.P
end
section
namespace Go.Proofs.Yteahdaddbmhfgaa.P
open Go.RowKit Go.Proofs.YteahdaddbmhfgaaW.PrintWords Go.Proofs.YteahdaddbmhfgaaW.PrintLast Go.Proofs.YteahdaddbmhfgaaW.PrintMore
set_option linter.unusedVariables false
set_option linter.unusedSimpArgs false
def edns_options.f (s : ByteArray) : Option (List S82 × Bool) := if s.size ≤ 16777216 then some (optsOf (bytesOf s)) else none
set_option maxRecDepth 100000 in
set_option maxHeartbeats 1000000 in
theorem edns_options.calls (a0 : ByteArray) (r1 : List S82) (r2 : Bool) (w : World) (h : edns_options.f a0 = some (r1, r2)) :
    Calls Try.prog 88 #[.string a0] w fun e w' => ∃ v0_ : Value, e = .returned (.tuple #[v0_, .bool r2]) ∧ Kd.R k82 82 w' w.heap.size (fun _ => True) v0_ r1 ∧ Below w.heap.size w w' := by
  unfold edns_options.f at h
  split at h
  case isFalse => cases h
  rename_i hsz
  obtain ⟨hr⟩ : Aside0 (optsOf (bytesOf a0) = (r1, r2)) := ⟨Option.some.inj h⟩
  clear h
  have HR := Aside0.mk hr; clear hr
  have hrun := conv_run w a0
  have HC := Aside0.mk (conv_C w a0 (by omega))
  have HW := Aside0.mk (conv_below w a0)
  have HL := Aside0.mk (bytesOf_is a0)
  have HLEN := Aside0.mk (bytesOf_len a0)
  have hsz1 : w.heap.size < (Lib.bytesWorld w 5 a0).heap.size := by rw [Lib.bytesWorld_size]; omega
  go_enter Try.func88, Try.ntmps88
  go_wp2_with fail
  clear hrun
  obtain ⟨W1, hW1⟩ : ∃ W1, Lib.bytesWorld w 5 a0 = W1 := ⟨_, rfl⟩
  rw [hW1] at HC HW hsz1 ⊢
  clear hW1
  obtain ⟨cap, hcap⟩ : ∃ cap, grownCap w a0.size 0 5 = cap := ⟨_, rfl⟩
  have HCAP := Aside0.mk (show a0.size ≤ cap by rw [← hcap]; exact grownCap_ge w _ _ _)
  rw [hcap]
  clear hcap
  go_loopw [5, 6] (fun v i wr => ∃ (k f : Nat) (acc : List S82), k ≤ a0.size ∧ i = .int .i64 k ∧ Aside0 (a0.size - k ≤ f) ∧ Aside0 ((optsL f ((bytesOf a0).drop k)).map (acc ++ ·) = optsL (bytesOf a0).length (bytesOf a0)) ∧ Aside0 (acc.length ≤ k) ∧ Aside0 (Kd.R k82 82 wr w.heap.size (fun q => W1.heap.size ≤ q) v acc) ∧ Aside0 (Below w.heap.size w wr) ∧ Aside0 (Below W1.heap.size W1 wr)) (fun _ i _ => a0.size - (intOf i).toNat)
  case atStart => exact ⟨0, a0.size, [], Nat.zero_le _, rfl, ⟨by omega⟩, ⟨by rw [List.drop_zero, HLEN.out]; simp⟩, ⟨by simp⟩, ⟨Kd.R_nil _ _ _ _ _⟩, HW, ⟨Below.refl _ _⟩⟩
  case round =>
    obtain ⟨k, f, acc, hk, rfl, HF, HT, HAL, HO, HB, HB1⟩ := hrel
    by_cases hlt : k < a0.size
    · have hC1 : ∀ W, Below W1.heap.size W1 W → Kd.C (Kd.int .u8) W (some ⟨w.heap.size, 0, none⟩) (bytesOf a0).length (bytesOf a0) := fun W hb => by rw [HLEN.out]; exact Kd.C_below HC.out hb
      have hlen := HLEN.out
      have hround := opts_round HL.out (i := k) (k := f) (acc := acc) (by omega) (by have := HF.out; omega) HT.out
      rcases hround with ⟨h4, hno⟩ | ⟨h4, n, hn, hn0, hn1, hrest⟩
      · have hfin : optsL (bytesOf a0).length (bytesOf a0) = none := hno
        have HFIN := Aside0.mk hfin; clear hfin hno
        have hout : (([] : List S82), false) = (r1, r2) := by
          have hh := HR.out
          unfold optsOf at hh
          rwa [HFIN.out] at hh
        simp only [Prod.mk.injEq] at hout
        obtain ⟨rfl, rfl⟩ := hout
        have HLN := Aside0.mk hlen; clear hlen
        by_cases h2 : k + 2 ≤ a0.size
        · have G1 : ∀ W, Below W1.heap.size W1 W → Calls Try.prog 113 #[.slice (some ⟨w.heap.size, 0, none⟩) a0.size cap, .int .i64 k] W fun e w' => e = .returned (.tuple #[.int .i64 (be (((bytesOf a0).drop k).take 2)), .int .i64 (k + 2), .agg #[.int .i64 0, .int .i64 0]]) ∧ Below W.heap.size W w' := fun W hb => by
            have := octet_Get16.calls (some ⟨w.heap.size, 0, none⟩) cap (bytesOf a0) (k : Int) _ _ _ _ W (hC1 W hb) (by have := HCAP.out; have := HLN.out; omega) (get16_ok HL.out (by omega) (by have := HLN.out; omega))
            rwa [HLN.out] at this
          have G2 : ∀ W, Below W1.heap.size W1 W → Calls Try.prog 113 #[.slice (some ⟨w.heap.size, 0, none⟩) a0.size cap, .int .i64 (k + 2)] W fun e w' => e = .returned (.tuple #[.int .i64 0, .int .i64 0, .agg #[.int .i64 4, .int .i64 a0.size]]) ∧ Below W.heap.size W w' := fun W hb => by
            have := octet_Get16.calls (some ⟨w.heap.size, 0, none⟩) cap (bytesOf a0) ((k : Int) + 2) _ _ _ _ W (hC1 W hb) (by have := HCAP.out; have := HLN.out; omega) (get16_short HL.out (by omega) (by have := HLN.out; omega) (by have := HLN.out; omega))
            rwa [HLN.out] at this
          go_wp2_with (first
            | (go_at_call 113; (with_reducible refine (G1 _ ?hb1).mono ?_); (case hb1 => exact HB1.out); rintro e w2 ⟨rfl, HB2⟩; have K2 := Aside0.mk HB2; clear HB2)
            | (go_at_call 113; (with_reducible refine (G2 _ ?hb2).mono ?_); (case hb2 => exact own_below_at HB1.out (below_alloc K2.out _)); rintro e w3 ⟨rfl, HB3⟩; have K3 := Aside0.mk (own_below_at (below_alloc K2.out _) HB3); have hcA : w3.cell? ⟨w2.heap.size, 0, none⟩ = some (.int .i64 0) := (HB3.cell (by simp)).trans (by simp); have hcB : w3.cell? ⟨w2.heap.size, 1, none⟩ = some (.int .i64 0) := (HB3.cell (by simp)).trans (by simp); have hfA : w3.frozen? ⟨w2.heap.size, 0, none⟩ = false := (HB3.frozen (p := ⟨w2.heap.size, 0, none⟩) (by simp)).trans (by simp); have hfB : w3.frozen? ⟨w2.heap.size, 1, none⟩ = false := (HB3.frozen (p := ⟨w2.heap.size, 1, none⟩) (by simp)).trans (by simp); have S3 := HB3.size; simp only [World.size_alloc] at S3; clear HB3))
          go_ret2
          exact ⟨_, rfl, Kd.R_nil _ _ _ _ _, own_below_at HB.out ((K3.out.setCell (by simpa using K2.out.size) _).setCell (by simpa using K2.out.size) _)⟩
        · have G1 : ∀ W, Below W1.heap.size W1 W → Calls Try.prog 113 #[.slice (some ⟨w.heap.size, 0, none⟩) a0.size cap, .int .i64 k] W fun e w' => e = .returned (.tuple #[.int .i64 0, .int .i64 0, .agg #[.int .i64 4, .int .i64 a0.size]]) ∧ Below W.heap.size W w' := fun W hb => by
            have := octet_Get16.calls (some ⟨w.heap.size, 0, none⟩) cap (bytesOf a0) (k : Int) _ _ _ _ W (hC1 W hb) (by have := HCAP.out; have := HLN.out; omega) (get16_short HL.out (by omega) (by have := HLN.out; omega) (by have := HLN.out; omega))
            rwa [HLN.out] at this
          go_wp2_with (first
            | (go_at_call 113; (with_reducible refine (G1 _ ?hb1).mono ?_); (case hb1 => exact HB1.out); rintro e w2 ⟨rfl, HB2⟩; have K2 := Aside0.mk HB2; clear HB2))
          go_ret2
          exact ⟨_, rfl, Kd.R_nil _ _ _ _ _, own_below_at HB.out (below_alloc K2.out _)⟩
      · have G1 : ∀ W, Below W1.heap.size W1 W → Calls Try.prog 113 #[.slice (some ⟨w.heap.size, 0, none⟩) a0.size cap, .int .i64 k] W fun e w' => e = .returned (.tuple #[.int .i64 (be (((bytesOf a0).drop k).take 2)), .int .i64 (k + 2), .agg #[.int .i64 0, .int .i64 0]]) ∧ Below W.heap.size W w' := fun W hb => by
          have := octet_Get16.calls (some ⟨w.heap.size, 0, none⟩) cap (bytesOf a0) (k : Int) _ _ _ _ W (hC1 W hb) (by have := HCAP.out; omega) (get16_ok HL.out (by omega) (by omega))
          rwa [hlen] at this
        have G2 : ∀ W, Below W1.heap.size W1 W → Calls Try.prog 113 #[.slice (some ⟨w.heap.size, 0, none⟩) a0.size cap, .int .i64 (k + 2)] W fun e w' => e = .returned (.tuple #[.int .i64 n, .int .i64 (k + 4), .agg #[.int .i64 0, .int .i64 0]]) ∧ Below W.heap.size W w' := fun W hb => by
          have := octet_Get16.calls (some ⟨w.heap.size, 0, none⟩) cap (bytesOf a0) ((k : Int) + 2) _ _ _ _ W (hC1 W hb) (by have := HCAP.out; omega) (get16_ok HL.out (by omega) (by omega))
          rw [hlen, show ((k : Int) + 2).toNat = k + 2 by omega, ← hn, show (k : Int) + 2 + 2 = k + 4 by omega] at this
          exact this
        have HLN := Aside0.mk hlen; clear hlen
        have HN := Aside0.mk hn; clear hn
        rcases hrest with ⟨h5, hno⟩ | ⟨h5, k', hk', hT'⟩
        · have hfin : optsL (bytesOf a0).length (bytesOf a0) = none := hno
          have HFIN := Aside0.mk hfin; clear hfin hno
          have hout : (([] : List S82), false) = (r1, r2) := by
            have hh := HR.out
            unfold optsOf at hh
            rwa [HFIN.out] at hh
          simp only [Prod.mk.injEq] at hout
          obtain ⟨rfl, rfl⟩ := hout
          have G3 : ∀ W, Below W1.heap.size W1 W → Calls Try.prog 121 #[.slice (some ⟨w.heap.size, 0, none⟩) a0.size cap, .int .i64 (k + 4), .int .i64 n] W fun e w' => ∃ v0_ : Value, e = .returned (.tuple #[v0_, .int .i64 0, .agg #[.int .i64 4, .int .i64 a0.size]]) ∧ Kd.R (Kd.int .u8) 5 w' W.heap.size (fun _ => True) v0_ [] ∧ Below W.heap.size W w' := fun W hb => by
            have := octet_Bytes.calls 1 (some ⟨w.heap.size, 0, none⟩) cap (bytesOf a0) ((k : Int) + 4) n _ _ _ _ W (hC1 W hb) (by have := HCAP.out; have := HLN.out; omega) (bytes_short 0 (by omega) (by have := HLN.out; omega) hn0 (by have := HLN.out; omega) (by have := HLN.out; omega))
            rwa [HLN.out] at this
          clear h5
          go_wp2_with (first
            | (go_at_call 113; (with_reducible refine (G1 _ ?hb1).mono ?_); (case hb1 => exact HB1.out); rintro e w2 ⟨rfl, HB2⟩; have K2 := Aside0.mk HB2; clear HB2)
            | (go_at_call 113; (with_reducible refine (G2 _ ?hb2).mono ?_); (case hb2 => exact own_below_at HB1.out (below_alloc K2.out _)); rintro e w3 ⟨rfl, HB3⟩; have K3 := Aside0.mk (own_below_at (below_alloc K2.out _) HB3); have hcA : w3.cell? ⟨w2.heap.size, 0, none⟩ = some (.int .i64 0) := (HB3.cell (by simp)).trans (by simp); have hcB : w3.cell? ⟨w2.heap.size, 1, none⟩ = some (.int .i64 0) := (HB3.cell (by simp)).trans (by simp); have hfA : w3.frozen? ⟨w2.heap.size, 0, none⟩ = false := (HB3.frozen (p := ⟨w2.heap.size, 0, none⟩) (by simp)).trans (by simp); have hfB : w3.frozen? ⟨w2.heap.size, 1, none⟩ = false := (HB3.frozen (p := ⟨w2.heap.size, 1, none⟩) (by simp)).trans (by simp); have S3 := HB3.size; simp only [World.size_alloc] at S3; clear HB3; have K33 := fun x y => Aside0.mk ((K3.out.setCell (p := ⟨w2.heap.size, 0, none⟩) K2.out.size x).setCell (p := ⟨w2.heap.size, 1, none⟩) K2.out.size y))
            | (go_at_call 121; (with_reducible refine (G3 _ ?hb3).mono ?_); (case hb3 => exact own_below_at HB1.out (K33 _ _).out); rintro e w4 ⟨vb, rfl, HD, HB4⟩; have K4 := Aside0.mk (own_below_at (K33 _ _).out HB4); have hcA4 : w4.cell? ⟨w2.heap.size, 0, none⟩ = some (.int .i64 0) := (HB4.cell (by simp; omega)).trans (by simp [go_sem, hcA, hcB]); have hcB4 : w4.cell? ⟨w2.heap.size, 1, none⟩ = some (.int .i64 0) := (HB4.cell (by simp; omega)).trans (by simp [go_sem, hcA, hcB]); have hfA4 : w4.frozen? ⟨w2.heap.size, 0, none⟩ = false := (HB4.frozen (p := ⟨w2.heap.size, 0, none⟩) (by simp; omega)).trans (by simp [go_sem, hfA]); have hfB4 : w4.frozen? ⟨w2.heap.size, 1, none⟩ = false := (HB4.frozen (p := ⟨w2.heap.size, 1, none⟩) (by simp; omega)).trans (by simp [go_sem, hfB]); clear hcA hcB hfA hfB))
          go_ret2
          exact ⟨_, rfl, Kd.R_nil _ _ _ _ _, own_below_at HB.out ((K4.out.setCell (p := ⟨w2.heap.size, 0, none⟩) K2.out.size _).setCell (p := ⟨w2.heap.size, 1, none⟩) K2.out.size _)⟩
        · have G3 : ∀ W, Below W1.heap.size W1 W → Calls Try.prog 121 #[.slice (some ⟨w.heap.size, 0, none⟩) a0.size cap, .int .i64 (k + 4), .int .i64 n] W fun e w' => ∃ v0_ : Value, e = .returned (.tuple #[v0_, .int .i64 (k + 4 + n), .agg #[.int .i64 0, .int .i64 0]]) ∧ Kd.R (Kd.int .u8) 5 w' W.heap.size (fun _ => True) v0_ (((bytesOf a0).drop (k + 4)).take n.toNat) ∧ Below W.heap.size W w' := fun W hb => by
            have := octet_Bytes.calls 1 (some ⟨w.heap.size, 0, none⟩) cap (bytesOf a0) ((k : Int) + 4) n _ _ _ _ W (hC1 W hb) (by have := HCAP.out; have := HLN.out; omega) (bytes_ok 0 (by omega) hn0 (by have := HLN.out; omega) (by have := HLN.out; omega))
            rw [HLN.out, show ((k : Int) + 4).toNat = k + 4 by omega] at this
            exact this
          have h5' : (k : Int) + 4 + n ≤ a0.size := by have := HLN.out; omega
          have HT' := Aside0.mk hT'; clear hT' h5
          have HK' := Aside0.mk hk'; clear hk'
          go_wp2_with (first
            | (go_at_call 113; (with_reducible refine (G1 _ ?hb1).mono ?_); (case hb1 => exact HB1.out); rintro e w2 ⟨rfl, HB2⟩; have K2 := Aside0.mk HB2; clear HB2)
            | (go_at_call 113; (with_reducible refine (G2 _ ?hb2).mono ?_); (case hb2 => exact own_below_at HB1.out (below_alloc K2.out _)); rintro e w3 ⟨rfl, HB3⟩; have K3 := Aside0.mk (own_below_at (below_alloc K2.out _) HB3); have hcA : w3.cell? ⟨w2.heap.size, 0, none⟩ = some (.int .i64 0) := (HB3.cell (by simp)).trans (by simp); have hcB : w3.cell? ⟨w2.heap.size, 1, none⟩ = some (.int .i64 0) := (HB3.cell (by simp)).trans (by simp); have hfA : w3.frozen? ⟨w2.heap.size, 0, none⟩ = false := (HB3.frozen (p := ⟨w2.heap.size, 0, none⟩) (by simp)).trans (by simp); have hfB : w3.frozen? ⟨w2.heap.size, 1, none⟩ = false := (HB3.frozen (p := ⟨w2.heap.size, 1, none⟩) (by simp)).trans (by simp); have S3 := HB3.size; simp only [World.size_alloc] at S3; clear HB3; have K33 := fun x y => Aside0.mk ((K3.out.setCell (p := ⟨w2.heap.size, 0, none⟩) K2.out.size x).setCell (p := ⟨w2.heap.size, 1, none⟩) K2.out.size y))
            | (go_at_call 121; ((with_reducible refine (G3 _ ?hb3).mono ?_); (case hb3 => exact own_below_at HB1.out (K33 _ _).out); rintro e w4 ⟨vb, rfl, HD, HB4⟩; have K4 := Aside0.mk (own_below_at (K33 _ _).out HB4); have hcA4 : w4.cell? ⟨w2.heap.size, 0, none⟩ = some (.int .i64 0) := (HB4.cell (by simp; omega)).trans (by simp [go_sem, hcA, hcB]); have hcB4 : w4.cell? ⟨w2.heap.size, 1, none⟩ = some (.int .i64 0) := (HB4.cell (by simp; omega)).trans (by simp [go_sem, hcA, hcB]); have hfA4 : w4.frozen? ⟨w2.heap.size, 0, none⟩ = false := (HB4.frozen (p := ⟨w2.heap.size, 0, none⟩) (by simp; omega)).trans (by simp [go_sem, hfA]); have hfB4 : w4.frozen? ⟨w2.heap.size, 1, none⟩ = false := (HB4.frozen (p := ⟨w2.heap.size, 1, none⟩) (by simp; omega)).trans (by simp [go_sem, hfB]); clear hcA hcB hfA hfB; have K44 := fun x y => Aside0.mk ((K4.out.setCell (p := ⟨w2.heap.size, 0, none⟩) K2.out.size x).setCell (p := ⟨w2.heap.size, 1, none⟩) K2.out.size y); have hcv := fun x y => conv_row (R_far2 (g := w2.heap.size) (R_far2 HD (g := w2.heap.size) (by simp; omega) 0 x) (by simp; omega) 1 y); clear HD))
            | (at_builtin; (refine app_opt (w0 := w) (p := ⟨be (((bytesOf a0).drop k).take 2), strOfNums (((bytesOf a0).drop (k + 4)).take n.toNat)⟩) rfl _ _ rfl rfl (by simp [go_sem]) (Aside0.mk (Kd.R_below HO.out (K44 _ _).out)) (Aside0.mk (own_below_at HB.out (K44 _ _).out)) (fun q hq => Nat.le_trans (Nat.le_trans HB1.out.size (K44 (.int .i64 0) (.int .i64 0)).out.size) (by simpa using hq)) (by have := HAL.out; have := HLN.out; omega) ?_; intro v5 w5 HO5 HB5 HG5)))
          go_roundw
          case rel => exact ⟨k + 4 + n.toNat, k', acc ++ [⟨be (((bytesOf a0).drop k).take 2), strOfNums (((bytesOf a0).drop (k + 4)).take n.toNat)⟩], by omega, by rw [show ((k + 4 + n.toNat : Nat) : Int) = (k : Int) + 4 + n by omega], ⟨by have := HK'.out; have := HLN.out; omega⟩, HT', ⟨by have := HAL.out; simp; omega⟩, HO5, HB5, ⟨(own_below_at HB1.out (K44 _ _).out).grown HG5.out (Nat.le_trans HB1.out.size (K44 _ _).out.size) (fun q hq => HO.out.1 q hq)⟩⟩
          case measure => simp [intOf]; omega
    · obtain rfl : k = a0.size := by omega
      have hfin : optsL (bytesOf a0).length (bytesOf a0) = some acc := by
        rw [← HT.out, List.drop_of_length_le (by rw [HLEN.out]; omega), optsL_nil]; simp
      have HFIN := Aside0.mk hfin; clear hfin
      go_wp2_with fail
      go_ret2
      have hh := HR.out
      unfold optsOf at hh
      rw [HFIN.out] at hh
      simp only [Prod.mk.injEq] at hh
      obtain ⟨rfl, rfl⟩ := hh
      exact ⟨_, rfl, Kd.R_mono HO.out (fun _ _ => trivial), HB.out⟩
end Go.Proofs.Yteahdaddbmhfgaa.P
end
section
namespace Go.Proofs.Yteahdaddbmhfgaa.P
open Go.RowKit Go.Proofs.YteahdaddbmhfgaaW.PrintWords Go.Proofs.YteahdaddbmhfgaaW.PrintLast Go.Proofs.YteahdaddbmhfgaaW.PrintMore
set_option linter.unusedVariables false
theorem rbytes_ok {l : List Int} {i n : Int} (k : Nat) (h0 : 0 ≤ i) (h1 : 0 ≤ n) (h : i + n ≤ l.length) (hl : l.length ≤ 140737488351232) : ostiaryref03_Bytes.f (k + 1) l i n = some ((l.drop i.toNat).take n.toNat, i + n, 0, 0) := by
  unfold ostiaryref03_Bytes.f
  rw [if_neg (by omega), if_neg (by omega)]
  simp only [ostiaryref03_Bytes.j0]
  rw [if_neg (by simp; omega), wrap_sub (by omega) h0 (by omega) (by omega), if_neg (by omega)]
  simp only [Option.bind_some]
  rw [if_pos h0, wrap_add h0 h1 (by omega), if_pos (by omega), if_pos (by omega), take_drop_cut l h0 h1, if_pos (by simp; omega)]
  simp
theorem rbytes_short {l : List Int} {i n : Int} (k : Nat) (h0 : 0 ≤ i) (hi : i ≤ l.length) (h1 : 0 ≤ n) (h : (l.length : Int) < i + n) (hl : l.length ≤ 140737488351232) : ostiaryref03_Bytes.f (k + 1) l i n = some ([], 0, 4, (l.length : Int)) := by
  unfold ostiaryref03_Bytes.f
  rw [if_neg (by omega), if_neg (by omega)]
  simp only [ostiaryref03_Bytes.j0]
  rw [if_neg (by simp; omega), wrap_sub (by omega) h0 (by omega) (by omega), if_pos (by omega)]
theorem rbytes_range {l : List Int} {i n : Int} (k : Nat) (h1 : 0 ≤ n) (h : i < 0 ∨ (l.length : Int) < i) : ostiaryref03_Bytes.f (k + 1) l i n = some ([], 0, 5, 0) := by
  unfold ostiaryref03_Bytes.f
  rw [if_neg (by omega)]
  by_cases hi : i < 0
  · rw [if_pos hi]; simp [ostiaryref03_Bytes.j0]
  · rw [if_neg hi]; simp only [ostiaryref03_Bytes.j0]; rw [if_pos (by simp; omega)]
theorem rget_loop {x : List Int} (hb : IsBytes x) (hx : x.length ≤ 4) (at_ e p : Int) (d : Nat) : ∀ (j : Nat) (k : Nat), j + d = x.length → d < k → ostiaryref03_get.l0 k x.length x at_ (be (x.take j)) j e p = some (be x, at_, e, p) := by
  induction d with
  | zero =>
    intro j k hj hk
    obtain ⟨k, rfl⟩ : ∃ m, k = m + 1 := ⟨k - 1, by omega⟩
    simp only [ostiaryref03_get.l0]
    rw [if_neg (by omega), List.take_of_length_le (by omega)]
  | succ d ih =>
    intro j k hj hk
    obtain ⟨k, rfl⟩ : ∃ m, k = m + 1 := ⟨k - 1, by omega⟩
    simp only [ostiaryref03_get.l0]
    have hlt : j < x.length := by omega
    rw [if_pos (by omega), if_pos (by omega), if_pos (by omega)]
    have hs := be_step hb (i := 0) (k := j) (by omega) (by omega) (by omega)
    simp only [Int.toNat_zero, List.drop_zero, Int.zero_add] at hs
    obtain ⟨h1, h2, h3, h4, h5⟩ := hs
    have hstep : wrap64 ((wrap64 (256 * be (x.take j))) + (wrap64 (rd x j))) = be (x.take (j + 1)) := by
      rw [h1]
      unfold wrap64
      omega
    rw [hstep, show wrap64 ((j : Int) + 1) = ((j + 1 : Nat) : Int) by unfold wrap64; omega]
    exact ih (j + 1) k (by omega) (by omega)
theorem rget16_eq {l : List Int} (hb : IsBytes l) (hl : l.length ≤ 140737488351232) (i : Int) (k : Nat) (hk : 3 ≤ k) : ostiaryref03_Get16.f k l i = octet_Get16.f l i := by
  obtain ⟨k, rfl⟩ : ∃ m, k = m + 3 := ⟨k - 3, by omega⟩
  unfold ostiaryref03_Get16.f ostiaryref03_get.f
  by_cases hr : i < 0 ∨ (l.length : Int) < i
  · rw [rbytes_range _ (by omega) hr]
    unfold octet_Get16.f
    rw [if_pos hb, if_pos hr]
    simp
  · by_cases hs : (l.length : Int) < i + 2
    · rw [rbytes_short _ (by omega) (by omega) (by omega) hs hl]
      unfold octet_Get16.f
      rw [if_pos hb, if_neg hr, if_pos hs]
      simp
    · rw [rbytes_ok _ (by omega) (by omega) (by omega) hl]
      unfold octet_Get16.f
      rw [if_pos hb, if_neg hr, if_neg hs]
      simp only [Option.bind_some, if_true]
      have hlen : ((l.drop i.toNat).take (2 : Int).toNat).length = 2 := by simp; omega
      have := rget_loop (bytes_sub hb i.toNat 2) (by simp; omega) (i + 2) 0 0 2 0 (k + 3) (by simp; omega) (by omega)
      rw [show (((l.drop i.toNat).take 2).length : Int) = 2 by simp; omega] at this
      simp only [List.take_zero] at this
      rw [show be ([] : List Int) = 0 from rfl] at this
      simp at this ⊢
      rw [this]
      rfl
end Go.Proofs.Yteahdaddbmhfgaa.P
end
section
namespace Go.Proofs.Yteahdaddbmhfgaa.P
open Go.RowKit Go.Proofs.YteahdaddbmhfgaaW.PrintWords Go.Proofs.YteahdaddbmhfgaaW.PrintLast Go.Proofs.YteahdaddbmhfgaaW.PrintMore
set_option linter.unusedVariables false
set_option linter.unusedSimpArgs false
def ostiaryref09_options.f (k : Nat) (s : ByteArray) : Option (List S82 × Bool) := edns_options.f s
theorem ostiaryref09_options.mono : ∀ a0 k, LeO (ostiaryref09_options.f k a0) (ostiaryref09_options.f (k + 1) a0) := fun _ _ => LeO.refl _
theorem get16_some {l : List Int} (hb : IsBytes l) {i : Int} (h0 : 0 ≤ i) (h1 : i ≤ l.length) : ∃ c a e p : Int, octet_Get16.f l i = some (c, a, e, p) ∧ 0 ≤ c ∧ 0 ≤ a ∧ a ≤ l.length := by
  by_cases h : i + 2 ≤ l.length
  · have hbd := be_bound _ (bytes_sub hb i.toNat 2)
    exact ⟨_, _, _, _, get16_ok hb h0 h, hbd.1, by omega, by omega⟩
  · exact ⟨_, _, _, _, get16_short hb h0 h1 (by omega), by omega, by omega, by omega⟩
theorem rbytes_some {l : List Int} (hl : l.length ≤ 140737488351232) {i n : Int} (h0 : 0 ≤ i) (h1 : i ≤ l.length) (hn : 0 ≤ n) : ∃ (x : List Int) (a e p : Int), ostiaryref03_Bytes.f 1 l i n = some (x, a, e, p) := by
  by_cases h : i + n ≤ l.length
  · exact ⟨_, _, _, _, rbytes_ok 0 h0 hn h hl⟩
  · exact ⟨_, _, _, _, rbytes_short 0 h0 h1 hn (by omega) hl⟩
set_option maxRecDepth 100000 in
set_option maxHeartbeats 1000000 in
theorem ostiaryref09_options.calls (k0 : Nat) (a0 : ByteArray) (r1 : List S82) (r2 : Bool) (w : World) (h : ostiaryref09_options.f k0 a0 = some (r1, r2)) :
    Calls Try.prog 89 #[.string a0] w fun e w' => ∃ v0_ : Value, e = .returned (.tuple #[v0_, .bool r2]) ∧ Kd.R k82 82 w' w.heap.size (fun _ => True) v0_ r1 ∧ Below w.heap.size w w' := by
  unfold ostiaryref09_options.f edns_options.f at h
  split at h
  case isFalse => cases h
  rename_i hsz
  obtain ⟨hr⟩ : Aside0 (optsOf (bytesOf a0) = (r1, r2)) := ⟨Option.some.inj h⟩
  clear h
  have HR := Aside0.mk hr; clear hr
  have hrun := conv_run w a0
  have HC := Aside0.mk (conv_C w a0 (by omega))
  have HW := Aside0.mk (conv_below w a0)
  have HL := Aside0.mk (bytesOf_is a0)
  have HLEN := Aside0.mk (bytesOf_len a0)
  have hsz1 : w.heap.size < (Lib.bytesWorld w 5 a0).heap.size := by rw [Lib.bytesWorld_size]; omega
  go_enter Try.func89, Try.ntmps89
  go_wp2_with fail
  clear hrun
  obtain ⟨W1, hW1⟩ : ∃ W1, Lib.bytesWorld w 5 a0 = W1 := ⟨_, rfl⟩
  rw [hW1] at HC HW hsz1 ⊢
  clear hW1
  obtain ⟨cap, hcap⟩ : ∃ cap, grownCap w a0.size 0 5 = cap := ⟨_, rfl⟩
  have HCAP := Aside0.mk (show a0.size ≤ cap by rw [← hcap]; exact grownCap_ge w _ _ _)
  rw [hcap]
  clear hcap
  go_loopw [5, 6] (fun v i wr => ∃ (k f : Nat) (acc : List S82), k ≤ a0.size ∧ i = .int .i64 k ∧ Aside0 (a0.size - k ≤ f) ∧ Aside0 ((optsL f ((bytesOf a0).drop k)).map (acc ++ ·) = optsL (bytesOf a0).length (bytesOf a0)) ∧ Aside0 (acc.length ≤ k) ∧ Aside0 (Kd.R k82 82 wr w.heap.size (fun q => W1.heap.size ≤ q) v acc) ∧ Aside0 (Below w.heap.size w wr) ∧ Aside0 (Below W1.heap.size W1 wr)) (fun _ i _ => a0.size - (intOf i).toNat)
  case atStart => exact ⟨0, a0.size, [], Nat.zero_le _, rfl, ⟨by omega⟩, ⟨by rw [List.drop_zero, HLEN.out]; simp⟩, ⟨by simp⟩, ⟨Kd.R_nil _ _ _ _ _⟩, HW, ⟨Below.refl _ _⟩⟩
  case round =>
    obtain ⟨k, f, acc, hk, rfl, HF, HT, HAL, HO, HB, HB1⟩ := hrel
    by_cases hlt : k < a0.size
    · have hC1 : ∀ W, Below W1.heap.size W1 W → Kd.C (Kd.int .u8) W (some ⟨w.heap.size, 0, none⟩) (bytesOf a0).length (bytesOf a0) := fun W hb => by rw [HLEN.out]; exact Kd.C_below HC.out hb
      have hlen := HLEN.out
      have hround := opts_round HL.out (i := k) (k := f) (acc := acc) (by omega) (by have := HF.out; omega) HT.out
      have HLN := Aside0.mk hlen; clear hlen
      rcases hround with ⟨h4, hno⟩ | ⟨h4, n, hn, hn0, hn1, hrest⟩
      · have hfin : optsL (bytesOf a0).length (bytesOf a0) = none := hno
        have HFIN := Aside0.mk hfin; clear hfin hno
        have hout : (([] : List S82), false) = (r1, r2) := by
          have hh := HR.out
          unfold optsOf at hh
          rwa [HFIN.out] at hh
        simp only [Prod.mk.injEq] at hout
        obtain ⟨rfl, rfl⟩ := hout
        by_cases h2 : k + 2 ≤ a0.size
        · obtain ⟨x3, a3, e3, q3, hg3⟩ := rbytes_some (l := bytesOf a0) (by have := HLN.out; omega) (i := 0) (n := 0) (by omega) (by omega) (by omega)
          have HG3 := Aside0.mk hg3; clear hg3
          have G1 : ∀ W, Below W1.heap.size W1 W → Calls Try.prog 116 #[.slice (some ⟨w.heap.size, 0, none⟩) a0.size cap, .int .i64 k] W fun e w' => e = .returned (.tuple #[.int .i64 (be (((bytesOf a0).drop k).take 2)), .int .i64 (k + 2), .agg #[.int .i64 0, .int .i64 0]]) ∧ Below W.heap.size W w' := fun W hb => by
            have := ostiaryref03_Get16.calls 3 (some ⟨w.heap.size, 0, none⟩) cap (bytesOf a0) k _ _ _ _ W (hC1 W hb) (by have := HCAP.out; have := HLN.out; omega) ((rget16_eq HL.out (by have := HLN.out; omega) _ 3 (by omega)).trans (get16_ok HL.out (by omega) (by have := HLN.out; omega)))
            rwa [HLN.out] at this
          have G2 : ∀ W, Below W1.heap.size W1 W → Calls Try.prog 116 #[.slice (some ⟨w.heap.size, 0, none⟩) a0.size cap, .int .i64 (k + 2)] W fun e w' => e = .returned (.tuple #[.int .i64 0, .int .i64 0, .agg #[.int .i64 4, .int .i64 a0.size]]) ∧ Below W.heap.size W w' := fun W hb => by
            have := ostiaryref03_Get16.calls 3 (some ⟨w.heap.size, 0, none⟩) cap (bytesOf a0) (k + 2) _ _ _ _ W (hC1 W hb) (by have := HCAP.out; have := HLN.out; omega) ((rget16_eq HL.out (by have := HLN.out; omega) _ 3 (by omega)).trans (get16_short HL.out (by omega) (by have := HLN.out; omega) (by have := HLN.out; omega)))
            rwa [HLN.out] at this
          have G3 : ∀ W, Below W1.heap.size W1 W → Calls Try.prog 122 #[.slice (some ⟨w.heap.size, 0, none⟩) a0.size cap, .int .i64 0, .int .i64 0] W fun e w' => ∃ v0_ : Value, e = .returned (.tuple #[v0_, .int .i64 a3, .agg #[.int .i64 e3, .int .i64 q3]]) ∧ Kd.R (Kd.int .u8) 5 w' W.heap.size (fun _ => True) v0_ x3 ∧ Below W.heap.size W w' := fun W hb => by
            have := ostiaryref03_Bytes.calls 1 (some ⟨w.heap.size, 0, none⟩) cap (bytesOf a0) 0 0 _ _ _ _ W (hC1 W hb) (by have := HCAP.out; have := HLN.out; omega) HG3.out
            rwa [HLN.out] at this
          go_wp2_with (first
            | (go_at_call 116; (with_reducible refine (G1 _ ?hb1).mono ?_); (case hb1 => exact HB1.out); rintro e w2 ⟨rfl, HB2⟩; have K2 := Aside0.mk HB2; have S2 := HB2.size; clear HB2 G1)
            | (go_at_call 116; (with_reducible refine (G2 _ ?hb2).mono ?_); (case hb2 => exact own_below_at HB1.out (below_alloc K2.out _)); rintro e w3 ⟨rfl, HB3⟩; have K3 := Aside0.mk (own_below_at (below_alloc K2.out _) HB3); have hA3 : w3.cell? ⟨w2.heap.size, 0, none⟩ = some (.int .i64 0) := (HB3.cell (by simp)).trans (by simp); have S3 := HB3.size; simp only [World.size_alloc] at S3; clear HB3 G2)
            | (go_at_call 122; (with_reducible refine (G3 _ ?hb3).mono ?_); (case hb3 => exact own_below_at HB1.out (below_alloc K3.out _)); rintro e w4 ⟨vb, rfl, HD, HB4⟩; have K4 := Aside0.mk (own_below_at (below_alloc K3.out _) HB4); have hA4 : w4.cell? ⟨w2.heap.size, 0, none⟩ = some (.int .i64 0) := (HB4.cell (p := ⟨w2.heap.size, 0, none⟩) (show w2.heap.size < _ from Nat.lt_of_lt_of_le (Nat.lt_of_lt_of_le (Nat.lt_succ_self _) S3) (by simp))).trans ((World.cell?_alloc_past _ _ _ S3).trans hA3); have hB4 : w4.cell? ⟨w3.heap.size, 0, none⟩ = some (.int .i64 4) := (HB4.cell (by simp)).trans (by simp); have S4 := HB4.size; simp only [World.size_alloc] at S4; have q24 : w2.heap.size < w4.heap.size := (by omega); have q34 : w3.heap.size < w4.heap.size := (by omega); clear HB4 G3 hA3))
          go_ret2
          exact ⟨_, rfl, Kd.R_nil _ _ _ _ _, own_below_at HB.out (below_alloc K4.out _)⟩
        · obtain ⟨c2, p2, e2, q2, hg2, hc2, hp2, hp2'⟩ := get16_some HL.out (i := 0) (by omega) (by omega)
          obtain ⟨x3, a3, e3, q3, hg3⟩ := rbytes_some (l := bytesOf a0) (by have := HLN.out; omega) hp2 hp2' hc2
          have HG2 := Aside0.mk hg2; clear hg2
          have HG3 := Aside0.mk hg3; clear hg3
          have G1 : ∀ W, Below W1.heap.size W1 W → Calls Try.prog 116 #[.slice (some ⟨w.heap.size, 0, none⟩) a0.size cap, .int .i64 k] W fun e w' => e = .returned (.tuple #[.int .i64 0, .int .i64 0, .agg #[.int .i64 4, .int .i64 a0.size]]) ∧ Below W.heap.size W w' := fun W hb => by
            have := ostiaryref03_Get16.calls 3 (some ⟨w.heap.size, 0, none⟩) cap (bytesOf a0) k _ _ _ _ W (hC1 W hb) (by have := HCAP.out; have := HLN.out; omega) ((rget16_eq HL.out (by have := HLN.out; omega) _ 3 (by omega)).trans (get16_short HL.out (by omega) (by have := HLN.out; omega) (by have := HLN.out; omega)))
            rwa [HLN.out] at this
          have G2 : ∀ W, Below W1.heap.size W1 W → Calls Try.prog 116 #[.slice (some ⟨w.heap.size, 0, none⟩) a0.size cap, .int .i64 0] W fun e w' => e = .returned (.tuple #[.int .i64 c2, .int .i64 p2, .agg #[.int .i64 e2, .int .i64 q2]]) ∧ Below W.heap.size W w' := fun W hb => by
            have := ostiaryref03_Get16.calls 3 (some ⟨w.heap.size, 0, none⟩) cap (bytesOf a0) 0 _ _ _ _ W (hC1 W hb) (by have := HCAP.out; have := HLN.out; omega) ((rget16_eq HL.out (by have := HLN.out; omega) _ 3 (by omega)).trans HG2.out)
            rwa [HLN.out] at this
          have G3 : ∀ W, Below W1.heap.size W1 W → Calls Try.prog 122 #[.slice (some ⟨w.heap.size, 0, none⟩) a0.size cap, .int .i64 p2, .int .i64 c2] W fun e w' => ∃ v0_ : Value, e = .returned (.tuple #[v0_, .int .i64 a3, .agg #[.int .i64 e3, .int .i64 q3]]) ∧ Kd.R (Kd.int .u8) 5 w' W.heap.size (fun _ => True) v0_ x3 ∧ Below W.heap.size W w' := fun W hb => by
            have := ostiaryref03_Bytes.calls 1 (some ⟨w.heap.size, 0, none⟩) cap (bytesOf a0) p2 c2 _ _ _ _ W (hC1 W hb) (by have := HCAP.out; have := HLN.out; omega) HG3.out
            rwa [HLN.out] at this
          go_wp2_with (first
            | (go_at_call 116; (with_reducible refine (G1 _ ?hb1).mono ?_); (case hb1 => exact HB1.out); rintro e w2 ⟨rfl, HB2⟩; have K2 := Aside0.mk HB2; have S2 := HB2.size; clear HB2 G1)
            | (go_at_call 116; (with_reducible refine (G2 _ ?hb2).mono ?_); (case hb2 => exact own_below_at HB1.out (below_alloc K2.out _)); rintro e w3 ⟨rfl, HB3⟩; have K3 := Aside0.mk (own_below_at (below_alloc K2.out _) HB3); have hA3 : w3.cell? ⟨w2.heap.size, 0, none⟩ = some (.int .i64 4) := (HB3.cell (by simp)).trans (by simp); have S3 := HB3.size; simp only [World.size_alloc] at S3; clear HB3 G2)
            | (go_at_call 122; (with_reducible refine (G3 _ ?hb3).mono ?_); (case hb3 => exact own_below_at HB1.out (below_alloc K3.out _)); rintro e w4 ⟨vb, rfl, HD, HB4⟩; have K4 := Aside0.mk (own_below_at (below_alloc K3.out _) HB4); have hA4 : w4.cell? ⟨w2.heap.size, 0, none⟩ = some (.int .i64 4) := (HB4.cell (p := ⟨w2.heap.size, 0, none⟩) (show w2.heap.size < _ from Nat.lt_of_lt_of_le (Nat.lt_of_lt_of_le (Nat.lt_succ_self _) S3) (by simp))).trans ((World.cell?_alloc_past _ _ _ S3).trans hA3); have hB4 : w4.cell? ⟨w3.heap.size, 0, none⟩ = some (.int .i64 e2) := (HB4.cell (by simp)).trans (by simp); have S4 := HB4.size; simp only [World.size_alloc] at S4; have q24 : w2.heap.size < w4.heap.size := (by omega); have q34 : w3.heap.size < w4.heap.size := (by omega); clear HB4 G3 hA3))
          go_ret2
          exact ⟨_, rfl, Kd.R_nil _ _ _ _ _, own_below_at HB.out (below_alloc K4.out _)⟩
      · have HN := Aside0.mk hn; clear hn
        have G1 : ∀ W, Below W1.heap.size W1 W → Calls Try.prog 116 #[.slice (some ⟨w.heap.size, 0, none⟩) a0.size cap, .int .i64 k] W fun e w' => e = .returned (.tuple #[.int .i64 (be (((bytesOf a0).drop k).take 2)), .int .i64 (k + 2), .agg #[.int .i64 0, .int .i64 0]]) ∧ Below W.heap.size W w' := fun W hb => by
          have := ostiaryref03_Get16.calls 3 (some ⟨w.heap.size, 0, none⟩) cap (bytesOf a0) k _ _ _ _ W (hC1 W hb) (by have := HCAP.out; have := HLN.out; omega) ((rget16_eq HL.out (by have := HLN.out; omega) _ 3 (by omega)).trans (get16_ok HL.out (by omega) (by have := HLN.out; omega)))
          rwa [HLN.out] at this
        have G2 : ∀ W, Below W1.heap.size W1 W → Calls Try.prog 116 #[.slice (some ⟨w.heap.size, 0, none⟩) a0.size cap, .int .i64 (k + 2)] W fun e w' => e = .returned (.tuple #[.int .i64 n, .int .i64 (k + 4), .agg #[.int .i64 0, .int .i64 0]]) ∧ Below W.heap.size W w' := fun W hb => by
          have := ostiaryref03_Get16.calls 3 (some ⟨w.heap.size, 0, none⟩) cap (bytesOf a0) ((k : Int) + 2) _ _ _ _ W (hC1 W hb) (by have := HCAP.out; have := HLN.out; omega) ((rget16_eq HL.out (by have := HLN.out; omega) _ 3 (by omega)).trans (get16_ok HL.out (by omega) (by have := HLN.out; omega)))
          rw [HLN.out, show ((k : Int) + 2).toNat = k + 2 by omega, ← HN.out, show (k : Int) + 2 + 2 = k + 4 by omega] at this
          exact this
        rcases hrest with ⟨h5, hno⟩ | ⟨h5, k', hk', hT'⟩
        · have hfin : optsL (bytesOf a0).length (bytesOf a0) = none := hno
          have HFIN := Aside0.mk hfin; clear hfin hno
          have hout : (([] : List S82), false) = (r1, r2) := by
            have hh := HR.out
            unfold optsOf at hh
            rwa [HFIN.out] at hh
          simp only [Prod.mk.injEq] at hout
          obtain ⟨rfl, rfl⟩ := hout
          have G3 : ∀ W, Below W1.heap.size W1 W → Calls Try.prog 122 #[.slice (some ⟨w.heap.size, 0, none⟩) a0.size cap, .int .i64 (k + 4), .int .i64 n] W fun e w' => ∃ v0_ : Value, e = .returned (.tuple #[v0_, .int .i64 0, .agg #[.int .i64 4, .int .i64 a0.size]]) ∧ Kd.R (Kd.int .u8) 5 w' W.heap.size (fun _ => True) v0_ [] ∧ Below W.heap.size W w' := fun W hb => by
            have := ostiaryref03_Bytes.calls 1 (some ⟨w.heap.size, 0, none⟩) cap (bytesOf a0) (k + 4) n _ _ _ _ W (hC1 W hb) (by have := HCAP.out; have := HLN.out; omega) (rbytes_short 0 (by omega) (by have := HLN.out; omega) hn0 (by have := HLN.out; omega) (by have := HLN.out; omega))
            rwa [HLN.out] at this
          clear h5
          go_wp2_with (first
            | (go_at_call 116; (with_reducible refine (G1 _ ?hb1).mono ?_); (case hb1 => exact HB1.out); rintro e w2 ⟨rfl, HB2⟩; have K2 := Aside0.mk HB2; have S2 := HB2.size; clear HB2 G1)
            | (go_at_call 116; (with_reducible refine (G2 _ ?hb2).mono ?_); (case hb2 => exact own_below_at HB1.out (below_alloc K2.out _)); rintro e w3 ⟨rfl, HB3⟩; have K3 := Aside0.mk (own_below_at (below_alloc K2.out _) HB3); have hA3 : w3.cell? ⟨w2.heap.size, 0, none⟩ = some (.int .i64 0) := (HB3.cell (by simp)).trans (by simp); have S3 := HB3.size; simp only [World.size_alloc] at S3; clear HB3 G2)
            | (go_at_call 122; (with_reducible refine (G3 _ ?hb3).mono ?_); (case hb3 => exact own_below_at HB1.out (below_alloc K3.out _)); rintro e w4 ⟨vb, rfl, HD, HB4⟩; have K4 := Aside0.mk (own_below_at (below_alloc K3.out _) HB4); have hA4 : w4.cell? ⟨w2.heap.size, 0, none⟩ = some (.int .i64 0) := (HB4.cell (p := ⟨w2.heap.size, 0, none⟩) (show w2.heap.size < _ from Nat.lt_of_lt_of_le (Nat.lt_of_lt_of_le (Nat.lt_succ_self _) S3) (by simp))).trans ((World.cell?_alloc_past _ _ _ S3).trans hA3); have hB4 : w4.cell? ⟨w3.heap.size, 0, none⟩ = some (.int .i64 0) := (HB4.cell (by simp)).trans (by simp); have S4 := HB4.size; simp only [World.size_alloc] at S4; have q24 : w2.heap.size < w4.heap.size := (by omega); have q34 : w3.heap.size < w4.heap.size := (by omega); clear HB4 G3 hA3))
          go_ret2
          exact ⟨_, rfl, Kd.R_nil _ _ _ _ _, own_below_at HB.out (below_alloc K4.out _)⟩
        · have G3 : ∀ W, Below W1.heap.size W1 W → Calls Try.prog 122 #[.slice (some ⟨w.heap.size, 0, none⟩) a0.size cap, .int .i64 (k + 4), .int .i64 n] W fun e w' => ∃ v0_ : Value, e = .returned (.tuple #[v0_, .int .i64 (k + 4 + n), .agg #[.int .i64 0, .int .i64 0]]) ∧ Kd.R (Kd.int .u8) 5 w' W.heap.size (fun _ => True) v0_ (((bytesOf a0).drop (k + 4)).take n.toNat) ∧ Below W.heap.size W w' := fun W hb => by
            have := ostiaryref03_Bytes.calls 1 (some ⟨w.heap.size, 0, none⟩) cap (bytesOf a0) (k + 4) n _ _ _ _ W (hC1 W hb) (by have := HCAP.out; have := HLN.out; omega) (rbytes_ok 0 (by omega) hn0 (by have := HLN.out; omega) (by have := HLN.out; omega))
            rw [HLN.out, show ((k : Int) + 4).toNat = k + 4 by omega] at this
            exact this
          have h5' : (k : Int) + 4 + n ≤ a0.size := by have := HLN.out; omega
          have HT' := Aside0.mk hT'; clear hT' h5
          have HK' := Aside0.mk hk'; clear hk'
          go_wp2_with (first
            | (go_at_call 116; (with_reducible refine (G1 _ ?hb1).mono ?_); (case hb1 => exact HB1.out); rintro e w2 ⟨rfl, HB2⟩; have K2 := Aside0.mk HB2; have S2 := HB2.size; clear HB2 G1)
            | (go_at_call 116; (with_reducible refine (G2 _ ?hb2).mono ?_); (case hb2 => exact own_below_at HB1.out (below_alloc K2.out _)); rintro e w3 ⟨rfl, HB3⟩; have K3 := Aside0.mk (own_below_at (below_alloc K2.out _) HB3); have hA3 : w3.cell? ⟨w2.heap.size, 0, none⟩ = some (.int .i64 0) := (HB3.cell (by simp)).trans (by simp); have S3 := HB3.size; simp only [World.size_alloc] at S3; clear HB3 G2)
            | (go_at_call 122; (with_reducible refine (G3 _ ?hb3).mono ?_); (case hb3 => exact own_below_at HB1.out (below_alloc K3.out _)); rintro e w4 ⟨vb, rfl, HD, HB4⟩; have K4 := Aside0.mk (own_below_at (below_alloc K3.out _) HB4); have hA4 : w4.cell? ⟨w2.heap.size, 0, none⟩ = some (.int .i64 0) := (HB4.cell (p := ⟨w2.heap.size, 0, none⟩) (show w2.heap.size < _ from Nat.lt_of_lt_of_le (Nat.lt_of_lt_of_le (Nat.lt_succ_self _) S3) (by simp))).trans ((World.cell?_alloc_past _ _ _ S3).trans hA3); have hB4 : w4.cell? ⟨w3.heap.size, 0, none⟩ = some (.int .i64 0) := (HB4.cell (by simp)).trans (by simp); have S4 := HB4.size; simp only [World.size_alloc] at S4; have q24 : w2.heap.size < w4.heap.size := (by omega); have q34 : w3.heap.size < w4.heap.size := (by omega); clear HB4 G3 hA3; have hcv := fun o => conv_row (Kd.R_alloc (o := o) HD); clear HD)
            | (at_builtin; refine app_opt (w0 := w) (p := ⟨be (((bytesOf a0).drop k).take 2), strOfNums (((bytesOf a0).drop (k + 4)).take n.toNat)⟩) rfl _ _ rfl rfl (by simp [go_sem]) (Aside0.mk (Kd.R_below HO.out (below_alloc K4.out _))) (Aside0.mk (own_below_at HB.out (below_alloc K4.out _))) (fun q hq => Nat.le_trans (Nat.le_trans HB1.out.size K4.out.size) (by simp at hq; omega)) (by have := HAL.out; have := HLN.out; omega) ?_; intro v5 w5 HO5 HB5 HG5))
          go_roundw
          case rel => exact ⟨k + 4 + n.toNat, k', acc ++ [⟨be (((bytesOf a0).drop k).take 2), strOfNums (((bytesOf a0).drop (k + 4)).take n.toNat)⟩], by omega, by rw [show ((k + 4 + n.toNat : Nat) : Int) = (k : Int) + 4 + n by omega], ⟨by have := HK'.out; have := HLN.out; omega⟩, HT', ⟨by have := HAL.out; simp; omega⟩, HO5, HB5, ⟨(own_below_at HB1.out (below_alloc K4.out _)).grown HG5.out (Nat.le_trans HB1.out.size (Nat.le_trans K4.out.size (by simp))) (fun q hq => HO.out.1 q hq)⟩⟩
          case measure => simp [intOf]; omega
    · obtain rfl : k = a0.size := by omega
      have hfin : optsL (bytesOf a0).length (bytesOf a0) = some acc := by
        rw [← HT.out, List.drop_of_length_le (by rw [HLEN.out]; omega), optsL_nil]; simp
      have HFIN := Aside0.mk hfin; clear hfin
      go_wp2_with fail
      go_ret2
      have hh := HR.out
      unfold optsOf at hh
      rw [HFIN.out] at hh
      simp only [Prod.mk.injEq] at hh
      obtain ⟨rfl, rfl⟩ := hh
      exact ⟨_, rfl, Kd.R_mono HO.out (fun _ _ => trivial), HB.out⟩
end Go.Proofs.Yteahdaddbmhfgaa.P
end
section
-- Printed by the kit's print.py, driven by pall.py: one text a function. Lean checks it.
namespace Go.Proofs.Yteahdaddbmhfgaa.P
open Go.RowKit Go.Proofs.YteahdaddbmhfgaaW.PrintWords Go.Proofs.YteahdaddbmhfgaaW.PrintLast Go.Proofs.YteahdaddbmhfgaaW.PrintMore
attribute [local go_sem] max2_int min2_int max_two min_two max_three min_three max_four min_four
set_option linter.unusedVariables false
set_option linter.unusedSimpArgs false
mutual
def ostiaryref09_Of.j0 : Nat → Bool → Int → Int → List (S79) → List (S48) → List (S48) → List (S48) → Option (Int × Int × Int × Bool × (List (S82)) × Bool × Int)
  | 0, _, _, _, _, _, _, _ => none
  | k + 1, x35, x102000, x102001, x102002, x102003, x102004, x102005 => if x35 = true then (some (0, 0, 0, false, ([] : List (S82)), false, 4)) else (ostiaryref09_Of.l0 k 0 x102000 x102001 x102002 x102003 x102004 x102005)
def ostiaryref09_Of.l0 : Nat → Int → Int → Int → List (S79) → List (S48) → List (S48) → List (S48) → Option (Int × Int × Int × Bool × (List (S82)) × Bool × Int)
  | 0, _, _, _, _, _, _, _ => none
  | k + 1, x6, x102000, x102001, x102002, x102003, x102004, x102005 => if x6 < (x102005.length : Int) then (if 0 ≤ x6 then (if ((rd_T48 x102005 x6).f1) = 41 then ((ostiaryref09_options.f k ((rd_T48 x102005 x6).f4)).bind fun bt110 => (if ((rd_T48 x102005 x6).f0).toList = ([0] : List UInt8) then ((ostiaryref09_short.f ((rd_T48 x102005 x6).f2)).bind fun t114 => (if t114 = true then (if ((rd_T48 x102005 x6).f3) < 0 then (some (0, 0, 0, false, ([] : List (S82)), false, 4)) else (if ((rd_T48 x102005 x6).f3) ≥ 2147483648 then (some (0, 0, 0, false, ([] : List (S82)), false, 4)) else (if bt110.2 = true then (some ((rd_T48 x102005 x6).f2, ((rd_T48 x102005 x6).f3) / 16777216, Go.bits .and .i64 (((rd_T48 x102005 x6).f3) / 65536) 255, ((Int.tmod (((rd_T48 x102005 x6).f3) / 32768) 2) == 1), bt110.1, true, 0)) else (some (0, 0, 0, false, ([] : List (S82)), false, 4))))) else (some (0, 0, 0, false, ([] : List (S82)), false, 4)))) else (some (0, 0, 0, false, ([] : List (S82)), false, 4)))) else (ostiaryref09_Of.l0 k (wrap64 (x6 + 1)) x102000 x102001 x102002 x102003 x102004 x102005)) else (none)) else (some (0, 0, 0, false, ([] : List (S82)), false, 0))
end
def ostiaryref09_Of.f (k : Nat) (a0_0 : Int) (a0_1 : Int) (l0_2 : List (S79)) (l0_3 : List (S48)) (l0_4 : List (S48)) (l0_5 : List (S48)) : Option (Int × Int × Int × Bool × (List (S82)) × Bool × Int) := (ostiaryref09_many.f k l0_5).bind fun t103 => ((ostiaryref09_many.f k l0_3).bind fun t104 => ((ostiaryref09_many.f k l0_4).bind fun t105 => (if (wrap64 ((wrap64 (t103 + t104)) + t105)) = 0 then (some (0, 0, 0, false, ([] : List (S82)), false, 0)) else (if t103 = 1 then ((ostiaryref09_many.f k l0_3).bind fun t106 => ((ostiaryref09_many.f k l0_4).bind fun t107 => (ostiaryref09_Of.j0 k (decide ((wrap64 (t106 + t107)) > 0)) a0_0 a0_1 l0_2 l0_3 l0_4 l0_5))) else (ostiaryref09_Of.j0 k true a0_0 a0_1 l0_2 l0_3 l0_4 l0_5)))))
theorem ostiaryref09_Of.mono_l : ∀ k, (∀ y0 y1 y2 y3 y4 y5 y6, LeO (ostiaryref09_Of.j0 k y0 y1 y2 y3 y4 y5 y6) (ostiaryref09_Of.j0 (k + 1) y0 y1 y2 y3 y4 y5 y6)) ∧ (∀ y0 y1 y2 y3 y4 y5 y6, LeO (ostiaryref09_Of.l0 k y0 y1 y2 y3 y4 y5 y6) (ostiaryref09_Of.l0 (k + 1) y0 y1 y2 y3 y4 y5 y6))
  | 0 => ⟨fun _ _ _ _ _ _ _ r h => by simp [ostiaryref09_Of.j0] at h, fun _ _ _ _ _ _ _ r h => by simp [ostiaryref09_Of.l0] at h⟩
  | k + 1 => by
    obtain ⟨ih0, ih1⟩ := ostiaryref09_Of.mono_l k
    refine ⟨?_, ?_⟩
    · intro y0 y1 y2 y3 y4 y5 y6
      unfold ostiaryref09_Of.j0
      repeat' first
      | (with_reducible exact ih0 _ _ _ _ _ _ _)
      | (with_reducible exact ih1 _ _ _ _ _ _ _)
      | (with_reducible exact ostiaryref09_many.mono _ _)
      | (with_reducible exact ostiaryref09_options.mono _ _)
      | (with_reducible exact LeO.refl _)
      | (with_reducible exact LeO.none _)
      | (with_reducible refine LeO.ite ?_ ?_)
      | (with_reducible refine LeO.bind ?_ (fun _ => ?_))
      | exact ih0 _ _ _ _ _ _ _
      | exact ih1 _ _ _ _ _ _ _
      | exact ostiaryref09_many.mono _ _
      | exact ostiaryref09_options.mono _ _
      | exact LeO.none _
      | refine LeO.ite ?_ ?_
      | refine LeO.bind ?_ (fun _ => ?_)
    · intro y0 y1 y2 y3 y4 y5 y6
      unfold ostiaryref09_Of.l0
      repeat' first
      | (with_reducible exact ih0 _ _ _ _ _ _ _)
      | (with_reducible exact ih1 _ _ _ _ _ _ _)
      | (with_reducible exact ostiaryref09_many.mono _ _)
      | (with_reducible exact ostiaryref09_options.mono _ _)
      | (with_reducible exact LeO.refl _)
      | (with_reducible exact LeO.none _)
      | (with_reducible refine LeO.ite ?_ ?_)
      | (with_reducible refine LeO.bind ?_ (fun _ => ?_))
      | exact ih0 _ _ _ _ _ _ _
      | exact ih1 _ _ _ _ _ _ _
      | exact ostiaryref09_many.mono _ _
      | exact ostiaryref09_options.mono _ _
      | exact LeO.none _
      | refine LeO.ite ?_ ?_
      | refine LeO.bind ?_ (fun _ => ?_)
theorem ostiaryref09_Of.mono : ∀ a0 a1 a2 a3 a4 a5 k, LeO (ostiaryref09_Of.f k a0 a1 a2 a3 a4 a5) (ostiaryref09_Of.f (k + 1) a0 a1 a2 a3 a4 a5) := by
  intro a0 a1 a2 a3 a4 a5 k
  obtain ⟨ih0, ih1⟩ := ostiaryref09_Of.mono_l k
  unfold ostiaryref09_Of.f
  repeat' first
      | (with_reducible exact ih0 _ _ _ _ _ _ _)
      | (with_reducible exact ih1 _ _ _ _ _ _ _)
      | (with_reducible exact ostiaryref09_many.mono _ _)
      | (with_reducible exact ostiaryref09_options.mono _ _)
      | (with_reducible exact LeO.refl _)
      | (with_reducible exact LeO.none _)
      | (with_reducible refine LeO.ite ?_ ?_)
      | (with_reducible refine LeO.bind ?_ (fun _ => ?_))
      | exact ih0 _ _ _ _ _ _ _
      | exact ih1 _ _ _ _ _ _ _
      | exact ostiaryref09_many.mono _ _
      | exact ostiaryref09_options.mono _ _
      | exact LeO.none _
      | refine LeO.ite ?_ ?_
      | refine LeO.bind ?_ (fun _ => ?_)
set_option maxHeartbeats 8000000 in
set_option maxRecDepth 100000 in
theorem ostiaryref09_Of.calls (k : Nat) (a0_0 : Int) (a0_1 : Int) (A0_2 : Option Addr) (c0_2 : Nat) (l0_2 : List (S79)) (A0_3 : Option Addr) (c0_3 : Nat) (l0_3 : List (S48)) (A0_4 : Option Addr) (c0_4 : Nat) (l0_4 : List (S48)) (A0_5 : Option Addr) (c0_5 : Nat) (l0_5 : List (S48)) (r1 : Int) (r2 : Int) (r3 : Int) (r4 : Bool) (r5 : List (S82)) (r6 : Bool) (r7 : Int) (w : World) (hr0_2 : Kd.C k79 w A0_2 l0_2.length l0_2) (hc0_2 : l0_2.length ≤ c0_2) (hr0_3 : Kd.C k48 w A0_3 l0_3.length l0_3) (hc0_3 : l0_3.length ≤ c0_3) (hr0_4 : Kd.C k48 w A0_4 l0_4.length l0_4) (hc0_4 : l0_4.length ≤ c0_4) (hr0_5 : Kd.C k48 w A0_5 l0_5.length l0_5) (hc0_5 : l0_5.length ≤ c0_5) (h : ostiaryref09_Of.f k a0_0 a0_1 l0_2 l0_3 l0_4 l0_5 = some (r1, r2, r3, r4, r5, r6, r7)) :
    Calls Try.prog 34 #[.agg #[.int .i64 a0_0, .int .i64 a0_1, .slice A0_2 l0_2.length c0_2, .slice A0_3 l0_3.length c0_3, .slice A0_4 l0_4.length c0_4, .slice A0_5 l0_5.length c0_5]] w fun e w' => ∃ v4_ : Value, e = .returned (.tuple #[.agg #[.int .i64 r1, .int .i64 r2, .int .i64 r3, .bool r4, v4_], .bool r6, .int .i64 r7]) ∧ Kd.R k82 82 w' w.heap.size (fun _ => True) v4_ r5 ∧ Below w.heap.size w w' := by
  have hu25 := Try.underlying25
  have hu28 := Try.underlying28
  have hu48 := Try.underlying48
  have HR0_2 := Aside0.mk hr0_2
  have HC0_2 := Aside0.mk hc0_2
  clear hr0_2 hc0_2
  have HR0_3 := Aside0.mk hr0_3
  have HC0_3 := Aside0.mk hc0_3
  clear hr0_3 hc0_3
  have HR0_4 := Aside0.mk hr0_4
  have HC0_4 := Aside0.mk hc0_4
  clear hr0_4 hc0_4
  have HR0_5 := Aside0.mk hr0_5
  have HC0_5 := Aside0.mk hc0_5
  clear hr0_5 hc0_5
  have HB := Aside0.mk (Below.refl w.heap.size w)
  have H : ((ostiaryref09_many.f k l0_5).bind fun t103 => ((ostiaryref09_many.f k l0_3).bind fun t104 => ((ostiaryref09_many.f k l0_4).bind fun t105 => (if (wrap64 ((wrap64 (t103 + t104)) + t105)) = 0 then (some (0, 0, 0, false, ([] : List (S82)), false, 0)) else (if t103 = 1 then ((ostiaryref09_many.f k l0_3).bind fun t106 => ((ostiaryref09_many.f k l0_4).bind fun t107 => (ostiaryref09_Of.j0 k (decide ((wrap64 (t106 + t107)) > 0)) a0_0 a0_1 l0_2 l0_3 l0_4 l0_5))) else (ostiaryref09_Of.j0 k true a0_0 a0_1 l0_2 l0_3 l0_4 l0_5)))))) = some (r1, r2, r3, r4, r5, r6, r7) := h
  clear h
  replace H := Option.bind_eq_some_iff.mp H
  obtain ⟨t103, A20, H⟩ := H
  replace H : ((ostiaryref09_many.f k l0_3).bind fun t104 => ((ostiaryref09_many.f k l0_4).bind fun t105 => (if (wrap64 ((wrap64 (t103 + t104)) + t105)) = 0 then (some (0, 0, 0, false, ([] : List (S82)), false, 0)) else (if t103 = 1 then ((ostiaryref09_many.f k l0_3).bind fun t106 => ((ostiaryref09_many.f k l0_4).bind fun t107 => (ostiaryref09_Of.j0 k (decide ((wrap64 (t106 + t107)) > 0)) a0_0 a0_1 l0_2 l0_3 l0_4 l0_5))) else (ostiaryref09_Of.j0 k true a0_0 a0_1 l0_2 l0_3 l0_4 l0_5))))) = some (r1, r2, r3, r4, r5, r6, r7) := H
  have A2 := Aside0.mk A20
  clear A20
  replace H := Option.bind_eq_some_iff.mp H
  obtain ⟨t104, A30, H⟩ := H
  replace H : ((ostiaryref09_many.f k l0_4).bind fun t105 => (if (wrap64 ((wrap64 (t103 + t104)) + t105)) = 0 then (some (0, 0, 0, false, ([] : List (S82)), false, 0)) else (if t103 = 1 then ((ostiaryref09_many.f k l0_3).bind fun t106 => ((ostiaryref09_many.f k l0_4).bind fun t107 => (ostiaryref09_Of.j0 k (decide ((wrap64 (t106 + t107)) > 0)) a0_0 a0_1 l0_2 l0_3 l0_4 l0_5))) else (ostiaryref09_Of.j0 k true a0_0 a0_1 l0_2 l0_3 l0_4 l0_5)))) = some (r1, r2, r3, r4, r5, r6, r7) := H
  have A3 := Aside0.mk A30
  clear A30
  replace H := Option.bind_eq_some_iff.mp H
  obtain ⟨t105, A40, H⟩ := H
  replace H : (if (wrap64 ((wrap64 (t103 + t104)) + t105)) = 0 then (some (0, 0, 0, false, ([] : List (S82)), false, 0)) else (if t103 = 1 then ((ostiaryref09_many.f k l0_3).bind fun t106 => ((ostiaryref09_many.f k l0_4).bind fun t107 => (ostiaryref09_Of.j0 k (decide ((wrap64 (t106 + t107)) > 0)) a0_0 a0_1 l0_2 l0_3 l0_4 l0_5))) else (ostiaryref09_Of.j0 k true a0_0 a0_1 l0_2 l0_3 l0_4 l0_5))) = some (r1, r2, r3, r4, r5, r6, r7) := H
  have A4 := Aside0.mk A40
  clear A40
  by_cases c5 : (wrap64 ((wrap64 (t103 + t104)) + t105)) = 0
  · rw [if_pos c5] at H
    have c5b0 : ((wrap64 ((wrap64 (t103 + t104)) + t105)) == 0) = true := beq_iff_eq.mpr c5
    have c5b0w := c5b0
    simp only [← i64_w] at c5b0w
    have c5b1 : ((wrap64 ((wrap64 (t103 + t104)) + t105)) != 0) = false := bne_eq_false_iff_eq.mpr c5
    have c5b1w := c5b1
    simp only [← i64_w] at c5b1w
    clear c5
    simp only [Option.some.injEq, Prod.mk.injEq] at H
    obtain ⟨rfl, rfl, rfl, rfl, rfl, rfl, rfl⟩ := H
    go_enter Try.func34, Try.ntmps34
    go_wp2_with (first | ((with_reducible refine gate_dst (N := 1) rfl ?_); refine box_event ?hg (N := 1) ?hd (cs := #[.int .i64 a0_0, .int .i64 a0_1, .slice A0_2 l0_2.length c0_2, .slice A0_3 l0_3.length c0_3, .slice A0_4 l0_4.length c0_4, .slice A0_5 l0_5.length c0_5]) (t := 25) ?hr ?_; (case hd => rfl); (case hg => rfl); (case hr => first | (go_simp; done) | (go_simp; rfl)); intro gb101 hg w6 hbox hb; have n0_ := Aside0.mk (below_step (by repeat (first | (with_reducible first | exact HB.out | apply below_alloc | apply pw_below_drewN | apply below_drew1) | exact HB.out)) hb); have n1_ := Aside0.mk (hbox); have n2_ := Aside0.mk ((by rw [hg]; exact (below_size (by repeat (first | (with_reducible first | exact HB.out | apply below_alloc | apply pw_below_drewN | apply below_drew1) | exact HB.out))) : w.heap.size ≤ gb101)); have n3_ := Aside0.mk ((by rw [hg]; exact (below_size (by repeat (first | (with_reducible first | exact HB.out | apply below_alloc | apply pw_below_drewN | apply below_drew1) | exact HB.out))) : w.heap.size ≤ gb101)); clear HB; have HB := n0_; have BK101 := n1_; have GW101 := n2_; have GE101 := n3_; clear n0_ n1_ n2_ n3_; clear hb hbox hg) | ((with_reducible refine gate_dst (N := 2) rfl ?_); refine box_event ?hg (N := 2) ?hd (cs := #[.int .i64 0, .int .i64 0, .int .i64 0, .bool false, .slice none 0 0]) (t := 28) ?hr ?_; (case hd => rfl); (case hg => rfl); (case hr => first | (go_simp; done) | (go_simp; rfl)); intro gb102 hg w7 hbox hb; have n0_ := Aside0.mk (blk_below (g := gb101) (o := .cells #[.int .i64 a0_0, .int .i64 a0_1, .slice A0_2 l0_2.length c0_2, .slice A0_3 l0_3.length c0_3, .slice A0_4 l0_4.length c0_4, .slice A0_5 l0_5.length c0_5] 25 (0, 0)) (by exact BK101.out) hb); have n1_ := Aside0.mk (below_step (by repeat (first | (with_reducible first | exact HB.out | apply below_alloc | apply pw_below_drewN | apply below_drew1 | refine below_set ?_ GE101.out) | exact HB.out)) hb); have n2_ := Aside0.mk (hbox); have n3_ := Aside0.mk ((by rw [hg]; exact (below_size (by repeat (first | (with_reducible first | exact HB.out | apply below_alloc | apply pw_below_drewN | apply below_drew1 | refine below_set ?_ GE101.out) | exact HB.out))) : w.heap.size ≤ gb102)); have n4_ := Aside0.mk ((by rw [hg]; exact (below_size (by repeat (first | (with_reducible first | exact HB.out | apply below_alloc | apply pw_below_drewN | apply below_drew1 | refine below_set ?_ GE101.out) | exact HB.out))) : w.heap.size ≤ gb102)); have n5_ := Aside0.mk ((by rw [hg]; exact Nat.ne_of_lt (blk_lt (g := gb101) (o := .cells #[.int .i64 a0_0, .int .i64 a0_1, .slice A0_2 l0_2.length c0_2, .slice A0_3 l0_3.length c0_3, .slice A0_4 l0_4.length c0_4, .slice A0_5 l0_5.length c0_5] 25 (0, 0)) (by exact BK101.out)) : gb101 ≠ gb102)); have n6_ := Aside0.mk ((by rw [hg]; exact Nat.ne_of_gt (blk_lt (g := gb101) (o := .cells #[.int .i64 a0_0, .int .i64 a0_1, .slice A0_2 l0_2.length c0_2, .slice A0_3 l0_3.length c0_3, .slice A0_4 l0_4.length c0_4, .slice A0_5 l0_5.length c0_5] 25 (0, 0)) (by exact BK101.out)) : gb102 ≠ gb101)); clear BK101; clear HB; have BK101 := n0_; have HB := n1_; have BK102 := n2_; have GW102 := n3_; have GE102 := n4_; have NB101_102 := n5_; have NB102_101 := n6_; clear n0_ n1_ n2_ n3_ n4_ n5_ n6_; clear hb hbox hg; have hnb8 := NB101_102.out; have hnc8 := NB102_101.out; have hcz9_0 : w7.cell? ⟨gb101, 0, none⟩ = some (.int .i64 a0_0) := (blk_cell BK101.out 0).trans rfl; have hcz9_1 : w7.cell? ⟨gb101, 1, none⟩ = some (.int .i64 a0_1) := (blk_cell BK101.out 1).trans rfl; have hcz9_2 : w7.cell? ⟨gb101, 2, none⟩ = some (.slice A0_2 l0_2.length c0_2) := (blk_cell BK101.out 2).trans rfl; have hcz9_3 : w7.cell? ⟨gb101, 3, none⟩ = some (.slice A0_3 l0_3.length c0_3) := (blk_cell BK101.out 3).trans rfl; have hcz9_4 : w7.cell? ⟨gb101, 4, none⟩ = some (.slice A0_4 l0_4.length c0_4) := (blk_cell BK101.out 4).trans rfl; have hcz9_5 : w7.cell? ⟨gb101, 5, none⟩ = some (.slice A0_5 l0_5.length c0_5) := (blk_cell BK101.out 5).trans rfl; have hfz9_0 := blk_frozen BK101.out 0; have hfz9_1 := blk_frozen BK101.out 1; have hfz9_2 := blk_frozen BK101.out 2; have hfz9_3 := blk_frozen BK101.out 3; have hfz9_4 := blk_frozen BK101.out 4; have hfz9_5 := blk_frozen BK101.out 5) | (go_at_call 81; (with_reducible refine (ostiaryref09_many.calls k _ _ l0_5 t103 _ ?side1 ?side2 A2.out).mono ?_); (case side1 => repeat (first | exact (Kd.C_below HR0_5.out HB.out) | (with_reducible refine Kd.C_alloc ?_ _) | (with_reducible refine Kd.C_drewN ?_ _) | (with_reducible refine Kd.C_drew ?_))); (case side2 => exact HC0_5.out); rintro e w' ⟨rfl, ⟨nd, rfl⟩⟩; (try first | exact ⟨rfl, _, World.drewN_drewN _ _ _⟩ | exact ⟨rfl, _, Eq.trans (World.drewN_drewN _ _ _) (congrArg (World.drewN _) (Nat.add_assoc _ _ _))⟩)))
    repeat (go_quiet (first | (go_at_call 81; (with_reducible refine (ostiaryref09_many.calls k _ _ l0_3 t104 _ ?side1 ?side2 A3.out).mono ?_); (case side1 => repeat (first | exact (Kd.C_below HR0_3.out (by repeat (first | (with_reducible first | exact HB.out | apply below_alloc | apply pw_below_drewN | apply below_drew1 | refine below_set ?_ GE101.out | refine below_set ?_ GE102.out) | exact HB.out))) | (with_reducible refine Kd.C_alloc ?_ _) | (with_reducible refine Kd.C_drewN ?_ _) | (with_reducible refine Kd.C_drew ?_))); (case side2 => exact HC0_3.out); rintro e w' ⟨rfl, ⟨nd, rfl⟩⟩; (try first | exact ⟨rfl, _, World.drewN_drewN _ _ _⟩ | exact ⟨rfl, _, Eq.trans (World.drewN_drewN _ _ _) (congrArg (World.drewN _) (Nat.add_assoc _ _ _))⟩)) | (go_at_call 81; (with_reducible refine (ostiaryref09_many.calls k _ _ l0_4 t105 _ ?side1 ?side2 A4.out).mono ?_); (case side1 => repeat (first | exact (Kd.C_below HR0_4.out (by repeat (first | (with_reducible first | exact HB.out | apply below_alloc | apply pw_below_drewN | apply below_drew1 | refine below_set ?_ GE101.out | refine below_set ?_ GE102.out) | exact HB.out))) | (with_reducible refine Kd.C_alloc ?_ _) | (with_reducible refine Kd.C_drewN ?_ _) | (with_reducible refine Kd.C_drew ?_))); (case side2 => exact HC0_4.out); rintro e w' ⟨rfl, ⟨nd, rfl⟩⟩; (try first | exact ⟨rfl, _, World.drewN_drewN _ _ _⟩ | exact ⟨rfl, _, Eq.trans (World.drewN_drewN _ _ _) (congrArg (World.drewN _) (Nat.add_assoc _ _ _))⟩); have hcz10_0 : w7.cell? ⟨gb102, 0, none⟩ = some (.int .i64 0) := (blk_cell BK102.out 0).trans rfl; have hcz10_1 : w7.cell? ⟨gb102, 1, none⟩ = some (.int .i64 0) := (blk_cell BK102.out 1).trans rfl; have hcz10_2 : w7.cell? ⟨gb102, 2, none⟩ = some (.int .i64 0) := (blk_cell BK102.out 2).trans rfl; have hcz10_3 : w7.cell? ⟨gb102, 3, none⟩ = some (.bool false) := (blk_cell BK102.out 3).trans rfl; have hcz10_4 : w7.cell? ⟨gb102, 4, none⟩ = some (.slice none 0 0) := (blk_cell BK102.out 4).trans rfl; have hfz10_0 := blk_frozen BK102.out 0; have hfz10_1 := blk_frozen BK102.out 1; have hfz10_2 := blk_frozen BK102.out 2; have hfz10_3 := blk_frozen BK102.out 3; have hfz10_4 := blk_frozen BK102.out 4)); try go_wp2_with (first | ((with_reducible refine gate_dst (N := 1) rfl ?_); refine box_event ?hg (N := 1) ?hd (cs := #[.int .i64 a0_0, .int .i64 a0_1, .slice A0_2 l0_2.length c0_2, .slice A0_3 l0_3.length c0_3, .slice A0_4 l0_4.length c0_4, .slice A0_5 l0_5.length c0_5]) (t := 25) ?hr ?_; (case hd => rfl); (case hg => rfl); (case hr => first | (go_simp; done) | (go_simp; rfl)); intro gb101 hg w6 hbox hb; have n0_ := Aside0.mk (below_step (by repeat (first | (with_reducible first | exact HB.out | apply below_alloc | apply pw_below_drewN | apply below_drew1) | exact HB.out)) hb); have n1_ := Aside0.mk (hbox); have n2_ := Aside0.mk ((by rw [hg]; exact (below_size (by repeat (first | (with_reducible first | exact HB.out | apply below_alloc | apply pw_below_drewN | apply below_drew1) | exact HB.out))) : w.heap.size ≤ gb101)); have n3_ := Aside0.mk ((by rw [hg]; exact (below_size (by repeat (first | (with_reducible first | exact HB.out | apply below_alloc | apply pw_below_drewN | apply below_drew1) | exact HB.out))) : w.heap.size ≤ gb101)); clear HB; have HB := n0_; have BK101 := n1_; have GW101 := n2_; have GE101 := n3_; clear n0_ n1_ n2_ n3_; clear hb hbox hg) | ((with_reducible refine gate_dst (N := 2) rfl ?_); refine box_event ?hg (N := 2) ?hd (cs := #[.int .i64 0, .int .i64 0, .int .i64 0, .bool false, .slice none 0 0]) (t := 28) ?hr ?_; (case hd => rfl); (case hg => rfl); (case hr => first | (go_simp; done) | (go_simp; rfl)); intro gb102 hg w7 hbox hb; have n0_ := Aside0.mk (blk_below (g := gb101) (o := .cells #[.int .i64 a0_0, .int .i64 a0_1, .slice A0_2 l0_2.length c0_2, .slice A0_3 l0_3.length c0_3, .slice A0_4 l0_4.length c0_4, .slice A0_5 l0_5.length c0_5] 25 (0, 0)) (by exact BK101.out) hb); have n1_ := Aside0.mk (below_step (by repeat (first | (with_reducible first | exact HB.out | apply below_alloc | apply pw_below_drewN | apply below_drew1 | refine below_set ?_ GE101.out) | exact HB.out)) hb); have n2_ := Aside0.mk (hbox); have n3_ := Aside0.mk ((by rw [hg]; exact (below_size (by repeat (first | (with_reducible first | exact HB.out | apply below_alloc | apply pw_below_drewN | apply below_drew1 | refine below_set ?_ GE101.out) | exact HB.out))) : w.heap.size ≤ gb102)); have n4_ := Aside0.mk ((by rw [hg]; exact (below_size (by repeat (first | (with_reducible first | exact HB.out | apply below_alloc | apply pw_below_drewN | apply below_drew1 | refine below_set ?_ GE101.out) | exact HB.out))) : w.heap.size ≤ gb102)); have n5_ := Aside0.mk ((by rw [hg]; exact Nat.ne_of_lt (blk_lt (g := gb101) (o := .cells #[.int .i64 a0_0, .int .i64 a0_1, .slice A0_2 l0_2.length c0_2, .slice A0_3 l0_3.length c0_3, .slice A0_4 l0_4.length c0_4, .slice A0_5 l0_5.length c0_5] 25 (0, 0)) (by exact BK101.out)) : gb101 ≠ gb102)); have n6_ := Aside0.mk ((by rw [hg]; exact Nat.ne_of_gt (blk_lt (g := gb101) (o := .cells #[.int .i64 a0_0, .int .i64 a0_1, .slice A0_2 l0_2.length c0_2, .slice A0_3 l0_3.length c0_3, .slice A0_4 l0_4.length c0_4, .slice A0_5 l0_5.length c0_5] 25 (0, 0)) (by exact BK101.out)) : gb102 ≠ gb101)); clear BK101; clear HB; have BK101 := n0_; have HB := n1_; have BK102 := n2_; have GW102 := n3_; have GE102 := n4_; have NB101_102 := n5_; have NB102_101 := n6_; clear n0_ n1_ n2_ n3_ n4_ n5_ n6_; clear hb hbox hg; have hnb8 := NB101_102.out; have hnc8 := NB102_101.out; have hcz9_0 : w7.cell? ⟨gb101, 0, none⟩ = some (.int .i64 a0_0) := (blk_cell BK101.out 0).trans rfl; have hcz9_1 : w7.cell? ⟨gb101, 1, none⟩ = some (.int .i64 a0_1) := (blk_cell BK101.out 1).trans rfl; have hcz9_2 : w7.cell? ⟨gb101, 2, none⟩ = some (.slice A0_2 l0_2.length c0_2) := (blk_cell BK101.out 2).trans rfl; have hcz9_3 : w7.cell? ⟨gb101, 3, none⟩ = some (.slice A0_3 l0_3.length c0_3) := (blk_cell BK101.out 3).trans rfl; have hcz9_4 : w7.cell? ⟨gb101, 4, none⟩ = some (.slice A0_4 l0_4.length c0_4) := (blk_cell BK101.out 4).trans rfl; have hcz9_5 : w7.cell? ⟨gb101, 5, none⟩ = some (.slice A0_5 l0_5.length c0_5) := (blk_cell BK101.out 5).trans rfl; have hfz9_0 := blk_frozen BK101.out 0; have hfz9_1 := blk_frozen BK101.out 1; have hfz9_2 := blk_frozen BK101.out 2; have hfz9_3 := blk_frozen BK101.out 3; have hfz9_4 := blk_frozen BK101.out 4; have hfz9_5 := blk_frozen BK101.out 5) | (go_at_call 81; (with_reducible refine (ostiaryref09_many.calls k _ _ l0_5 t103 _ ?side1 ?side2 A2.out).mono ?_); (case side1 => repeat (first | exact (Kd.C_below HR0_5.out HB.out) | (with_reducible refine Kd.C_alloc ?_ _) | (with_reducible refine Kd.C_drewN ?_ _) | (with_reducible refine Kd.C_drew ?_))); (case side2 => exact HC0_5.out); rintro e w' ⟨rfl, ⟨nd, rfl⟩⟩; (try first | exact ⟨rfl, _, World.drewN_drewN _ _ _⟩ | exact ⟨rfl, _, Eq.trans (World.drewN_drewN _ _ _) (congrArg (World.drewN _) (Nat.add_assoc _ _ _))⟩)) | (go_at_call 81; (with_reducible refine (ostiaryref09_many.calls k _ _ l0_3 t104 _ ?side1 ?side2 A3.out).mono ?_); (case side1 => repeat (first | exact (Kd.C_below HR0_3.out (by repeat (first | (with_reducible first | exact HB.out | apply below_alloc | apply pw_below_drewN | apply below_drew1 | refine below_set ?_ GE101.out | refine below_set ?_ GE102.out) | exact HB.out))) | (with_reducible refine Kd.C_alloc ?_ _) | (with_reducible refine Kd.C_drewN ?_ _) | (with_reducible refine Kd.C_drew ?_))); (case side2 => exact HC0_3.out); rintro e w' ⟨rfl, ⟨nd, rfl⟩⟩; (try first | exact ⟨rfl, _, World.drewN_drewN _ _ _⟩ | exact ⟨rfl, _, Eq.trans (World.drewN_drewN _ _ _) (congrArg (World.drewN _) (Nat.add_assoc _ _ _))⟩)) | (go_at_call 81; (with_reducible refine (ostiaryref09_many.calls k _ _ l0_4 t105 _ ?side1 ?side2 A4.out).mono ?_); (case side1 => repeat (first | exact (Kd.C_below HR0_4.out (by repeat (first | (with_reducible first | exact HB.out | apply below_alloc | apply pw_below_drewN | apply below_drew1 | refine below_set ?_ GE101.out | refine below_set ?_ GE102.out) | exact HB.out))) | (with_reducible refine Kd.C_alloc ?_ _) | (with_reducible refine Kd.C_drewN ?_ _) | (with_reducible refine Kd.C_drew ?_))); (case side2 => exact HC0_4.out); rintro e w' ⟨rfl, ⟨nd, rfl⟩⟩; (try first | exact ⟨rfl, _, World.drewN_drewN _ _ _⟩ | exact ⟨rfl, _, Eq.trans (World.drewN_drewN _ _ _) (congrArg (World.drewN _) (Nat.add_assoc _ _ _))⟩); have hcz10_0 : w7.cell? ⟨gb102, 0, none⟩ = some (.int .i64 0) := (blk_cell BK102.out 0).trans rfl; have hcz10_1 : w7.cell? ⟨gb102, 1, none⟩ = some (.int .i64 0) := (blk_cell BK102.out 1).trans rfl; have hcz10_2 : w7.cell? ⟨gb102, 2, none⟩ = some (.int .i64 0) := (blk_cell BK102.out 2).trans rfl; have hcz10_3 : w7.cell? ⟨gb102, 3, none⟩ = some (.bool false) := (blk_cell BK102.out 3).trans rfl; have hcz10_4 : w7.cell? ⟨gb102, 4, none⟩ = some (.slice none 0 0) := (blk_cell BK102.out 4).trans rfl; have hfz10_0 := blk_frozen BK102.out 0; have hfz10_1 := blk_frozen BK102.out 1; have hfz10_2 := blk_frozen BK102.out 2; have hfz10_3 := blk_frozen BK102.out 3; have hfz10_4 := blk_frozen BK102.out 4)))
    refine bodyPost_ret (results_ctt rfl _ _ gb102 28 #[.int .i64 0, .int .i64 0, .int .i64 0, .bool false, .slice none 0 0] (0, 0) _ rfl (by refine blk_put (cs := #[.int .i64 0, .int .i64 0, .int .i64 0, .bool false, .slice none 0 0]) ?_ 4 _ rfl; refine blk_put (cs := #[.int .i64 0, .int .i64 0, .int .i64 0, .bool false, .slice none 0 0]) ?_ 3 _ rfl; refine blk_put (cs := #[.int .i64 0, .int .i64 0, .int .i64 0, .bool false, .slice none 0 0]) ?_ 2 _ rfl; refine blk_put (cs := #[.int .i64 0, .int .i64 0, .int .i64 0, .bool false, .slice none 0 0]) ?_ 1 _ rfl; refine blk_put (cs := #[.int .i64 0, .int .i64 0, .int .i64 0, .bool false, .slice none 0 0]) ?_ 0 _ rfl; (with_reducible repeat (first | refine blk_drewN ?_ _ | refine blk_drew ?_ | refine blk_alloc ?_ _)); exact BK102.out) Try.underlying28 rfl (by kernel_rfl)) rfl ?_
    exact ⟨_, by first | rfl | (simp [errW_none, errW_some] <;> rfl) | (simp [*, errW_none, errW_some] <;> rfl), by first | exact Kd.R_nil _ _ _ _ _ | exact Kd.N_nil _ _ _ _ _ | exact Kd.V_nil _ _ _ _ _ | exact Kd.Q_nil _ _ _ _ _ | exact Kd.S_nil _ _ _ _ _, by repeat (first | (with_reducible first | exact HB.out | apply below_alloc | apply pw_below_drewN | apply below_drew1 | refine below_set ?_ GE101.out | refine below_set ?_ GE102.out) | exact HB.out)⟩
  · rw [if_neg c5] at H
    have c5b0 : ((wrap64 ((wrap64 (t103 + t104)) + t105)) == 0) = false := beq_eq_false_iff_ne.mpr c5
    have c5b0w := c5b0
    simp only [← i64_w] at c5b0w
    have c5b1 : ((wrap64 ((wrap64 (t103 + t104)) + t105)) != 0) = true := bne_iff_ne.mpr c5
    have c5b1w := c5b1
    simp only [← i64_w] at c5b1w
    have HC11 := Aside0.mk H
    clear H
    go_enter Try.func34, Try.ntmps34
    go_upto_region 4 with (first | ((with_reducible refine gate_dst (N := 1) rfl ?_); refine box_event ?hg (N := 1) ?hd (cs := #[.int .i64 a0_0, .int .i64 a0_1, .slice A0_2 l0_2.length c0_2, .slice A0_3 l0_3.length c0_3, .slice A0_4 l0_4.length c0_4, .slice A0_5 l0_5.length c0_5]) (t := 25) ?hr ?_; (case hd => rfl); (case hg => rfl); (case hr => first | (go_simp; done) | (go_simp; rfl)); intro gb101 hg w12 hbox hb; have n0_ := Aside0.mk (below_step (by repeat (first | (with_reducible first | exact HB.out | apply below_alloc | apply pw_below_drewN | apply below_drew1) | exact HB.out)) hb); have n1_ := Aside0.mk (hbox); have n2_ := Aside0.mk ((by rw [hg]; exact (below_size (by repeat (first | (with_reducible first | exact HB.out | apply below_alloc | apply pw_below_drewN | apply below_drew1) | exact HB.out))) : w.heap.size ≤ gb101)); have n3_ := Aside0.mk ((by rw [hg]; exact (below_size (by repeat (first | (with_reducible first | exact HB.out | apply below_alloc | apply pw_below_drewN | apply below_drew1) | exact HB.out))) : w.heap.size ≤ gb101)); clear HB; have HB := n0_; have BK101 := n1_; have GW101 := n2_; have GE101 := n3_; clear n0_ n1_ n2_ n3_; clear hb hbox hg) | ((with_reducible refine gate_dst (N := 2) rfl ?_); refine box_event ?hg (N := 2) ?hd (cs := #[.int .i64 0, .int .i64 0, .int .i64 0, .bool false, .slice none 0 0]) (t := 28) ?hr ?_; (case hd => rfl); (case hg => rfl); (case hr => first | (go_simp; done) | (go_simp; rfl)); intro gb102 hg w13 hbox hb; have n0_ := Aside0.mk (blk_below (g := gb101) (o := .cells #[.int .i64 a0_0, .int .i64 a0_1, .slice A0_2 l0_2.length c0_2, .slice A0_3 l0_3.length c0_3, .slice A0_4 l0_4.length c0_4, .slice A0_5 l0_5.length c0_5] 25 (0, 0)) (by exact BK101.out) hb); have n1_ := Aside0.mk (below_step (by repeat (first | (with_reducible first | exact HB.out | apply below_alloc | apply pw_below_drewN | apply below_drew1 | refine below_set ?_ GE101.out) | exact HB.out)) hb); have n2_ := Aside0.mk (hbox); have n3_ := Aside0.mk ((by rw [hg]; exact (below_size (by repeat (first | (with_reducible first | exact HB.out | apply below_alloc | apply pw_below_drewN | apply below_drew1 | refine below_set ?_ GE101.out) | exact HB.out))) : w.heap.size ≤ gb102)); have n4_ := Aside0.mk ((by rw [hg]; exact (below_size (by repeat (first | (with_reducible first | exact HB.out | apply below_alloc | apply pw_below_drewN | apply below_drew1 | refine below_set ?_ GE101.out) | exact HB.out))) : w.heap.size ≤ gb102)); have n5_ := Aside0.mk ((by rw [hg]; exact Nat.ne_of_lt (blk_lt (g := gb101) (o := .cells #[.int .i64 a0_0, .int .i64 a0_1, .slice A0_2 l0_2.length c0_2, .slice A0_3 l0_3.length c0_3, .slice A0_4 l0_4.length c0_4, .slice A0_5 l0_5.length c0_5] 25 (0, 0)) (by exact BK101.out)) : gb101 ≠ gb102)); have n6_ := Aside0.mk ((by rw [hg]; exact Nat.ne_of_gt (blk_lt (g := gb101) (o := .cells #[.int .i64 a0_0, .int .i64 a0_1, .slice A0_2 l0_2.length c0_2, .slice A0_3 l0_3.length c0_3, .slice A0_4 l0_4.length c0_4, .slice A0_5 l0_5.length c0_5] 25 (0, 0)) (by exact BK101.out)) : gb102 ≠ gb101)); clear BK101; clear HB; have BK101 := n0_; have HB := n1_; have BK102 := n2_; have GW102 := n3_; have GE102 := n4_; have NB101_102 := n5_; have NB102_101 := n6_; clear n0_ n1_ n2_ n3_ n4_ n5_ n6_; clear hb hbox hg; have hnb14 := NB101_102.out; have hnc14 := NB102_101.out; have hcz15_0 : w13.cell? ⟨gb101, 0, none⟩ = some (.int .i64 a0_0) := (blk_cell BK101.out 0).trans rfl; have hcz15_1 : w13.cell? ⟨gb101, 1, none⟩ = some (.int .i64 a0_1) := (blk_cell BK101.out 1).trans rfl; have hcz15_2 : w13.cell? ⟨gb101, 2, none⟩ = some (.slice A0_2 l0_2.length c0_2) := (blk_cell BK101.out 2).trans rfl; have hcz15_3 : w13.cell? ⟨gb101, 3, none⟩ = some (.slice A0_3 l0_3.length c0_3) := (blk_cell BK101.out 3).trans rfl; have hcz15_4 : w13.cell? ⟨gb101, 4, none⟩ = some (.slice A0_4 l0_4.length c0_4) := (blk_cell BK101.out 4).trans rfl; have hcz15_5 : w13.cell? ⟨gb101, 5, none⟩ = some (.slice A0_5 l0_5.length c0_5) := (blk_cell BK101.out 5).trans rfl; have hfz15_0 := blk_frozen BK101.out 0; have hfz15_1 := blk_frozen BK101.out 1; have hfz15_2 := blk_frozen BK101.out 2; have hfz15_3 := blk_frozen BK101.out 3; have hfz15_4 := blk_frozen BK101.out 4; have hfz15_5 := blk_frozen BK101.out 5) | (go_at_call 81; (with_reducible refine (ostiaryref09_many.calls k _ _ l0_5 t103 _ ?side1 ?side2 A2.out).mono ?_); (case side1 => repeat (first | exact (Kd.C_below HR0_5.out HB.out) | (with_reducible refine Kd.C_alloc ?_ _) | (with_reducible refine Kd.C_drewN ?_ _) | (with_reducible refine Kd.C_drew ?_))); (case side2 => exact HC0_5.out); rintro e w' ⟨rfl, ⟨nd, rfl⟩⟩; (try first | exact ⟨rfl, _, World.drewN_drewN _ _ _⟩ | exact ⟨rfl, _, Eq.trans (World.drewN_drewN _ _ _) (congrArg (World.drewN _) (Nat.add_assoc _ _ _))⟩)))
    repeat (go_quiet (first | (go_at_call 81; (with_reducible refine (ostiaryref09_many.calls k _ _ l0_3 t104 _ ?side1 ?side2 A3.out).mono ?_); (case side1 => repeat (first | exact (Kd.C_below HR0_3.out (by repeat (first | (with_reducible first | exact HB.out | apply below_alloc | apply pw_below_drewN | apply below_drew1 | refine below_set ?_ GE101.out | refine below_set ?_ GE102.out) | exact HB.out))) | (with_reducible refine Kd.C_alloc ?_ _) | (with_reducible refine Kd.C_drewN ?_ _) | (with_reducible refine Kd.C_drew ?_))); (case side2 => exact HC0_3.out); rintro e w' ⟨rfl, ⟨nd, rfl⟩⟩; (try first | exact ⟨rfl, _, World.drewN_drewN _ _ _⟩ | exact ⟨rfl, _, Eq.trans (World.drewN_drewN _ _ _) (congrArg (World.drewN _) (Nat.add_assoc _ _ _))⟩)) | (go_at_call 81; (with_reducible refine (ostiaryref09_many.calls k _ _ l0_4 t105 _ ?side1 ?side2 A4.out).mono ?_); (case side1 => repeat (first | exact (Kd.C_below HR0_4.out (by repeat (first | (with_reducible first | exact HB.out | apply below_alloc | apply pw_below_drewN | apply below_drew1 | refine below_set ?_ GE101.out | refine below_set ?_ GE102.out) | exact HB.out))) | (with_reducible refine Kd.C_alloc ?_ _) | (with_reducible refine Kd.C_drewN ?_ _) | (with_reducible refine Kd.C_drew ?_))); (case side2 => exact HC0_4.out); rintro e w' ⟨rfl, ⟨nd, rfl⟩⟩; (try first | exact ⟨rfl, _, World.drewN_drewN _ _ _⟩ | exact ⟨rfl, _, Eq.trans (World.drewN_drewN _ _ _) (congrArg (World.drewN _) (Nat.add_assoc _ _ _))⟩))); go_upto_region 4 with (first | ((with_reducible refine gate_dst (N := 1) rfl ?_); refine box_event ?hg (N := 1) ?hd (cs := #[.int .i64 a0_0, .int .i64 a0_1, .slice A0_2 l0_2.length c0_2, .slice A0_3 l0_3.length c0_3, .slice A0_4 l0_4.length c0_4, .slice A0_5 l0_5.length c0_5]) (t := 25) ?hr ?_; (case hd => rfl); (case hg => rfl); (case hr => first | (go_simp; done) | (go_simp; rfl)); intro gb101 hg w12 hbox hb; have n0_ := Aside0.mk (below_step (by repeat (first | (with_reducible first | exact HB.out | apply below_alloc | apply pw_below_drewN | apply below_drew1) | exact HB.out)) hb); have n1_ := Aside0.mk (hbox); have n2_ := Aside0.mk ((by rw [hg]; exact (below_size (by repeat (first | (with_reducible first | exact HB.out | apply below_alloc | apply pw_below_drewN | apply below_drew1) | exact HB.out))) : w.heap.size ≤ gb101)); have n3_ := Aside0.mk ((by rw [hg]; exact (below_size (by repeat (first | (with_reducible first | exact HB.out | apply below_alloc | apply pw_below_drewN | apply below_drew1) | exact HB.out))) : w.heap.size ≤ gb101)); clear HB; have HB := n0_; have BK101 := n1_; have GW101 := n2_; have GE101 := n3_; clear n0_ n1_ n2_ n3_; clear hb hbox hg) | ((with_reducible refine gate_dst (N := 2) rfl ?_); refine box_event ?hg (N := 2) ?hd (cs := #[.int .i64 0, .int .i64 0, .int .i64 0, .bool false, .slice none 0 0]) (t := 28) ?hr ?_; (case hd => rfl); (case hg => rfl); (case hr => first | (go_simp; done) | (go_simp; rfl)); intro gb102 hg w13 hbox hb; have n0_ := Aside0.mk (blk_below (g := gb101) (o := .cells #[.int .i64 a0_0, .int .i64 a0_1, .slice A0_2 l0_2.length c0_2, .slice A0_3 l0_3.length c0_3, .slice A0_4 l0_4.length c0_4, .slice A0_5 l0_5.length c0_5] 25 (0, 0)) (by exact BK101.out) hb); have n1_ := Aside0.mk (below_step (by repeat (first | (with_reducible first | exact HB.out | apply below_alloc | apply pw_below_drewN | apply below_drew1 | refine below_set ?_ GE101.out) | exact HB.out)) hb); have n2_ := Aside0.mk (hbox); have n3_ := Aside0.mk ((by rw [hg]; exact (below_size (by repeat (first | (with_reducible first | exact HB.out | apply below_alloc | apply pw_below_drewN | apply below_drew1 | refine below_set ?_ GE101.out) | exact HB.out))) : w.heap.size ≤ gb102)); have n4_ := Aside0.mk ((by rw [hg]; exact (below_size (by repeat (first | (with_reducible first | exact HB.out | apply below_alloc | apply pw_below_drewN | apply below_drew1 | refine below_set ?_ GE101.out) | exact HB.out))) : w.heap.size ≤ gb102)); have n5_ := Aside0.mk ((by rw [hg]; exact Nat.ne_of_lt (blk_lt (g := gb101) (o := .cells #[.int .i64 a0_0, .int .i64 a0_1, .slice A0_2 l0_2.length c0_2, .slice A0_3 l0_3.length c0_3, .slice A0_4 l0_4.length c0_4, .slice A0_5 l0_5.length c0_5] 25 (0, 0)) (by exact BK101.out)) : gb101 ≠ gb102)); have n6_ := Aside0.mk ((by rw [hg]; exact Nat.ne_of_gt (blk_lt (g := gb101) (o := .cells #[.int .i64 a0_0, .int .i64 a0_1, .slice A0_2 l0_2.length c0_2, .slice A0_3 l0_3.length c0_3, .slice A0_4 l0_4.length c0_4, .slice A0_5 l0_5.length c0_5] 25 (0, 0)) (by exact BK101.out)) : gb102 ≠ gb101)); clear BK101; clear HB; have BK101 := n0_; have HB := n1_; have BK102 := n2_; have GW102 := n3_; have GE102 := n4_; have NB101_102 := n5_; have NB102_101 := n6_; clear n0_ n1_ n2_ n3_ n4_ n5_ n6_; clear hb hbox hg; have hnb14 := NB101_102.out; have hnc14 := NB102_101.out; have hcz15_0 : w13.cell? ⟨gb101, 0, none⟩ = some (.int .i64 a0_0) := (blk_cell BK101.out 0).trans rfl; have hcz15_1 : w13.cell? ⟨gb101, 1, none⟩ = some (.int .i64 a0_1) := (blk_cell BK101.out 1).trans rfl; have hcz15_2 : w13.cell? ⟨gb101, 2, none⟩ = some (.slice A0_2 l0_2.length c0_2) := (blk_cell BK101.out 2).trans rfl; have hcz15_3 : w13.cell? ⟨gb101, 3, none⟩ = some (.slice A0_3 l0_3.length c0_3) := (blk_cell BK101.out 3).trans rfl; have hcz15_4 : w13.cell? ⟨gb101, 4, none⟩ = some (.slice A0_4 l0_4.length c0_4) := (blk_cell BK101.out 4).trans rfl; have hcz15_5 : w13.cell? ⟨gb101, 5, none⟩ = some (.slice A0_5 l0_5.length c0_5) := (blk_cell BK101.out 5).trans rfl; have hfz15_0 := blk_frozen BK101.out 0; have hfz15_1 := blk_frozen BK101.out 1; have hfz15_2 := blk_frozen BK101.out 2; have hfz15_3 := blk_frozen BK101.out 3; have hfz15_4 := blk_frozen BK101.out 4; have hfz15_5 := blk_frozen BK101.out 5) | (go_at_call 81; (with_reducible refine (ostiaryref09_many.calls k _ _ l0_5 t103 _ ?side1 ?side2 A2.out).mono ?_); (case side1 => repeat (first | exact (Kd.C_below HR0_5.out HB.out) | (with_reducible refine Kd.C_alloc ?_ _) | (with_reducible refine Kd.C_drewN ?_ _) | (with_reducible refine Kd.C_drew ?_))); (case side2 => exact HC0_5.out); rintro e w' ⟨rfl, ⟨nd, rfl⟩⟩; (try first | exact ⟨rfl, _, World.drewN_drewN _ _ _⟩ | exact ⟨rfl, _, Eq.trans (World.drewN_drewN _ _ _) (congrArg (World.drewN _) (Nat.add_assoc _ _ _))⟩)) | (go_at_call 81; (with_reducible refine (ostiaryref09_many.calls k _ _ l0_3 t104 _ ?side1 ?side2 A3.out).mono ?_); (case side1 => repeat (first | exact (Kd.C_below HR0_3.out (by repeat (first | (with_reducible first | exact HB.out | apply below_alloc | apply pw_below_drewN | apply below_drew1 | refine below_set ?_ GE101.out | refine below_set ?_ GE102.out) | exact HB.out))) | (with_reducible refine Kd.C_alloc ?_ _) | (with_reducible refine Kd.C_drewN ?_ _) | (with_reducible refine Kd.C_drew ?_))); (case side2 => exact HC0_3.out); rintro e w' ⟨rfl, ⟨nd, rfl⟩⟩; (try first | exact ⟨rfl, _, World.drewN_drewN _ _ _⟩ | exact ⟨rfl, _, Eq.trans (World.drewN_drewN _ _ _) (congrArg (World.drewN _) (Nat.add_assoc _ _ _))⟩)) | (go_at_call 81; (with_reducible refine (ostiaryref09_many.calls k _ _ l0_4 t105 _ ?side1 ?side2 A4.out).mono ?_); (case side1 => repeat (first | exact (Kd.C_below HR0_4.out (by repeat (first | (with_reducible first | exact HB.out | apply below_alloc | apply pw_below_drewN | apply below_drew1 | refine below_set ?_ GE101.out | refine below_set ?_ GE102.out) | exact HB.out))) | (with_reducible refine Kd.C_alloc ?_ _) | (with_reducible refine Kd.C_drewN ?_ _) | (with_reducible refine Kd.C_drew ?_))); (case side2 => exact HC0_4.out); rintro e w' ⟨rfl, ⟨nd, rfl⟩⟩; (try first | exact ⟨rfl, _, World.drewN_drewN _ _ _⟩ | exact ⟨rfl, _, Eq.trans (World.drewN_drewN _ _ _) (congrArg (World.drewN _) (Nat.add_assoc _ _ _))⟩))))
    (try simp only [Act.put, List.setIfInBounds_toArray, List.set_cons_zero, List.set_cons_succ])
    go_cut [35] (fun v35 wc => ∃ (kq : Nat) (x35_10 : Bool), v35 = .bool x35_10 ∧ Aside0 (ostiaryref09_Of.j0 kq x35_10 a0_0 a0_1 l0_2 l0_3 l0_4 l0_5 = some (r1, r2, r3, r4, r5, r6, r7)) ∧ Aside0 (kq ≤ k) ∧ Aside0 (wc.heap[gb101]? = some (.cells #[.int .i64 a0_0, .int .i64 a0_1, (.slice A0_2 l0_2.length c0_2), (.slice A0_3 l0_3.length c0_3), (.slice A0_4 l0_4.length c0_4), (.slice A0_5 l0_5.length c0_5)] 25 (0, 0))) ∧ Aside0 (wc.heap[gb102]? = some (.cells #[.int .i64 0, .int .i64 0, .int .i64 0, .bool false, (.slice none 0 0)] 28 (0, 0))) ∧ Aside0 (Below w.heap.size w wc))
    case first =>
      have H := HC11.out
      clear HC11
      by_cases c16 : t103 = 1
      · rw [if_pos c16] at H
        have c16b0 : (t103 == 1) = true := beq_iff_eq.mpr c16
        have c16b1 : (t103 != 1) = false := bne_eq_false_iff_eq.mpr c16
        clear c16
        (first | rw [c16b0] | (simp only [i64_w, i32_w]; rw [c16b0]) | skip)
        replace H := Option.bind_eq_some_iff.mp H
        obtain ⟨t106, A170, H⟩ := H
        replace H : ((ostiaryref09_many.f k l0_4).bind fun t107 => (ostiaryref09_Of.j0 k (decide ((wrap64 (t106 + t107)) > 0)) a0_0 a0_1 l0_2 l0_3 l0_4 l0_5)) = some (r1, r2, r3, r4, r5, r6, r7) := H
        have A17 := Aside0.mk A170
        clear A170
        replace H := Option.bind_eq_some_iff.mp H
        obtain ⟨t107, A180, H⟩ := H
        replace H : (ostiaryref09_Of.j0 k (decide ((wrap64 (t106 + t107)) > 0)) a0_0 a0_1 l0_2 l0_3 l0_4 l0_5) = some (r1, r2, r3, r4, r5, r6, r7) := H
        have A18 := Aside0.mk A180
        clear A180
        have H' := Aside0.mk H
        clear H
        have hnb19 := NB101_102.out
        have hnc19 := NB102_101.out
        have hcz20_0 : w13.cell? ⟨gb101, 0, none⟩ = some (.int .i64 a0_0) := (blk_cell BK101.out 0).trans rfl
        have hcz20_1 : w13.cell? ⟨gb101, 1, none⟩ = some (.int .i64 a0_1) := (blk_cell BK101.out 1).trans rfl
        have hcz20_2 : w13.cell? ⟨gb101, 2, none⟩ = some (.slice A0_2 l0_2.length c0_2) := (blk_cell BK101.out 2).trans rfl
        have hcz20_3 : w13.cell? ⟨gb101, 3, none⟩ = some (.slice A0_3 l0_3.length c0_3) := (blk_cell BK101.out 3).trans rfl
        have hcz20_4 : w13.cell? ⟨gb101, 4, none⟩ = some (.slice A0_4 l0_4.length c0_4) := (blk_cell BK101.out 4).trans rfl
        have hcz20_5 : w13.cell? ⟨gb101, 5, none⟩ = some (.slice A0_5 l0_5.length c0_5) := (blk_cell BK101.out 5).trans rfl
        have hfz20_0 := blk_frozen BK101.out 0
        have hfz20_1 := blk_frozen BK101.out 1
        have hfz20_2 := blk_frozen BK101.out 2
        have hfz20_3 := blk_frozen BK101.out 3
        have hfz20_4 := blk_frozen BK101.out 4
        have hfz20_5 := blk_frozen BK101.out 5
        go_wp2_with (first | fail)
        repeat (go_quiet (first | (go_at_call 81; (with_reducible refine (ostiaryref09_many.calls k _ _ l0_3 t106 _ ?side1 ?side2 A17.out).mono ?_); (case side1 => repeat (first | exact (Kd.C_below HR0_3.out HB.out) | (with_reducible refine Kd.C_alloc ?_ _) | (with_reducible refine Kd.C_drewN ?_ _) | (with_reducible refine Kd.C_drew ?_))); (case side2 => exact HC0_3.out); rintro e w' ⟨rfl, ⟨nd, rfl⟩⟩; (try first | exact ⟨rfl, _, World.drewN_drewN _ _ _⟩ | exact ⟨rfl, _, Eq.trans (World.drewN_drewN _ _ _) (congrArg (World.drewN _) (Nat.add_assoc _ _ _))⟩)) | (go_at_call 81; (with_reducible refine (ostiaryref09_many.calls k _ _ l0_4 t107 _ ?side1 ?side2 A18.out).mono ?_); (case side1 => repeat (first | exact (Kd.C_below HR0_4.out (by repeat (first | (with_reducible first | exact HB.out | apply below_alloc | apply pw_below_drewN | apply below_drew1 | refine below_set ?_ GE101.out | refine below_set ?_ GE102.out) | exact HB.out))) | (with_reducible refine Kd.C_alloc ?_ _) | (with_reducible refine Kd.C_drewN ?_ _) | (with_reducible refine Kd.C_drew ?_))); (case side2 => exact HC0_4.out); rintro e w' ⟨rfl, ⟨nd, rfl⟩⟩; (try first | exact ⟨rfl, _, World.drewN_drewN _ _ _⟩ | exact ⟨rfl, _, Eq.trans (World.drewN_drewN _ _ _) (congrArg (World.drewN _) (Nat.add_assoc _ _ _))⟩))); try go_wp2_with (first | (go_at_call 81; (with_reducible refine (ostiaryref09_many.calls k _ _ l0_3 t106 _ ?side1 ?side2 A17.out).mono ?_); (case side1 => repeat (first | exact (Kd.C_below HR0_3.out HB.out) | (with_reducible refine Kd.C_alloc ?_ _) | (with_reducible refine Kd.C_drewN ?_ _) | (with_reducible refine Kd.C_drew ?_))); (case side2 => exact HC0_3.out); rintro e w' ⟨rfl, ⟨nd, rfl⟩⟩; (try first | exact ⟨rfl, _, World.drewN_drewN _ _ _⟩ | exact ⟨rfl, _, Eq.trans (World.drewN_drewN _ _ _) (congrArg (World.drewN _) (Nat.add_assoc _ _ _))⟩)) | (go_at_call 81; (with_reducible refine (ostiaryref09_many.calls k _ _ l0_4 t107 _ ?side1 ?side2 A18.out).mono ?_); (case side1 => repeat (first | exact (Kd.C_below HR0_4.out (by repeat (first | (with_reducible first | exact HB.out | apply below_alloc | apply pw_below_drewN | apply below_drew1 | refine below_set ?_ GE101.out | refine below_set ?_ GE102.out) | exact HB.out))) | (with_reducible refine Kd.C_alloc ?_ _) | (with_reducible refine Kd.C_drewN ?_ _) | (with_reducible refine Kd.C_drew ?_))); (case side2 => exact HC0_4.out); rintro e w' ⟨rfl, ⟨nd, rfl⟩⟩; (try first | exact ⟨rfl, _, World.drewN_drewN _ _ _⟩ | exact ⟨rfl, _, Eq.trans (World.drewN_drewN _ _ _) (congrArg (World.drewN _) (Nat.add_assoc _ _ _))⟩))))
        go_meet
        case rel => exact ⟨_, (decide ((wrap64 (t106 + t107)) > 0)), (by first | rfl | (simp; done) | (simp [*]; done)), H', ⟨by first | omega | exact Nat.le_refl _⟩, ⟨by (with_reducible repeat (first | refine blk_drewN ?_ _ | refine blk_drew ?_ | refine blk_alloc ?_ _)); exact BK101.out⟩, ⟨by (with_reducible repeat (first | refine blk_drewN ?_ _ | refine blk_drew ?_ | refine blk_alloc ?_ _)); exact BK102.out⟩, ⟨by repeat (first | (with_reducible first | exact HB.out | apply below_alloc | apply pw_below_drewN | apply below_drew1 | refine below_set ?_ GE101.out | refine below_set ?_ GE102.out) | exact HB.out)⟩⟩
      · rw [if_neg c16] at H
        have c16b0 : (t103 == 1) = false := beq_eq_false_iff_ne.mpr c16
        have c16b1 : (t103 != 1) = true := bne_iff_ne.mpr c16
        (first | rw [c16b0] | (simp only [i64_w, i32_w]; rw [c16b0]) | skip)
        have H' := Aside0.mk H
        clear H
        go_wp2
        repeat (go_quiet (fail); try go_wp2)
        go_meet
        case rel => exact ⟨_, (true), (by first | rfl | (simp; done) | (simp [*]; done)), H', ⟨by first | omega | exact Nat.le_refl _⟩, ⟨by (with_reducible repeat (first | refine blk_drewN ?_ _ | refine blk_drew ?_ | refine blk_alloc ?_ _)); exact BK101.out⟩, ⟨by (with_reducible repeat (first | refine blk_drewN ?_ _ | refine blk_drew ?_ | refine blk_alloc ?_ _)); exact BK102.out⟩, ⟨by repeat (first | (with_reducible first | exact HB.out | apply below_alloc | apply pw_below_drewN | apply below_drew1 | refine below_set ?_ GE101.out | refine below_set ?_ GE102.out) | exact HB.out)⟩⟩
    case rest =>
      clear HC11
      try clear c1
      try clear p2
      try clear c3
      try clear c5
      try clear c5b0
      try clear c5b1
      try clear p6
      try clear c8
      try clear c14
      try clear c16
      try clear c16b0
      try clear c16b1
      try clear c19
      try clear hcz10_0
      try clear hcz10_1
      try clear hcz10_2
      try clear hcz10_3
      try clear hcz10_4
      try clear hcz15_0
      try clear hcz15_1
      try clear hcz15_2
      try clear hcz15_3
      try clear hcz15_4
      try clear hcz15_5
      try clear hcz20_0
      try clear hcz20_1
      try clear hcz20_2
      try clear hcz20_3
      try clear hcz20_4
      try clear hcz20_5
      try clear hcz9_0
      try clear hcz9_1
      try clear hcz9_2
      try clear hcz9_3
      try clear hcz9_4
      try clear hcz9_5
      try clear hfz10_0
      try clear hfz10_1
      try clear hfz10_2
      try clear hfz10_3
      try clear hfz10_4
      try clear hfz15_0
      try clear hfz15_1
      try clear hfz15_2
      try clear hfz15_3
      try clear hfz15_4
      try clear hfz15_5
      try clear hfz20_0
      try clear hfz20_1
      try clear hfz20_2
      try clear hfz20_3
      try clear hfz20_4
      try clear hfz20_5
      try clear hfz9_0
      try clear hfz9_1
      try clear hfz9_2
      try clear hfz9_3
      try clear hfz9_4
      try clear hfz9_5
      obtain ⟨kq, x35_10, rfl, HA, HJ10, BK101, BK102, HB⟩ := hcut
      cases kq with
      | zero => exact absurd HA.out (by simp [ostiaryref09_Of.j0])
      | succ kj10 =>
        have H := HA.out
        clear HA
        simp only [ostiaryref09_Of.j0] at H
        by_cases c21 : x35_10 = true
        · subst c21
          have H1 : (some (0, 0, 0, false, ([] : List (S82)), false, 4)) = some (r1, r2, r3, r4, r5, r6, r7) := by rw [if_pos rfl] at H; exact H
          clear H
          have H := H1
          clear H1
          simp only [Option.some.injEq, Prod.mk.injEq] at H
          obtain ⟨rfl, rfl, rfl, rfl, rfl, rfl, rfl⟩ := H
          have hnb22 := NB102_101.out
          have hnc22 := NB101_102.out
          have hcz23_0 : wc.cell? ⟨gb102, 0, none⟩ = some (.int .i64 0) := (blk_cell BK102.out 0).trans rfl
          have hcz23_1 : wc.cell? ⟨gb102, 1, none⟩ = some (.int .i64 0) := (blk_cell BK102.out 1).trans rfl
          have hcz23_2 : wc.cell? ⟨gb102, 2, none⟩ = some (.int .i64 0) := (blk_cell BK102.out 2).trans rfl
          have hcz23_3 : wc.cell? ⟨gb102, 3, none⟩ = some (.bool false) := (blk_cell BK102.out 3).trans rfl
          have hcz23_4 : wc.cell? ⟨gb102, 4, none⟩ = some (.slice none 0 0) := (blk_cell BK102.out 4).trans rfl
          have hfz23_0 := blk_frozen BK102.out 0
          have hfz23_1 := blk_frozen BK102.out 1
          have hfz23_2 := blk_frozen BK102.out 2
          have hfz23_3 := blk_frozen BK102.out 3
          have hfz23_4 := blk_frozen BK102.out 4
          go_wp2
          repeat (go_quiet (fail); try go_wp2)
          refine bodyPost_ret (results_ctt rfl _ _ gb102 28 #[.int .i64 0, .int .i64 0, .int .i64 0, .bool false, .slice none 0 0] (0, 0) _ rfl (by refine blk_put (cs := #[.int .i64 0, .int .i64 0, .int .i64 0, .bool false, .slice none 0 0]) ?_ 4 _ rfl; refine blk_put (cs := #[.int .i64 0, .int .i64 0, .int .i64 0, .bool false, .slice none 0 0]) ?_ 3 _ rfl; refine blk_put (cs := #[.int .i64 0, .int .i64 0, .int .i64 0, .bool false, .slice none 0 0]) ?_ 2 _ rfl; refine blk_put (cs := #[.int .i64 0, .int .i64 0, .int .i64 0, .bool false, .slice none 0 0]) ?_ 1 _ rfl; refine blk_put (cs := #[.int .i64 0, .int .i64 0, .int .i64 0, .bool false, .slice none 0 0]) ?_ 0 _ rfl; exact BK102.out) Try.underlying28 rfl (by kernel_rfl)) rfl ?_
          exact ⟨_, by first | rfl | (simp [errW_none, errW_some] <;> rfl) | (simp [*, errW_none, errW_some] <;> rfl), by first | exact Kd.R_nil _ _ _ _ _ | exact Kd.N_nil _ _ _ _ _ | exact Kd.V_nil _ _ _ _ _ | exact Kd.Q_nil _ _ _ _ _ | exact Kd.S_nil _ _ _ _ _, by repeat (first | (with_reducible first | exact HB.out | apply below_alloc | apply pw_below_drewN | apply below_drew1 | refine below_set ?_ GE101.out | refine below_set ?_ GE102.out) | exact HB.out)⟩
        · replace c21 := Bool.eq_false_iff.mpr c21
          subst c21
          have H1 : (ostiaryref09_Of.l0 kj10 0 a0_0 a0_1 l0_2 l0_3 l0_4 l0_5) = some (r1, r2, r3, r4, r5, r6, r7) := by rw [if_neg (show ¬ (false = true) by decide)] at H; exact H
          clear H
          have H := H1
          clear H1
          have H' := Aside0.mk H
          clear H
          go_wp2
          repeat (go_quiet (fail); try go_wp2)
          go_loopg [6] kj10 (fun kq v6 w' => ∃ (x6_2 : Int) (x103000_2 : Int) (x103001_2 : Int) (x103002_2 : Int) (x103003_2 : Bool), v6 = .int .i64 x6_2 ∧ Aside0 (ostiaryref09_Of.l0 kq x6_2 a0_0 a0_1 l0_2 l0_3 l0_4 l0_5 = some (r1, r2, r3, r4, r5, r6, r7)) ∧ Aside0 (kq ≤ kj10) ∧ Aside0 (w'.heap[gb101]? = some (.cells #[.int .i64 a0_0, .int .i64 a0_1, (.slice A0_2 l0_2.length c0_2), (.slice A0_3 l0_3.length c0_3), (.slice A0_4 l0_4.length c0_4), (.slice A0_5 l0_5.length c0_5)] 25 (0, 0))) ∧ Aside0 (w'.heap[gb102]? = some (.cells #[.int .i64 x103000_2, .int .i64 x103001_2, .int .i64 x103002_2, .bool x103003_2, (.slice none 0 0)] 28 (0, 0))) ∧ Aside0 (Below w.heap.size w w'))
          case atStart => exact ⟨(0), (0), (0), (0), (false), (by first | rfl | (simp; done) | (simp [*]; done)), H', ⟨Nat.le_refl _⟩, ⟨by exact BK101.out⟩, ⟨by exact BK102.out⟩, ⟨by repeat (first | (with_reducible first | exact HB.out | apply below_alloc | apply pw_below_drewN | apply below_drew1 | refine below_set ?_ GE101.out | refine below_set ?_ GE102.out) | exact HB.out)⟩⟩
          case round =>
            clear H'
            try clear c1
            try clear c2
            try clear p2
            try clear c3
            try clear c5
            try clear c5b0
            try clear c5b1
            try clear p6
            try clear c8
            try clear c14
            try clear c16
            try clear c16b0
            try clear c16b1
            try clear c19
            try clear c21
            try clear c22
            try clear hcz10_0
            try clear hcz10_1
            try clear hcz10_2
            try clear hcz10_3
            try clear hcz10_4
            try clear hcz15_0
            try clear hcz15_1
            try clear hcz15_2
            try clear hcz15_3
            try clear hcz15_4
            try clear hcz15_5
            try clear hcz20_0
            try clear hcz20_1
            try clear hcz20_2
            try clear hcz20_3
            try clear hcz20_4
            try clear hcz20_5
            try clear hcz23_0
            try clear hcz23_1
            try clear hcz23_2
            try clear hcz23_3
            try clear hcz23_4
            try clear hcz9_0
            try clear hcz9_1
            try clear hcz9_2
            try clear hcz9_3
            try clear hcz9_4
            try clear hcz9_5
            try clear hfz10_0
            try clear hfz10_1
            try clear hfz10_2
            try clear hfz10_3
            try clear hfz10_4
            try clear hfz15_0
            try clear hfz15_1
            try clear hfz15_2
            try clear hfz15_3
            try clear hfz15_4
            try clear hfz15_5
            try clear hfz20_0
            try clear hfz20_1
            try clear hfz20_2
            try clear hfz20_3
            try clear hfz20_4
            try clear hfz20_5
            try clear hfz23_0
            try clear hfz23_1
            try clear hfz23_2
            try clear hfz23_3
            try clear hfz23_4
            try clear hfz9_0
            try clear hfz9_1
            try clear hfz9_2
            try clear hfz9_3
            try clear hfz9_4
            try clear hfz9_5
            try clear p2
            try clear p6
            obtain ⟨x6_2, x103000_2, x103001_2, x103002_2, x103003_2, rfl, HA, HK2, BK101, BK102, HB⟩ := hrel
            cases gk with
            | zero => exact absurd HA.out (by simp [ostiaryref09_Of.l0])
            | succ k2 =>
              have H := HA.out
              clear HA
              simp only [ostiaryref09_Of.l0] at H
              by_cases c24 : x6_2 < (l0_5.length : Int)
              · rw [if_pos c24] at H
                have c24b0 : decide (x6_2 < (l0_5.length : Int)) = true := decide_eq_true c24
                clear c24
                by_cases c25 : 0 ≤ x6_2
                · rw [if_pos c25] at H
                  have c25b0 : decide (0 ≤ x6_2) = true := decide_eq_true c25
                  clear c25
                  by_cases c26 : ((rd_T48 l0_5 x6_2).f1) = 41
                  · rw [if_pos c26] at H
                    have c26b0 : (((rd_T48 l0_5 x6_2).f1) == 41) = true := beq_iff_eq.mpr c26
                    have c26b1 : (((rd_T48 l0_5 x6_2).f1) != 41) = false := bne_eq_false_iff_eq.mpr c26
                    clear c26
                    replace H := Option.bind_eq_some_iff.mp H
                    obtain ⟨⟨t110, t111⟩, A270, H⟩ := H
                    replace H : (if ((rd_T48 l0_5 x6_2).f0).toList = ([0] : List UInt8) then ((ostiaryref09_short.f ((rd_T48 l0_5 x6_2).f2)).bind fun t114 => (if t114 = true then (if ((rd_T48 l0_5 x6_2).f3) < 0 then (some (0, 0, 0, false, ([] : List (S82)), false, 4)) else (if ((rd_T48 l0_5 x6_2).f3) ≥ 2147483648 then (some (0, 0, 0, false, ([] : List (S82)), false, 4)) else (if t111 = true then (some ((rd_T48 l0_5 x6_2).f2, ((rd_T48 l0_5 x6_2).f3) / 16777216, Go.bits .and .i64 (((rd_T48 l0_5 x6_2).f3) / 65536) 255, ((Int.tmod (((rd_T48 l0_5 x6_2).f3) / 32768) 2) == 1), t110, true, 0)) else (some (0, 0, 0, false, ([] : List (S82)), false, 4))))) else (some (0, 0, 0, false, ([] : List (S82)), false, 4)))) else (some (0, 0, 0, false, ([] : List (S82)), false, 4))) = some (r1, r2, r3, r4, r5, r6, r7) := H
                    have A27 := Aside0.mk A270
                    clear A270
                    by_cases c28 : ((rd_T48 l0_5 x6_2).f0).toList = ([0] : List UInt8)
                    · rw [if_pos c28] at H
                      have c28b0 : (((rd_T48 l0_5 x6_2).f0).toList == ([0] : List UInt8)) = true := beq_iff_eq.mpr c28
                      have c28b1 : (((rd_T48 l0_5 x6_2).f0).toList != ([0] : List UInt8)) = false := bne_eq_false_iff_eq.mpr c28
                      clear c28
                      replace H := Option.bind_eq_some_iff.mp H
                      obtain ⟨t114, A290, H⟩ := H
                      replace H : (if t114 = true then (if ((rd_T48 l0_5 x6_2).f3) < 0 then (some (0, 0, 0, false, ([] : List (S82)), false, 4)) else (if ((rd_T48 l0_5 x6_2).f3) ≥ 2147483648 then (some (0, 0, 0, false, ([] : List (S82)), false, 4)) else (if t111 = true then (some ((rd_T48 l0_5 x6_2).f2, ((rd_T48 l0_5 x6_2).f3) / 16777216, Go.bits .and .i64 (((rd_T48 l0_5 x6_2).f3) / 65536) 255, ((Int.tmod (((rd_T48 l0_5 x6_2).f3) / 32768) 2) == 1), t110, true, 0)) else (some (0, 0, 0, false, ([] : List (S82)), false, 4))))) else (some (0, 0, 0, false, ([] : List (S82)), false, 4))) = some (r1, r2, r3, r4, r5, r6, r7) := H
                      have A29 := Aside0.mk A290
                      clear A290
                      by_cases c30 : t114 = true
                      · subst c30
                        have H1 : (if ((rd_T48 l0_5 x6_2).f3) < 0 then (some (0, 0, 0, false, ([] : List (S82)), false, 4)) else (if ((rd_T48 l0_5 x6_2).f3) ≥ 2147483648 then (some (0, 0, 0, false, ([] : List (S82)), false, 4)) else (if t111 = true then (some ((rd_T48 l0_5 x6_2).f2, ((rd_T48 l0_5 x6_2).f3) / 16777216, Go.bits .and .i64 (((rd_T48 l0_5 x6_2).f3) / 65536) 255, ((Int.tmod (((rd_T48 l0_5 x6_2).f3) / 32768) 2) == 1), t110, true, 0)) else (some (0, 0, 0, false, ([] : List (S82)), false, 4))))) = some (r1, r2, r3, r4, r5, r6, r7) := by rw [if_pos rfl] at H; exact H
                        clear H
                        have H := H1
                        clear H1
                        by_cases c31 : ((rd_T48 l0_5 x6_2).f3) < 0
                        · rw [if_pos c31] at H
                          have c31b0 : decide (((rd_T48 l0_5 x6_2).f3) < 0) = true := decide_eq_true c31
                          clear c31
                          simp only [Option.some.injEq, Prod.mk.injEq] at H
                          obtain ⟨rfl, rfl, rfl, rfl, rfl, rfl, rfl⟩ := H
                          have hnb32 := NB101_102.out
                          have hnc32 := NB102_101.out
                          have hcz33_0 : wr.cell? ⟨gb101, 0, none⟩ = some (.int .i64 a0_0) := (blk_cell BK101.out 0).trans rfl
                          have hcz33_1 : wr.cell? ⟨gb101, 1, none⟩ = some (.int .i64 a0_1) := (blk_cell BK101.out 1).trans rfl
                          have hcz33_2 : wr.cell? ⟨gb101, 2, none⟩ = some (.slice A0_2 l0_2.length c0_2) := (blk_cell BK101.out 2).trans rfl
                          have hcz33_3 : wr.cell? ⟨gb101, 3, none⟩ = some (.slice A0_3 l0_3.length c0_3) := (blk_cell BK101.out 3).trans rfl
                          have hcz33_4 : wr.cell? ⟨gb101, 4, none⟩ = some (.slice A0_4 l0_4.length c0_4) := (blk_cell BK101.out 4).trans rfl
                          have hcz33_5 : wr.cell? ⟨gb101, 5, none⟩ = some (.slice A0_5 l0_5.length c0_5) := (blk_cell BK101.out 5).trans rfl
                          have hfz33_0 := blk_frozen BK101.out 0
                          have hfz33_1 := blk_frozen BK101.out 1
                          have hfz33_2 := blk_frozen BK101.out 2
                          have hfz33_3 := blk_frozen BK101.out 3
                          have hfz33_4 := blk_frozen BK101.out 4
                          have hfz33_5 := blk_frozen BK101.out 5
                          have p108 : 0 ≤ (x6_2 : Int) := of_decide_eq_true (by first | (with_reducible assumption) | assumption)
                          have q108 : x6_2 < (l0_5.length : Int) := of_decide_eq_true (by first | (with_reducible assumption) | assumption)
                          obtain ⟨ad108, e108, hx108_0, hx108_1, hx108_2, hx108_3, hx108_4⟩ := at_T48 HR0_5.out x6_2 p108 q108
                          cases e108
                          replace hx108_0 := (HB.out.cell (World.block_lt_of_cell? w _ hx108_0)).trans hx108_0
                          replace hx108_1 := (HB.out.cell (World.block_lt_of_cell? w _ hx108_1)).trans hx108_1
                          replace hx108_2 := (HB.out.cell (World.block_lt_of_cell? w _ hx108_2)).trans hx108_2
                          replace hx108_3 := (HB.out.cell (World.block_lt_of_cell? w _ hx108_3)).trans hx108_3
                          replace hx108_4 := (HB.out.cell (World.block_lt_of_cell? w _ hx108_4)).trans hx108_4
                          replace p108 := eq_true p108
                          replace q108 := eq_true q108
                          go_wp2_with (first | ((with_reducible refine gate_dst (N := 7) rfl ?_); refine box_event ?hg (N := 7) ?hd (cs := #[.string (⟨#[]⟩ : ByteArray), .int .i64 0, .int .i64 0, .int .i64 0, .string (⟨#[]⟩ : ByteArray)]) (t := 48) ?hr ?_; (case hd => rfl); (case hg => rfl); (case hr => first | (go_simp; done) | (go_simp; rfl)); intro gb109 hg w34 hbox hb; have n0_ := Aside0.mk (blk_below (g := gb101) (o := .cells #[.int .i64 a0_0, .int .i64 a0_1, .slice A0_2 l0_2.length c0_2, .slice A0_3 l0_3.length c0_3, .slice A0_4 l0_4.length c0_4, .slice (some ad108) l0_5.length c0_5] 25 (0, 0)) (by exact BK101.out) hb); have n1_ := Aside0.mk (blk_below (g := gb102) (o := .cells #[.int .i64 x103000_2, .int .i64 x103001_2, .int .i64 x103002_2, .bool x103003_2, .slice none 0 0] 28 (0, 0)) (by exact BK102.out) hb); have n2_ := Aside0.mk (below_step (by repeat (first | (with_reducible first | exact HB.out | apply below_alloc | apply pw_below_drewN | apply below_drew1 | refine below_set ?_ GE101.out | refine below_set ?_ GE102.out) | exact HB.out)) hb); have n3_ := Aside0.mk (hbox); have n4_ := Aside0.mk ((by rw [hg]; exact (below_size (by repeat (first | (with_reducible first | exact HB.out | apply below_alloc | apply pw_below_drewN | apply below_drew1 | refine below_set ?_ GE101.out | refine below_set ?_ GE102.out) | exact HB.out))) : w.heap.size ≤ gb109)); have n5_ := Aside0.mk ((by rw [hg]; exact (below_size (by repeat (first | (with_reducible first | exact HB.out | apply below_alloc | apply pw_below_drewN | apply below_drew1 | refine below_set ?_ GE101.out | refine below_set ?_ GE102.out) | exact HB.out))) : w.heap.size ≤ gb109)); have n6_ := Aside0.mk ((by rw [hg]; exact Nat.ne_of_lt (blk_lt (g := gb101) (o := .cells #[.int .i64 a0_0, .int .i64 a0_1, .slice A0_2 l0_2.length c0_2, .slice A0_3 l0_3.length c0_3, .slice A0_4 l0_4.length c0_4, .slice (some ad108) l0_5.length c0_5] 25 (0, 0)) (by exact BK101.out)) : gb101 ≠ gb109)); have n7_ := Aside0.mk ((by rw [hg]; exact Nat.ne_of_gt (blk_lt (g := gb101) (o := .cells #[.int .i64 a0_0, .int .i64 a0_1, .slice A0_2 l0_2.length c0_2, .slice A0_3 l0_3.length c0_3, .slice A0_4 l0_4.length c0_4, .slice (some ad108) l0_5.length c0_5] 25 (0, 0)) (by exact BK101.out)) : gb109 ≠ gb101)); have n8_ := Aside0.mk ((by rw [hg]; exact Nat.ne_of_lt (blk_lt (g := gb102) (o := .cells #[.int .i64 x103000_2, .int .i64 x103001_2, .int .i64 x103002_2, .bool x103003_2, .slice none 0 0] 28 (0, 0)) (by exact BK102.out)) : gb102 ≠ gb109)); have n9_ := Aside0.mk ((by rw [hg]; exact Nat.ne_of_gt (blk_lt (g := gb102) (o := .cells #[.int .i64 x103000_2, .int .i64 x103001_2, .int .i64 x103002_2, .bool x103003_2, .slice none 0 0] 28 (0, 0)) (by exact BK102.out)) : gb109 ≠ gb102)); clear BK101; clear BK102; clear HB; have BK101 := n0_; have BK102 := n1_; have HB := n2_; have BK109 := n3_; have GW109 := n4_; have GE109 := n5_; have NB101_109 := n6_; have NB109_101 := n7_; have NB102_109 := n8_; have NB109_102 := n9_; clear n0_ n1_ n2_ n3_ n4_ n5_ n6_ n7_ n8_ n9_; clear hb hbox hg; have hnb35 := NB109_101.out; have hnc35 := NB101_109.out; have hnb36 := NB109_102.out; have hnc36 := NB102_109.out; have hcz37_0 : w34.cell? ⟨gb109, 0, none⟩ = some (.string (⟨#[]⟩ : ByteArray)) := (blk_cell BK109.out 0).trans rfl; have hcz37_1 : w34.cell? ⟨gb109, 1, none⟩ = some (.int .i64 0) := (blk_cell BK109.out 1).trans rfl; have hcz37_2 : w34.cell? ⟨gb109, 2, none⟩ = some (.int .i64 0) := (blk_cell BK109.out 2).trans rfl; have hcz37_3 : w34.cell? ⟨gb109, 3, none⟩ = some (.int .i64 0) := (blk_cell BK109.out 3).trans rfl; have hcz37_4 : w34.cell? ⟨gb109, 4, none⟩ = some (.string (⟨#[]⟩ : ByteArray)) := (blk_cell BK109.out 4).trans rfl; have hfz37_0 := blk_frozen BK109.out 0; have hfz37_1 := blk_frozen BK109.out 1; have hfz37_2 := blk_frozen BK109.out 2; have hfz37_3 := blk_frozen BK109.out 3; have hfz37_4 := blk_frozen BK109.out 4) | (go_at_call 89; (with_reducible refine (ostiaryref09_options.calls k2 ((rd_T48 l0_5 x6_2).f4) t110 t111 _ A27.out).mono ?_); rintro e w38 ⟨v112, rfl, ho0, hb⟩; have n0_ := Aside0.mk (Kd.R_lower ho0 (below_size (by repeat (first | (with_reducible first | exact HB.out | apply below_alloc | apply pw_below_drewN | apply below_drew1 | refine below_set ?_ GE101.out | refine below_set ?_ GE102.out | refine below_set ?_ GE109.out) | exact HB.out)))); have n1_ := Aside0.mk (blk_below (g := gb101) (o := .cells #[.int .i64 a0_0, .int .i64 a0_1, .slice A0_2 l0_2.length c0_2, .slice A0_3 l0_3.length c0_3, .slice A0_4 l0_4.length c0_4, .slice (some ad108) l0_5.length c0_5] 25 (0, 0)) (by refine blk_far ?_ NB101_109.out _; refine blk_far ?_ NB101_109.out _; refine blk_far ?_ NB101_109.out _; refine blk_far ?_ NB101_109.out _; refine blk_far ?_ NB101_109.out _; exact BK101.out) hb); have n2_ := Aside0.mk (blk_below (g := gb102) (o := .cells #[.int .i64 x103000_2, .int .i64 x103001_2, .int .i64 x103002_2, .bool x103003_2, .slice none 0 0] 28 (0, 0)) (by refine blk_far ?_ NB102_109.out _; refine blk_far ?_ NB102_109.out _; refine blk_far ?_ NB102_109.out _; refine blk_far ?_ NB102_109.out _; refine blk_far ?_ NB102_109.out _; exact BK102.out) hb); have n3_ := Aside0.mk (blk_below (g := gb109) (o := .cells #[.string ((rd_T48 l0_5 x6_2).f0), .int .i64 ((rd_T48 l0_5 x6_2).f1), .int .i64 ((rd_T48 l0_5 x6_2).f2), .int .i64 ((rd_T48 l0_5 x6_2).f3), .string ((rd_T48 l0_5 x6_2).f4)] 48 (0, 0)) (by refine blk_put (cs := #[.string ((rd_T48 l0_5 x6_2).f0), .int .i64 ((rd_T48 l0_5 x6_2).f1), .int .i64 ((rd_T48 l0_5 x6_2).f2), .int .i64 ((rd_T48 l0_5 x6_2).f3), .string (⟨#[]⟩ : ByteArray)]) ?_ 4 _ rfl; refine blk_put (cs := #[.string ((rd_T48 l0_5 x6_2).f0), .int .i64 ((rd_T48 l0_5 x6_2).f1), .int .i64 ((rd_T48 l0_5 x6_2).f2), .int .i64 0, .string (⟨#[]⟩ : ByteArray)]) ?_ 3 _ rfl; refine blk_put (cs := #[.string ((rd_T48 l0_5 x6_2).f0), .int .i64 ((rd_T48 l0_5 x6_2).f1), .int .i64 0, .int .i64 0, .string (⟨#[]⟩ : ByteArray)]) ?_ 2 _ rfl; refine blk_put (cs := #[.string ((rd_T48 l0_5 x6_2).f0), .int .i64 0, .int .i64 0, .int .i64 0, .string (⟨#[]⟩ : ByteArray)]) ?_ 1 _ rfl; refine blk_put (cs := #[.string (⟨#[]⟩ : ByteArray), .int .i64 0, .int .i64 0, .int .i64 0, .string (⟨#[]⟩ : ByteArray)]) ?_ 0 _ rfl; exact BK109.out) hb); have n4_ := Aside0.mk (below_step (by repeat (first | (with_reducible first | exact HB.out | apply below_alloc | apply pw_below_drewN | apply below_drew1 | refine below_set ?_ GE101.out | refine below_set ?_ GE102.out | refine below_set ?_ GE109.out) | exact HB.out)) hb); clear BK101; clear BK102; clear BK109; clear HB; have HO113 := n0_; have BK101 := n1_; have BK102 := n2_; have BK109 := n3_; have HB := n4_; clear n0_ n1_ n2_ n3_ n4_; (try clear hb); (try clear hb2); (try clear hk); (try clear hi); (try clear ho0); have hcz39_0 : w38.cell? ⟨gb109, 0, none⟩ = some (.string ((rd_T48 l0_5 x6_2).f0)) := (blk_cell BK109.out 0).trans rfl; have hcz39_1 : w38.cell? ⟨gb109, 1, none⟩ = some (.int .i64 ((rd_T48 l0_5 x6_2).f1)) := (blk_cell BK109.out 1).trans rfl; have hcz39_2 : w38.cell? ⟨gb109, 2, none⟩ = some (.int .i64 ((rd_T48 l0_5 x6_2).f2)) := (blk_cell BK109.out 2).trans rfl; have hcz39_3 : w38.cell? ⟨gb109, 3, none⟩ = some (.int .i64 ((rd_T48 l0_5 x6_2).f3)) := (blk_cell BK109.out 3).trans rfl; have hcz39_4 : w38.cell? ⟨gb109, 4, none⟩ = some (.string ((rd_T48 l0_5 x6_2).f4)) := (blk_cell BK109.out 4).trans rfl; have hfz39_0 := blk_frozen BK109.out 0; have hfz39_1 := blk_frozen BK109.out 1; have hfz39_2 := blk_frozen BK109.out 2; have hfz39_3 := blk_frozen BK109.out 3; have hfz39_4 := blk_frozen BK109.out 4) | (go_at_call 85; (with_reducible refine (ostiaryref09_short.calls ((rd_T48 l0_5 x6_2).f2) true _ A29.out).mono ?_); rintro e w' ⟨rfl, ⟨nd, rfl⟩⟩; (try first | exact ⟨rfl, _, World.drewN_drewN _ _ _⟩ | exact ⟨rfl, _, Eq.trans (World.drewN_drewN _ _ _) (congrArg (World.drewN _) (Nat.add_assoc _ _ _))⟩); have hcz40_0 : w38.cell? ⟨gb102, 0, none⟩ = some (.int .i64 x103000_2) := (blk_cell BK102.out 0).trans rfl; have hcz40_1 : w38.cell? ⟨gb102, 1, none⟩ = some (.int .i64 x103001_2) := (blk_cell BK102.out 1).trans rfl; have hcz40_2 : w38.cell? ⟨gb102, 2, none⟩ = some (.int .i64 x103002_2) := (blk_cell BK102.out 2).trans rfl; have hcz40_3 : w38.cell? ⟨gb102, 3, none⟩ = some (.bool x103003_2) := (blk_cell BK102.out 3).trans rfl; have hcz40_4 : w38.cell? ⟨gb102, 4, none⟩ = some (.slice none 0 0) := (blk_cell BK102.out 4).trans rfl; have hfz40_0 := blk_frozen BK102.out 0; have hfz40_1 := blk_frozen BK102.out 1; have hfz40_2 := blk_frozen BK102.out 2; have hfz40_3 := blk_frozen BK102.out 3; have hfz40_4 := blk_frozen BK102.out 4))
                          refine bodyPost_ret (results_ctt rfl _ _ gb102 28 #[.int .i64 0, .int .i64 0, .int .i64 0, .bool false, .slice none 0 0] (0, 0) _ rfl (by refine blk_put (cs := #[.int .i64 0, .int .i64 0, .int .i64 0, .bool false, .slice none 0 0]) ?_ 4 _ rfl; refine blk_put (cs := #[.int .i64 0, .int .i64 0, .int .i64 0, .bool x103003_2, .slice none 0 0]) ?_ 3 _ rfl; refine blk_put (cs := #[.int .i64 0, .int .i64 0, .int .i64 x103002_2, .bool x103003_2, .slice none 0 0]) ?_ 2 _ rfl; refine blk_put (cs := #[.int .i64 0, .int .i64 x103001_2, .int .i64 x103002_2, .bool x103003_2, .slice none 0 0]) ?_ 1 _ rfl; refine blk_put (cs := #[.int .i64 x103000_2, .int .i64 x103001_2, .int .i64 x103002_2, .bool x103003_2, .slice none 0 0]) ?_ 0 _ rfl; (with_reducible repeat (first | refine blk_drewN ?_ _ | refine blk_drew ?_ | refine blk_alloc ?_ _)); exact BK102.out) Try.underlying28 rfl (by kernel_rfl)) rfl ?_
                          exact ⟨_, by first | rfl | (simp [errW_none, errW_some] <;> rfl) | (simp [*, errW_none, errW_some] <;> rfl), by first | exact Kd.R_nil _ _ _ _ _ | exact Kd.N_nil _ _ _ _ _ | exact Kd.V_nil _ _ _ _ _ | exact Kd.Q_nil _ _ _ _ _ | exact Kd.S_nil _ _ _ _ _, by repeat (first | (with_reducible first | exact HB.out | apply below_alloc | apply pw_below_drewN | apply below_drew1 | refine below_set ?_ GE101.out | refine below_set ?_ GE102.out | refine below_set ?_ GE109.out) | exact HB.out)⟩
                        · rw [if_neg c31] at H
                          have c31b0 : decide (((rd_T48 l0_5 x6_2).f3) < 0) = false := decide_eq_false c31
                          clear c31
                          by_cases c41 : ((rd_T48 l0_5 x6_2).f3) ≥ 2147483648
                          · rw [if_pos c41] at H
                            have c41b0 : decide (2147483648 ≤ ((rd_T48 l0_5 x6_2).f3)) = true := decide_eq_true c41
                            clear c41
                            simp only [Option.some.injEq, Prod.mk.injEq] at H
                            obtain ⟨rfl, rfl, rfl, rfl, rfl, rfl, rfl⟩ := H
                            have hnb42 := NB101_102.out
                            have hnc42 := NB102_101.out
                            have hcz43_0 : wr.cell? ⟨gb101, 0, none⟩ = some (.int .i64 a0_0) := (blk_cell BK101.out 0).trans rfl
                            have hcz43_1 : wr.cell? ⟨gb101, 1, none⟩ = some (.int .i64 a0_1) := (blk_cell BK101.out 1).trans rfl
                            have hcz43_2 : wr.cell? ⟨gb101, 2, none⟩ = some (.slice A0_2 l0_2.length c0_2) := (blk_cell BK101.out 2).trans rfl
                            have hcz43_3 : wr.cell? ⟨gb101, 3, none⟩ = some (.slice A0_3 l0_3.length c0_3) := (blk_cell BK101.out 3).trans rfl
                            have hcz43_4 : wr.cell? ⟨gb101, 4, none⟩ = some (.slice A0_4 l0_4.length c0_4) := (blk_cell BK101.out 4).trans rfl
                            have hcz43_5 : wr.cell? ⟨gb101, 5, none⟩ = some (.slice A0_5 l0_5.length c0_5) := (blk_cell BK101.out 5).trans rfl
                            have hfz43_0 := blk_frozen BK101.out 0
                            have hfz43_1 := blk_frozen BK101.out 1
                            have hfz43_2 := blk_frozen BK101.out 2
                            have hfz43_3 := blk_frozen BK101.out 3
                            have hfz43_4 := blk_frozen BK101.out 4
                            have hfz43_5 := blk_frozen BK101.out 5
                            have p108 : 0 ≤ (x6_2 : Int) := of_decide_eq_true (by first | (with_reducible assumption) | assumption)
                            have q108 : x6_2 < (l0_5.length : Int) := of_decide_eq_true (by first | (with_reducible assumption) | assumption)
                            obtain ⟨ad108, e108, hx108_0, hx108_1, hx108_2, hx108_3, hx108_4⟩ := at_T48 HR0_5.out x6_2 p108 q108
                            cases e108
                            replace hx108_0 := (HB.out.cell (World.block_lt_of_cell? w _ hx108_0)).trans hx108_0
                            replace hx108_1 := (HB.out.cell (World.block_lt_of_cell? w _ hx108_1)).trans hx108_1
                            replace hx108_2 := (HB.out.cell (World.block_lt_of_cell? w _ hx108_2)).trans hx108_2
                            replace hx108_3 := (HB.out.cell (World.block_lt_of_cell? w _ hx108_3)).trans hx108_3
                            replace hx108_4 := (HB.out.cell (World.block_lt_of_cell? w _ hx108_4)).trans hx108_4
                            replace p108 := eq_true p108
                            replace q108 := eq_true q108
                            go_wp2_with (first | ((with_reducible refine gate_dst (N := 7) rfl ?_); refine box_event ?hg (N := 7) ?hd (cs := #[.string (⟨#[]⟩ : ByteArray), .int .i64 0, .int .i64 0, .int .i64 0, .string (⟨#[]⟩ : ByteArray)]) (t := 48) ?hr ?_; (case hd => rfl); (case hg => rfl); (case hr => first | (go_simp; done) | (go_simp; rfl)); intro gb109 hg w44 hbox hb; have n0_ := Aside0.mk (blk_below (g := gb101) (o := .cells #[.int .i64 a0_0, .int .i64 a0_1, .slice A0_2 l0_2.length c0_2, .slice A0_3 l0_3.length c0_3, .slice A0_4 l0_4.length c0_4, .slice (some ad108) l0_5.length c0_5] 25 (0, 0)) (by exact BK101.out) hb); have n1_ := Aside0.mk (blk_below (g := gb102) (o := .cells #[.int .i64 x103000_2, .int .i64 x103001_2, .int .i64 x103002_2, .bool x103003_2, .slice none 0 0] 28 (0, 0)) (by exact BK102.out) hb); have n2_ := Aside0.mk (below_step (by repeat (first | (with_reducible first | exact HB.out | apply below_alloc | apply pw_below_drewN | apply below_drew1 | refine below_set ?_ GE101.out | refine below_set ?_ GE102.out) | exact HB.out)) hb); have n3_ := Aside0.mk (hbox); have n4_ := Aside0.mk ((by rw [hg]; exact (below_size (by repeat (first | (with_reducible first | exact HB.out | apply below_alloc | apply pw_below_drewN | apply below_drew1 | refine below_set ?_ GE101.out | refine below_set ?_ GE102.out) | exact HB.out))) : w.heap.size ≤ gb109)); have n5_ := Aside0.mk ((by rw [hg]; exact (below_size (by repeat (first | (with_reducible first | exact HB.out | apply below_alloc | apply pw_below_drewN | apply below_drew1 | refine below_set ?_ GE101.out | refine below_set ?_ GE102.out) | exact HB.out))) : w.heap.size ≤ gb109)); have n6_ := Aside0.mk ((by rw [hg]; exact Nat.ne_of_lt (blk_lt (g := gb101) (o := .cells #[.int .i64 a0_0, .int .i64 a0_1, .slice A0_2 l0_2.length c0_2, .slice A0_3 l0_3.length c0_3, .slice A0_4 l0_4.length c0_4, .slice (some ad108) l0_5.length c0_5] 25 (0, 0)) (by exact BK101.out)) : gb101 ≠ gb109)); have n7_ := Aside0.mk ((by rw [hg]; exact Nat.ne_of_gt (blk_lt (g := gb101) (o := .cells #[.int .i64 a0_0, .int .i64 a0_1, .slice A0_2 l0_2.length c0_2, .slice A0_3 l0_3.length c0_3, .slice A0_4 l0_4.length c0_4, .slice (some ad108) l0_5.length c0_5] 25 (0, 0)) (by exact BK101.out)) : gb109 ≠ gb101)); have n8_ := Aside0.mk ((by rw [hg]; exact Nat.ne_of_lt (blk_lt (g := gb102) (o := .cells #[.int .i64 x103000_2, .int .i64 x103001_2, .int .i64 x103002_2, .bool x103003_2, .slice none 0 0] 28 (0, 0)) (by exact BK102.out)) : gb102 ≠ gb109)); have n9_ := Aside0.mk ((by rw [hg]; exact Nat.ne_of_gt (blk_lt (g := gb102) (o := .cells #[.int .i64 x103000_2, .int .i64 x103001_2, .int .i64 x103002_2, .bool x103003_2, .slice none 0 0] 28 (0, 0)) (by exact BK102.out)) : gb109 ≠ gb102)); clear BK101; clear BK102; clear HB; have BK101 := n0_; have BK102 := n1_; have HB := n2_; have BK109 := n3_; have GW109 := n4_; have GE109 := n5_; have NB101_109 := n6_; have NB109_101 := n7_; have NB102_109 := n8_; have NB109_102 := n9_; clear n0_ n1_ n2_ n3_ n4_ n5_ n6_ n7_ n8_ n9_; clear hb hbox hg; have hnb45 := NB109_101.out; have hnc45 := NB101_109.out; have hnb46 := NB109_102.out; have hnc46 := NB102_109.out; have hcz47_0 : w44.cell? ⟨gb109, 0, none⟩ = some (.string (⟨#[]⟩ : ByteArray)) := (blk_cell BK109.out 0).trans rfl; have hcz47_1 : w44.cell? ⟨gb109, 1, none⟩ = some (.int .i64 0) := (blk_cell BK109.out 1).trans rfl; have hcz47_2 : w44.cell? ⟨gb109, 2, none⟩ = some (.int .i64 0) := (blk_cell BK109.out 2).trans rfl; have hcz47_3 : w44.cell? ⟨gb109, 3, none⟩ = some (.int .i64 0) := (blk_cell BK109.out 3).trans rfl; have hcz47_4 : w44.cell? ⟨gb109, 4, none⟩ = some (.string (⟨#[]⟩ : ByteArray)) := (blk_cell BK109.out 4).trans rfl; have hfz47_0 := blk_frozen BK109.out 0; have hfz47_1 := blk_frozen BK109.out 1; have hfz47_2 := blk_frozen BK109.out 2; have hfz47_3 := blk_frozen BK109.out 3; have hfz47_4 := blk_frozen BK109.out 4) | (go_at_call 89; (with_reducible refine (ostiaryref09_options.calls k2 ((rd_T48 l0_5 x6_2).f4) t110 t111 _ A27.out).mono ?_); rintro e w48 ⟨v112, rfl, ho0, hb⟩; have n0_ := Aside0.mk (Kd.R_lower ho0 (below_size (by repeat (first | (with_reducible first | exact HB.out | apply below_alloc | apply pw_below_drewN | apply below_drew1 | refine below_set ?_ GE101.out | refine below_set ?_ GE102.out | refine below_set ?_ GE109.out) | exact HB.out)))); have n1_ := Aside0.mk (blk_below (g := gb101) (o := .cells #[.int .i64 a0_0, .int .i64 a0_1, .slice A0_2 l0_2.length c0_2, .slice A0_3 l0_3.length c0_3, .slice A0_4 l0_4.length c0_4, .slice (some ad108) l0_5.length c0_5] 25 (0, 0)) (by refine blk_far ?_ NB101_109.out _; refine blk_far ?_ NB101_109.out _; refine blk_far ?_ NB101_109.out _; refine blk_far ?_ NB101_109.out _; refine blk_far ?_ NB101_109.out _; exact BK101.out) hb); have n2_ := Aside0.mk (blk_below (g := gb102) (o := .cells #[.int .i64 x103000_2, .int .i64 x103001_2, .int .i64 x103002_2, .bool x103003_2, .slice none 0 0] 28 (0, 0)) (by refine blk_far ?_ NB102_109.out _; refine blk_far ?_ NB102_109.out _; refine blk_far ?_ NB102_109.out _; refine blk_far ?_ NB102_109.out _; refine blk_far ?_ NB102_109.out _; exact BK102.out) hb); have n3_ := Aside0.mk (blk_below (g := gb109) (o := .cells #[.string ((rd_T48 l0_5 x6_2).f0), .int .i64 ((rd_T48 l0_5 x6_2).f1), .int .i64 ((rd_T48 l0_5 x6_2).f2), .int .i64 ((rd_T48 l0_5 x6_2).f3), .string ((rd_T48 l0_5 x6_2).f4)] 48 (0, 0)) (by refine blk_put (cs := #[.string ((rd_T48 l0_5 x6_2).f0), .int .i64 ((rd_T48 l0_5 x6_2).f1), .int .i64 ((rd_T48 l0_5 x6_2).f2), .int .i64 ((rd_T48 l0_5 x6_2).f3), .string (⟨#[]⟩ : ByteArray)]) ?_ 4 _ rfl; refine blk_put (cs := #[.string ((rd_T48 l0_5 x6_2).f0), .int .i64 ((rd_T48 l0_5 x6_2).f1), .int .i64 ((rd_T48 l0_5 x6_2).f2), .int .i64 0, .string (⟨#[]⟩ : ByteArray)]) ?_ 3 _ rfl; refine blk_put (cs := #[.string ((rd_T48 l0_5 x6_2).f0), .int .i64 ((rd_T48 l0_5 x6_2).f1), .int .i64 0, .int .i64 0, .string (⟨#[]⟩ : ByteArray)]) ?_ 2 _ rfl; refine blk_put (cs := #[.string ((rd_T48 l0_5 x6_2).f0), .int .i64 0, .int .i64 0, .int .i64 0, .string (⟨#[]⟩ : ByteArray)]) ?_ 1 _ rfl; refine blk_put (cs := #[.string (⟨#[]⟩ : ByteArray), .int .i64 0, .int .i64 0, .int .i64 0, .string (⟨#[]⟩ : ByteArray)]) ?_ 0 _ rfl; exact BK109.out) hb); have n4_ := Aside0.mk (below_step (by repeat (first | (with_reducible first | exact HB.out | apply below_alloc | apply pw_below_drewN | apply below_drew1 | refine below_set ?_ GE101.out | refine below_set ?_ GE102.out | refine below_set ?_ GE109.out) | exact HB.out)) hb); clear BK101; clear BK102; clear BK109; clear HB; have HO113 := n0_; have BK101 := n1_; have BK102 := n2_; have BK109 := n3_; have HB := n4_; clear n0_ n1_ n2_ n3_ n4_; (try clear hb); (try clear hb2); (try clear hk); (try clear hi); (try clear ho0); have hcz49_0 : w48.cell? ⟨gb109, 0, none⟩ = some (.string ((rd_T48 l0_5 x6_2).f0)) := (blk_cell BK109.out 0).trans rfl; have hcz49_1 : w48.cell? ⟨gb109, 1, none⟩ = some (.int .i64 ((rd_T48 l0_5 x6_2).f1)) := (blk_cell BK109.out 1).trans rfl; have hcz49_2 : w48.cell? ⟨gb109, 2, none⟩ = some (.int .i64 ((rd_T48 l0_5 x6_2).f2)) := (blk_cell BK109.out 2).trans rfl; have hcz49_3 : w48.cell? ⟨gb109, 3, none⟩ = some (.int .i64 ((rd_T48 l0_5 x6_2).f3)) := (blk_cell BK109.out 3).trans rfl; have hcz49_4 : w48.cell? ⟨gb109, 4, none⟩ = some (.string ((rd_T48 l0_5 x6_2).f4)) := (blk_cell BK109.out 4).trans rfl; have hfz49_0 := blk_frozen BK109.out 0; have hfz49_1 := blk_frozen BK109.out 1; have hfz49_2 := blk_frozen BK109.out 2; have hfz49_3 := blk_frozen BK109.out 3; have hfz49_4 := blk_frozen BK109.out 4) | (go_at_call 85; (with_reducible refine (ostiaryref09_short.calls ((rd_T48 l0_5 x6_2).f2) true _ A29.out).mono ?_); rintro e w' ⟨rfl, ⟨nd, rfl⟩⟩; (try first | exact ⟨rfl, _, World.drewN_drewN _ _ _⟩ | exact ⟨rfl, _, Eq.trans (World.drewN_drewN _ _ _) (congrArg (World.drewN _) (Nat.add_assoc _ _ _))⟩); have hcz50_0 : w48.cell? ⟨gb102, 0, none⟩ = some (.int .i64 x103000_2) := (blk_cell BK102.out 0).trans rfl; have hcz50_1 : w48.cell? ⟨gb102, 1, none⟩ = some (.int .i64 x103001_2) := (blk_cell BK102.out 1).trans rfl; have hcz50_2 : w48.cell? ⟨gb102, 2, none⟩ = some (.int .i64 x103002_2) := (blk_cell BK102.out 2).trans rfl; have hcz50_3 : w48.cell? ⟨gb102, 3, none⟩ = some (.bool x103003_2) := (blk_cell BK102.out 3).trans rfl; have hcz50_4 : w48.cell? ⟨gb102, 4, none⟩ = some (.slice none 0 0) := (blk_cell BK102.out 4).trans rfl; have hfz50_0 := blk_frozen BK102.out 0; have hfz50_1 := blk_frozen BK102.out 1; have hfz50_2 := blk_frozen BK102.out 2; have hfz50_3 := blk_frozen BK102.out 3; have hfz50_4 := blk_frozen BK102.out 4))
                            refine bodyPost_ret (results_ctt rfl _ _ gb102 28 #[.int .i64 0, .int .i64 0, .int .i64 0, .bool false, .slice none 0 0] (0, 0) _ rfl (by refine blk_put (cs := #[.int .i64 0, .int .i64 0, .int .i64 0, .bool false, .slice none 0 0]) ?_ 4 _ rfl; refine blk_put (cs := #[.int .i64 0, .int .i64 0, .int .i64 0, .bool x103003_2, .slice none 0 0]) ?_ 3 _ rfl; refine blk_put (cs := #[.int .i64 0, .int .i64 0, .int .i64 x103002_2, .bool x103003_2, .slice none 0 0]) ?_ 2 _ rfl; refine blk_put (cs := #[.int .i64 0, .int .i64 x103001_2, .int .i64 x103002_2, .bool x103003_2, .slice none 0 0]) ?_ 1 _ rfl; refine blk_put (cs := #[.int .i64 x103000_2, .int .i64 x103001_2, .int .i64 x103002_2, .bool x103003_2, .slice none 0 0]) ?_ 0 _ rfl; (with_reducible repeat (first | refine blk_drewN ?_ _ | refine blk_drew ?_ | refine blk_alloc ?_ _)); exact BK102.out) Try.underlying28 rfl (by kernel_rfl)) rfl ?_
                            exact ⟨_, by first | rfl | (simp [errW_none, errW_some] <;> rfl) | (simp [*, errW_none, errW_some] <;> rfl), by first | exact Kd.R_nil _ _ _ _ _ | exact Kd.N_nil _ _ _ _ _ | exact Kd.V_nil _ _ _ _ _ | exact Kd.Q_nil _ _ _ _ _ | exact Kd.S_nil _ _ _ _ _, by repeat (first | (with_reducible first | exact HB.out | apply below_alloc | apply pw_below_drewN | apply below_drew1 | refine below_set ?_ GE101.out | refine below_set ?_ GE102.out | refine below_set ?_ GE109.out) | exact HB.out)⟩
                          · rw [if_neg c41] at H
                            have c41b0 : decide (2147483648 ≤ ((rd_T48 l0_5 x6_2).f3)) = false := decide_eq_false c41
                            clear c41
                            by_cases c51 : t111 = true
                            · subst c51
                              have H1 : (some ((rd_T48 l0_5 x6_2).f2, ((rd_T48 l0_5 x6_2).f3) / 16777216, Go.bits .and .i64 (((rd_T48 l0_5 x6_2).f3) / 65536) 255, ((Int.tmod (((rd_T48 l0_5 x6_2).f3) / 32768) 2) == 1), t110, true, 0)) = some (r1, r2, r3, r4, r5, r6, r7) := by rw [if_pos rfl] at H; exact H
                              clear H
                              have H := H1
                              clear H1
                              simp only [Option.some.injEq, Prod.mk.injEq] at H
                              obtain ⟨rfl, rfl, rfl, rfl, rfl, rfl, rfl⟩ := H
                              have hnb52 := NB101_102.out
                              have hnc52 := NB102_101.out
                              have hcz53_0 : wr.cell? ⟨gb101, 0, none⟩ = some (.int .i64 a0_0) := (blk_cell BK101.out 0).trans rfl
                              have hcz53_1 : wr.cell? ⟨gb101, 1, none⟩ = some (.int .i64 a0_1) := (blk_cell BK101.out 1).trans rfl
                              have hcz53_2 : wr.cell? ⟨gb101, 2, none⟩ = some (.slice A0_2 l0_2.length c0_2) := (blk_cell BK101.out 2).trans rfl
                              have hcz53_3 : wr.cell? ⟨gb101, 3, none⟩ = some (.slice A0_3 l0_3.length c0_3) := (blk_cell BK101.out 3).trans rfl
                              have hcz53_4 : wr.cell? ⟨gb101, 4, none⟩ = some (.slice A0_4 l0_4.length c0_4) := (blk_cell BK101.out 4).trans rfl
                              have hcz53_5 : wr.cell? ⟨gb101, 5, none⟩ = some (.slice A0_5 l0_5.length c0_5) := (blk_cell BK101.out 5).trans rfl
                              have hfz53_0 := blk_frozen BK101.out 0
                              have hfz53_1 := blk_frozen BK101.out 1
                              have hfz53_2 := blk_frozen BK101.out 2
                              have hfz53_3 := blk_frozen BK101.out 3
                              have hfz53_4 := blk_frozen BK101.out 4
                              have hfz53_5 := blk_frozen BK101.out 5
                              have p108 : 0 ≤ (x6_2 : Int) := of_decide_eq_true (by first | (with_reducible assumption) | assumption)
                              have q108 : x6_2 < (l0_5.length : Int) := of_decide_eq_true (by first | (with_reducible assumption) | assumption)
                              obtain ⟨ad108, e108, hx108_0, hx108_1, hx108_2, hx108_3, hx108_4⟩ := at_T48 HR0_5.out x6_2 p108 q108
                              cases e108
                              replace hx108_0 := (HB.out.cell (World.block_lt_of_cell? w _ hx108_0)).trans hx108_0
                              replace hx108_1 := (HB.out.cell (World.block_lt_of_cell? w _ hx108_1)).trans hx108_1
                              replace hx108_2 := (HB.out.cell (World.block_lt_of_cell? w _ hx108_2)).trans hx108_2
                              replace hx108_3 := (HB.out.cell (World.block_lt_of_cell? w _ hx108_3)).trans hx108_3
                              replace hx108_4 := (HB.out.cell (World.block_lt_of_cell? w _ hx108_4)).trans hx108_4
                              replace p108 := eq_true p108
                              replace q108 := eq_true q108
                              go_wp2_with (first | ((with_reducible refine gate_dst (N := 7) rfl ?_); refine box_event ?hg (N := 7) ?hd (cs := #[.string (⟨#[]⟩ : ByteArray), .int .i64 0, .int .i64 0, .int .i64 0, .string (⟨#[]⟩ : ByteArray)]) (t := 48) ?hr ?_; (case hd => rfl); (case hg => rfl); (case hr => first | (go_simp; done) | (go_simp; rfl)); intro gb109 hg w54 hbox hb; have n0_ := Aside0.mk (blk_below (g := gb101) (o := .cells #[.int .i64 a0_0, .int .i64 a0_1, .slice A0_2 l0_2.length c0_2, .slice A0_3 l0_3.length c0_3, .slice A0_4 l0_4.length c0_4, .slice (some ad108) l0_5.length c0_5] 25 (0, 0)) (by exact BK101.out) hb); have n1_ := Aside0.mk (blk_below (g := gb102) (o := .cells #[.int .i64 x103000_2, .int .i64 x103001_2, .int .i64 x103002_2, .bool x103003_2, .slice none 0 0] 28 (0, 0)) (by exact BK102.out) hb); have n2_ := Aside0.mk (below_step (by repeat (first | (with_reducible first | exact HB.out | apply below_alloc | apply pw_below_drewN | apply below_drew1 | refine below_set ?_ GE101.out | refine below_set ?_ GE102.out) | exact HB.out)) hb); have n3_ := Aside0.mk (hbox); have n4_ := Aside0.mk ((by rw [hg]; exact (below_size (by repeat (first | (with_reducible first | exact HB.out | apply below_alloc | apply pw_below_drewN | apply below_drew1 | refine below_set ?_ GE101.out | refine below_set ?_ GE102.out) | exact HB.out))) : w.heap.size ≤ gb109)); have n5_ := Aside0.mk ((by rw [hg]; exact (below_size (by repeat (first | (with_reducible first | exact HB.out | apply below_alloc | apply pw_below_drewN | apply below_drew1 | refine below_set ?_ GE101.out | refine below_set ?_ GE102.out) | exact HB.out))) : w.heap.size ≤ gb109)); have n6_ := Aside0.mk ((by rw [hg]; exact Nat.ne_of_lt (blk_lt (g := gb101) (o := .cells #[.int .i64 a0_0, .int .i64 a0_1, .slice A0_2 l0_2.length c0_2, .slice A0_3 l0_3.length c0_3, .slice A0_4 l0_4.length c0_4, .slice (some ad108) l0_5.length c0_5] 25 (0, 0)) (by exact BK101.out)) : gb101 ≠ gb109)); have n7_ := Aside0.mk ((by rw [hg]; exact Nat.ne_of_gt (blk_lt (g := gb101) (o := .cells #[.int .i64 a0_0, .int .i64 a0_1, .slice A0_2 l0_2.length c0_2, .slice A0_3 l0_3.length c0_3, .slice A0_4 l0_4.length c0_4, .slice (some ad108) l0_5.length c0_5] 25 (0, 0)) (by exact BK101.out)) : gb109 ≠ gb101)); have n8_ := Aside0.mk ((by rw [hg]; exact Nat.ne_of_lt (blk_lt (g := gb102) (o := .cells #[.int .i64 x103000_2, .int .i64 x103001_2, .int .i64 x103002_2, .bool x103003_2, .slice none 0 0] 28 (0, 0)) (by exact BK102.out)) : gb102 ≠ gb109)); have n9_ := Aside0.mk ((by rw [hg]; exact Nat.ne_of_gt (blk_lt (g := gb102) (o := .cells #[.int .i64 x103000_2, .int .i64 x103001_2, .int .i64 x103002_2, .bool x103003_2, .slice none 0 0] 28 (0, 0)) (by exact BK102.out)) : gb109 ≠ gb102)); clear BK101; clear BK102; clear HB; have BK101 := n0_; have BK102 := n1_; have HB := n2_; have BK109 := n3_; have GW109 := n4_; have GE109 := n5_; have NB101_109 := n6_; have NB109_101 := n7_; have NB102_109 := n8_; have NB109_102 := n9_; clear n0_ n1_ n2_ n3_ n4_ n5_ n6_ n7_ n8_ n9_; clear hb hbox hg; have hnb55 := NB109_101.out; have hnc55 := NB101_109.out; have hnb56 := NB109_102.out; have hnc56 := NB102_109.out; have hcz57_0 : w54.cell? ⟨gb109, 0, none⟩ = some (.string (⟨#[]⟩ : ByteArray)) := (blk_cell BK109.out 0).trans rfl; have hcz57_1 : w54.cell? ⟨gb109, 1, none⟩ = some (.int .i64 0) := (blk_cell BK109.out 1).trans rfl; have hcz57_2 : w54.cell? ⟨gb109, 2, none⟩ = some (.int .i64 0) := (blk_cell BK109.out 2).trans rfl; have hcz57_3 : w54.cell? ⟨gb109, 3, none⟩ = some (.int .i64 0) := (blk_cell BK109.out 3).trans rfl; have hcz57_4 : w54.cell? ⟨gb109, 4, none⟩ = some (.string (⟨#[]⟩ : ByteArray)) := (blk_cell BK109.out 4).trans rfl; have hfz57_0 := blk_frozen BK109.out 0; have hfz57_1 := blk_frozen BK109.out 1; have hfz57_2 := blk_frozen BK109.out 2; have hfz57_3 := blk_frozen BK109.out 3; have hfz57_4 := blk_frozen BK109.out 4) | (go_at_call 89; (with_reducible refine (ostiaryref09_options.calls k2 ((rd_T48 l0_5 x6_2).f4) t110 true _ A27.out).mono ?_); rintro e w58 ⟨v112, rfl, ho0, hb⟩; have n0_ := Aside0.mk (Kd.R_lower ho0 (below_size (by repeat (first | (with_reducible first | exact HB.out | apply below_alloc | apply pw_below_drewN | apply below_drew1 | refine below_set ?_ GE101.out | refine below_set ?_ GE102.out | refine below_set ?_ GE109.out) | exact HB.out)))); have n1_ := Aside0.mk (blk_below (g := gb101) (o := .cells #[.int .i64 a0_0, .int .i64 a0_1, .slice A0_2 l0_2.length c0_2, .slice A0_3 l0_3.length c0_3, .slice A0_4 l0_4.length c0_4, .slice (some ad108) l0_5.length c0_5] 25 (0, 0)) (by refine blk_far ?_ NB101_109.out _; refine blk_far ?_ NB101_109.out _; refine blk_far ?_ NB101_109.out _; refine blk_far ?_ NB101_109.out _; refine blk_far ?_ NB101_109.out _; exact BK101.out) hb); have n2_ := Aside0.mk (blk_below (g := gb102) (o := .cells #[.int .i64 x103000_2, .int .i64 x103001_2, .int .i64 x103002_2, .bool x103003_2, .slice none 0 0] 28 (0, 0)) (by refine blk_far ?_ NB102_109.out _; refine blk_far ?_ NB102_109.out _; refine blk_far ?_ NB102_109.out _; refine blk_far ?_ NB102_109.out _; refine blk_far ?_ NB102_109.out _; exact BK102.out) hb); have n3_ := Aside0.mk (blk_below (g := gb109) (o := .cells #[.string ((rd_T48 l0_5 x6_2).f0), .int .i64 ((rd_T48 l0_5 x6_2).f1), .int .i64 ((rd_T48 l0_5 x6_2).f2), .int .i64 ((rd_T48 l0_5 x6_2).f3), .string ((rd_T48 l0_5 x6_2).f4)] 48 (0, 0)) (by refine blk_put (cs := #[.string ((rd_T48 l0_5 x6_2).f0), .int .i64 ((rd_T48 l0_5 x6_2).f1), .int .i64 ((rd_T48 l0_5 x6_2).f2), .int .i64 ((rd_T48 l0_5 x6_2).f3), .string (⟨#[]⟩ : ByteArray)]) ?_ 4 _ rfl; refine blk_put (cs := #[.string ((rd_T48 l0_5 x6_2).f0), .int .i64 ((rd_T48 l0_5 x6_2).f1), .int .i64 ((rd_T48 l0_5 x6_2).f2), .int .i64 0, .string (⟨#[]⟩ : ByteArray)]) ?_ 3 _ rfl; refine blk_put (cs := #[.string ((rd_T48 l0_5 x6_2).f0), .int .i64 ((rd_T48 l0_5 x6_2).f1), .int .i64 0, .int .i64 0, .string (⟨#[]⟩ : ByteArray)]) ?_ 2 _ rfl; refine blk_put (cs := #[.string ((rd_T48 l0_5 x6_2).f0), .int .i64 0, .int .i64 0, .int .i64 0, .string (⟨#[]⟩ : ByteArray)]) ?_ 1 _ rfl; refine blk_put (cs := #[.string (⟨#[]⟩ : ByteArray), .int .i64 0, .int .i64 0, .int .i64 0, .string (⟨#[]⟩ : ByteArray)]) ?_ 0 _ rfl; exact BK109.out) hb); have n4_ := Aside0.mk (below_step (by repeat (first | (with_reducible first | exact HB.out | apply below_alloc | apply pw_below_drewN | apply below_drew1 | refine below_set ?_ GE101.out | refine below_set ?_ GE102.out | refine below_set ?_ GE109.out) | exact HB.out)) hb); clear BK101; clear BK102; clear BK109; clear HB; have HO113 := n0_; have BK101 := n1_; have BK102 := n2_; have BK109 := n3_; have HB := n4_; clear n0_ n1_ n2_ n3_ n4_; (try clear hb); (try clear hb2); (try clear hk); (try clear hi); (try clear ho0); have hcz59_0 : w58.cell? ⟨gb109, 0, none⟩ = some (.string ((rd_T48 l0_5 x6_2).f0)) := (blk_cell BK109.out 0).trans rfl; have hcz59_1 : w58.cell? ⟨gb109, 1, none⟩ = some (.int .i64 ((rd_T48 l0_5 x6_2).f1)) := (blk_cell BK109.out 1).trans rfl; have hcz59_2 : w58.cell? ⟨gb109, 2, none⟩ = some (.int .i64 ((rd_T48 l0_5 x6_2).f2)) := (blk_cell BK109.out 2).trans rfl; have hcz59_3 : w58.cell? ⟨gb109, 3, none⟩ = some (.int .i64 ((rd_T48 l0_5 x6_2).f3)) := (blk_cell BK109.out 3).trans rfl; have hcz59_4 : w58.cell? ⟨gb109, 4, none⟩ = some (.string ((rd_T48 l0_5 x6_2).f4)) := (blk_cell BK109.out 4).trans rfl; have hfz59_0 := blk_frozen BK109.out 0; have hfz59_1 := blk_frozen BK109.out 1; have hfz59_2 := blk_frozen BK109.out 2; have hfz59_3 := blk_frozen BK109.out 3; have hfz59_4 := blk_frozen BK109.out 4) | (go_at_call 85; (with_reducible refine (ostiaryref09_short.calls ((rd_T48 l0_5 x6_2).f2) true _ A29.out).mono ?_); rintro e w' ⟨rfl, ⟨nd, rfl⟩⟩; (try first | exact ⟨rfl, _, World.drewN_drewN _ _ _⟩ | exact ⟨rfl, _, Eq.trans (World.drewN_drewN _ _ _) (congrArg (World.drewN _) (Nat.add_assoc _ _ _))⟩); obtain ⟨Ao60, co60, eo60⟩ := Kd.R_slice HO113.out; subst eo60; have hcz61_0 : w58.cell? ⟨gb102, 0, none⟩ = some (.int .i64 x103000_2) := (blk_cell BK102.out 0).trans rfl; have hcz61_1 : w58.cell? ⟨gb102, 1, none⟩ = some (.int .i64 x103001_2) := (blk_cell BK102.out 1).trans rfl; have hcz61_2 : w58.cell? ⟨gb102, 2, none⟩ = some (.int .i64 x103002_2) := (blk_cell BK102.out 2).trans rfl; have hcz61_3 : w58.cell? ⟨gb102, 3, none⟩ = some (.bool x103003_2) := (blk_cell BK102.out 3).trans rfl; have hcz61_4 : w58.cell? ⟨gb102, 4, none⟩ = some (.slice none 0 0) := (blk_cell BK102.out 4).trans rfl; have hfz61_0 := blk_frozen BK102.out 0; have hfz61_1 := blk_frozen BK102.out 1; have hfz61_2 := blk_frozen BK102.out 2; have hfz61_3 := blk_frozen BK102.out 3; have hfz61_4 := blk_frozen BK102.out 4))
                              refine bodyPost_ret (results_ctt rfl _ _ gb102 28 #[.int .i64 ((rd_T48 l0_5 x6_2).f2), .int .i64 (((rd_T48 l0_5 x6_2).f3) / 16777216), .int .i64 (Go.bits .and .i64 (((rd_T48 l0_5 x6_2).f3) / 65536) 255), .bool ((Int.tmod (((rd_T48 l0_5 x6_2).f3) / 32768) 2) == 1), .slice Ao60 t110.length co60] (0, 0) _ rfl (by refine blk_put (cs := #[.int .i64 ((rd_T48 l0_5 x6_2).f2), .int .i64 (((rd_T48 l0_5 x6_2).f3) / 16777216), .int .i64 (Go.bits .and .i64 (((rd_T48 l0_5 x6_2).f3) / 65536) 255), .bool ((Int.tmod (((rd_T48 l0_5 x6_2).f3) / 32768) 2) == 1), .slice none 0 0]) ?_ 4 _ rfl; refine blk_put (cs := #[.int .i64 ((rd_T48 l0_5 x6_2).f2), .int .i64 (((rd_T48 l0_5 x6_2).f3) / 16777216), .int .i64 (Go.bits .and .i64 (((rd_T48 l0_5 x6_2).f3) / 65536) 255), .bool x103003_2, .slice none 0 0]) ?_ 3 _ rfl; refine blk_put (cs := #[.int .i64 ((rd_T48 l0_5 x6_2).f2), .int .i64 (((rd_T48 l0_5 x6_2).f3) / 16777216), .int .i64 x103002_2, .bool x103003_2, .slice none 0 0]) ?_ 2 _ rfl; refine blk_put (cs := #[.int .i64 ((rd_T48 l0_5 x6_2).f2), .int .i64 x103001_2, .int .i64 x103002_2, .bool x103003_2, .slice none 0 0]) ?_ 1 _ rfl; refine blk_put (cs := #[.int .i64 x103000_2, .int .i64 x103001_2, .int .i64 x103002_2, .bool x103003_2, .slice none 0 0]) ?_ 0 _ rfl; (with_reducible repeat (first | refine blk_drewN ?_ _ | refine blk_drew ?_ | refine blk_alloc ?_ _)); exact BK102.out) Try.underlying28 rfl (by kernel_rfl)) rfl ?_
                              exact ⟨_, by first | rfl | (simp [errW_none, errW_some] <;> rfl) | (simp [*, errW_none, errW_some] <;> rfl), by exact Kd.R_mono (Kd.R_far (p := ⟨gb102, 4, none⟩) (Kd.R_far (p := ⟨gb102, 3, none⟩) (Kd.R_far (p := ⟨gb102, 2, none⟩) (Kd.R_far (p := ⟨gb102, 1, none⟩) (Kd.R_far (p := ⟨gb102, 0, none⟩) (Kd.R_types HO113.out BK102.out (by decide)) (fun _ hk => hk.2) (.int .i64 ((rd_T48 l0_5 x6_2).f2))) (fun _ hk => hk.2) (.int .i64 (((rd_T48 l0_5 x6_2).f3) / 16777216))) (fun _ hk => hk.2) (.int .i64 (Go.bits .and .i64 (((rd_T48 l0_5 x6_2).f3) / 65536) 255))) (fun _ hk => hk.2) (.bool ((Int.tmod (((rd_T48 l0_5 x6_2).f3) / 32768) 2) == 1))) (fun _ hk => hk.2) (.slice Ao60 t110.length co60)) (fun _ hk => trivial), by repeat (first | (with_reducible first | exact HB.out | apply below_alloc | apply pw_below_drewN | apply below_drew1 | refine below_set ?_ GE101.out | refine below_set ?_ GE102.out | refine below_set ?_ GE109.out) | exact HB.out)⟩
                            · replace c51 := Bool.eq_false_iff.mpr c51
                              subst c51
                              have H1 : (some (0, 0, 0, false, ([] : List (S82)), false, 4)) = some (r1, r2, r3, r4, r5, r6, r7) := by rw [if_neg (show ¬ (false = true) by decide)] at H; exact H
                              clear H
                              have H := H1
                              clear H1
                              simp only [Option.some.injEq, Prod.mk.injEq] at H
                              obtain ⟨rfl, rfl, rfl, rfl, rfl, rfl, rfl⟩ := H
                              have hnb62 := NB101_102.out
                              have hnc62 := NB102_101.out
                              have hcz63_0 : wr.cell? ⟨gb101, 0, none⟩ = some (.int .i64 a0_0) := (blk_cell BK101.out 0).trans rfl
                              have hcz63_1 : wr.cell? ⟨gb101, 1, none⟩ = some (.int .i64 a0_1) := (blk_cell BK101.out 1).trans rfl
                              have hcz63_2 : wr.cell? ⟨gb101, 2, none⟩ = some (.slice A0_2 l0_2.length c0_2) := (blk_cell BK101.out 2).trans rfl
                              have hcz63_3 : wr.cell? ⟨gb101, 3, none⟩ = some (.slice A0_3 l0_3.length c0_3) := (blk_cell BK101.out 3).trans rfl
                              have hcz63_4 : wr.cell? ⟨gb101, 4, none⟩ = some (.slice A0_4 l0_4.length c0_4) := (blk_cell BK101.out 4).trans rfl
                              have hcz63_5 : wr.cell? ⟨gb101, 5, none⟩ = some (.slice A0_5 l0_5.length c0_5) := (blk_cell BK101.out 5).trans rfl
                              have hfz63_0 := blk_frozen BK101.out 0
                              have hfz63_1 := blk_frozen BK101.out 1
                              have hfz63_2 := blk_frozen BK101.out 2
                              have hfz63_3 := blk_frozen BK101.out 3
                              have hfz63_4 := blk_frozen BK101.out 4
                              have hfz63_5 := blk_frozen BK101.out 5
                              have p108 : 0 ≤ (x6_2 : Int) := of_decide_eq_true (by first | (with_reducible assumption) | assumption)
                              have q108 : x6_2 < (l0_5.length : Int) := of_decide_eq_true (by first | (with_reducible assumption) | assumption)
                              obtain ⟨ad108, e108, hx108_0, hx108_1, hx108_2, hx108_3, hx108_4⟩ := at_T48 HR0_5.out x6_2 p108 q108
                              cases e108
                              replace hx108_0 := (HB.out.cell (World.block_lt_of_cell? w _ hx108_0)).trans hx108_0
                              replace hx108_1 := (HB.out.cell (World.block_lt_of_cell? w _ hx108_1)).trans hx108_1
                              replace hx108_2 := (HB.out.cell (World.block_lt_of_cell? w _ hx108_2)).trans hx108_2
                              replace hx108_3 := (HB.out.cell (World.block_lt_of_cell? w _ hx108_3)).trans hx108_3
                              replace hx108_4 := (HB.out.cell (World.block_lt_of_cell? w _ hx108_4)).trans hx108_4
                              replace p108 := eq_true p108
                              replace q108 := eq_true q108
                              go_wp2_with (first | ((with_reducible refine gate_dst (N := 7) rfl ?_); refine box_event ?hg (N := 7) ?hd (cs := #[.string (⟨#[]⟩ : ByteArray), .int .i64 0, .int .i64 0, .int .i64 0, .string (⟨#[]⟩ : ByteArray)]) (t := 48) ?hr ?_; (case hd => rfl); (case hg => rfl); (case hr => first | (go_simp; done) | (go_simp; rfl)); intro gb109 hg w64 hbox hb; have n0_ := Aside0.mk (blk_below (g := gb101) (o := .cells #[.int .i64 a0_0, .int .i64 a0_1, .slice A0_2 l0_2.length c0_2, .slice A0_3 l0_3.length c0_3, .slice A0_4 l0_4.length c0_4, .slice (some ad108) l0_5.length c0_5] 25 (0, 0)) (by exact BK101.out) hb); have n1_ := Aside0.mk (blk_below (g := gb102) (o := .cells #[.int .i64 x103000_2, .int .i64 x103001_2, .int .i64 x103002_2, .bool x103003_2, .slice none 0 0] 28 (0, 0)) (by exact BK102.out) hb); have n2_ := Aside0.mk (below_step (by repeat (first | (with_reducible first | exact HB.out | apply below_alloc | apply pw_below_drewN | apply below_drew1 | refine below_set ?_ GE101.out | refine below_set ?_ GE102.out) | exact HB.out)) hb); have n3_ := Aside0.mk (hbox); have n4_ := Aside0.mk ((by rw [hg]; exact (below_size (by repeat (first | (with_reducible first | exact HB.out | apply below_alloc | apply pw_below_drewN | apply below_drew1 | refine below_set ?_ GE101.out | refine below_set ?_ GE102.out) | exact HB.out))) : w.heap.size ≤ gb109)); have n5_ := Aside0.mk ((by rw [hg]; exact (below_size (by repeat (first | (with_reducible first | exact HB.out | apply below_alloc | apply pw_below_drewN | apply below_drew1 | refine below_set ?_ GE101.out | refine below_set ?_ GE102.out) | exact HB.out))) : w.heap.size ≤ gb109)); have n6_ := Aside0.mk ((by rw [hg]; exact Nat.ne_of_lt (blk_lt (g := gb101) (o := .cells #[.int .i64 a0_0, .int .i64 a0_1, .slice A0_2 l0_2.length c0_2, .slice A0_3 l0_3.length c0_3, .slice A0_4 l0_4.length c0_4, .slice (some ad108) l0_5.length c0_5] 25 (0, 0)) (by exact BK101.out)) : gb101 ≠ gb109)); have n7_ := Aside0.mk ((by rw [hg]; exact Nat.ne_of_gt (blk_lt (g := gb101) (o := .cells #[.int .i64 a0_0, .int .i64 a0_1, .slice A0_2 l0_2.length c0_2, .slice A0_3 l0_3.length c0_3, .slice A0_4 l0_4.length c0_4, .slice (some ad108) l0_5.length c0_5] 25 (0, 0)) (by exact BK101.out)) : gb109 ≠ gb101)); have n8_ := Aside0.mk ((by rw [hg]; exact Nat.ne_of_lt (blk_lt (g := gb102) (o := .cells #[.int .i64 x103000_2, .int .i64 x103001_2, .int .i64 x103002_2, .bool x103003_2, .slice none 0 0] 28 (0, 0)) (by exact BK102.out)) : gb102 ≠ gb109)); have n9_ := Aside0.mk ((by rw [hg]; exact Nat.ne_of_gt (blk_lt (g := gb102) (o := .cells #[.int .i64 x103000_2, .int .i64 x103001_2, .int .i64 x103002_2, .bool x103003_2, .slice none 0 0] 28 (0, 0)) (by exact BK102.out)) : gb109 ≠ gb102)); clear BK101; clear BK102; clear HB; have BK101 := n0_; have BK102 := n1_; have HB := n2_; have BK109 := n3_; have GW109 := n4_; have GE109 := n5_; have NB101_109 := n6_; have NB109_101 := n7_; have NB102_109 := n8_; have NB109_102 := n9_; clear n0_ n1_ n2_ n3_ n4_ n5_ n6_ n7_ n8_ n9_; clear hb hbox hg; have hnb65 := NB109_101.out; have hnc65 := NB101_109.out; have hnb66 := NB109_102.out; have hnc66 := NB102_109.out; have hcz67_0 : w64.cell? ⟨gb109, 0, none⟩ = some (.string (⟨#[]⟩ : ByteArray)) := (blk_cell BK109.out 0).trans rfl; have hcz67_1 : w64.cell? ⟨gb109, 1, none⟩ = some (.int .i64 0) := (blk_cell BK109.out 1).trans rfl; have hcz67_2 : w64.cell? ⟨gb109, 2, none⟩ = some (.int .i64 0) := (blk_cell BK109.out 2).trans rfl; have hcz67_3 : w64.cell? ⟨gb109, 3, none⟩ = some (.int .i64 0) := (blk_cell BK109.out 3).trans rfl; have hcz67_4 : w64.cell? ⟨gb109, 4, none⟩ = some (.string (⟨#[]⟩ : ByteArray)) := (blk_cell BK109.out 4).trans rfl; have hfz67_0 := blk_frozen BK109.out 0; have hfz67_1 := blk_frozen BK109.out 1; have hfz67_2 := blk_frozen BK109.out 2; have hfz67_3 := blk_frozen BK109.out 3; have hfz67_4 := blk_frozen BK109.out 4) | (go_at_call 89; (with_reducible refine (ostiaryref09_options.calls k2 ((rd_T48 l0_5 x6_2).f4) t110 false _ A27.out).mono ?_); rintro e w68 ⟨v112, rfl, ho0, hb⟩; have n0_ := Aside0.mk (Kd.R_lower ho0 (below_size (by repeat (first | (with_reducible first | exact HB.out | apply below_alloc | apply pw_below_drewN | apply below_drew1 | refine below_set ?_ GE101.out | refine below_set ?_ GE102.out | refine below_set ?_ GE109.out) | exact HB.out)))); have n1_ := Aside0.mk (blk_below (g := gb101) (o := .cells #[.int .i64 a0_0, .int .i64 a0_1, .slice A0_2 l0_2.length c0_2, .slice A0_3 l0_3.length c0_3, .slice A0_4 l0_4.length c0_4, .slice (some ad108) l0_5.length c0_5] 25 (0, 0)) (by refine blk_far ?_ NB101_109.out _; refine blk_far ?_ NB101_109.out _; refine blk_far ?_ NB101_109.out _; refine blk_far ?_ NB101_109.out _; refine blk_far ?_ NB101_109.out _; exact BK101.out) hb); have n2_ := Aside0.mk (blk_below (g := gb102) (o := .cells #[.int .i64 x103000_2, .int .i64 x103001_2, .int .i64 x103002_2, .bool x103003_2, .slice none 0 0] 28 (0, 0)) (by refine blk_far ?_ NB102_109.out _; refine blk_far ?_ NB102_109.out _; refine blk_far ?_ NB102_109.out _; refine blk_far ?_ NB102_109.out _; refine blk_far ?_ NB102_109.out _; exact BK102.out) hb); have n3_ := Aside0.mk (blk_below (g := gb109) (o := .cells #[.string ((rd_T48 l0_5 x6_2).f0), .int .i64 ((rd_T48 l0_5 x6_2).f1), .int .i64 ((rd_T48 l0_5 x6_2).f2), .int .i64 ((rd_T48 l0_5 x6_2).f3), .string ((rd_T48 l0_5 x6_2).f4)] 48 (0, 0)) (by refine blk_put (cs := #[.string ((rd_T48 l0_5 x6_2).f0), .int .i64 ((rd_T48 l0_5 x6_2).f1), .int .i64 ((rd_T48 l0_5 x6_2).f2), .int .i64 ((rd_T48 l0_5 x6_2).f3), .string (⟨#[]⟩ : ByteArray)]) ?_ 4 _ rfl; refine blk_put (cs := #[.string ((rd_T48 l0_5 x6_2).f0), .int .i64 ((rd_T48 l0_5 x6_2).f1), .int .i64 ((rd_T48 l0_5 x6_2).f2), .int .i64 0, .string (⟨#[]⟩ : ByteArray)]) ?_ 3 _ rfl; refine blk_put (cs := #[.string ((rd_T48 l0_5 x6_2).f0), .int .i64 ((rd_T48 l0_5 x6_2).f1), .int .i64 0, .int .i64 0, .string (⟨#[]⟩ : ByteArray)]) ?_ 2 _ rfl; refine blk_put (cs := #[.string ((rd_T48 l0_5 x6_2).f0), .int .i64 0, .int .i64 0, .int .i64 0, .string (⟨#[]⟩ : ByteArray)]) ?_ 1 _ rfl; refine blk_put (cs := #[.string (⟨#[]⟩ : ByteArray), .int .i64 0, .int .i64 0, .int .i64 0, .string (⟨#[]⟩ : ByteArray)]) ?_ 0 _ rfl; exact BK109.out) hb); have n4_ := Aside0.mk (below_step (by repeat (first | (with_reducible first | exact HB.out | apply below_alloc | apply pw_below_drewN | apply below_drew1 | refine below_set ?_ GE101.out | refine below_set ?_ GE102.out | refine below_set ?_ GE109.out) | exact HB.out)) hb); clear BK101; clear BK102; clear BK109; clear HB; have HO113 := n0_; have BK101 := n1_; have BK102 := n2_; have BK109 := n3_; have HB := n4_; clear n0_ n1_ n2_ n3_ n4_; (try clear hb); (try clear hb2); (try clear hk); (try clear hi); (try clear ho0); have hcz69_0 : w68.cell? ⟨gb109, 0, none⟩ = some (.string ((rd_T48 l0_5 x6_2).f0)) := (blk_cell BK109.out 0).trans rfl; have hcz69_1 : w68.cell? ⟨gb109, 1, none⟩ = some (.int .i64 ((rd_T48 l0_5 x6_2).f1)) := (blk_cell BK109.out 1).trans rfl; have hcz69_2 : w68.cell? ⟨gb109, 2, none⟩ = some (.int .i64 ((rd_T48 l0_5 x6_2).f2)) := (blk_cell BK109.out 2).trans rfl; have hcz69_3 : w68.cell? ⟨gb109, 3, none⟩ = some (.int .i64 ((rd_T48 l0_5 x6_2).f3)) := (blk_cell BK109.out 3).trans rfl; have hcz69_4 : w68.cell? ⟨gb109, 4, none⟩ = some (.string ((rd_T48 l0_5 x6_2).f4)) := (blk_cell BK109.out 4).trans rfl; have hfz69_0 := blk_frozen BK109.out 0; have hfz69_1 := blk_frozen BK109.out 1; have hfz69_2 := blk_frozen BK109.out 2; have hfz69_3 := blk_frozen BK109.out 3; have hfz69_4 := blk_frozen BK109.out 4) | (go_at_call 85; (with_reducible refine (ostiaryref09_short.calls ((rd_T48 l0_5 x6_2).f2) true _ A29.out).mono ?_); rintro e w' ⟨rfl, ⟨nd, rfl⟩⟩; (try first | exact ⟨rfl, _, World.drewN_drewN _ _ _⟩ | exact ⟨rfl, _, Eq.trans (World.drewN_drewN _ _ _) (congrArg (World.drewN _) (Nat.add_assoc _ _ _))⟩); have hcz70_0 : w68.cell? ⟨gb102, 0, none⟩ = some (.int .i64 x103000_2) := (blk_cell BK102.out 0).trans rfl; have hcz70_1 : w68.cell? ⟨gb102, 1, none⟩ = some (.int .i64 x103001_2) := (blk_cell BK102.out 1).trans rfl; have hcz70_2 : w68.cell? ⟨gb102, 2, none⟩ = some (.int .i64 x103002_2) := (blk_cell BK102.out 2).trans rfl; have hcz70_3 : w68.cell? ⟨gb102, 3, none⟩ = some (.bool x103003_2) := (blk_cell BK102.out 3).trans rfl; have hcz70_4 : w68.cell? ⟨gb102, 4, none⟩ = some (.slice none 0 0) := (blk_cell BK102.out 4).trans rfl; have hfz70_0 := blk_frozen BK102.out 0; have hfz70_1 := blk_frozen BK102.out 1; have hfz70_2 := blk_frozen BK102.out 2; have hfz70_3 := blk_frozen BK102.out 3; have hfz70_4 := blk_frozen BK102.out 4))
                              refine bodyPost_ret (results_ctt rfl _ _ gb102 28 #[.int .i64 0, .int .i64 0, .int .i64 0, .bool false, .slice none 0 0] (0, 0) _ rfl (by refine blk_put (cs := #[.int .i64 0, .int .i64 0, .int .i64 0, .bool false, .slice none 0 0]) ?_ 4 _ rfl; refine blk_put (cs := #[.int .i64 0, .int .i64 0, .int .i64 0, .bool x103003_2, .slice none 0 0]) ?_ 3 _ rfl; refine blk_put (cs := #[.int .i64 0, .int .i64 0, .int .i64 x103002_2, .bool x103003_2, .slice none 0 0]) ?_ 2 _ rfl; refine blk_put (cs := #[.int .i64 0, .int .i64 x103001_2, .int .i64 x103002_2, .bool x103003_2, .slice none 0 0]) ?_ 1 _ rfl; refine blk_put (cs := #[.int .i64 x103000_2, .int .i64 x103001_2, .int .i64 x103002_2, .bool x103003_2, .slice none 0 0]) ?_ 0 _ rfl; (with_reducible repeat (first | refine blk_drewN ?_ _ | refine blk_drew ?_ | refine blk_alloc ?_ _)); exact BK102.out) Try.underlying28 rfl (by kernel_rfl)) rfl ?_
                              exact ⟨_, by first | rfl | (simp [errW_none, errW_some] <;> rfl) | (simp [*, errW_none, errW_some] <;> rfl), by first | exact Kd.R_nil _ _ _ _ _ | exact Kd.N_nil _ _ _ _ _ | exact Kd.V_nil _ _ _ _ _ | exact Kd.Q_nil _ _ _ _ _ | exact Kd.S_nil _ _ _ _ _, by repeat (first | (with_reducible first | exact HB.out | apply below_alloc | apply pw_below_drewN | apply below_drew1 | refine below_set ?_ GE101.out | refine below_set ?_ GE102.out | refine below_set ?_ GE109.out) | exact HB.out)⟩
                      · replace c30 := Bool.eq_false_iff.mpr c30
                        subst c30
                        have H1 : (some (0, 0, 0, false, ([] : List (S82)), false, 4)) = some (r1, r2, r3, r4, r5, r6, r7) := by rw [if_neg (show ¬ (false = true) by decide)] at H; exact H
                        clear H
                        have H := H1
                        clear H1
                        simp only [Option.some.injEq, Prod.mk.injEq] at H
                        obtain ⟨rfl, rfl, rfl, rfl, rfl, rfl, rfl⟩ := H
                        have hnb71 := NB101_102.out
                        have hnc71 := NB102_101.out
                        have hcz72_0 : wr.cell? ⟨gb101, 0, none⟩ = some (.int .i64 a0_0) := (blk_cell BK101.out 0).trans rfl
                        have hcz72_1 : wr.cell? ⟨gb101, 1, none⟩ = some (.int .i64 a0_1) := (blk_cell BK101.out 1).trans rfl
                        have hcz72_2 : wr.cell? ⟨gb101, 2, none⟩ = some (.slice A0_2 l0_2.length c0_2) := (blk_cell BK101.out 2).trans rfl
                        have hcz72_3 : wr.cell? ⟨gb101, 3, none⟩ = some (.slice A0_3 l0_3.length c0_3) := (blk_cell BK101.out 3).trans rfl
                        have hcz72_4 : wr.cell? ⟨gb101, 4, none⟩ = some (.slice A0_4 l0_4.length c0_4) := (blk_cell BK101.out 4).trans rfl
                        have hcz72_5 : wr.cell? ⟨gb101, 5, none⟩ = some (.slice A0_5 l0_5.length c0_5) := (blk_cell BK101.out 5).trans rfl
                        have hfz72_0 := blk_frozen BK101.out 0
                        have hfz72_1 := blk_frozen BK101.out 1
                        have hfz72_2 := blk_frozen BK101.out 2
                        have hfz72_3 := blk_frozen BK101.out 3
                        have hfz72_4 := blk_frozen BK101.out 4
                        have hfz72_5 := blk_frozen BK101.out 5
                        have p108 : 0 ≤ (x6_2 : Int) := of_decide_eq_true (by first | (with_reducible assumption) | assumption)
                        have q108 : x6_2 < (l0_5.length : Int) := of_decide_eq_true (by first | (with_reducible assumption) | assumption)
                        obtain ⟨ad108, e108, hx108_0, hx108_1, hx108_2, hx108_3, hx108_4⟩ := at_T48 HR0_5.out x6_2 p108 q108
                        cases e108
                        replace hx108_0 := (HB.out.cell (World.block_lt_of_cell? w _ hx108_0)).trans hx108_0
                        replace hx108_1 := (HB.out.cell (World.block_lt_of_cell? w _ hx108_1)).trans hx108_1
                        replace hx108_2 := (HB.out.cell (World.block_lt_of_cell? w _ hx108_2)).trans hx108_2
                        replace hx108_3 := (HB.out.cell (World.block_lt_of_cell? w _ hx108_3)).trans hx108_3
                        replace hx108_4 := (HB.out.cell (World.block_lt_of_cell? w _ hx108_4)).trans hx108_4
                        replace p108 := eq_true p108
                        replace q108 := eq_true q108
                        go_wp2_with (first | ((with_reducible refine gate_dst (N := 7) rfl ?_); refine box_event ?hg (N := 7) ?hd (cs := #[.string (⟨#[]⟩ : ByteArray), .int .i64 0, .int .i64 0, .int .i64 0, .string (⟨#[]⟩ : ByteArray)]) (t := 48) ?hr ?_; (case hd => rfl); (case hg => rfl); (case hr => first | (go_simp; done) | (go_simp; rfl)); intro gb109 hg w73 hbox hb; have n0_ := Aside0.mk (blk_below (g := gb101) (o := .cells #[.int .i64 a0_0, .int .i64 a0_1, .slice A0_2 l0_2.length c0_2, .slice A0_3 l0_3.length c0_3, .slice A0_4 l0_4.length c0_4, .slice (some ad108) l0_5.length c0_5] 25 (0, 0)) (by exact BK101.out) hb); have n1_ := Aside0.mk (blk_below (g := gb102) (o := .cells #[.int .i64 x103000_2, .int .i64 x103001_2, .int .i64 x103002_2, .bool x103003_2, .slice none 0 0] 28 (0, 0)) (by exact BK102.out) hb); have n2_ := Aside0.mk (below_step (by repeat (first | (with_reducible first | exact HB.out | apply below_alloc | apply pw_below_drewN | apply below_drew1 | refine below_set ?_ GE101.out | refine below_set ?_ GE102.out) | exact HB.out)) hb); have n3_ := Aside0.mk (hbox); have n4_ := Aside0.mk ((by rw [hg]; exact (below_size (by repeat (first | (with_reducible first | exact HB.out | apply below_alloc | apply pw_below_drewN | apply below_drew1 | refine below_set ?_ GE101.out | refine below_set ?_ GE102.out) | exact HB.out))) : w.heap.size ≤ gb109)); have n5_ := Aside0.mk ((by rw [hg]; exact (below_size (by repeat (first | (with_reducible first | exact HB.out | apply below_alloc | apply pw_below_drewN | apply below_drew1 | refine below_set ?_ GE101.out | refine below_set ?_ GE102.out) | exact HB.out))) : w.heap.size ≤ gb109)); have n6_ := Aside0.mk ((by rw [hg]; exact Nat.ne_of_lt (blk_lt (g := gb101) (o := .cells #[.int .i64 a0_0, .int .i64 a0_1, .slice A0_2 l0_2.length c0_2, .slice A0_3 l0_3.length c0_3, .slice A0_4 l0_4.length c0_4, .slice (some ad108) l0_5.length c0_5] 25 (0, 0)) (by exact BK101.out)) : gb101 ≠ gb109)); have n7_ := Aside0.mk ((by rw [hg]; exact Nat.ne_of_gt (blk_lt (g := gb101) (o := .cells #[.int .i64 a0_0, .int .i64 a0_1, .slice A0_2 l0_2.length c0_2, .slice A0_3 l0_3.length c0_3, .slice A0_4 l0_4.length c0_4, .slice (some ad108) l0_5.length c0_5] 25 (0, 0)) (by exact BK101.out)) : gb109 ≠ gb101)); have n8_ := Aside0.mk ((by rw [hg]; exact Nat.ne_of_lt (blk_lt (g := gb102) (o := .cells #[.int .i64 x103000_2, .int .i64 x103001_2, .int .i64 x103002_2, .bool x103003_2, .slice none 0 0] 28 (0, 0)) (by exact BK102.out)) : gb102 ≠ gb109)); have n9_ := Aside0.mk ((by rw [hg]; exact Nat.ne_of_gt (blk_lt (g := gb102) (o := .cells #[.int .i64 x103000_2, .int .i64 x103001_2, .int .i64 x103002_2, .bool x103003_2, .slice none 0 0] 28 (0, 0)) (by exact BK102.out)) : gb109 ≠ gb102)); clear BK101; clear BK102; clear HB; have BK101 := n0_; have BK102 := n1_; have HB := n2_; have BK109 := n3_; have GW109 := n4_; have GE109 := n5_; have NB101_109 := n6_; have NB109_101 := n7_; have NB102_109 := n8_; have NB109_102 := n9_; clear n0_ n1_ n2_ n3_ n4_ n5_ n6_ n7_ n8_ n9_; clear hb hbox hg; have hnb74 := NB109_101.out; have hnc74 := NB101_109.out; have hnb75 := NB109_102.out; have hnc75 := NB102_109.out; have hcz76_0 : w73.cell? ⟨gb109, 0, none⟩ = some (.string (⟨#[]⟩ : ByteArray)) := (blk_cell BK109.out 0).trans rfl; have hcz76_1 : w73.cell? ⟨gb109, 1, none⟩ = some (.int .i64 0) := (blk_cell BK109.out 1).trans rfl; have hcz76_2 : w73.cell? ⟨gb109, 2, none⟩ = some (.int .i64 0) := (blk_cell BK109.out 2).trans rfl; have hcz76_3 : w73.cell? ⟨gb109, 3, none⟩ = some (.int .i64 0) := (blk_cell BK109.out 3).trans rfl; have hcz76_4 : w73.cell? ⟨gb109, 4, none⟩ = some (.string (⟨#[]⟩ : ByteArray)) := (blk_cell BK109.out 4).trans rfl; have hfz76_0 := blk_frozen BK109.out 0; have hfz76_1 := blk_frozen BK109.out 1; have hfz76_2 := blk_frozen BK109.out 2; have hfz76_3 := blk_frozen BK109.out 3; have hfz76_4 := blk_frozen BK109.out 4) | (go_at_call 89; (with_reducible refine (ostiaryref09_options.calls k2 ((rd_T48 l0_5 x6_2).f4) t110 t111 _ A27.out).mono ?_); rintro e w77 ⟨v112, rfl, ho0, hb⟩; have n0_ := Aside0.mk (Kd.R_lower ho0 (below_size (by repeat (first | (with_reducible first | exact HB.out | apply below_alloc | apply pw_below_drewN | apply below_drew1 | refine below_set ?_ GE101.out | refine below_set ?_ GE102.out | refine below_set ?_ GE109.out) | exact HB.out)))); have n1_ := Aside0.mk (blk_below (g := gb101) (o := .cells #[.int .i64 a0_0, .int .i64 a0_1, .slice A0_2 l0_2.length c0_2, .slice A0_3 l0_3.length c0_3, .slice A0_4 l0_4.length c0_4, .slice (some ad108) l0_5.length c0_5] 25 (0, 0)) (by refine blk_far ?_ NB101_109.out _; refine blk_far ?_ NB101_109.out _; refine blk_far ?_ NB101_109.out _; refine blk_far ?_ NB101_109.out _; refine blk_far ?_ NB101_109.out _; exact BK101.out) hb); have n2_ := Aside0.mk (blk_below (g := gb102) (o := .cells #[.int .i64 x103000_2, .int .i64 x103001_2, .int .i64 x103002_2, .bool x103003_2, .slice none 0 0] 28 (0, 0)) (by refine blk_far ?_ NB102_109.out _; refine blk_far ?_ NB102_109.out _; refine blk_far ?_ NB102_109.out _; refine blk_far ?_ NB102_109.out _; refine blk_far ?_ NB102_109.out _; exact BK102.out) hb); have n3_ := Aside0.mk (blk_below (g := gb109) (o := .cells #[.string ((rd_T48 l0_5 x6_2).f0), .int .i64 ((rd_T48 l0_5 x6_2).f1), .int .i64 ((rd_T48 l0_5 x6_2).f2), .int .i64 ((rd_T48 l0_5 x6_2).f3), .string ((rd_T48 l0_5 x6_2).f4)] 48 (0, 0)) (by refine blk_put (cs := #[.string ((rd_T48 l0_5 x6_2).f0), .int .i64 ((rd_T48 l0_5 x6_2).f1), .int .i64 ((rd_T48 l0_5 x6_2).f2), .int .i64 ((rd_T48 l0_5 x6_2).f3), .string (⟨#[]⟩ : ByteArray)]) ?_ 4 _ rfl; refine blk_put (cs := #[.string ((rd_T48 l0_5 x6_2).f0), .int .i64 ((rd_T48 l0_5 x6_2).f1), .int .i64 ((rd_T48 l0_5 x6_2).f2), .int .i64 0, .string (⟨#[]⟩ : ByteArray)]) ?_ 3 _ rfl; refine blk_put (cs := #[.string ((rd_T48 l0_5 x6_2).f0), .int .i64 ((rd_T48 l0_5 x6_2).f1), .int .i64 0, .int .i64 0, .string (⟨#[]⟩ : ByteArray)]) ?_ 2 _ rfl; refine blk_put (cs := #[.string ((rd_T48 l0_5 x6_2).f0), .int .i64 0, .int .i64 0, .int .i64 0, .string (⟨#[]⟩ : ByteArray)]) ?_ 1 _ rfl; refine blk_put (cs := #[.string (⟨#[]⟩ : ByteArray), .int .i64 0, .int .i64 0, .int .i64 0, .string (⟨#[]⟩ : ByteArray)]) ?_ 0 _ rfl; exact BK109.out) hb); have n4_ := Aside0.mk (below_step (by repeat (first | (with_reducible first | exact HB.out | apply below_alloc | apply pw_below_drewN | apply below_drew1 | refine below_set ?_ GE101.out | refine below_set ?_ GE102.out | refine below_set ?_ GE109.out) | exact HB.out)) hb); clear BK101; clear BK102; clear BK109; clear HB; have HO113 := n0_; have BK101 := n1_; have BK102 := n2_; have BK109 := n3_; have HB := n4_; clear n0_ n1_ n2_ n3_ n4_; (try clear hb); (try clear hb2); (try clear hk); (try clear hi); (try clear ho0); have hcz78_0 : w77.cell? ⟨gb109, 0, none⟩ = some (.string ((rd_T48 l0_5 x6_2).f0)) := (blk_cell BK109.out 0).trans rfl; have hcz78_1 : w77.cell? ⟨gb109, 1, none⟩ = some (.int .i64 ((rd_T48 l0_5 x6_2).f1)) := (blk_cell BK109.out 1).trans rfl; have hcz78_2 : w77.cell? ⟨gb109, 2, none⟩ = some (.int .i64 ((rd_T48 l0_5 x6_2).f2)) := (blk_cell BK109.out 2).trans rfl; have hcz78_3 : w77.cell? ⟨gb109, 3, none⟩ = some (.int .i64 ((rd_T48 l0_5 x6_2).f3)) := (blk_cell BK109.out 3).trans rfl; have hcz78_4 : w77.cell? ⟨gb109, 4, none⟩ = some (.string ((rd_T48 l0_5 x6_2).f4)) := (blk_cell BK109.out 4).trans rfl; have hfz78_0 := blk_frozen BK109.out 0; have hfz78_1 := blk_frozen BK109.out 1; have hfz78_2 := blk_frozen BK109.out 2; have hfz78_3 := blk_frozen BK109.out 3; have hfz78_4 := blk_frozen BK109.out 4) | (go_at_call 85; (with_reducible refine (ostiaryref09_short.calls ((rd_T48 l0_5 x6_2).f2) false _ A29.out).mono ?_); rintro e w' ⟨rfl, ⟨nd, rfl⟩⟩; (try first | exact ⟨rfl, _, World.drewN_drewN _ _ _⟩ | exact ⟨rfl, _, Eq.trans (World.drewN_drewN _ _ _) (congrArg (World.drewN _) (Nat.add_assoc _ _ _))⟩); have hcz79_0 : w77.cell? ⟨gb102, 0, none⟩ = some (.int .i64 x103000_2) := (blk_cell BK102.out 0).trans rfl; have hcz79_1 : w77.cell? ⟨gb102, 1, none⟩ = some (.int .i64 x103001_2) := (blk_cell BK102.out 1).trans rfl; have hcz79_2 : w77.cell? ⟨gb102, 2, none⟩ = some (.int .i64 x103002_2) := (blk_cell BK102.out 2).trans rfl; have hcz79_3 : w77.cell? ⟨gb102, 3, none⟩ = some (.bool x103003_2) := (blk_cell BK102.out 3).trans rfl; have hcz79_4 : w77.cell? ⟨gb102, 4, none⟩ = some (.slice none 0 0) := (blk_cell BK102.out 4).trans rfl; have hfz79_0 := blk_frozen BK102.out 0; have hfz79_1 := blk_frozen BK102.out 1; have hfz79_2 := blk_frozen BK102.out 2; have hfz79_3 := blk_frozen BK102.out 3; have hfz79_4 := blk_frozen BK102.out 4))
                        refine bodyPost_ret (results_ctt rfl _ _ gb102 28 #[.int .i64 0, .int .i64 0, .int .i64 0, .bool false, .slice none 0 0] (0, 0) _ rfl (by refine blk_put (cs := #[.int .i64 0, .int .i64 0, .int .i64 0, .bool false, .slice none 0 0]) ?_ 4 _ rfl; refine blk_put (cs := #[.int .i64 0, .int .i64 0, .int .i64 0, .bool x103003_2, .slice none 0 0]) ?_ 3 _ rfl; refine blk_put (cs := #[.int .i64 0, .int .i64 0, .int .i64 x103002_2, .bool x103003_2, .slice none 0 0]) ?_ 2 _ rfl; refine blk_put (cs := #[.int .i64 0, .int .i64 x103001_2, .int .i64 x103002_2, .bool x103003_2, .slice none 0 0]) ?_ 1 _ rfl; refine blk_put (cs := #[.int .i64 x103000_2, .int .i64 x103001_2, .int .i64 x103002_2, .bool x103003_2, .slice none 0 0]) ?_ 0 _ rfl; (with_reducible repeat (first | refine blk_drewN ?_ _ | refine blk_drew ?_ | refine blk_alloc ?_ _)); exact BK102.out) Try.underlying28 rfl (by kernel_rfl)) rfl ?_
                        exact ⟨_, by first | rfl | (simp [errW_none, errW_some] <;> rfl) | (simp [*, errW_none, errW_some] <;> rfl), by first | exact Kd.R_nil _ _ _ _ _ | exact Kd.N_nil _ _ _ _ _ | exact Kd.V_nil _ _ _ _ _ | exact Kd.Q_nil _ _ _ _ _ | exact Kd.S_nil _ _ _ _ _, by repeat (first | (with_reducible first | exact HB.out | apply below_alloc | apply pw_below_drewN | apply below_drew1 | refine below_set ?_ GE101.out | refine below_set ?_ GE102.out | refine below_set ?_ GE109.out) | exact HB.out)⟩
                    · rw [if_neg c28] at H
                      have c28b0 : (((rd_T48 l0_5 x6_2).f0).toList == ([0] : List UInt8)) = false := beq_eq_false_iff_ne.mpr c28
                      have c28b1 : (((rd_T48 l0_5 x6_2).f0).toList != ([0] : List UInt8)) = true := bne_iff_ne.mpr c28
                      simp only [Option.some.injEq, Prod.mk.injEq] at H
                      obtain ⟨rfl, rfl, rfl, rfl, rfl, rfl, rfl⟩ := H
                      have hnb80 := NB101_102.out
                      have hnc80 := NB102_101.out
                      have hcz81_0 : wr.cell? ⟨gb101, 0, none⟩ = some (.int .i64 a0_0) := (blk_cell BK101.out 0).trans rfl
                      have hcz81_1 : wr.cell? ⟨gb101, 1, none⟩ = some (.int .i64 a0_1) := (blk_cell BK101.out 1).trans rfl
                      have hcz81_2 : wr.cell? ⟨gb101, 2, none⟩ = some (.slice A0_2 l0_2.length c0_2) := (blk_cell BK101.out 2).trans rfl
                      have hcz81_3 : wr.cell? ⟨gb101, 3, none⟩ = some (.slice A0_3 l0_3.length c0_3) := (blk_cell BK101.out 3).trans rfl
                      have hcz81_4 : wr.cell? ⟨gb101, 4, none⟩ = some (.slice A0_4 l0_4.length c0_4) := (blk_cell BK101.out 4).trans rfl
                      have hcz81_5 : wr.cell? ⟨gb101, 5, none⟩ = some (.slice A0_5 l0_5.length c0_5) := (blk_cell BK101.out 5).trans rfl
                      have hfz81_0 := blk_frozen BK101.out 0
                      have hfz81_1 := blk_frozen BK101.out 1
                      have hfz81_2 := blk_frozen BK101.out 2
                      have hfz81_3 := blk_frozen BK101.out 3
                      have hfz81_4 := blk_frozen BK101.out 4
                      have hfz81_5 := blk_frozen BK101.out 5
                      have p108 : 0 ≤ (x6_2 : Int) := of_decide_eq_true (by first | (with_reducible assumption) | assumption)
                      have q108 : x6_2 < (l0_5.length : Int) := of_decide_eq_true (by first | (with_reducible assumption) | assumption)
                      obtain ⟨ad108, e108, hx108_0, hx108_1, hx108_2, hx108_3, hx108_4⟩ := at_T48 HR0_5.out x6_2 p108 q108
                      cases e108
                      replace hx108_0 := (HB.out.cell (World.block_lt_of_cell? w _ hx108_0)).trans hx108_0
                      replace hx108_1 := (HB.out.cell (World.block_lt_of_cell? w _ hx108_1)).trans hx108_1
                      replace hx108_2 := (HB.out.cell (World.block_lt_of_cell? w _ hx108_2)).trans hx108_2
                      replace hx108_3 := (HB.out.cell (World.block_lt_of_cell? w _ hx108_3)).trans hx108_3
                      replace hx108_4 := (HB.out.cell (World.block_lt_of_cell? w _ hx108_4)).trans hx108_4
                      replace p108 := eq_true p108
                      replace q108 := eq_true q108
                      go_wp2_with (first | ((with_reducible refine gate_dst (N := 7) rfl ?_); refine box_event ?hg (N := 7) ?hd (cs := #[.string (⟨#[]⟩ : ByteArray), .int .i64 0, .int .i64 0, .int .i64 0, .string (⟨#[]⟩ : ByteArray)]) (t := 48) ?hr ?_; (case hd => rfl); (case hg => rfl); (case hr => first | (go_simp; done) | (go_simp; rfl)); intro gb109 hg w82 hbox hb; have n0_ := Aside0.mk (blk_below (g := gb101) (o := .cells #[.int .i64 a0_0, .int .i64 a0_1, .slice A0_2 l0_2.length c0_2, .slice A0_3 l0_3.length c0_3, .slice A0_4 l0_4.length c0_4, .slice (some ad108) l0_5.length c0_5] 25 (0, 0)) (by exact BK101.out) hb); have n1_ := Aside0.mk (blk_below (g := gb102) (o := .cells #[.int .i64 x103000_2, .int .i64 x103001_2, .int .i64 x103002_2, .bool x103003_2, .slice none 0 0] 28 (0, 0)) (by exact BK102.out) hb); have n2_ := Aside0.mk (below_step (by repeat (first | (with_reducible first | exact HB.out | apply below_alloc | apply pw_below_drewN | apply below_drew1 | refine below_set ?_ GE101.out | refine below_set ?_ GE102.out) | exact HB.out)) hb); have n3_ := Aside0.mk (hbox); have n4_ := Aside0.mk ((by rw [hg]; exact (below_size (by repeat (first | (with_reducible first | exact HB.out | apply below_alloc | apply pw_below_drewN | apply below_drew1 | refine below_set ?_ GE101.out | refine below_set ?_ GE102.out) | exact HB.out))) : w.heap.size ≤ gb109)); have n5_ := Aside0.mk ((by rw [hg]; exact (below_size (by repeat (first | (with_reducible first | exact HB.out | apply below_alloc | apply pw_below_drewN | apply below_drew1 | refine below_set ?_ GE101.out | refine below_set ?_ GE102.out) | exact HB.out))) : w.heap.size ≤ gb109)); have n6_ := Aside0.mk ((by rw [hg]; exact Nat.ne_of_lt (blk_lt (g := gb101) (o := .cells #[.int .i64 a0_0, .int .i64 a0_1, .slice A0_2 l0_2.length c0_2, .slice A0_3 l0_3.length c0_3, .slice A0_4 l0_4.length c0_4, .slice (some ad108) l0_5.length c0_5] 25 (0, 0)) (by exact BK101.out)) : gb101 ≠ gb109)); have n7_ := Aside0.mk ((by rw [hg]; exact Nat.ne_of_gt (blk_lt (g := gb101) (o := .cells #[.int .i64 a0_0, .int .i64 a0_1, .slice A0_2 l0_2.length c0_2, .slice A0_3 l0_3.length c0_3, .slice A0_4 l0_4.length c0_4, .slice (some ad108) l0_5.length c0_5] 25 (0, 0)) (by exact BK101.out)) : gb109 ≠ gb101)); have n8_ := Aside0.mk ((by rw [hg]; exact Nat.ne_of_lt (blk_lt (g := gb102) (o := .cells #[.int .i64 x103000_2, .int .i64 x103001_2, .int .i64 x103002_2, .bool x103003_2, .slice none 0 0] 28 (0, 0)) (by exact BK102.out)) : gb102 ≠ gb109)); have n9_ := Aside0.mk ((by rw [hg]; exact Nat.ne_of_gt (blk_lt (g := gb102) (o := .cells #[.int .i64 x103000_2, .int .i64 x103001_2, .int .i64 x103002_2, .bool x103003_2, .slice none 0 0] 28 (0, 0)) (by exact BK102.out)) : gb109 ≠ gb102)); clear BK101; clear BK102; clear HB; have BK101 := n0_; have BK102 := n1_; have HB := n2_; have BK109 := n3_; have GW109 := n4_; have GE109 := n5_; have NB101_109 := n6_; have NB109_101 := n7_; have NB102_109 := n8_; have NB109_102 := n9_; clear n0_ n1_ n2_ n3_ n4_ n5_ n6_ n7_ n8_ n9_; clear hb hbox hg; have hnb83 := NB109_101.out; have hnc83 := NB101_109.out; have hnb84 := NB109_102.out; have hnc84 := NB102_109.out; have hcz85_0 : w82.cell? ⟨gb109, 0, none⟩ = some (.string (⟨#[]⟩ : ByteArray)) := (blk_cell BK109.out 0).trans rfl; have hcz85_1 : w82.cell? ⟨gb109, 1, none⟩ = some (.int .i64 0) := (blk_cell BK109.out 1).trans rfl; have hcz85_2 : w82.cell? ⟨gb109, 2, none⟩ = some (.int .i64 0) := (blk_cell BK109.out 2).trans rfl; have hcz85_3 : w82.cell? ⟨gb109, 3, none⟩ = some (.int .i64 0) := (blk_cell BK109.out 3).trans rfl; have hcz85_4 : w82.cell? ⟨gb109, 4, none⟩ = some (.string (⟨#[]⟩ : ByteArray)) := (blk_cell BK109.out 4).trans rfl; have hfz85_0 := blk_frozen BK109.out 0; have hfz85_1 := blk_frozen BK109.out 1; have hfz85_2 := blk_frozen BK109.out 2; have hfz85_3 := blk_frozen BK109.out 3; have hfz85_4 := blk_frozen BK109.out 4) | (go_at_call 89; (with_reducible refine (ostiaryref09_options.calls k2 ((rd_T48 l0_5 x6_2).f4) t110 t111 _ A27.out).mono ?_); rintro e w86 ⟨v112, rfl, ho0, hb⟩; have n0_ := Aside0.mk (Kd.R_lower ho0 (below_size (by repeat (first | (with_reducible first | exact HB.out | apply below_alloc | apply pw_below_drewN | apply below_drew1 | refine below_set ?_ GE101.out | refine below_set ?_ GE102.out | refine below_set ?_ GE109.out) | exact HB.out)))); have n1_ := Aside0.mk (blk_below (g := gb101) (o := .cells #[.int .i64 a0_0, .int .i64 a0_1, .slice A0_2 l0_2.length c0_2, .slice A0_3 l0_3.length c0_3, .slice A0_4 l0_4.length c0_4, .slice (some ad108) l0_5.length c0_5] 25 (0, 0)) (by refine blk_far ?_ NB101_109.out _; refine blk_far ?_ NB101_109.out _; refine blk_far ?_ NB101_109.out _; refine blk_far ?_ NB101_109.out _; refine blk_far ?_ NB101_109.out _; exact BK101.out) hb); have n2_ := Aside0.mk (blk_below (g := gb102) (o := .cells #[.int .i64 x103000_2, .int .i64 x103001_2, .int .i64 x103002_2, .bool x103003_2, .slice none 0 0] 28 (0, 0)) (by refine blk_far ?_ NB102_109.out _; refine blk_far ?_ NB102_109.out _; refine blk_far ?_ NB102_109.out _; refine blk_far ?_ NB102_109.out _; refine blk_far ?_ NB102_109.out _; exact BK102.out) hb); have n3_ := Aside0.mk (blk_below (g := gb109) (o := .cells #[.string ((rd_T48 l0_5 x6_2).f0), .int .i64 ((rd_T48 l0_5 x6_2).f1), .int .i64 ((rd_T48 l0_5 x6_2).f2), .int .i64 ((rd_T48 l0_5 x6_2).f3), .string ((rd_T48 l0_5 x6_2).f4)] 48 (0, 0)) (by refine blk_put (cs := #[.string ((rd_T48 l0_5 x6_2).f0), .int .i64 ((rd_T48 l0_5 x6_2).f1), .int .i64 ((rd_T48 l0_5 x6_2).f2), .int .i64 ((rd_T48 l0_5 x6_2).f3), .string (⟨#[]⟩ : ByteArray)]) ?_ 4 _ rfl; refine blk_put (cs := #[.string ((rd_T48 l0_5 x6_2).f0), .int .i64 ((rd_T48 l0_5 x6_2).f1), .int .i64 ((rd_T48 l0_5 x6_2).f2), .int .i64 0, .string (⟨#[]⟩ : ByteArray)]) ?_ 3 _ rfl; refine blk_put (cs := #[.string ((rd_T48 l0_5 x6_2).f0), .int .i64 ((rd_T48 l0_5 x6_2).f1), .int .i64 0, .int .i64 0, .string (⟨#[]⟩ : ByteArray)]) ?_ 2 _ rfl; refine blk_put (cs := #[.string ((rd_T48 l0_5 x6_2).f0), .int .i64 0, .int .i64 0, .int .i64 0, .string (⟨#[]⟩ : ByteArray)]) ?_ 1 _ rfl; refine blk_put (cs := #[.string (⟨#[]⟩ : ByteArray), .int .i64 0, .int .i64 0, .int .i64 0, .string (⟨#[]⟩ : ByteArray)]) ?_ 0 _ rfl; exact BK109.out) hb); have n4_ := Aside0.mk (below_step (by repeat (first | (with_reducible first | exact HB.out | apply below_alloc | apply pw_below_drewN | apply below_drew1 | refine below_set ?_ GE101.out | refine below_set ?_ GE102.out | refine below_set ?_ GE109.out) | exact HB.out)) hb); clear BK101; clear BK102; clear BK109; clear HB; have HO113 := n0_; have BK101 := n1_; have BK102 := n2_; have BK109 := n3_; have HB := n4_; clear n0_ n1_ n2_ n3_ n4_; (try clear hb); (try clear hb2); (try clear hk); (try clear hi); (try clear ho0); have hcz87_0 : w86.cell? ⟨gb109, 0, none⟩ = some (.string ((rd_T48 l0_5 x6_2).f0)) := (blk_cell BK109.out 0).trans rfl; have hcz87_1 : w86.cell? ⟨gb109, 1, none⟩ = some (.int .i64 ((rd_T48 l0_5 x6_2).f1)) := (blk_cell BK109.out 1).trans rfl; have hcz87_2 : w86.cell? ⟨gb109, 2, none⟩ = some (.int .i64 ((rd_T48 l0_5 x6_2).f2)) := (blk_cell BK109.out 2).trans rfl; have hcz87_3 : w86.cell? ⟨gb109, 3, none⟩ = some (.int .i64 ((rd_T48 l0_5 x6_2).f3)) := (blk_cell BK109.out 3).trans rfl; have hcz87_4 : w86.cell? ⟨gb109, 4, none⟩ = some (.string ((rd_T48 l0_5 x6_2).f4)) := (blk_cell BK109.out 4).trans rfl; have hfz87_0 := blk_frozen BK109.out 0; have hfz87_1 := blk_frozen BK109.out 1; have hfz87_2 := blk_frozen BK109.out 2; have hfz87_3 := blk_frozen BK109.out 3; have hfz87_4 := blk_frozen BK109.out 4; have hcz88_0 : w86.cell? ⟨gb102, 0, none⟩ = some (.int .i64 x103000_2) := (blk_cell BK102.out 0).trans rfl; have hcz88_1 : w86.cell? ⟨gb102, 1, none⟩ = some (.int .i64 x103001_2) := (blk_cell BK102.out 1).trans rfl; have hcz88_2 : w86.cell? ⟨gb102, 2, none⟩ = some (.int .i64 x103002_2) := (blk_cell BK102.out 2).trans rfl; have hcz88_3 : w86.cell? ⟨gb102, 3, none⟩ = some (.bool x103003_2) := (blk_cell BK102.out 3).trans rfl; have hcz88_4 : w86.cell? ⟨gb102, 4, none⟩ = some (.slice none 0 0) := (blk_cell BK102.out 4).trans rfl; have hfz88_0 := blk_frozen BK102.out 0; have hfz88_1 := blk_frozen BK102.out 1; have hfz88_2 := blk_frozen BK102.out 2; have hfz88_3 := blk_frozen BK102.out 3; have hfz88_4 := blk_frozen BK102.out 4))
                      refine bodyPost_ret (results_ctt rfl _ _ gb102 28 #[.int .i64 0, .int .i64 0, .int .i64 0, .bool false, .slice none 0 0] (0, 0) _ rfl (by refine blk_put (cs := #[.int .i64 0, .int .i64 0, .int .i64 0, .bool false, .slice none 0 0]) ?_ 4 _ rfl; refine blk_put (cs := #[.int .i64 0, .int .i64 0, .int .i64 0, .bool x103003_2, .slice none 0 0]) ?_ 3 _ rfl; refine blk_put (cs := #[.int .i64 0, .int .i64 0, .int .i64 x103002_2, .bool x103003_2, .slice none 0 0]) ?_ 2 _ rfl; refine blk_put (cs := #[.int .i64 0, .int .i64 x103001_2, .int .i64 x103002_2, .bool x103003_2, .slice none 0 0]) ?_ 1 _ rfl; refine blk_put (cs := #[.int .i64 x103000_2, .int .i64 x103001_2, .int .i64 x103002_2, .bool x103003_2, .slice none 0 0]) ?_ 0 _ rfl; exact BK102.out) Try.underlying28 rfl (by kernel_rfl)) rfl ?_
                      exact ⟨_, by first | rfl | (simp [errW_none, errW_some] <;> rfl) | (simp [*, errW_none, errW_some] <;> rfl), by first | exact Kd.R_nil _ _ _ _ _ | exact Kd.N_nil _ _ _ _ _ | exact Kd.V_nil _ _ _ _ _ | exact Kd.Q_nil _ _ _ _ _ | exact Kd.S_nil _ _ _ _ _, by repeat (first | (with_reducible first | exact HB.out | apply below_alloc | apply pw_below_drewN | apply below_drew1 | refine below_set ?_ GE101.out | refine below_set ?_ GE102.out | refine below_set ?_ GE109.out) | exact HB.out)⟩
                  · rw [if_neg c26] at H
                    have c26b0 : (((rd_T48 l0_5 x6_2).f1) == 41) = false := beq_eq_false_iff_ne.mpr c26
                    have c26b1 : (((rd_T48 l0_5 x6_2).f1) != 41) = true := bne_iff_ne.mpr c26
                    have H' := Aside0.mk H
                    clear H
                    have hnb89 := NB101_102.out
                    have hnc89 := NB102_101.out
                    have hcz90_0 : wr.cell? ⟨gb101, 0, none⟩ = some (.int .i64 a0_0) := (blk_cell BK101.out 0).trans rfl
                    have hcz90_1 : wr.cell? ⟨gb101, 1, none⟩ = some (.int .i64 a0_1) := (blk_cell BK101.out 1).trans rfl
                    have hcz90_2 : wr.cell? ⟨gb101, 2, none⟩ = some (.slice A0_2 l0_2.length c0_2) := (blk_cell BK101.out 2).trans rfl
                    have hcz90_3 : wr.cell? ⟨gb101, 3, none⟩ = some (.slice A0_3 l0_3.length c0_3) := (blk_cell BK101.out 3).trans rfl
                    have hcz90_4 : wr.cell? ⟨gb101, 4, none⟩ = some (.slice A0_4 l0_4.length c0_4) := (blk_cell BK101.out 4).trans rfl
                    have hcz90_5 : wr.cell? ⟨gb101, 5, none⟩ = some (.slice A0_5 l0_5.length c0_5) := (blk_cell BK101.out 5).trans rfl
                    have hfz90_0 := blk_frozen BK101.out 0
                    have hfz90_1 := blk_frozen BK101.out 1
                    have hfz90_2 := blk_frozen BK101.out 2
                    have hfz90_3 := blk_frozen BK101.out 3
                    have hfz90_4 := blk_frozen BK101.out 4
                    have hfz90_5 := blk_frozen BK101.out 5
                    have p108 : 0 ≤ (x6_2 : Int) := of_decide_eq_true (by first | (with_reducible assumption) | assumption)
                    have q108 : x6_2 < (l0_5.length : Int) := of_decide_eq_true (by first | (with_reducible assumption) | assumption)
                    obtain ⟨ad108, e108, hx108_0, hx108_1, hx108_2, hx108_3, hx108_4⟩ := at_T48 HR0_5.out x6_2 p108 q108
                    cases e108
                    replace hx108_0 := (HB.out.cell (World.block_lt_of_cell? w _ hx108_0)).trans hx108_0
                    replace hx108_1 := (HB.out.cell (World.block_lt_of_cell? w _ hx108_1)).trans hx108_1
                    replace hx108_2 := (HB.out.cell (World.block_lt_of_cell? w _ hx108_2)).trans hx108_2
                    replace hx108_3 := (HB.out.cell (World.block_lt_of_cell? w _ hx108_3)).trans hx108_3
                    replace hx108_4 := (HB.out.cell (World.block_lt_of_cell? w _ hx108_4)).trans hx108_4
                    replace p108 := eq_true p108
                    replace q108 := eq_true q108
                    go_wp2_with (first | ((with_reducible refine gate_dst (N := 7) rfl ?_); refine box_event ?hg (N := 7) ?hd (cs := #[.string (⟨#[]⟩ : ByteArray), .int .i64 0, .int .i64 0, .int .i64 0, .string (⟨#[]⟩ : ByteArray)]) (t := 48) ?hr ?_; (case hd => rfl); (case hg => rfl); (case hr => first | (go_simp; done) | (go_simp; rfl)); intro gb109 hg w91 hbox hb; have n0_ := Aside0.mk (blk_below (g := gb101) (o := .cells #[.int .i64 a0_0, .int .i64 a0_1, .slice A0_2 l0_2.length c0_2, .slice A0_3 l0_3.length c0_3, .slice A0_4 l0_4.length c0_4, .slice (some ad108) l0_5.length c0_5] 25 (0, 0)) (by exact BK101.out) hb); have n1_ := Aside0.mk (blk_below (g := gb102) (o := .cells #[.int .i64 x103000_2, .int .i64 x103001_2, .int .i64 x103002_2, .bool x103003_2, .slice none 0 0] 28 (0, 0)) (by exact BK102.out) hb); have n2_ := Aside0.mk (below_step (by repeat (first | (with_reducible first | exact HB.out | apply below_alloc | apply pw_below_drewN | apply below_drew1 | refine below_set ?_ GE101.out | refine below_set ?_ GE102.out) | exact HB.out)) hb); have n3_ := Aside0.mk (hbox); have n4_ := Aside0.mk ((by rw [hg]; exact (below_size (by repeat (first | (with_reducible first | exact HB.out | apply below_alloc | apply pw_below_drewN | apply below_drew1 | refine below_set ?_ GE101.out | refine below_set ?_ GE102.out) | exact HB.out))) : w.heap.size ≤ gb109)); have n5_ := Aside0.mk ((by rw [hg]; exact (below_size (by repeat (first | (with_reducible first | exact HB.out | apply below_alloc | apply pw_below_drewN | apply below_drew1 | refine below_set ?_ GE101.out | refine below_set ?_ GE102.out) | exact HB.out))) : w.heap.size ≤ gb109)); have n6_ := Aside0.mk ((by rw [hg]; exact Nat.ne_of_lt (blk_lt (g := gb101) (o := .cells #[.int .i64 a0_0, .int .i64 a0_1, .slice A0_2 l0_2.length c0_2, .slice A0_3 l0_3.length c0_3, .slice A0_4 l0_4.length c0_4, .slice (some ad108) l0_5.length c0_5] 25 (0, 0)) (by exact BK101.out)) : gb101 ≠ gb109)); have n7_ := Aside0.mk ((by rw [hg]; exact Nat.ne_of_gt (blk_lt (g := gb101) (o := .cells #[.int .i64 a0_0, .int .i64 a0_1, .slice A0_2 l0_2.length c0_2, .slice A0_3 l0_3.length c0_3, .slice A0_4 l0_4.length c0_4, .slice (some ad108) l0_5.length c0_5] 25 (0, 0)) (by exact BK101.out)) : gb109 ≠ gb101)); have n8_ := Aside0.mk ((by rw [hg]; exact Nat.ne_of_lt (blk_lt (g := gb102) (o := .cells #[.int .i64 x103000_2, .int .i64 x103001_2, .int .i64 x103002_2, .bool x103003_2, .slice none 0 0] 28 (0, 0)) (by exact BK102.out)) : gb102 ≠ gb109)); have n9_ := Aside0.mk ((by rw [hg]; exact Nat.ne_of_gt (blk_lt (g := gb102) (o := .cells #[.int .i64 x103000_2, .int .i64 x103001_2, .int .i64 x103002_2, .bool x103003_2, .slice none 0 0] 28 (0, 0)) (by exact BK102.out)) : gb109 ≠ gb102)); clear BK101; clear BK102; clear HB; have BK101 := n0_; have BK102 := n1_; have HB := n2_; have BK109 := n3_; have GW109 := n4_; have GE109 := n5_; have NB101_109 := n6_; have NB109_101 := n7_; have NB102_109 := n8_; have NB109_102 := n9_; clear n0_ n1_ n2_ n3_ n4_ n5_ n6_ n7_ n8_ n9_; clear hb hbox hg; have hnb92 := NB109_101.out; have hnc92 := NB101_109.out; have hnb93 := NB109_102.out; have hnc93 := NB102_109.out; have hcz94_0 : w91.cell? ⟨gb109, 0, none⟩ = some (.string (⟨#[]⟩ : ByteArray)) := (blk_cell BK109.out 0).trans rfl; have hcz94_1 : w91.cell? ⟨gb109, 1, none⟩ = some (.int .i64 0) := (blk_cell BK109.out 1).trans rfl; have hcz94_2 : w91.cell? ⟨gb109, 2, none⟩ = some (.int .i64 0) := (blk_cell BK109.out 2).trans rfl; have hcz94_3 : w91.cell? ⟨gb109, 3, none⟩ = some (.int .i64 0) := (blk_cell BK109.out 3).trans rfl; have hcz94_4 : w91.cell? ⟨gb109, 4, none⟩ = some (.string (⟨#[]⟩ : ByteArray)) := (blk_cell BK109.out 4).trans rfl; have hfz94_0 := blk_frozen BK109.out 0; have hfz94_1 := blk_frozen BK109.out 1; have hfz94_2 := blk_frozen BK109.out 2; have hfz94_3 := blk_frozen BK109.out 3; have hfz94_4 := blk_frozen BK109.out 4))
                    go_roundg k2
                    case measure => have := HJ10.out; have := HK2.out; omega
                    case rel => exact ⟨(wrap64 (x6_2 + 1)), (x103000_2), (x103001_2), (x103002_2), (x103003_2), (by first | rfl | (simp; done) | (simp [*]; done)), H', ⟨by have := HJ10.out; have := HK2.out; omega⟩, ⟨by refine blk_far ?_ NB101_109.out _; refine blk_far ?_ NB101_109.out _; refine blk_far ?_ NB101_109.out _; refine blk_far ?_ NB101_109.out _; refine blk_far ?_ NB101_109.out _; exact BK101.out⟩, ⟨by refine blk_far ?_ NB102_109.out _; refine blk_far ?_ NB102_109.out _; refine blk_far ?_ NB102_109.out _; refine blk_far ?_ NB102_109.out _; refine blk_far ?_ NB102_109.out _; exact BK102.out⟩, ⟨by repeat (first | (with_reducible first | exact HB.out | apply below_alloc | apply pw_below_drewN | apply below_drew1 | refine below_set ?_ GE101.out | refine below_set ?_ GE102.out | refine below_set ?_ GE109.out) | exact HB.out)⟩⟩
                · rw [if_neg c25] at H
                  exact absurd H (by simp)
              · rw [if_neg c24] at H
                have c24b0 : decide (x6_2 < (l0_5.length : Int)) = false := decide_eq_false c24
                clear c24
                simp only [Option.some.injEq, Prod.mk.injEq] at H
                obtain ⟨rfl, rfl, rfl, rfl, rfl, rfl, rfl⟩ := H
                have hnb95 := NB101_102.out
                have hnc95 := NB102_101.out
                have hcz96_0 : wr.cell? ⟨gb101, 0, none⟩ = some (.int .i64 a0_0) := (blk_cell BK101.out 0).trans rfl
                have hcz96_1 : wr.cell? ⟨gb101, 1, none⟩ = some (.int .i64 a0_1) := (blk_cell BK101.out 1).trans rfl
                have hcz96_2 : wr.cell? ⟨gb101, 2, none⟩ = some (.slice A0_2 l0_2.length c0_2) := (blk_cell BK101.out 2).trans rfl
                have hcz96_3 : wr.cell? ⟨gb101, 3, none⟩ = some (.slice A0_3 l0_3.length c0_3) := (blk_cell BK101.out 3).trans rfl
                have hcz96_4 : wr.cell? ⟨gb101, 4, none⟩ = some (.slice A0_4 l0_4.length c0_4) := (blk_cell BK101.out 4).trans rfl
                have hcz96_5 : wr.cell? ⟨gb101, 5, none⟩ = some (.slice A0_5 l0_5.length c0_5) := (blk_cell BK101.out 5).trans rfl
                have hfz96_0 := blk_frozen BK101.out 0
                have hfz96_1 := blk_frozen BK101.out 1
                have hfz96_2 := blk_frozen BK101.out 2
                have hfz96_3 := blk_frozen BK101.out 3
                have hfz96_4 := blk_frozen BK101.out 4
                have hfz96_5 := blk_frozen BK101.out 5
                have hcz97_0 : wr.cell? ⟨gb102, 0, none⟩ = some (.int .i64 x103000_2) := (blk_cell BK102.out 0).trans rfl
                have hcz97_1 : wr.cell? ⟨gb102, 1, none⟩ = some (.int .i64 x103001_2) := (blk_cell BK102.out 1).trans rfl
                have hcz97_2 : wr.cell? ⟨gb102, 2, none⟩ = some (.int .i64 x103002_2) := (blk_cell BK102.out 2).trans rfl
                have hcz97_3 : wr.cell? ⟨gb102, 3, none⟩ = some (.bool x103003_2) := (blk_cell BK102.out 3).trans rfl
                have hcz97_4 : wr.cell? ⟨gb102, 4, none⟩ = some (.slice none 0 0) := (blk_cell BK102.out 4).trans rfl
                have hfz97_0 := blk_frozen BK102.out 0
                have hfz97_1 := blk_frozen BK102.out 1
                have hfz97_2 := blk_frozen BK102.out 2
                have hfz97_3 := blk_frozen BK102.out 3
                have hfz97_4 := blk_frozen BK102.out 4
                go_wp2
                repeat (go_quiet (fail); try go_wp2)
                refine bodyPost_ret (results_ctt rfl _ _ gb102 28 #[.int .i64 0, .int .i64 0, .int .i64 0, .bool false, .slice none 0 0] (0, 0) _ rfl (by refine blk_put (cs := #[.int .i64 0, .int .i64 0, .int .i64 0, .bool false, .slice none 0 0]) ?_ 4 _ rfl; refine blk_put (cs := #[.int .i64 0, .int .i64 0, .int .i64 0, .bool x103003_2, .slice none 0 0]) ?_ 3 _ rfl; refine blk_put (cs := #[.int .i64 0, .int .i64 0, .int .i64 x103002_2, .bool x103003_2, .slice none 0 0]) ?_ 2 _ rfl; refine blk_put (cs := #[.int .i64 0, .int .i64 x103001_2, .int .i64 x103002_2, .bool x103003_2, .slice none 0 0]) ?_ 1 _ rfl; refine blk_put (cs := #[.int .i64 x103000_2, .int .i64 x103001_2, .int .i64 x103002_2, .bool x103003_2, .slice none 0 0]) ?_ 0 _ rfl; exact BK102.out) Try.underlying28 rfl (by kernel_rfl)) rfl ?_
                exact ⟨_, by first | rfl | (simp [errW_none, errW_some] <;> rfl) | (simp [*, errW_none, errW_some] <;> rfl), by first | exact Kd.R_nil _ _ _ _ _ | exact Kd.N_nil _ _ _ _ _ | exact Kd.V_nil _ _ _ _ _ | exact Kd.Q_nil _ _ _ _ _ | exact Kd.S_nil _ _ _ _ _, by repeat (first | (with_reducible first | exact HB.out | apply below_alloc | apply pw_below_drewN | apply below_drew1 | refine below_set ?_ GE101.out | refine below_set ?_ GE102.out) | exact HB.out)⟩
end Go.Proofs.Yteahdaddbmhfgaa.P
end
