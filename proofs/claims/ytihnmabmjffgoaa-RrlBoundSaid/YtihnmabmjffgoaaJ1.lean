/- Walks over rrl: Judge. -/
import Derived.Test.YtihnmabmjffgoaaJ0
import Derived.Deep.DeepCutAuto
import Derived.Deep.CutBlock
import Derived.StillTailTactics
import Derived.Lib.Hide
import Derived.Deep.RegionHeld3
import Derived.Deep.RegionLaw
import Derived.Deep.AppendLies
namespace Go.Proofs.Ytihnmabmjffgoaa
open Go.RowKit Go.Maps

set_option maxRecDepth 100000 in
set_option maxHeartbeats 400000 in
theorem Judge_nil (c : Int) (s : ByteArray) (now : Int) (w : World) : Calls Try.prog 9 #[.pointer none, .int .i64 c, .string s, .int .i64 now] w fun e w' => e = .returned (.int .i64 2) ∧ w' = w := by
  go_enter Try.func9, Try.ntmps9
  go_wp2
  go_ret
  exact ⟨rfl, rfl⟩
set_option maxRecDepth 100000 in
set_option maxHeartbeats 400000 in
theorem Judge_zero (g : Nat) (c : Int) (s : ByteArray) (now : Int) (w : World) (h0 : w.cell? ⟨g, 0, none⟩ = some (.int .i64 0)) : Calls Try.prog 9 #[.pointer (some ⟨g, 0, none⟩), .int .i64 c, .string s, .int .i64 now] w fun e w' => e = .returned (.int .i64 2) ∧ w' = w := by
  go_enter Try.func9, Try.ntmps9
  go_wp2
  go_ret
  exact ⟨rfl, rfl⟩
set_option maxRecDepth 100000 in
set_option maxHeartbeats 400000 in
theorem Judge_bad (g : Nat) (most : Int) (c : Int) (s : ByteArray) (now : Int) (w : World) (h0 : w.cell? ⟨g, 0, none⟩ = some (.int .i64 most)) (hm : (most == 0) = false) (hs : s.size ≤ maxLen) (hbad : 255 < s.size ∨ now < 0 ∨ 1099511627776 < now) :
    Calls Try.prog 9 #[.pointer (some ⟨g, 0, none⟩), .int .i64 c, .string s, .int .i64 now] w fun e w' => e = .returned (.int .i64 2) ∧ w' = w := by
  unfold maxLen at hs
  rcases hbad with h | h | h
  · go_enter Try.func9, Try.ntmps9
    go_wp2
    go_ret
    exact ⟨rfl, rfl⟩
  · by_cases h2 : 255 < s.size
    all_goals
      go_enter Try.func9, Try.ntmps9
      go_wp2
      go_ret
      exact ⟨rfl, rfl⟩
  · by_cases h2 : 255 < s.size
    all_goals
      go_enter Try.func9, Try.ntmps9
      go_wp2
      go_ret
      exact ⟨rfl, rfl⟩

theorem info46 : (Try.prog.info? 46).map (fun i => (i.zero, i.size, i.bytes)) = some (some (.agg #[.int .i64 0, .string ⟨#[]⟩]), 2, 24) := by kernel_rfl
def optP : Option Nat → Value | some t => ptrV t | none => .pointer none

/-- What holds behind 'if !is { .. }'. -/
def Mid (w : World) (g : Nat) (S : Nat → Prop) (bm : Nat) (c : Int) (s : ByteArray) (xf : Lim) (s10 : Value) (wc : World) : Prop :=
  ∃ S1 v1 l1 m1 p, s10 = ptrV p.t ∧ p ∈ l1 ∧ p.e.c = c ∧ p.e.s = s ∧ LimAt wc g S1 xf bm v1 l1 m1 ∧ (∀ k, S1 k → S k ∨ w.heap.size ≤ k) ∧ KeptOff S w wc
/-- What Judge leaves. -/
def Left (w : World) (g : Nat) (S : Nat → Prop) (r : Int × Lim) (e : Ending) (w' : World) : Prop :=
  e = .returned (.int .i64 r.1) ∧ KeptOff S w w' ∧ ∃ S', IsLim w' g S' r.2 ∧ ∀ k, S' k → S k ∨ w.heap.size ≤ k

set_option maxRecDepth 100000 in
set_option maxHeartbeats 1000000 in
theorem Judge_t (g : Nat) (S : Nat → Prop) (x : Lim) (bm : Nat) (v : Value) (l : List Put) (m : Int → ByteArray → Option Nat) (c : Int) (s : ByteArray) (now : Int) (w : World) (hk : KeyOk c s) (hs : s.size ≤ 255) (n0 : 0 ≤ now) (n1 : now ≤ 1099511627776)
    (h : LimAt w g S x bm v l m) (hroom : findE x.L c s = none → RoomSaid (nowE x now) g bm) :
    Calls Try.prog 9 #[.pointer (some ⟨g, 0, none⟩), .int .i64 c, .string s, .int .i64 now] w (Left w g S (judge x c s now)) := by
  have hm : (x.most == 0) = false := by have := h.ok.m0; rw [beq_eq_false_iff_ne]; omega
  have n2 := h.ok.n0
  have n3 := h.ok.n1
  obtain ⟨h0, h1, h2, h3, h4, h5, h6⟩ := h.cells
  have f4 := blk_frozen h.head 4
  have hgl := h.lt g h.sg
  have hL : LimAt (w.setCell ⟨g, 4, none⟩ (.int .i64 (if x.now < now then now else x.now))) g S (nowE x now) bm v l m := h.setNow (n := if x.now < now then now else x.now) (by split <;> omega) (by split <;> omega)
  have hkeep : KeptOff S w (w.setCell ⟨g, 4, none⟩ (.int .i64 (if x.now < now then now else x.now))) := KeptOff.setCell _ h.sg _
  have HR := Lib.hid hroom; clear hroom
  have H := Lib.hid h; clear h
  generalize hw1 : w.setCell ⟨g, 4, none⟩ (.int .i64 (if x.now < now then now else x.now)) = w1 at hL hkeep
  have HW := Lib.hid hw1; clear hw1
  have HL := Lib.hid hL; clear hL
  have HK := Lib.hid hk; clear hk
  have HE := Lib.hid hkeep; clear hkeep
  go_enter Try.func9, Try.ntmps9
  go_upto_region 5 with fail
  rw [HW.out]
  generalize (if x.now < now then now else x.now) = nn
  have hlook : ∀ j, (Instr.lookup 24 (.map (some bm)) (keyV c s) true).run Try.prog ((w1.alloc (Obj.cells #[Value.int IntKind.i64 c, Value.string s] 46)).drewN j) = .ok (.tuple #[optP (m c s), .bool (m c s).isSome]) ((w1.alloc (Obj.cells #[Value.int IntKind.i64 c, Value.string s] 46)).drewN j) := fun j => by
    have := (HL.out.keys.kept (w' := (w1.alloc (Obj.cells #[Value.int IntKind.i64 c, Value.string s] 46)).drewN j) (Below.heap_alloc _ _ _ HL.out.keys.lt)).look HK.out true
    rw [this]
    cases m c s <;> rfl
  unfold keyV at hlook
  have d5 := HL.out.cells.2.2.2.2.2.1
  have hgl1 := HL.out.lt g HL.out.sg
  have e9 : w.heap.size = w1.heap.size := by rw [← HW.out]; simp
  rw [e9]
  have E9 := Lib.hid e9
  clear e9
  go_quiet (fail)
  clear hlook
  go_upto_if 57 with fail
  go_cut [9, 10, 11] (fun _ s10 _ wc => ∃ xf, judge x c s now = finE xf c s ∧ Mid w g S bm c s xf s10 wc)
  case first =>
    have hL2 := HL.out.kept (T := fun _ => False) (((KeptOff.alloc _ w1 (Obj.cells #[Value.int IntKind.i64 c, Value.string s] 46)).then (KeptOff.drewN _ _ nq))) (fun _ _ h => h)
    have hK2 : KeptOff S w ((w1.alloc (Obj.cells #[Value.int IntKind.i64 c, Value.string s] 46)).drewN nq) := HE.out.then ((KeptOff.alloc _ w1 _).then (KeptOff.drewN _ _ nq))
    have hkb : ((w1.alloc (Obj.cells #[Value.int IntKind.i64 c, Value.string s] 46)).drewN nq).heap[w1.heap.size]? = some (.cells #[Value.int IntKind.i64 c, Value.string s] 46 (0, 0)) := heap_alloc_new w1 _
    have hkS : ¬ S w1.heap.size := fun hs' => by have := H.out.lt _ hs'; rw [E9.out] at this; omega
    generalize (w1.alloc (Obj.cells #[Value.int IntKind.i64 c, Value.string s] 46)).drewN nq = W2 at hL2 hK2 hkb ⊢
    generalize w1.heap.size = kb at hkb hkS ⊢
    have HL2 := Lib.hid hL2; clear hL2
    have HK2 := Lib.hid hK2; clear hK2
    have HKB := Lib.hid hkb; clear hkb
    clear hgl1 d5 h0 h1 h2 h3 h4 h5 h6 f4 hgl
    cases hf : findE x.L c s with
    | some e =>
      obtain ⟨q1, q2, p, hp, hpe, hmp, hpt⟩ := HL2.out.found (e := e) hf
      have hj : judge x c s now = finE (nowE x now) c s := by simp [judge, hf]
      have HF := Lib.hid hf; clear hf
      clear hpt
      rw [hmp]
      subst hpe
      go_wp2_with fail
      go_meet
      exact ⟨nowE x now, hj, S, v, l, m, p, rfl, hp, q1, q2, HL2.out, fun k hk => .inl hk, HK2.out⟩
    | none =>
      have hmn := HL2.out.missing HK.out hf
      rw [hmn]
      have hcall := HR.out hf S W2 v l m HL2.out
      cases hr : roomE (nowE x now) with
      | none =>
        have hj : judge x c s now = (2, nowE x now) := by simp [judge, hf, hr]
        have HJ := Lib.hid hj; clear hj
        unfold RoomPost at hcall
        rw [hr] at hcall
        have HF := Lib.hid hf; clear hf
        have HRR := Lib.hid hr; clear hr
        have HM := Lib.hid hmn; clear hmn
        have HC := Lib.hid hcall; clear hcall
        have hfin : ∀ W', Below W2.heap.size W2 W' → Left w g S (judge x c s now) (.returned (.int .i64 2)) W' := fun W' hb => by
          rw [HJ.out]
          have hk : ∀ T : Nat → Prop, KeptOff T W2 W' := fun T => ⟨hb.os, hb.tape, hb.output, hb.size, fun k hk _ => hb.block k hk⟩
          exact ⟨rfl, HK2.out.then (hk _), S, ⟨bm, v, l, m, HL2.out.kept (T := fun _ => False) (hk _) (fun _ _ h => h)⟩, fun k hk => .inl hk⟩
        have HFIN := Lib.hid hfin; clear hfin
        go_wp2_with fail
        refine HC.out.mono ?_
        rintro e w3 ⟨rfl, hb3⟩
        have HB3 := Lib.hid hb3; clear hb3
        go_wp2_with fail
        go_ret
        exact HFIN.out _ HB3.out
      | some L =>
        have hj : judge x c s now = finE { nowE x now with L := L ++ [⟨c, s, (nowE x now).now, 0⟩] } c s := by simp [judge, hf, hr]
        have HJ := Lib.hid hj; clear hj
        unfold RoomPost at hcall
        rw [hr] at hcall
        have HF := Lib.hid hf; clear hf
        have HRR := Lib.hid hr; clear hr
        have HM := Lib.hid hmn; clear hmn
        have HC := Lib.hid hcall; clear hcall
        go_wp2_with fail
        refine HC.out.mono ?_
        rintro e w3 ⟨rfl, hK3, v3, l3, m3, hL3, hfew3⟩
        obtain ⟨h0, h1, h2, h3, h4, h5, h6⟩ := hL3.cells
        have f6 := blk_frozen hL3.head 6
        have hg3 := hL3.lt g hL3.sg
        have hkb3 : w3.heap[kb]? = some (.cells #[Value.int IntKind.i64 c, Value.string s] 46 (0, 0)) := (hK3.block kb (Array.getElem?_eq_some_iff.1 HKB.out).1 hkS).trans HKB.out
        have k0 := blk_cell hkb3 0
        have k1 := blk_cell hkb3 1
        have hkb := (Array.getElem?_eq_some_iff.1 hkb3).1
        have he3 : L.length = l3.length := by have := congrArg List.length hL3.ents; simpa using this
        have HL3 := Lib.hid hL3; clear hL3
        have HK3 := Lib.hid hK3; clear hK3
        have HKB3 := Lib.hid hkb3; clear hkb3
        have hm3 : m3 c s = none := HL3.out.missing HK.out (findE_sub (roomE_sub HRR.out) HF.out)
        obtain ⟨w5, hrun5, h5s⟩ := HL3.out.stored HK.out hm3 HKB3.out
        have HM3 := Lib.hid hm3; clear hm3
        have H5S := Lib.hid h5s; clear h5s
        have hrun5' : (Instr.mapUpdate 24 (.map (some bm)) (.agg #[.int .i64 c, .string s]) (ptrV w3.heap.size)).run Try.prog (w3.alloc (.cells #[.int .i64 (nowE x now).now, .int .i64 0] 50)).drew = .ok () w5 := hrun5
        clear hrun5
        go_upto_region 10 with fail
        go_region
        clear h0 h1 h2 h3 h4 h5 h6 k0 k1 f6 hrun5'
        have h6 : w5.cell? ⟨g, 6, none⟩ = some v3 := blk_cell H5S.out.head 6
        have f6 := blk_frozen H5S.out.head 6
        have h6a : ∀ o, (w5.alloc o).cell? ⟨g, 6, none⟩ = some v3 := fun o => blk_cell ((Below.heap_alloc w5 o g (Array.getElem?_eq_some_iff.1 H5S.out.head).1).trans H5S.out.head) 6
        have f6a : ∀ o, (w5.alloc o).frozen? ⟨g, 6, none⟩ = false := fun o => blk_frozen ((Below.heap_alloc w5 o g (Array.getElem?_eq_some_iff.1 H5S.out.head).1).trans H5S.out.head) 6
        have k0 : w5.cell? ⟨kb, 0, none⟩ = some (.int .i64 c) := blk_cell H5S.out.key 0
        have k1 : w5.cell? ⟨kb, 1, none⟩ = some (.string s) := blk_cell H5S.out.key 1
        have hgs5 : g < w5.heap.size := (Array.getElem?_eq_some_iff.1 H5S.out.head).1
        have hks5 : kb < w5.heap.size := (Array.getElem?_eq_some_iff.1 H5S.out.key).1
        obtain ⟨i0, hi, hz0, hz1, hz2⟩ := info_parts info46
        have hfl := HL3.out.few'
        have hgv : some g ≠ v3.ownBlock := fun e => HL3.out.gv e.symm
        have hkv : some kb ≠ v3.ownBlock := fun e => hkS (HL3.out.sv _ e.symm)
        go_wp2_with fail
        go_region_law
          ((refine step_append_lies _ (by rfl) _ _ _ (by rfl) 0 46 i0 _ 2 24 Try.underlying25 hi hz0 hz1 hz2 rfl (by omega) v3 l3.length (keyCells l3) (by rfl) (by exact H5S.out.row.alloc _) ⟨w5.heap.size, 0, none⟩ 1 1 [.int .i64 c, .string s] (by rfl) rfl (by exact World.news_of_block (heap_alloc_new w5 _)) (by simp [Value.oneCell']) (by omega) (by unfold maxLen; omega) (by omega) (Nat.zero_le _) (w5.heap.size + 1) (by simp) ?_; intro g' cap w6 hown6 hgrow6 hat6 hlt6; have q6 : w6.cell? ⟨g, 6, none⟩ = some v3 := hgrow6.cell (h6a _) hgv; have q7 : w6.frozen? ⟨g, 6, none⟩ = false := (hgrow6.frozen_far ⟨g, 6, none⟩ (by simp; omega) hgv).trans (f6a _)))
        all_goals
          have hA := HL3.out.appended HK.out HM3.out (by rw [← he3]; exact hfew3) H5S.out (((Below.refl _ w5).alloc (Nat.le_refl _) _).drew) hown6 hgrow6 hat6 0
          go_wp2_with fail
          go_meet
          refine ⟨_, HJ.out, _, _, _, _, ⟨⟨c, s, (nowE x now).now, 0⟩, w3.heap.size⟩, rfl, List.mem_append_right _ (List.mem_singleton.2 rfl), rfl, rfl, hA.1, ?_, ?_⟩
          · rintro k (hk | hk)
            · exact .inl hk
            · exact .inr (by have := HK2.out.size; have := HK3.out.size; omega)
          · exact (HK2.out.then HK3.out).then (hA.2.mono (fun k hk => by
              rcases hk with rfl | rfl | hk
              · exact HL3.out.sg
              · exact HL3.out.sm
              · exact HL3.out.sv k hk))
  case rest =>
    obtain ⟨xf, hj, S1, v1, l1, m1, p, rfl, hp, q1, q2, hL, hS1, hK⟩ := hcut
    subst q1
    subst q2
    clear h0 h1 h2 h3 h4 h5 h6 f4 hgl hgl1 d5
    obtain ⟨h0, h1, h2, h3, h4, h5, h6⟩ := hL.cells
    have hpt := (hL.at_ p hp).2
    have t0 : wc.cell? ⟨p.t, 0, none⟩ = some (.int .i64 p.e.began) := blk_cell hpt 0
    have t1 : wc.cell? ⟨p.t, 1, none⟩ = some (.int .i64 p.e.cnt) := blk_cell hpt 1
    have f0 := blk_frozen hpt 0
    have f1 := blk_frozen hpt 1
    have hgt := hL.gt hp
    have o := hL.ok
    have oe := o.ents p.e (by rw [hL.ents]; exact List.mem_map_of_mem hp)
    have a1 := o.n0
    have a2 := o.n1
    have a3 := oe.b0
    have a4 : p.e.began ≤ 1099511627776 := Int.le_trans oe.b1 o.n1
    have a5 := oe.n0
    have a6 := oe.n1
    have a7 := o.l0
    have a8 := o.l1
    have a9 := o.s0
    have a10 := o.s1
    have a11 := o.w0
    have a12 := o.w1
    have a13 := oe.b1
    have hfin : ∀ (r : Int) (W' : World), verdict xf (stepE xf p.e) = r → KeptOff (fun k => k = p.t) wc W' → W'.heap[p.t]? = some (.cells #[.int .i64 (stepE xf p.e).began, .int .i64 (stepE xf p.e).cnt] 50 (0, 0)) → Left w g S (judge x p.e.c p.e.s now) (.returned (.int .i64 r)) W' := fun r W' e1 e2 e3 => by
      rw [hj]
      refine ⟨?_, hK.trans e2 (fun k hk => hS1 k (hk ▸ hL.st p hp)), S1, hL.done hp e2 e3, hS1⟩
      rw [hL.fin hp, ← e1]
    have HFIN := Lib.hid hfin; clear hfin
    have HLL := Lib.hid hL; clear hL
    have HJ := Lib.hid hj; clear hj
    have HP := Lib.hid hpt; clear hpt
    have HHK := Lib.hid hK; clear hK
    clear o oe
    have hcall := over_calls g p.t xf.now xf.window p.e.began wc h4 h2 t0 a1 a2 a3 a4
    by_cases hov : xf.window ≤ xf.now - p.e.began
    · have hd : decide (xf.window ≤ xf.now - p.e.began) = true := by simpa using hov
      rw [hd] at hcall
      have HC := Lib.hid hcall; clear hcall hd
      go_wp2_with fail
      refine HC.out.mono ?_
      rintro e w3 ⟨rfl, jn, rfl⟩
      go_upto_region 15 with fail
      obtain ⟨hWk, hWc⟩ := wrote_over jn HP.out (.int .i64 xf.now) (.int .i64 0) (.int .i64 1)
      generalize (((wc.drewN jn).setCell ⟨p.t, 0, none⟩ (.int .i64 xf.now)).setCell ⟨p.t, 1, none⟩ (.int .i64 0)).setCell ⟨p.t, 1, none⟩ (.int .i64 1) = W3 at hWk hWc ⊢
      have hfin2 : ∀ (r : Int) (n : Nat), verdict xf ⟨p.e.c, p.e.s, xf.now, 1⟩ = r → Left w g S (judge x p.e.c p.e.s now) (.returned (.int .i64 r)) (W3.drewN n) := fun r n e1 => by
        refine HFIN.out r (W3.drewN n) ?_ (hWk.then (KeptOff.drewN _ _ _)) ?_
        · rw [stepE_over hov]; exact e1
        · rw [stepE_over hov]; exact hWc
      have g1 : W3.cell? ⟨g, 1, none⟩ = some (.int .i64 xf.limit) := (World.cell?_of_block (hWk.block g (HLL.out.lt g HLL.out.sg) hgt)).trans h1
      have g3 : W3.cell? ⟨g, 3, none⟩ = some (.int .i64 xf.slip) := (World.cell?_of_block (hWk.block g (HLL.out.lt g HLL.out.sg) hgt)).trans h3
      have g4 : W3.cell? ⟨p.t, 1, none⟩ = some (.int .i64 1) := blk_cell hWc 1
      clear h0 h1 h2 h3 h4 h5 h6 t0 t1 f0 f1 hov hWk hWc HFIN HC HLL HJ HP HHK
      have HFIN2 := Lib.hid hfin2; clear hfin2
      go_quiet (fail)
      go_wp2
      all_goals go_ret
      · exact HFIN2.out 0 _ (verdict_pass (by assumption))
      · exact HFIN2.out 1 _ (verdict_slip (by assumption) (by assumption) (by assumption))
      · exact HFIN2.out 2 _ (verdict_drop (by assumption) (by assumption) (by assumption))
      · exact HFIN2.out 2 _ (verdict_none (by assumption) (by assumption))
    · have hd : decide (xf.window ≤ xf.now - p.e.began) = false := by simpa using hov
      rw [hd] at hcall
      have HC := Lib.hid hcall; clear hcall hd
      go_wp2_with fail
      refine HC.out.mono ?_
      rintro e w3 ⟨rfl, jn, rfl⟩
      go_upto_region 15 with fail
      have hkk : (if 1073741824 < p.e.cnt + 1 then (1073741824 : Int) else p.e.cnt + 1) = (if p.e.cnt + 1 < 1073741824 then p.e.cnt + 1 else 1073741824) := by split <;> split <;> omega
      have b1 : 0 ≤ (if 1073741824 < p.e.cnt + 1 then (1073741824 : Int) else p.e.cnt + 1) := by split <;> omega
      have b2 : (if 1073741824 < p.e.cnt + 1 then (1073741824 : Int) else p.e.cnt + 1) ≤ 1073741824 := by split <;> omega
      have hst := stepE_not (x := xf) (e := p.e) (by omega)
      rw [← hkk] at hst
      clear hkk
      generalize (if 1073741824 < p.e.cnt + 1 then (1073741824 : Int) else p.e.cnt + 1) = kk at hst b1 b2 ⊢
      obtain ⟨hWk, hWc⟩ := wrote_not jn HP.out (.int .i64 kk)
      generalize (wc.drewN jn).setCell ⟨p.t, 1, none⟩ (.int .i64 kk) = W3 at hWk hWc ⊢
      have hfin2 : ∀ (r : Int) (n : Nat), verdict xf ⟨p.e.c, p.e.s, p.e.began, kk⟩ = r → Left w g S (judge x p.e.c p.e.s now) (.returned (.int .i64 r)) (W3.drewN n) := fun r n e1 => by
        refine HFIN.out r (W3.drewN n) ?_ (hWk.then (KeptOff.drewN _ _ _)) ?_
        · rw [hst]; exact e1
        · rw [hst]; exact hWc
      have g1 : W3.cell? ⟨g, 1, none⟩ = some (.int .i64 xf.limit) := (World.cell?_of_block (hWk.block g (HLL.out.lt g HLL.out.sg) hgt)).trans h1
      have g3 : W3.cell? ⟨g, 3, none⟩ = some (.int .i64 xf.slip) := (World.cell?_of_block (hWk.block g (HLL.out.lt g HLL.out.sg) hgt)).trans h3
      have g4 : W3.cell? ⟨p.t, 1, none⟩ = some (.int .i64 kk) := blk_cell hWc 1
      clear h0 h1 h2 h3 h4 h5 h6 t0 t1 f0 f1 hov hWk hWc HFIN HC HLL HJ HP HHK hst
      have HFIN2 := Lib.hid hfin2; clear hfin2
      go_quiet (fail)
      go_wp2
      all_goals go_ret
      · exact HFIN2.out 0 _ (verdict_pass (by assumption))
      · exact HFIN2.out 1 _ (verdict_slip (by assumption) (by assumption) (by assumption))
      · exact HFIN2.out 2 _ (verdict_drop (by assumption) (by assumption) (by assumption))
      · exact HFIN2.out 2 _ (verdict_none (by assumption) (by assumption))
end Go.Proofs.Ytihnmabmjffgoaa
