/- RrlBound: the walk behind the judgements: the counts. -/
import Derived.Test.YtihnmabmjffgoaaBoundW
namespace Go.Proofs.Ytihnmabmjffgoaa
open Go.RowKit Go.Maps

def headIs (n : Nat) : Code → Bool
  | .region id _ _ => id == n
  | .seq a _ => headIs n a
  | _ => false
/-- The code behind the loop of the judgements. -/
def tailAt (n : Nat) : Code → Option Code
  | .seq a b => if headIs n b then some b else (tailAt n a).orElse fun _ => tailAt n b
  | .block _ c => tailAt n c
  | .loop c => tailAt n c
  | .scope c => tailAt n c
  | .cond _ a b => (tailAt n a).orElse fun _ => tailAt n b
  | _ => none
noncomputable def rest5 : Code := (Try.f5.body.bind (tailAt 18)).getD .skip

set_option maxRecDepth 1000000 in
set_option maxHeartbeats 4000000 in
theorem Bound_rest (most limit window : Int) (sl : Unit → Int) (A : Option Addr) (cap : Nat) (l : List Act) (w : World) (x0 : Lim) (bs : Nat) (hl2 : l.length ≤ 150) (b1 : 0 ≤ limit) (b2 : limit ≤ 1000) (o3 : 0 ≤ sl ())
    (HV0 : Hid (∀ c s, view x0 c s = none))
    (HC : Hid (∀ W, Below w.heap.size w W → ∀ b off, A = some ⟨b, off, none⟩ → ∀ i, i < l.length → W.cell? ⟨b, off + i * 3, none⟩ = some (.int .i64 (act l i).c) ∧ W.cell? ⟨b, off + i * 3 + 1, none⟩ = some (.string (act l i).s) ∧ W.cell? ⟨b, off + i * 3 + 2, none⟩ = some (.int .i64 (act l i).n)))
    (H : Hid (ActsAt w A l)) (HP : Hid (x0.most = most ∧ x0.limit = limit ∧ x0.window = window ∧ x0.slip = sl () ∧ x0.now = 0)) (wr : World) (HF0 : Hid (FInv w bs x0 l wr)) (HRAN : Hid (Ran x0 l l.length))
    (v5 v6 v7 v8 v9 v10 v12 v13 v15 v16 v17 v18 v19 v20 v21 v22 v23 v24 v25 v26 v27 v28 v29 v30 v31 v32 v33 v34 v35 v36 v37 v38 v39 v40 v41 v42 v43 v44 v45 v46 v47 v48 v49 v50 v51 v52 v53 v54 v55 v56 v57 v58 v59 v60 v61 v62 v63 v64 v65 v66 v67 v68 v69 v70 v71 v72 v73 v74 v75 v76 v77 v78 v79 v80 v81 v82 v83 v84 v85 v86 v87 v88 v89 v90 v91 v92 v93 v94 v95 v96 v97 v98 v99 v100 v101 v102 v103 v104 v105 v106 v107 v108 v109 v110 v111 v112 v113 v114 v115 v116 v117 v118 v119 v120 v121 v122 v123 v124 v125 v126 v127 v128 v129 v130 v131 v132 v133 v134 v135 v136 v137 v138 v139 v140 v141 v142 v143 v144 v145 v146 v147 v148 v149 v150 v151 v152 v153 v154 v155 v156 v157 v158 v159 v160 v161 v162 v163 v164 v165 v166 v167 v168 v169 v170 v171 v172 v173 v174 v175 v176 v177 v178 v179 v180 v181 v182 v183 v184 v185 v186 v187 v188 v189 v190 v191 v192 v193 v194 v195 v196 v197 v198 v199 v200 v201 v202 v203 v204 v205 v206 v207 v208 v209 v210 v211 v212 v213 v214 v215 v216 v217 v218 v219 v220 v221 v222 v223 v224 v225 v226 v227 v228 v229 v230 v231 v232 v233 v234 v235 v236 v237 v238 v239 v240 v241 v242 v243 v244 v245 v246 v247 v248 v249 v250 v251 v252 v253 v254 v255 v256 v257 v258 v259 v260 v261 v262 v263 v264 v265 v266 v267 v268 v269 v270 : Value) :
    Code.wp Try.prog rest5 (bodyPost Try.prog Try.f5 fun e w' => e = .returned (.bool true) ∧ Below w.heap.size w w') ⟨#[.int .i64 most, .int .i64 limit, .int .i64 window, .int .i64 (sl ()), .slice A l.length cap, v5, v6, v7, v8, v9, v10, .bool true, v12, v13, .slice (some ⟨bs, 0, none⟩) l.length l.length, v15, v16, v17, v18, v19, v20, v21, v22, v23, v24, v25, v26, v27, v28, v29, v30, v31, v32, v33, v34, v35, v36, v37, v38, v39, v40, v41, v42, v43, v44, v45, v46, v47, v48, v49, v50, v51, v52, v53, v54, v55, v56, v57, v58, v59, v60, v61, v62, v63, v64, v65, v66, v67, v68, v69, v70, v71, v72, v73, v74, v75, v76, v77, v78, v79, v80, v81, v82, v83, v84, v85, v86, v87, v88, v89, v90, v91, v92, v93, v94, v95, v96, v97, v98, v99, v100, v101, v102, v103, v104, v105, v106, v107, v108, v109, v110, v111, v112, v113, v114, v115, v116, v117, v118, v119, v120, v121, v122, v123, v124, v125, v126, v127, v128, v129, v130, v131, v132, v133, v134, v135, v136, v137, v138, v139, v140, v141, v142, v143, v144, v145, v146, v147, v148, v149, v150, v151, v152, v153, v154, v155, v156, v157, v158, v159, v160, v161, v162, v163, v164, v165, v166, v167, v168, v169, v170, v171, v172, v173, v174, v175, v176, v177, v178, v179, v180, v181, v182, v183, v184, v185, v186, v187, v188, v189, v190, v191, v192, v193, v194, v195, v196, v197, v198, v199, v200, v201, v202, v203, v204, v205, v206, v207, v208, v209, v210, v211, v212, v213, v214, v215, v216, v217, v218, v219, v220, v221, v222, v223, v224, v225, v226, v227, v228, v229, v230, v231, v232, v233, v234, v235, v236, v237, v238, v239, v240, v241, v242, v243, v244, v245, v246, v247, v248, v249, v250, v251, v252, v253, v254, v255, v256, v257, v258, v259, v260, v261, v262, v263, v264, v265, v266, v267, v268, v269, v270], []⟩ wr := by
  conv => arg 2; whnf
  go_wp2_with fail
  go_loopw [16] (fun i wr => ∃ k : Nat, k ≤ l.length ∧ i = .int .i64 k ∧ FInv w bs x0 l wr) (fun i _ => l.length - (intOf i).toNat)
  case atStart => exact ⟨0, by omega, rfl, HF0.out⟩
  case round =>
    obtain ⟨i, hi, rfl, hF⟩ := hrel
    by_cases hlt : i < l.length
    · obtain ⟨b, off, hA, _, _⟩ := H.out.at_ (by omega)
      subst hA
      have HF := Lib.hid hF; clear hF HF0
      have hbi := HRAN.out i hlt
      have t0 := hbi.t0
      have t1 := hbi.t1
      have HSAME := Lib.hid (show ∀ k, k ≤ l.length → (runX x0 l k).limit = limit ∧ (runX x0 l k).slip = (sl ()) from fun k hk => by
        obtain ⟨_, e2, _, e4⟩ := ran_same (x0 := x0) (l := l) (k := k) (fun j hj => HRAN.out j (by omega))
        exact ⟨e2.trans HP.out.2.1, e4.trans HP.out.2.2.2.1⟩)
      have hP0 : PInv (act l i).n limit 0 (view (runX x0 l i) (act l i).c (act l i).s) := by
        have := PInv.start hbi.good (act l i).n (c := (act l i).c) (s := (act l i).s)
        rw [(HSAME.out i (by omega)).1] at this
        exact this
      have HP0 := Lib.hid hP0; clear hP0 hbi
      have HSTEP := Lib.hid (show ∀ (k : Nat) (p : Int), i ≤ k → k < l.length → (act l k).n - (act l i).n < window → PInv (act l i).n limit p (view (runX x0 l k) (act l i).c (act l i).s) → PInv (act l i).n limit (if ((act l k).c = (act l i).c ∧ (act l k).s = (act l i).s) ∧ saidAt x0 l k = 0 then p + 1 else p) (view (runX x0 l (k + 1)) (act l i).c (act l i).s) from fun k p h1 h2 h3 h4 => by
        have := pass_step HRAN.out (by rw [HP.out.2.1]; exact b1) (by rw [HP.out.2.1]; exact b2) h1 h2 (by rw [HP.out.2.2.1]; exact h3) (p := p) (by rw [HP.out.2.1]; exact h4)
        rw [HP.out.2.1] at this
        exact this)
      have HS0 := Lib.hid (show SInv limit (sl ()) 0 0 0 (view (runX x0 l 0) (act l i).c (act l i).s) from by
        show SInv limit (sl ()) 0 0 0 (view x0 _ _)
        rw [HV0.out]
        exact SInv.start _ _ _)
      have HSST := Lib.hid (show ∀ (k : Nat) (m q : Int), 1 ≤ (sl ()) → k < l.length → SInv limit (sl ()) m q k (view (runX x0 l k) (act l i).c (act l i).s) → SInv limit (sl ()) (if ((act l k).c = (act l i).c ∧ (act l k).s = (act l i).s) ∧ saidAt x0 l k = 1 then m + (sl ()) else m) (if ((act l k).c = (act l i).c ∧ (act l k).s = (act l i).s) ∧ saidAt x0 l k ≠ 0 then q + 1 else q) (k + 1) (view (runX x0 l (k + 1)) (act l i).c (act l i).s) from fun k m q h1 h2 h4 => by
        have := slip_step HRAN.out (by rw [HP.out.2.1]; exact b1) (by rw [HP.out.2.2.2.1]; exact h1) h2 (by omega) (m := m) (q := q) (i := i) (by rw [HP.out.2.1, HP.out.2.2.2.1]; exact h4)
        rw [HP.out.2.1, HP.out.2.2.2.1] at this
        exact this)
      have HTIME := Lib.hid (show ∀ k, k < l.length → 0 ≤ (act l k).n ∧ (act l k).n ≤ 1073741824 from fun k hk => ⟨(HRAN.out k hk).t0, (HRAN.out k hk).t1⟩)
      have HSAID := Lib.hid (show ∀ k, k < l.length → saidAt x0 l k = 0 ∨ saidAt x0 l k = 2 ∨ saidAt x0 l k = 1 from fun k hk => by
        rcases said_range x0 l (k := k) (fun j hj => HRAN.out j (by omega)) with h | h | h
        · exact .inl h
        · exact .inr (.inl h)
        · exact .inr (.inr h.1))
      clear HV0 HP
      have i0 : (0 : Int) < (l.length : Int) := by omega
      have i1 : (0 : Int) ≤ (i : Int) := by omega
      have i2 : (i : Int) < (l.length : Int) := by omega
      go_wp2_with fail
      go_loopw [17, 18] (fun p kk wr => ∃ (k : Nat) (q : Int), i ≤ k ∧ k ≤ l.length ∧ p = .int .i64 q ∧ kk = .int .i64 k ∧ PInv (act l i).n limit q (view (runX x0 l k) (act l i).c (act l i).s) ∧ FInv w bs x0 l wr) (fun _ kk _ => l.length - (intOf kk).toNat)
      case atStart => exact ⟨i, 0, Nat.le_refl _, by omega, rfl, rfl, HP0.out, HF.out⟩
      case round =>
        obtain ⟨k, q, hik, hk, rfl, rfl, hQ, hF⟩ := hrel
        have hq0 := hQ.1
        have hq2 := hQ.end_ b1
        have HQ := Lib.hid hQ; clear hQ HP0 HF
        have HF := Lib.hid hF; clear hF
        have k1 : (0 : Int) ≤ (k : Int) := by omega
        go_upto_region 23 with fail
        go_cut [176] (fun s wc => s = .bool (decide (k < l.length ∧ (act l k).n - (act l i).n < window)) ∧ FInv w bs x0 l wc)
        case first =>
          by_cases hkn : k < l.length
          · obtain ⟨u0, u1⟩ := HTIME.out k hkn
            have k2 : (k : Int) < (l.length : Int) := by omega
            obtain ⟨_, _, c2⟩ := HC.out _ HF.out.below b off rfl k hkn
            obtain ⟨_, _, d2⟩ := HC.out _ HF.out.below b off rfl i hlt
            have hwr : IntKind.i64.wrap ((act l k).n - (act l i).n) = (act l k).n - (act l i).n := by rw [IntKind.wrap_i64]; omega
            go_quiet (fail)
            go_wp2_with fail
            go_meet
            exact ⟨by simp [hkn], HF.out.drewN _⟩
          · go_quiet (fail)
            go_wp2_with fail
            go_meet
            exact ⟨by simp [hkn], HF.out.drewN _⟩
        case rest =>
          obtain ⟨rfl, hFc⟩ := hcut
          have HFc := Lib.hid hFc; clear hFc HF
          by_cases hin : k < l.length ∧ (act l k).n - (act l i).n < window
          · rw [decide_eq_true hin]
            obtain ⟨hkn, hin⟩ := hin
            have k2 : (k : Int) < (l.length : Int) := by omega
            have hq := HSTEP.out k q hik hkn hin HQ.out
            have HQ2 := Lib.hid hq; clear hq
            go_upto_region 25 with fail
            go_cut [209] (fun s wc => s = .bool (decide (((act l k).c = (act l i).c ∧ (act l k).s = (act l i).s) ∧ saidAt x0 l k = 0)) ∧ FInv w bs x0 l wc)
            case first =>
              obtain ⟨c0, c1, _⟩ := HC.out _ HFc.out.below b off rfl k hkn
              obtain ⟨d0, d1, _⟩ := HC.out _ HFc.out.below b off rfl i hlt
              have s0 := HFc.out.said.cell hkn
              have hsd := HSAID.out k hkn
              clear HQ2 HSTEP HQ HSST HS0
              obtain ⟨r, hr⟩ : ∃ r, r = saidAt x0 l k := ⟨_, rfl⟩
              obtain ⟨ck, hck⟩ : ∃ r, r = (act l k).c := ⟨_, rfl⟩
              obtain ⟨sk, hsk⟩ : ∃ r, r = (act l k).s := ⟨_, rfl⟩
              obtain ⟨ci, hci⟩ : ∃ r, r = (act l i).c := ⟨_, rfl⟩
              obtain ⟨si, hsi⟩ : ∃ r, r = (act l i).s := ⟨_, rfl⟩
              rw [← hr] at s0 hsd
              rw [← hck] at c0
              rw [← hsk] at c1
              rw [← hci] at d0
              rw [← hsi] at d1
              have HE := Lib.hid (And.intro hck (And.intro hci (And.intro hsk (And.intro hsi hr)))); clear hck hci hsk hsi hr
              by_cases e1 : ck = ci
              · subst e1
                by_cases e2 : sk = si
                · subst e2
                  rcases hsd with rfl | rfl | rfl
                  all_goals (
                    go_quiet (fail)
                    go_wp2_with fail
                    go_meet
                    exact ⟨by obtain ⟨hck, hci, hsk, hsi, hr⟩ := HE.out; rw [← hck, ← hci, ← hsk, ← hsi, ← hr]; simp, HFc.out.drewN _⟩)
                · have e4 : ¬ sk.toList = si.toList := fun h => e2 (toList_inj1 h)
                  have e3 : (sk.toList == si.toList) = false := beq_eq_false_iff_ne.2 e4
                  go_quiet (fail)
                  go_wp2_with fail
                  go_meet
                  exact ⟨by obtain ⟨hck, hci, hsk, hsi, hr⟩ := HE.out; rw [← hck, ← hci, ← hsk, ← hsi]; simp [e2], HFc.out.drewN _⟩
              · have e2 : decide (ck = ci) = false := decide_eq_false e1
                have e3 : (ck == ci) = false := beq_eq_false_iff_ne.2 e1
                go_quiet (fail)
                go_wp2_with fail
                go_meet
                exact ⟨by obtain ⟨hck, hci, hsk, hsi, hr⟩ := HE.out; rw [← hck, ← hci]; simp [e1], HFc.out.drewN _⟩
            case rest =>
              obtain ⟨rfl, hFd⟩ := hcut
              have HFd := Lib.hid hFd; clear hFd HFc
              by_cases hown : ((act l k).c = (act l i).c ∧ (act l k).s = (act l i).s) ∧ saidAt x0 l k = 0
              · rw [decide_eq_true hown]
                have hq := HQ2.out
                rw [if_pos hown] at hq
                have HQ3 := Lib.hid hq; clear hq HQ2 hown
                go_wp2_with fail
                go_roundw
                case rel => exact ⟨k + 1, q + 1, by omega, by omega, rfl, by go_num, HQ3.out, HFd.out⟩
                case measure => simp [intOf]; omega
              · rw [decide_eq_false hown]
                have hq := HQ2.out
                rw [if_neg hown] at hq
                have HQ3 := Lib.hid hq; clear hq HQ2 hown
                go_wp2_with fail
                go_roundw
                case rel => exact ⟨k + 1, q, by omega, by omega, rfl, by go_num, HQ3.out, HFd.out⟩
                case measure => simp [intOf]; omega
          · rw [decide_eq_false hin]
            clear hin
            go_wp2_with fail
            clear HQ HSTEP HTIME hq0 hq2 hik hk k1
            go_loopw [19, 20, 21] (fun sa rs jj wr => ∃ (j : Nat) (a q : Int), j ≤ i + 1 ∧ sa = .int .i64 a ∧ rs = .int .i64 q ∧ jj = .int .i64 j ∧ 0 ≤ a ∧ a ≤ j ∧ 0 ≤ q ∧ q ≤ j ∧ (1 ≤ (sl ()) → SInv limit (sl ()) (a * (sl ())) q j (view (runX x0 l j) (act l i).c (act l i).s)) ∧ FInv w bs x0 l wr) (fun _ _ jj _ => i + 1 - (intOf jj).toNat)
            case atStart => exact ⟨0, 0, 0, by omega, rfl, rfl, rfl, by omega, by omega, by omega, by omega, fun _ => by rw [Int.zero_mul]; exact HS0.out, HFc.out⟩
            case round =>
              obtain ⟨j, a, q, hj, rfl, rfl, rfl, a0, a1, q0, q1, hS, hF⟩ := hrel
              clear HS0 HFc
              have HS := Lib.hid hS; clear hS
              have HF := Lib.hid hF; clear hF
              by_cases hji : j ≤ i
              · have j1 : (0 : Int) ≤ (j : Int) := by omega
                have j2 : (j : Int) < (l.length : Int) := by omega
                have hjn : j < l.length := by omega
                have hst := fun (h : 1 ≤ (sl ())) => HSST.out j (a * (sl ())) q h hjn (HS.out h)
                have HST := Lib.hid hst; clear hst
                go_upto_region 33 with fail
                go_cut [251] (fun s wc => s = .bool (decide (((act l j).c = (act l i).c ∧ (act l j).s = (act l i).s) ∧ saidAt x0 l j ≠ 0)) ∧ FInv w bs x0 l wc)
                case first =>
                  obtain ⟨c0, c1, _⟩ := HC.out _ HF.out.below b off rfl j hjn
                  obtain ⟨d0, d1, _⟩ := HC.out _ HF.out.below b off rfl i hlt
                  have s0 := HF.out.said.cell hjn
                  have hsd := HSAID.out j hjn
                  clear HST HSST HS
                  obtain ⟨r, hr⟩ : ∃ r, r = saidAt x0 l j := ⟨_, rfl⟩
                  obtain ⟨ck, hck⟩ : ∃ r, r = (act l j).c := ⟨_, rfl⟩
                  obtain ⟨sk, hsk⟩ : ∃ r, r = (act l j).s := ⟨_, rfl⟩
                  obtain ⟨ci, hci⟩ : ∃ r, r = (act l i).c := ⟨_, rfl⟩
                  obtain ⟨si, hsi⟩ : ∃ r, r = (act l i).s := ⟨_, rfl⟩
                  rw [← hr] at s0 hsd
                  rw [← hck] at c0
                  rw [← hsk] at c1
                  rw [← hci] at d0
                  rw [← hsi] at d1
                  have HE := Lib.hid (And.intro hck (And.intro hci (And.intro hsk (And.intro hsi hr)))); clear hck hci hsk hsi hr
                  by_cases e1 : ck = ci
                  · subst e1
                    by_cases e2 : sk = si
                    · subst e2
                      rcases hsd with rfl | rfl | rfl
                      all_goals (
                        go_quiet (fail)
                        go_wp2_with fail
                        go_meet
                        exact ⟨by obtain ⟨hck, hci, hsk, hsi, hr⟩ := HE.out; rw [← hck, ← hci, ← hsk, ← hsi, ← hr]; simp, HF.out.drewN _⟩)
                    · have e4 : ¬ sk.toList = si.toList := fun h => e2 (toList_inj1 h)
                      have e3 : (sk.toList == si.toList) = false := beq_eq_false_iff_ne.2 e4
                      go_quiet (fail)
                      go_wp2_with fail
                      go_meet
                      exact ⟨by obtain ⟨hck, hci, hsk, hsi, hr⟩ := HE.out; rw [← hck, ← hci, ← hsk, ← hsi]; simp [e2], HF.out.drewN _⟩
                  · have e2 : decide (ck = ci) = false := decide_eq_false e1
                    have e3 : (ck == ci) = false := beq_eq_false_iff_ne.2 e1
                    go_quiet (fail)
                    go_wp2_with fail
                    go_meet
                    exact ⟨by obtain ⟨hck, hci, hsk, hsi, hr⟩ := HE.out; rw [← hck, ← hci]; simp [e1], HF.out.drewN _⟩
                case rest =>
                  obtain ⟨rfl, hFd⟩ := hcut
                  have HFd := Lib.hid hFd; clear hFd HF
                  have s0 := HFd.out.said.cell hjn
                  by_cases hown : ((act l j).c = (act l i).c ∧ (act l j).s = (act l i).s) ∧ saidAt x0 l j ≠ 0
                  · rw [decide_eq_true hown]
                    have hq := HST.out
                    simp only [if_pos hown] at hq
                    have hsd := HSAID.out j hjn
                    obtain ⟨hk1, hk2⟩ := hown
                    by_cases hone : saidAt x0 l j = 1
                    · simp only [if_pos (And.intro hk1 hone)] at hq
                      have HQ3 := Lib.hid (show 1 ≤ (sl ()) → SInv limit (sl ()) ((a + 1) * (sl ())) (q + 1) (j + 1) (view (runX x0 l (j + 1)) (act l i).c (act l i).s) from fun h => by
                        rw [Int.add_mul, Int.one_mul]; exact hq h)
                      rw [hone] at s0
                      clear hq HST hk1 hk2 hone hsd HS
                      go_wp2_with fail
                      go_roundw
                      case rel => exact ⟨j + 1, a + 1, q + 1, by omega, rfl, rfl, by go_num, by omega, by omega, by omega, by omega, HQ3.out, HFd.out⟩
                      case measure => simp [intOf]; omega
                    · have hnot : ¬ (((act l j).c = (act l i).c ∧ (act l j).s = (act l i).s) ∧ saidAt x0 l j = 1) := fun z => hone z.2
                      simp only [if_neg hnot] at hq
                      have HQ3 := Lib.hid hq
                      have htwo : saidAt x0 l j = 2 := by omega
                      rw [htwo] at s0
                      clear hq HST hk1 hk2 hone hnot hsd htwo HS
                      go_wp2_with fail
                      go_roundw
                      case rel => exact ⟨j + 1, a, q + 1, by omega, rfl, rfl, by go_num, by omega, by omega, by omega, by omega, HQ3.out, HFd.out⟩
                      case measure => simp [intOf]; omega
                  · rw [decide_eq_false hown]
                    have hq := HST.out
                    have hnot : ¬ (((act l j).c = (act l i).c ∧ (act l j).s = (act l i).s) ∧ saidAt x0 l j = 1) := fun z => hown ⟨z.1, by rw [z.2]; decide⟩
                    simp only [if_neg hown, if_neg hnot] at hq
                    have HQ3 := Lib.hid hq
                    clear hq HST hown hnot HS s0
                    go_wp2_with fail
                    go_roundw
                    case rel => exact ⟨j + 1, a, q, by omega, rfl, rfl, by go_num, by omega, by omega, by omega, by omega, HQ3.out, HFd.out⟩
                    case measure => simp [intOf]; omega
              · obtain rfl : j = i + 1 := by omega
                by_cases hs1 : 1 ≤ (sl ())
                · have hle := (HS.out hs1).end_ hs1
                  have hp0 : 0 ≤ a * (sl ()) := Int.mul_nonneg a0 (by omega)
                  have hw : IntKind.i64.wrap (a * (sl ())) = a * (sl ()) := by rw [IntKind.wrap_i64]; omega
                  have hd : decide (q < a * (sl ())) = false := decide_eq_false (by omega)
                  go_wp2_with fail
                  all_goals first
                    | (go_roundw
                       case rel => exact ⟨i + 1, by omega, by go_num, HF.out⟩
                       case measure => simp [intOf]; omega)
                    | (exfalso; omega)
                · go_wp2_with fail
                  go_roundw
                  case rel => exact ⟨i + 1, by omega, by go_num, HF.out⟩
                  case measure => simp [intOf]; omega
    · go_wp2_with fail
      go_ret
      exact ⟨rfl, hF.below⟩
end Go.Proofs.Ytihnmabmjffgoaa
