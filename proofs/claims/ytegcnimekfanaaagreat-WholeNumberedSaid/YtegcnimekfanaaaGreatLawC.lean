/-
  WholeNumbered, walked: the graph's loop.
-/
import Derived.Test.YtegcnimekfanaaaGreatLawD
import Derived.Deep.DeepCutAuto
import Derived.Deep.CutBlock
import Derived.Laws.EntriesVeiled
import Derived.Deep.LoopGhost
namespace Go.Proofs.YtegcnimekfanaaaGreat
open Go.RowKit

set_option maxRecDepth 100000 in
set_option maxHeartbeats 40000000 in
theorem numbered_true (w : World) (v1 v2 : Value) (late : Nat) (h1 : ActsAt w v1) (h2 : AlarmsAt w v2) (hlate : late < 4294967296) :
    Calls Tryz.prog 3 #[v1, v2, .int .u32 late] w fun e w' => e = .returned (.bool true) ∧ Ext [] w w' := by
  obtain ⟨a1, n1, c1, rfl, hc1, hc2, hl1⟩ := h1
  obtain ⟨m1, hm1⟩ : ∃ m : Nat, min (n1 : Int) 60 = (m : Int) := ⟨min n1 60, by omega⟩
  have hm60 : m1 ≤ 60 := by omega
  have hmn : m1 ≤ n1 := by omega
  have hmc : m1 ≤ c1 := by omega
  have hmc' : (m1 : Int) ≤ (c1 : Int) := by omega
  have hacts : ∀ j, j < m1 → ∃ b off x, a1 = some ⟨b, off, none⟩ ∧ ActAt w b (off + j * 3) x := fun j hj => hl1 j (by omega)
  clear hl1 hmn
  obtain ⟨a2, n2, c2, rfl, hc3, hc4, hl2⟩ := h2
  obtain ⟨m2, hm2⟩ : ∃ m : Nat, min (n2 : Int) 60 = (m : Int) := ⟨min n2 60, by omega⟩
  have hm260 : m2 ≤ 60 := by omega
  have hmn2 : m2 ≤ n2 := by omega
  have hmc2 : m2 ≤ c2 := by omega
  have hmc2' : (m2 : Int) ≤ (c2 : Int) := by omega
  have halarms : ∀ j, j < m2 → ∃ b off k id t, a2 = some ⟨b, off, none⟩ ∧ AlarmAt w b (off + j * 3) k id t := fun j hj => hl2 j (by omega)
  clear hl2 hmn2
  replace hm2 := hid hm2
  go_enter Tryz.func3, Tryz.ntmps3
  go_wp2_with fail
  refine (wakes_true _).mono ?_
  rintro e w1 ⟨rfl, hE1⟩
  go_wp2_with fail
  refine (graph_New _).mono ?_
  rintro e w2 ⟨gp, gm, rfl, hg, hE2, hgp, hgm⟩
  go_wp2_with fail
  refine (graph_New _).mono ?_
  rintro e w3 ⟨hp, hm, rfl, hh, hE3, hhp, hhm⟩
  go_wp2_with fail
  have hcB : w3.cell? ⟨w1.heap.size, 0, none⟩ = some (.func (.func 7) #[] #[]) := by
    have := cellOf (k := 0) (hE3.block (hE2.block (block_alloc_new w1 (.cells #[.func (.func 7) #[] #[]] 26)) (by simp)) (by simp)) rfl
    exact this
  have hBl := lt_of_cell hcB
  have hgh : gm ≠ hm := by
    have : gm < w2.heap.size := by obtain ⟨-, _, _, hm, -⟩ := hg; exact hm.lt
    omega
  have hg3 := hg.ext0 hE3
  have hEw := ((hE1.alloc (.cells #[.func (.func 7) #[] #[]] 26)).nil_of hE2).nil_of hE3
  have hBg : w1.heap.size < gm := by simp at hgm; omega
  have hBh : w1.heap.size < hm := by have := hE2.size; simp at this; omega
  have hgm1 : w.heap.size ≤ gm := by have := hE1.size; simp at hgm; omega
  have hhm1 : w.heap.size ≤ hm := by have := hE1.size; have := hE2.size; simp at this; omega
  generalize w1.heap.size = B at *
  clear hE1 hE2 hE3 hg hgp hgm hhp hhm
  replace hm1 := hid hm1
  go_loopg [44] m1 (fun k s44 wr => ∃ (j : Nat) (G : Gr), j + k = m1 ∧ s44 = .int .i64 (j : Int) ∧ GraphAt wr gp gm G ∧ GraphAt wr hp hm G.other ∧ Gd G j ∧ Ext [] w wr ∧ Ext [gm, hm] w3 wr)
  case atStart => exact ⟨0, [], by omega, rfl, hg3, hh, Gd.nil, hEw, Ext.refl _ _⟩
  case round =>
    obtain ⟨j, G, hjk, rfl, hg, hh, hgd, hE, hEv⟩ := hrel
    by_cases hlt : j < m1
    · obtain ⟨kk, rfl⟩ : ∃ kk, gk = kk + 1 := ⟨gk - 1, by omega⟩
      obtain ⟨b, off, act, rfl, hk, hx, v, bo, hon, hia, hlen⟩ := hacts j hlt
      obtain ⟨kind, x, on⟩ := act
      simp only at hk hx hia hlen
      have k0 := hE.cell hk (by simp)
      have k1 := hE.cell hx (by simp)
      have k2 := hE.cell hon (by simp)
      have cB := hEv.cell hcB (by simp; omega)
      obtain ⟨va, vc, rfl⟩ := hia.form
      have hiaw := hia.ext hE (by simp)
      clear hk hx hon hia
      have cf := fun w => law_far w x
      cases hfx : far x with
      | true =>
        rw [hfx] at cf
        as_aux_lemma =>
        replace hfx := hid hfx
        clear hacts hg hh hgd hEv hg3
        go_wp2_with fail
        refine (cf _).mono ?_
        rintro e w4 ⟨rfl, rfl⟩
        go_wp2
        go_ret
        exact ⟨rfl, hE.alloc _⟩
      | false =>
        rw [hfx] at cf
        have hxn : Near x := near_of hfx
        replace hfx := hid hfx
        have cany := law_anyFar (wr.alloc (.cells #[.int .i64 kind, .int .i64 x, .slice va on.length vc] 33)) (.slice va on.length vc) bo on (hiaw.ext ((Ext.refl [] wr).alloc _) (by simp)) hlen
        cases hany : on.any far with
        | true =>
          rw [hany] at cany
          as_aux_lemma =>
          replace hany := hid hany
          clear hacts hg hh hgd hEv hg3
          go_wp2_with fail
          refine (cf _).mono ?_
          rintro e w4 ⟨rfl, rfl⟩
          go_wp2_with fail
          refine cany.mono ?_
          rintro e w4 ⟨rfl, q, rfl⟩
          go_wp2
          go_ret
          exact ⟨rfl, (hE.alloc _).drewN q⟩
        | false =>
          rw [hany] at cany
          have hnear : ∀ y ∈ on, Near y := fun y hy => near_of (by
            have h := List.any_eq_false.1 hany y hy
            simpa using h)
          replace hany := hid hany
          by_cases h20 : 20 < on.length
          · as_aux_lemma =>
            clear hacts hg hh hgd hEv hg3
            go_wp2_with fail
            refine (cf _).mono ?_
            rintro e w4 ⟨rfl, rfl⟩
            go_wp2_with fail
            refine cany.mono ?_
            rintro e w4 ⟨rfl, q, rfl⟩
            go_wp2
            go_ret
            exact ⟨rfl, (hE.alloc _).drewN q⟩
          · go_wp2_with fail
            refine (cf _).mono ?_
            rintro e w4 ⟨rfl, rfl⟩
            go_wp2_with fail
            refine cany.mono ?_
            rintro e w4 ⟨rfl, q, rfl⟩
            have hEN := ((Ext.refl [] wr).alloc (.cells #[.int .i64 kind, .int .i64 x, .slice va on.length vc] 33)).drewN q
            have hbN : ((wr.alloc (.cells #[.int .i64 kind, .int .i64 x, .slice va on.length vc] 33)).drewN q).heap[wr.heap.size]? = _ := block_alloc_new wr (.cells #[.int .i64 kind, .int .i64 x, .slice va on.length vc] 33)
            generalize (wr.alloc (.cells #[.int .i64 kind, .int .i64 x, .slice va on.length vc] 33)).drewN q = WN at *
            have hgN := hg.ext0 hEN
            have hhN := hh.ext0 hEN
            have hmN : hm < wr.heap.size := by obtain ⟨-, _, _, h, -⟩ := hh; exact h.lt
            have gmN : gm < wr.heap.size := by obtain ⟨-, _, _, h, -⟩ := hg; exact h.lt
            have hEwN := hE.nil_of hEN
            have hEvN := hEv.nil_of hEN
            have hrise := hgN.rising
            have hiN := hiaw.ext hEN (by simp)
            have cBN := hEN.cell cB (by simp)
            have c0 := cellOf (k := 0) hbN rfl
            have c1 := cellOf (k := 1) hbN rfl
            have c2 := cellOf (k := 2) hbN rfl
            clear cany cf hg hh hE hEv hEN k0 k1 k2 cB hiaw hg3 hcB
            generalize wr.heap.size = N at *
            go_upto_if 66 with (fail)
            go_cut [] (fun wc => ∃ G', GraphAt wc gp gm G' ∧ GraphAt wc hp hm G'.other ∧ Gd G' (j + 1) ∧ Ext [gm, hm] WN wc)
            case first =>
              by_cases hk2 : (kind == 2) = true
              · as_aux_lemma =>
                have hNm : N ≠ gm ∧ N ≠ hm := by omega
                have hBm : B ≠ gm ∧ B ≠ hm := by omega
                have cR := graph_Remove WN gp gm G x hgN hxn.i64 (fun k => ⟨(hgd.removeTo hrise x k).small (by omega), (hgd.removeTo hrise x k).short (by omega)⟩) (fun y hy => (hgd.waitsNear y hy).i64)
                clear c0 c2
                go_wp2_with fail
                refine cR.mono ?_
                rintro e w5 ⟨rfl, hg5, hE5⟩
                have hh5 := hhN.ext hE5 (fun z hz _ => by obtain rfl : z = gm := by simpa using hz
                                                          exact ⟨hgh, hgN.gmap⟩)
                have c15 := hE5.cell c1 (by simpa using hNm.1)
                have cB5 := hE5.cell cBN (by simpa using hBm.1)
                have cR2 := graph_Remove w5 hp hm G.other (one x) hh5 hxn.one (fun k => other_short hgd hrise x k (by omega)) (fun y hy => other_waits_i64 hgd y hy)
                rw [other_remove] at cR2
                have cO := law_one w5 x hxn
                clear cR c1
                go_wp2_with fail
                refine cO.mono ?_
                rintro e w6 ⟨rfl, rfl⟩
                go_wp2_with fail
                refine cR2.mono ?_
                rintro e w6 ⟨rfl, hh6, hE6⟩
                have hg6 := hg5.ext hE6 (fun z hz _ => by obtain rfl : z = hm := by simpa using hz
                                                          exact ⟨Ne.symm hgh, hh5.gmap⟩)
                have hgd' := (hgd.remove hrise x).mono (Nat.le_succ j)
                have hE56 := (hE5.mono (T := [gm, hm]) (by simp)).trans (hE6.mono (T := [gm, hm]) (by simp)) (by simp)
                clear cR2 cO hg5 hh5 hE5 hE6 c15 cB5 hgN hhN hiN
                go_wp2
                go_meet
                case rel => exact ⟨G.remove x, hg6, hh6, hgd', hE56⟩
              · as_aux_lemma =>
                replace hk2 := Bool.eq_false_iff.2 hk2
                have hNm : N ≠ gm ∧ N ≠ hm := by omega
                have hBm : B ≠ gm ∧ B ≠ hm := by omega
                have hl20 : on.length ≤ 20 := by omega
                go_wp2_with fail
                refine wp_region_plan (fun w' => w'.cell? ⟨N, 1, none⟩ = some (.int .i64 x) ∧ w'.cell? ⟨N, 2, none⟩ = some (.slice va on.length vc) ∧ w'.cell? ⟨B, 0, none⟩ = some (.func (.func 7) #[] #[])) [(0, true), (1, true), (2, true), (3, true), (4, true), (5, false), (6, false)] (by kernel_rfl) (by kernel_rfl) (fun _ _ _ _ _ h => h) (⟨c1, c2, cBN⟩) (fun hHeld => ?_)
                simp only [planOps, List.map_cons, List.map_nil, List.getElem?_toArray, List.getElem?_cons_succ, List.getElem?_cons_zero, Option.getD_some]
                repeat (first | (refine plan_skip (by rfl) ?_; simp only [Act.put, List.setIfInBounds_toArray, List.set_cons_zero, List.set_cons_succ]) | (refine plan_take (v := ?_) (by rfl) ?_ ?_; rotate_left; (· (intro w hSw; obtain ⟨s0, s1, s2⟩ := hSw; go_simp; try with_reducible rfl)); simp only [Act.put, List.setIfInBounds_toArray, List.set_cons_zero, List.set_cons_succ]))
                refine plan_call (by rfl) (fun K hK => ?_)
                go_simp
                with_reducible refine (ints_Clone' (hiN.ext (Ext.self_drew WN) (by simp)) (by omega)).mono ?_
                rintro e w5 ⟨u, rfl, hu, hE5⟩
                go_simp
                refine hK.out _ _ (⟨hE5.cell hHeld.1 (by simp), hE5.cell hHeld.2.1 (by simp), hE5.cell hHeld.2.2 (by simp)⟩) (fun hHeld => ?_)
                clear hK K
                try simp only [Act.put, List.setIfInBounds_toArray, List.set_cons_zero, List.set_cons_succ]
                have hK5 := (Ext.self_drew WN).nil_of hE5
                obtain ⟨bu, hua, -⟩ := hu.at
                have hul : w5.heap.size ≥ WN.heap.size := hK5.size
                have huf := hu.formed
                repeat (first | (refine plan_skip (by rfl) ?_; simp only [Act.put, List.setIfInBounds_toArray, List.set_cons_zero, List.set_cons_succ]) | (refine plan_take (v := ?_) (by rfl) ?_ ?_; rotate_left; (· (intro w hSw; obtain ⟨s0, s1, s2⟩ := hSw; go_simp; try with_reducible rfl)); simp only [Act.put, List.setIfInBounds_toArray, List.set_cons_zero, List.set_cons_succ]))
                refine plan_call (by rfl) (fun K hK => ?_)
                go_simp
                with_reducible refine (graph_Set _ gp gm G x u bu on (hgN.ext0 hK5) (hgd.short (by omega)) hxn.i64 hua huf (by omega)).mono ?_
                rintro e w6 ⟨rfl, hg6, hE6⟩
                go_simp
                refine hK.out _ _ (⟨hE6.cell hHeld.1 (by simpa using hNm.1), hE6.cell hHeld.2.1 (by simpa using hNm.1), hE6.cell hHeld.2.2 (by simpa using hBm.1)⟩) (fun hHeld => ?_)
                clear hK K
                try simp only [Act.put, List.setIfInBounds_toArray, List.set_cons_zero, List.set_cons_succ]
                have hK6 := (hK5.mono (T := [gm]) (by simp)).trans hE6 (by simp)
                have hh6 := hhN.ext hK6 (fun z hz _ => by obtain rfl : z = gm := by simpa using hz
                                                          exact ⟨hgh, hgN.gmap⟩)
                have hi6 := hiN.extm hK6 (fun z hz => by obtain rfl : z = gm := by simpa using hz
                                                         exact hgN.gmap)
                obtain ⟨d1, d2, dB⟩ := hHeld
                clear hu hua huf hul hK5 hE5 hE6 c0 c1 c2 cBN
                repeat (first | (refine plan_skip (by rfl) ?_; simp only [Act.put, List.setIfInBounds_toArray, List.set_cons_zero, List.set_cons_succ]) | (refine plan_take (v := ?_) (by rfl) ?_ ?_; rotate_left; (· (intro w hSw; obtain ⟨s0, s1, s2⟩ := hSw; go_simp; try with_reducible rfl)); simp only [Act.put, List.setIfInBounds_toArray, List.set_cons_zero, List.set_cons_succ]))
                refine plan_end ?_
                go_wp2_with fail
                refine wp_region_plan (fun w' => w'.cell? ⟨N, 1, none⟩ = some (.int .i64 x) ∧ w'.cell? ⟨N, 2, none⟩ = some (.slice va on.length vc) ∧ w'.cell? ⟨B, 0, none⟩ = some (.func (.func 7) #[] #[])) [(0, true), (1, true), (2, true), (3, true), (5, true), (6, true), (7, true), (4, false), (8, false), (9, false)] (by kernel_rfl) (by kernel_rfl) (fun _ _ _ _ _ h => h) (⟨d1, d2, dB⟩) (fun hHeld => ?_)
                simp only [planOps, List.map_cons, List.map_nil, List.getElem?_toArray, List.getElem?_cons_succ, List.getElem?_cons_zero, Option.getD_some]
                repeat (first | (refine plan_skip (by rfl) ?_; simp only [Act.put, List.setIfInBounds_toArray, List.set_cons_zero, List.set_cons_succ]) | (refine plan_take (v := ?_) (by rfl) ?_ ?_; rotate_left; (· (intro w hSw; obtain ⟨s0, s1, s2⟩ := hSw; go_simp; try with_reducible rfl)); simp only [Act.put, List.setIfInBounds_toArray, List.set_cons_zero, List.set_cons_succ]))
                refine plan_call (by rfl) (fun K hK => ?_)
                go_simp
                with_reducible refine (law_one _ x (Near.le hxn)).mono ?_
                rintro e w7 ⟨rfl, rfl⟩
                go_simp
                refine hK.out _ _ (hHeld) (fun hHeld => ?_)
                clear hK K
                try simp only [Act.put, List.setIfInBounds_toArray, List.set_cons_zero, List.set_cons_succ]
                repeat (first | (refine plan_skip (by rfl) ?_; simp only [Act.put, List.setIfInBounds_toArray, List.set_cons_zero, List.set_cons_succ]) | (refine plan_take (v := ?_) (by rfl) ?_ ?_; rotate_left; (· (intro w hSw; obtain ⟨s0, s1, s2⟩ := hSw; go_simp; try with_reducible rfl)); simp only [Act.put, List.setIfInBounds_toArray, List.set_cons_zero, List.set_cons_succ]))
                refine plan_call (by rfl) (fun K hK => ?_)
                go_simp
                with_reducible refine (law_named _ _ bo on B (hi6.ext (Ext.self_drew w6) (by simp)) hHeld.2.2 (by omega) (fun y hy => Near.le (hnear y hy))).mono ?_
                rintro e w7 ⟨u, rfl, hu, hE7⟩
                go_simp
                refine hK.out _ _ (⟨hE7.cell hHeld.1 (by simp), hE7.cell hHeld.2.1 (by simp), hE7.cell hHeld.2.2 (by simp)⟩) (fun hHeld => ?_)
                clear hK K
                try simp only [Act.put, List.setIfInBounds_toArray, List.set_cons_zero, List.set_cons_succ]
                have hK7 := (Ext.self_drew w6).nil_of hE7
                obtain ⟨bu, hua, -⟩ := hu.at
                have huf := hu.formed
                repeat (first | (refine plan_skip (by rfl) ?_; simp only [Act.put, List.setIfInBounds_toArray, List.set_cons_zero, List.set_cons_succ]) | (refine plan_take (v := ?_) (by rfl) ?_ ?_; rotate_left; (· (intro w hSw; obtain ⟨s0, s1, s2⟩ := hSw; go_simp; try with_reducible rfl)); simp only [Act.put, List.setIfInBounds_toArray, List.set_cons_zero, List.set_cons_succ]))
                refine plan_call (by rfl) (fun K hK => ?_)
                go_simp
                with_reducible refine (graph_Set _ hp hm G.other (one x) u bu (on.map one) (hh6.ext0 hK7) (by rw [other_length]; exact hgd.short (by omega)) hxn.one hua huf (by rw [List.length_map]; omega)).mono ?_
                rintro e w8 ⟨rfl, hh8, hE8⟩
                go_simp
                refine hK.out _ _ (⟨hE8.cell hHeld.1 (by simpa using hNm.2), hE8.cell hHeld.2.1 (by simpa using hNm.2), hE8.cell hHeld.2.2 (by simpa using hBm.2)⟩) (fun hHeld => ?_)
                clear hK K
                try simp only [Act.put, List.setIfInBounds_toArray, List.set_cons_zero, List.set_cons_succ]
                rw [other_set] at hh8
                have hg8 := (hg6.ext0 hK7).ext hE8 (fun z hz _ => by obtain rfl : z = hm := by simpa using hz
                                                                     exact ⟨Ne.symm hgh, (hh6.ext0 hK7).gmap⟩)
                have hgd' := hgd.set hxn hl20 hnear
                have hE68 := (hK6.mono (T := [gm, hm]) (by simp)).trans ((hK7.mono (T := [hm]) (by simp)).trans hE8 (by simp)) (by simp)
                clear hu hua huf hK7 hE7 hE8 hh6 hg6 hK6 hi6 hgN hhN hiN
                repeat (first | (refine plan_skip (by rfl) ?_; simp only [Act.put, List.setIfInBounds_toArray, List.set_cons_zero, List.set_cons_succ]) | (refine plan_take (v := ?_) (by rfl) ?_ ?_; rotate_left; (· (intro w hSw; obtain ⟨s0, s1, s2⟩ := hSw; go_simp; try with_reducible rfl)); simp only [Act.put, List.setIfInBounds_toArray, List.set_cons_zero, List.set_cons_succ]))
                refine plan_end ?_
                go_wp2
                go_meet
                case rel => exact ⟨G.set x on, hg8, hh8, hgd', hE68⟩
            case rest =>
              obtain ⟨G', hg', hh', hgd', hE'⟩ := hcut
              have c1' := hE'.cell c1 (by simp; omega)
              have cB' := hE'.cell cBN (by simp; omega)
              have hEw' := hEwN.trans hE' (by simp; omega)
              have hEv' := hEvN.trans hE' (by simp)
              have hg60 := hgd'.mono (m := 60) (by omega)
              obtain ⟨res, hr1, hr2, hrl, hrn⟩ := hg60.circle
              have hsm := hgd'.small (by omega)
              have hsm2 := other_small hsm
              have hlen' : G'.length ≤ 60 := by have := hgd'.len; omega
              have hKb : 4000 * (G'.length + 1) ≤ 900000 := by omega
              have hKb2 : 4000 * (G'.other.length + 1) ≤ 900000 := by rw [other_length]; omega
              have hwl : G'.waits.length ≤ 900000 := by simp only [Gr.waits, List.length_map]; omega
              have hol : (G'.of x).length ≤ 900000 := by have := hgd'.ofLen x; omega
              have cV1 := graph_Victim wc gp gm 4000 G' res hg' hsm (fun y hy => (hgd'.waitsNear y hy).i64) (fun z y hy => (hgd'.ofNear z y hy).i64) hKb hr1 (by omega)
              replace hr1 := hid hr1
              replace hr2 := hid hr2
              clear hgN hhN c0 c2 hE' hiN hEwN hEvN hbN
              by_cases hr0 : res = []
              · as_aux_lemma =>
                have cV2 := fun w hh => graph_Victim w hp hm 4000 G'.other (res.map one) hh hsm2 (fun y hy => other_waits_i64 hgd' y hy) (other_of_i64 hgd') hKb2 hr2.out (by rw [List.length_map]; omega)
                rw [if_pos hr0] at cV1
                rw [if_pos (by simpa using hr0)] at cV2
                have hd1 : (!decide (res = [])) = false := by simpa using hr0
                have hd2 : (!decide (res.map one = [])) = false := by simpa using hr0
                rw [hd1] at cV1
                rw [hd2] at cV2
                clear hd1 hd2 hr0
                go_wp2_with fail
                refine cV1.mono ?_
                rintro e w5 ⟨rfl, hE5⟩
                go_wp2_with fail
                refine (cV2 _ (hh'.ext0 hE5)).mono ?_
                rintro e w6 ⟨rfl, hE6⟩
                have hg6 := (hg'.ext0 hE5).ext0 hE6
                have hh6 := (hh'.ext0 hE5).ext0 hE6
                replace c1' := hE6.cell (hE5.cell c1' (by simp)) (by simp)
                replace cB' := hE6.cell (hE5.cell cB' (by simp)) (by simp)
                have hE6w := (hEw'.nil_of hE5).nil_of hE6
                have hEv6 := (hEv'.nil_of hE5).nil_of hE6
                clear cV1 cV2 hg' hh' hE5 hE6 hEw' hEv'
                go_wp2_with fail
                refine wp_region_plan (fun w' => w'.cell? ⟨N, 1, none⟩ = some (.int .i64 x) ∧ w'.cell? ⟨B, 0, none⟩ = some (.func (.func 7) #[] #[])) [(0, true), (1, true), (2, true), (3, true), (4, true), (5, true), (6, true), (7, true), (9, true), (8, false), (10, true), (11, true), (12, true), (13, true), (14, true), (15, true), (18, true), (16, false), (17, false), (19, false), (20, false), (21, true), (22, true), (23, true), (24, true), (25, true), (28, true), (26, false), (27, false), (29, false), (30, false), (31, true), (32, true), (33, true), (34, true), (35, true), (36, true), (37, true), (40, true), (41, true), (42, true), (43, true), (38, false), (39, false), (44, false), (45, false), (46, false), (47, true), (48, true)] (by kernel_rfl) (by kernel_rfl) (fun _ _ _ _ _ h => h) (⟨c1', cB'⟩) (fun hHeld => ?_)
                simp only [planOps, List.map_cons, List.map_nil, List.getElem?_toArray, List.getElem?_cons_succ, List.getElem?_cons_zero, Option.getD_some]
                have hX := Ext.self_drew w6
                repeat (first | (refine plan_skip (by rfl) ?_; simp only [Act.put, List.setIfInBounds_toArray, List.set_cons_zero, List.set_cons_succ]) | (refine plan_take (v := ?_) (by rfl) ?_ ?_; rotate_left; (· (intro w hSw; obtain ⟨s0, s1⟩ := hSw; go_simp; try with_reducible rfl)); simp only [Act.put, List.setIfInBounds_toArray, List.set_cons_zero, List.set_cons_succ]))
                refine plan_call (by rfl) (fun K hK => ?_)
                go_simp
                with_reducible refine (graph_Cycle _ gp gm 4000 G' res (hg6.ext0 hX) hsm (fun y hy => (hgd'.waitsNear y hy).i64) (fun z y hy => (hgd'.ofNear z y hy).i64) hKb hr1.out).mono ?_
                rintro e w7 ⟨u, rfl, hu, -, -, hE7⟩
                go_simp
                refine hK.out _ _ (⟨hE7.cell hHeld.1 (by simp), hE7.cell hHeld.2 (by simp)⟩) (fun hHeld => ?_)
                clear hK K
                try simp only [Act.put, List.setIfInBounds_toArray, List.set_cons_zero, List.set_cons_succ]
                replace hX := hX.nil_of hE7
                obtain ⟨bu, hua, -⟩ := hu.at
                clear hu hE7
                repeat (first | (refine plan_skip (by rfl) ?_; simp only [Act.put, List.setIfInBounds_toArray, List.set_cons_zero, List.set_cons_succ]) | (refine plan_take (v := ?_) (by rfl) ?_ ?_; rotate_left; (· (intro w hSw; obtain ⟨s0, s1⟩ := hSw; go_simp; try with_reducible rfl)); simp only [Act.put, List.setIfInBounds_toArray, List.set_cons_zero, List.set_cons_succ]))
                refine plan_call (by rfl) (fun K hK => ?_)
                go_simp
                with_reducible refine (law_named _ u bu res B hua hHeld.2 (by omega) (fun y hy => Near.le (hrn y hy))).mono ?_
                rintro e w8 ⟨u8, rfl, hu8, hE8⟩
                go_simp
                refine hK.out _ _ (⟨hE8.cell hHeld.1 (by simp), hE8.cell hHeld.2 (by simp)⟩) (fun hHeld => ?_)
                clear hK K
                try simp only [Act.put, List.setIfInBounds_toArray, List.set_cons_zero, List.set_cons_succ]
                replace hX := hX.nil_of hE8
                obtain ⟨bu8, hua8, -⟩ := hu8.at
                clear hu8 hE8 hua
                repeat (first | (refine plan_skip (by rfl) ?_; simp only [Act.put, List.setIfInBounds_toArray, List.set_cons_zero, List.set_cons_succ]) | (refine plan_take (v := ?_) (by rfl) ?_ ?_; rotate_left; (· (intro w hSw; obtain ⟨s0, s1⟩ := hSw; go_simp; try with_reducible rfl)); simp only [Act.put, List.setIfInBounds_toArray, List.set_cons_zero, List.set_cons_succ]))
                refine plan_call (by rfl) (fun K hK => ?_)
                go_simp
                with_reducible refine (graph_Cycle _ hp hm 4000 G'.other (res.map one) (hh6.ext0 hX) hsm2 (fun y hy => other_waits_i64 hgd' y hy) (other_of_i64 hgd') hKb2 hr2.out).mono ?_
                rintro e w9 ⟨u9, rfl, hu9, -, -, hE9⟩
                go_simp
                refine hK.out _ _ (⟨hE9.cell hHeld.1 (by simp), hE9.cell hHeld.2 (by simp)⟩) (fun hHeld => ?_)
                clear hK K
                try simp only [Act.put, List.setIfInBounds_toArray, List.set_cons_zero, List.set_cons_succ]
                replace hX := hX.nil_of hE9
                obtain ⟨bu9, hua9, -⟩ := hu9.at
                replace hua8 := hua8.ext hE9 (by simp)
                clear hu9 hE9
                repeat (first | (refine plan_skip (by rfl) ?_; simp only [Act.put, List.setIfInBounds_toArray, List.set_cons_zero, List.set_cons_succ]) | (refine plan_take (v := ?_) (by rfl) ?_ ?_; rotate_left; (· (intro w hSw; obtain ⟨s0, s1⟩ := hSw; go_simp; try with_reducible rfl)); simp only [Act.put, List.setIfInBounds_toArray, List.set_cons_zero, List.set_cons_succ]))
                refine plan_call (by rfl) (fun K hK => ?_)
                go_simp
                with_reducible refine (ints_Same hua8 hua9 (by rw [List.length_map]; omega)).mono ?_
                rintro e w10 ⟨rfl, q, rfl⟩
                go_simp
                refine hK.out _ _ (⟨((Ext.refl [] w9).drewN q).cell hHeld.1 (by simp), ((Ext.refl [] w9).drewN q).cell hHeld.2 (by simp)⟩) (fun hHeld => ?_)
                clear hK K
                try simp only [Act.put, List.setIfInBounds_toArray, List.set_cons_zero, List.set_cons_succ]
                replace hX := hX.drewN q
                generalize w9.drewN q = w10 at *
                clear hua8 hua9
                repeat (first | (refine plan_skip (by rfl) ?_; simp only [Act.put, List.setIfInBounds_toArray, List.set_cons_zero, List.set_cons_succ]) | (refine plan_take (v := ?_) (by rfl) ?_ ?_; rotate_left; (· (intro w hSw; obtain ⟨s0, s1⟩ := hSw; go_simp; try with_reducible rfl)); simp only [Act.put, List.setIfInBounds_toArray, List.set_cons_zero, List.set_cons_succ]))
                refine plan_call (by rfl) (fun K hK => ?_)
                go_simp
                with_reducible refine (graph_Waits _ gp gm G' (hg6.ext0 hX) (by omega)).mono ?_
                rintro e w11 ⟨u, rfl, hu, hE7⟩
                go_simp
                refine hK.out _ _ (⟨hE7.cell hHeld.1 (by simp), hE7.cell hHeld.2 (by simp)⟩) (fun hHeld => ?_)
                clear hK K
                try simp only [Act.put, List.setIfInBounds_toArray, List.set_cons_zero, List.set_cons_succ]
                replace hX := hX.nil_of hE7
                obtain ⟨bu, hua, -⟩ := hu.at
                clear hu hE7
                repeat (first | (refine plan_skip (by rfl) ?_; simp only [Act.put, List.setIfInBounds_toArray, List.set_cons_zero, List.set_cons_succ]) | (refine plan_take (v := ?_) (by rfl) ?_ ?_; rotate_left; (· (intro w hSw; obtain ⟨s0, s1⟩ := hSw; go_simp; try with_reducible rfl)); simp only [Act.put, List.setIfInBounds_toArray, List.set_cons_zero, List.set_cons_succ]))
                refine plan_call (by rfl) (fun K hK => ?_)
                go_simp
                with_reducible refine (law_named _ u bu G'.waits B hua hHeld.2 hwl (fun y hy => Near.le (hgd'.waitsNear y hy))).mono ?_
                rintro e w12 ⟨u8, rfl, hu8, hE8⟩
                go_simp
                refine hK.out _ _ (⟨hE8.cell hHeld.1 (by simp), hE8.cell hHeld.2 (by simp)⟩) (fun hHeld => ?_)
                clear hK K
                try simp only [Act.put, List.setIfInBounds_toArray, List.set_cons_zero, List.set_cons_succ]
                replace hX := hX.nil_of hE8
                obtain ⟨bu8, hua8, -⟩ := hu8.at
                clear hu8 hE8 hua
                repeat (first | (refine plan_skip (by rfl) ?_; simp only [Act.put, List.setIfInBounds_toArray, List.set_cons_zero, List.set_cons_succ]) | (refine plan_take (v := ?_) (by rfl) ?_ ?_; rotate_left; (· (intro w hSw; obtain ⟨s0, s1⟩ := hSw; go_simp; try with_reducible rfl)); simp only [Act.put, List.setIfInBounds_toArray, List.set_cons_zero, List.set_cons_succ]))
                refine plan_call (by rfl) (fun K hK => ?_)
                go_simp
                with_reducible refine (graph_Waits _ hp hm G'.other (hh6.ext0 hX) (by rw [other_length]; omega)).mono ?_
                rintro e w13 ⟨u9, rfl, hu9, hE9⟩
                go_simp
                refine hK.out _ _ (⟨hE9.cell hHeld.1 (by simp), hE9.cell hHeld.2 (by simp)⟩) (fun hHeld => ?_)
                clear hK K
                try simp only [Act.put, List.setIfInBounds_toArray, List.set_cons_zero, List.set_cons_succ]
                replace hX := hX.nil_of hE9
                obtain ⟨bu9, hua9, -⟩ := hu9.at
                rw [other_waits] at hua9
                replace hua8 := hua8.ext hE9 (by simp)
                clear hu9 hE9
                repeat (first | (refine plan_skip (by rfl) ?_; simp only [Act.put, List.setIfInBounds_toArray, List.set_cons_zero, List.set_cons_succ]) | (refine plan_take (v := ?_) (by rfl) ?_ ?_; rotate_left; (· (intro w hSw; obtain ⟨s0, s1⟩ := hSw; go_simp; try with_reducible rfl)); simp only [Act.put, List.setIfInBounds_toArray, List.set_cons_zero, List.set_cons_succ]))
                refine plan_call (by rfl) (fun K hK => ?_)
                go_simp
                with_reducible refine (ints_Same hua8 hua9 (by rw [List.length_map]; omega)).mono ?_
                rintro e w14 ⟨rfl, q2, rfl⟩
                go_simp
                refine hK.out _ _ (⟨((Ext.refl [] w13).drewN q2).cell hHeld.1 (by simp), ((Ext.refl [] w13).drewN q2).cell hHeld.2 (by simp)⟩) (fun hHeld => ?_)
                clear hK K
                try simp only [Act.put, List.setIfInBounds_toArray, List.set_cons_zero, List.set_cons_succ]
                replace hX := hX.drewN q2
                generalize w13.drewN q2 = w14 at *
                clear hua8 hua9
                repeat (first | (refine plan_skip (by rfl) ?_; simp only [Act.put, List.setIfInBounds_toArray, List.set_cons_zero, List.set_cons_succ]) | (refine plan_take (v := ?_) (by rfl) ?_ ?_; rotate_left; (· (intro w hSw; obtain ⟨s0, s1⟩ := hSw; go_simp; try with_reducible rfl)); simp only [Act.put, List.setIfInBounds_toArray, List.set_cons_zero, List.set_cons_succ]))
                refine plan_call (by rfl) (fun K hK => ?_)
                go_simp
                with_reducible refine (graph_On _ gp gm G' x (hg6.ext0 hX) hsm hxn.i64).mono ?_
                rintro e w15 ⟨u, rfl, hu, hE7⟩
                go_simp
                refine hK.out _ _ (⟨hE7.cell hHeld.1 (by simp), hE7.cell hHeld.2 (by simp)⟩) (fun hHeld => ?_)
                clear hK K
                try simp only [Act.put, List.setIfInBounds_toArray, List.set_cons_zero, List.set_cons_succ]
                replace hX := hX.nil_of hE7
                obtain ⟨bu, hua, -⟩ := hu.at
                clear hu hE7
                repeat (first | (refine plan_skip (by rfl) ?_; simp only [Act.put, List.setIfInBounds_toArray, List.set_cons_zero, List.set_cons_succ]) | (refine plan_take (v := ?_) (by rfl) ?_ ?_; rotate_left; (· (intro w hSw; obtain ⟨s0, s1⟩ := hSw; go_simp; try with_reducible rfl)); simp only [Act.put, List.setIfInBounds_toArray, List.set_cons_zero, List.set_cons_succ]))
                refine plan_call (by rfl) (fun K hK => ?_)
                go_simp
                with_reducible refine (law_named _ u bu (G'.of x) B hua hHeld.2 hol (fun y hy => Near.le (hgd'.ofNear x y hy))).mono ?_
                rintro e w16 ⟨u8, rfl, hu8, hE8⟩
                go_simp
                refine hK.out _ _ (⟨hE8.cell hHeld.1 (by simp), hE8.cell hHeld.2 (by simp)⟩) (fun hHeld => ?_)
                clear hK K
                try simp only [Act.put, List.setIfInBounds_toArray, List.set_cons_zero, List.set_cons_succ]
                replace hX := hX.nil_of hE8
                obtain ⟨bu8, hua8, -⟩ := hu8.at
                clear hu8 hE8 hua
                repeat (first | (refine plan_skip (by rfl) ?_; simp only [Act.put, List.setIfInBounds_toArray, List.set_cons_zero, List.set_cons_succ]) | (refine plan_take (v := ?_) (by rfl) ?_ ?_; rotate_left; (· (intro w hSw; obtain ⟨s0, s1⟩ := hSw; go_simp; try with_reducible rfl)); simp only [Act.put, List.setIfInBounds_toArray, List.set_cons_zero, List.set_cons_succ]))
                refine plan_call (by rfl) (fun K hK => ?_)
                go_simp
                with_reducible refine (law_one _ x (Near.le hxn)).mono ?_
                rintro e w17 ⟨rfl, rfl⟩
                go_simp
                refine hK.out _ _ (hHeld) (fun hHeld => ?_)
                clear hK K
                try simp only [Act.put, List.setIfInBounds_toArray, List.set_cons_zero, List.set_cons_succ]
                repeat (first | (refine plan_skip (by rfl) ?_; simp only [Act.put, List.setIfInBounds_toArray, List.set_cons_zero, List.set_cons_succ]) | (refine plan_take (v := ?_) (by rfl) ?_ ?_; rotate_left; (· (intro w hSw; obtain ⟨s0, s1⟩ := hSw; go_simp; try with_reducible rfl)); simp only [Act.put, List.setIfInBounds_toArray, List.set_cons_zero, List.set_cons_succ]))
                refine plan_call (by rfl) (fun K hK => ?_)
                go_simp
                with_reducible refine (graph_On _ hp hm G'.other (one x) (hh6.ext0 hX) hsm2 hxn.one).mono ?_
                rintro e w17 ⟨u9, rfl, hu9, hE9⟩
                go_simp
                refine hK.out _ _ (⟨hE9.cell hHeld.1 (by simp), hE9.cell hHeld.2 (by simp)⟩) (fun hHeld => ?_)
                clear hK K
                try simp only [Act.put, List.setIfInBounds_toArray, List.set_cons_zero, List.set_cons_succ]
                replace hX := hX.nil_of hE9
                obtain ⟨bu9, hua9, -⟩ := hu9.at
                rw [other_of] at hua9
                replace hua8 := hua8.ext hE9 (by simp)
                clear hu9 hE9
                repeat (first | (refine plan_skip (by rfl) ?_; simp only [Act.put, List.setIfInBounds_toArray, List.set_cons_zero, List.set_cons_succ]) | (refine plan_take (v := ?_) (by rfl) ?_ ?_; rotate_left; (· (intro w hSw; obtain ⟨s0, s1⟩ := hSw; go_simp; try with_reducible rfl)); simp only [Act.put, List.setIfInBounds_toArray, List.set_cons_zero, List.set_cons_succ]))
                refine plan_call (by rfl) (fun K hK => ?_)
                go_simp
                with_reducible refine (ints_Same hua8 hua9 (by rw [List.length_map]; omega)).mono ?_
                rintro e w18 ⟨rfl, q3, rfl⟩
                go_simp
                refine hK.out _ _ (⟨((Ext.refl [] w17).drewN q3).cell hHeld.1 (by simp), ((Ext.refl [] w17).drewN q3).cell hHeld.2 (by simp)⟩) (fun hHeld => ?_)
                clear hK K
                try simp only [Act.put, List.setIfInBounds_toArray, List.set_cons_zero, List.set_cons_succ]
                replace hX := hX.drewN q3
                generalize w17.drewN q3 = w18 at *
                clear hua8 hua9
                repeat (first | (refine plan_skip (by rfl) ?_; simp only [Act.put, List.setIfInBounds_toArray, List.set_cons_zero, List.set_cons_succ]) | (refine plan_take (v := ?_) (by rfl) ?_ ?_; rotate_left; (· (intro w hSw; obtain ⟨s0, s1⟩ := hSw; go_simp; try with_reducible rfl)); simp only [Act.put, List.setIfInBounds_toArray, List.set_cons_zero, List.set_cons_succ]))
                refine plan_end ?_
                have hgf := hg6.ext0 hX
                have hhf := hh6.ext0 hX
                have hEf := hE6w.nil_of hX
                have hEvf := hEv6.nil_of hX
                clear hX hg6 hh6 hHeld c1' cB'
                go_wp2
                go_roundg kk
                case measure => omega
                case rel => exact ⟨j + 1, G', by omega, by go_num, hgf, hhf, hgd', hEf, hEvf⟩
              · as_aux_lemma =>
                have cV2 := fun w hh => graph_Victim w hp hm 4000 G'.other (res.map one) hh hsm2 (fun y hy => other_waits_i64 hgd' y hy) (other_of_i64 hgd') hKb2 hr2.out (by rw [List.length_map]; omega)
                rw [if_neg hr0] at cV1
                rw [if_neg (by simpa using hr0), maxOf_other res hr0] at cV2
                have hd1 : (!decide (res = [])) = true := by simpa using hr0
                have hd2 : (!decide (res.map one = [])) = true := by simpa using hr0
                rw [hd1] at cV1
                rw [hd2] at cV2
                obtain ⟨vx, hvxe⟩ : ∃ vx, Lib.maxOf res = vx := ⟨_, rfl⟩
                have hvx := Near.le (hrn _ (maxOf_mem hr0))
                rw [hvxe] at cV1 cV2 hvx
                clear hvxe hd1 hd2 hr0
                go_wp2_with fail
                refine cV1.mono ?_
                rintro e w5 ⟨rfl, hE5⟩
                go_wp2_with fail
                refine (cV2 _ (hh'.ext0 hE5)).mono ?_
                rintro e w6 ⟨rfl, hE6⟩
                have hg6 := (hg'.ext0 hE5).ext0 hE6
                have hh6 := (hh'.ext0 hE5).ext0 hE6
                replace c1' := hE6.cell (hE5.cell c1' (by simp)) (by simp)
                replace cB' := hE6.cell (hE5.cell cB' (by simp)) (by simp)
                have hE6w := (hEw'.nil_of hE5).nil_of hE6
                have hEv6 := (hEv'.nil_of hE5).nil_of hE6
                clear cV1 cV2 hg' hh' hE5 hE6 hEw' hEv'
                go_wp2_with fail
                refine wp_region_plan (fun w' => w'.cell? ⟨N, 1, none⟩ = some (.int .i64 x) ∧ w'.cell? ⟨B, 0, none⟩ = some (.func (.func 7) #[] #[])) [(0, true), (1, true), (2, true), (3, true), (4, true), (5, true), (6, true), (7, true), (9, true), (8, false), (10, true), (11, true), (12, true), (13, true), (14, true), (15, true), (18, true), (16, false), (17, false), (19, false), (20, false), (21, true), (22, true), (23, true), (24, true), (25, true), (28, true), (26, false), (27, false), (29, false), (30, false), (31, true), (32, true), (33, true), (34, true), (35, true), (36, true), (37, true), (40, true), (41, true), (42, true), (43, true), (38, false), (39, false), (44, false), (45, false), (46, false), (47, true), (48, true)] (by kernel_rfl) (by kernel_rfl) (fun _ _ _ _ _ h => h) (⟨c1', cB'⟩) (fun hHeld => ?_)
                simp only [planOps, List.map_cons, List.map_nil, List.getElem?_toArray, List.getElem?_cons_succ, List.getElem?_cons_zero, Option.getD_some]
                have hX := Ext.self_drew w6
                repeat (first | (refine plan_skip (by rfl) ?_; simp only [Act.put, List.setIfInBounds_toArray, List.set_cons_zero, List.set_cons_succ]) | (refine plan_take (v := ?_) (by rfl) ?_ ?_; rotate_left; (· (intro w hSw; obtain ⟨s0, s1⟩ := hSw; go_simp; try with_reducible rfl)); simp only [Act.put, List.setIfInBounds_toArray, List.set_cons_zero, List.set_cons_succ]))
                refine plan_call (by rfl) (fun K hK => ?_)
                go_simp
                with_reducible refine (law_one _ vx hvx).mono ?_
                rintro e w7 ⟨rfl, rfl⟩
                go_simp
                refine hK.out _ _ (hHeld) (fun hHeld => ?_)
                clear hK K
                try simp only [Act.put, List.setIfInBounds_toArray, List.set_cons_zero, List.set_cons_succ]
                repeat (first | (refine plan_skip (by rfl) ?_; simp only [Act.put, List.setIfInBounds_toArray, List.set_cons_zero, List.set_cons_succ]) | (refine plan_take (v := ?_) (by rfl) ?_ ?_; rotate_left; (· (intro w hSw; obtain ⟨s0, s1⟩ := hSw; go_simp; try with_reducible rfl)); simp only [Act.put, List.setIfInBounds_toArray, List.set_cons_zero, List.set_cons_succ]))
                refine plan_call (by rfl) (fun K hK => ?_)
                go_simp
                with_reducible refine (graph_Cycle _ gp gm 4000 G' res (hg6.ext0 hX) hsm (fun y hy => (hgd'.waitsNear y hy).i64) (fun z y hy => (hgd'.ofNear z y hy).i64) hKb hr1.out).mono ?_
                rintro e w7 ⟨u, rfl, hu, -, -, hE7⟩
                go_simp
                refine hK.out _ _ (⟨hE7.cell hHeld.1 (by simp), hE7.cell hHeld.2 (by simp)⟩) (fun hHeld => ?_)
                clear hK K
                try simp only [Act.put, List.setIfInBounds_toArray, List.set_cons_zero, List.set_cons_succ]
                replace hX := hX.nil_of hE7
                obtain ⟨bu, hua, -⟩ := hu.at
                clear hu hE7
                repeat (first | (refine plan_skip (by rfl) ?_; simp only [Act.put, List.setIfInBounds_toArray, List.set_cons_zero, List.set_cons_succ]) | (refine plan_take (v := ?_) (by rfl) ?_ ?_; rotate_left; (· (intro w hSw; obtain ⟨s0, s1⟩ := hSw; go_simp; try with_reducible rfl)); simp only [Act.put, List.setIfInBounds_toArray, List.set_cons_zero, List.set_cons_succ]))
                refine plan_call (by rfl) (fun K hK => ?_)
                go_simp
                with_reducible refine (law_named _ u bu res B hua hHeld.2 (by omega) (fun y hy => Near.le (hrn y hy))).mono ?_
                rintro e w8 ⟨u8, rfl, hu8, hE8⟩
                go_simp
                refine hK.out _ _ (⟨hE8.cell hHeld.1 (by simp), hE8.cell hHeld.2 (by simp)⟩) (fun hHeld => ?_)
                clear hK K
                try simp only [Act.put, List.setIfInBounds_toArray, List.set_cons_zero, List.set_cons_succ]
                replace hX := hX.nil_of hE8
                obtain ⟨bu8, hua8, -⟩ := hu8.at
                clear hu8 hE8 hua
                repeat (first | (refine plan_skip (by rfl) ?_; simp only [Act.put, List.setIfInBounds_toArray, List.set_cons_zero, List.set_cons_succ]) | (refine plan_take (v := ?_) (by rfl) ?_ ?_; rotate_left; (· (intro w hSw; obtain ⟨s0, s1⟩ := hSw; go_simp; try with_reducible rfl)); simp only [Act.put, List.setIfInBounds_toArray, List.set_cons_zero, List.set_cons_succ]))
                refine plan_call (by rfl) (fun K hK => ?_)
                go_simp
                with_reducible refine (graph_Cycle _ hp hm 4000 G'.other (res.map one) (hh6.ext0 hX) hsm2 (fun y hy => other_waits_i64 hgd' y hy) (other_of_i64 hgd') hKb2 hr2.out).mono ?_
                rintro e w9 ⟨u9, rfl, hu9, -, -, hE9⟩
                go_simp
                refine hK.out _ _ (⟨hE9.cell hHeld.1 (by simp), hE9.cell hHeld.2 (by simp)⟩) (fun hHeld => ?_)
                clear hK K
                try simp only [Act.put, List.setIfInBounds_toArray, List.set_cons_zero, List.set_cons_succ]
                replace hX := hX.nil_of hE9
                obtain ⟨bu9, hua9, -⟩ := hu9.at
                replace hua8 := hua8.ext hE9 (by simp)
                clear hu9 hE9
                repeat (first | (refine plan_skip (by rfl) ?_; simp only [Act.put, List.setIfInBounds_toArray, List.set_cons_zero, List.set_cons_succ]) | (refine plan_take (v := ?_) (by rfl) ?_ ?_; rotate_left; (· (intro w hSw; obtain ⟨s0, s1⟩ := hSw; go_simp; try with_reducible rfl)); simp only [Act.put, List.setIfInBounds_toArray, List.set_cons_zero, List.set_cons_succ]))
                refine plan_call (by rfl) (fun K hK => ?_)
                go_simp
                with_reducible refine (ints_Same hua8 hua9 (by rw [List.length_map]; omega)).mono ?_
                rintro e w10 ⟨rfl, q, rfl⟩
                go_simp
                refine hK.out _ _ (⟨((Ext.refl [] w9).drewN q).cell hHeld.1 (by simp), ((Ext.refl [] w9).drewN q).cell hHeld.2 (by simp)⟩) (fun hHeld => ?_)
                clear hK K
                try simp only [Act.put, List.setIfInBounds_toArray, List.set_cons_zero, List.set_cons_succ]
                replace hX := hX.drewN q
                generalize w9.drewN q = w10 at *
                clear hua8 hua9
                repeat (first | (refine plan_skip (by rfl) ?_; simp only [Act.put, List.setIfInBounds_toArray, List.set_cons_zero, List.set_cons_succ]) | (refine plan_take (v := ?_) (by rfl) ?_ ?_; rotate_left; (· (intro w hSw; obtain ⟨s0, s1⟩ := hSw; go_simp; try with_reducible rfl)); simp only [Act.put, List.setIfInBounds_toArray, List.set_cons_zero, List.set_cons_succ]))
                refine plan_call (by rfl) (fun K hK => ?_)
                go_simp
                with_reducible refine (graph_Waits _ gp gm G' (hg6.ext0 hX) (by omega)).mono ?_
                rintro e w11 ⟨u, rfl, hu, hE7⟩
                go_simp
                refine hK.out _ _ (⟨hE7.cell hHeld.1 (by simp), hE7.cell hHeld.2 (by simp)⟩) (fun hHeld => ?_)
                clear hK K
                try simp only [Act.put, List.setIfInBounds_toArray, List.set_cons_zero, List.set_cons_succ]
                replace hX := hX.nil_of hE7
                obtain ⟨bu, hua, -⟩ := hu.at
                clear hu hE7
                repeat (first | (refine plan_skip (by rfl) ?_; simp only [Act.put, List.setIfInBounds_toArray, List.set_cons_zero, List.set_cons_succ]) | (refine plan_take (v := ?_) (by rfl) ?_ ?_; rotate_left; (· (intro w hSw; obtain ⟨s0, s1⟩ := hSw; go_simp; try with_reducible rfl)); simp only [Act.put, List.setIfInBounds_toArray, List.set_cons_zero, List.set_cons_succ]))
                refine plan_call (by rfl) (fun K hK => ?_)
                go_simp
                with_reducible refine (law_named _ u bu G'.waits B hua hHeld.2 hwl (fun y hy => Near.le (hgd'.waitsNear y hy))).mono ?_
                rintro e w12 ⟨u8, rfl, hu8, hE8⟩
                go_simp
                refine hK.out _ _ (⟨hE8.cell hHeld.1 (by simp), hE8.cell hHeld.2 (by simp)⟩) (fun hHeld => ?_)
                clear hK K
                try simp only [Act.put, List.setIfInBounds_toArray, List.set_cons_zero, List.set_cons_succ]
                replace hX := hX.nil_of hE8
                obtain ⟨bu8, hua8, -⟩ := hu8.at
                clear hu8 hE8 hua
                repeat (first | (refine plan_skip (by rfl) ?_; simp only [Act.put, List.setIfInBounds_toArray, List.set_cons_zero, List.set_cons_succ]) | (refine plan_take (v := ?_) (by rfl) ?_ ?_; rotate_left; (· (intro w hSw; obtain ⟨s0, s1⟩ := hSw; go_simp; try with_reducible rfl)); simp only [Act.put, List.setIfInBounds_toArray, List.set_cons_zero, List.set_cons_succ]))
                refine plan_call (by rfl) (fun K hK => ?_)
                go_simp
                with_reducible refine (graph_Waits _ hp hm G'.other (hh6.ext0 hX) (by rw [other_length]; omega)).mono ?_
                rintro e w13 ⟨u9, rfl, hu9, hE9⟩
                go_simp
                refine hK.out _ _ (⟨hE9.cell hHeld.1 (by simp), hE9.cell hHeld.2 (by simp)⟩) (fun hHeld => ?_)
                clear hK K
                try simp only [Act.put, List.setIfInBounds_toArray, List.set_cons_zero, List.set_cons_succ]
                replace hX := hX.nil_of hE9
                obtain ⟨bu9, hua9, -⟩ := hu9.at
                rw [other_waits] at hua9
                replace hua8 := hua8.ext hE9 (by simp)
                clear hu9 hE9
                repeat (first | (refine plan_skip (by rfl) ?_; simp only [Act.put, List.setIfInBounds_toArray, List.set_cons_zero, List.set_cons_succ]) | (refine plan_take (v := ?_) (by rfl) ?_ ?_; rotate_left; (· (intro w hSw; obtain ⟨s0, s1⟩ := hSw; go_simp; try with_reducible rfl)); simp only [Act.put, List.setIfInBounds_toArray, List.set_cons_zero, List.set_cons_succ]))
                refine plan_call (by rfl) (fun K hK => ?_)
                go_simp
                with_reducible refine (ints_Same hua8 hua9 (by rw [List.length_map]; omega)).mono ?_
                rintro e w14 ⟨rfl, q2, rfl⟩
                go_simp
                refine hK.out _ _ (⟨((Ext.refl [] w13).drewN q2).cell hHeld.1 (by simp), ((Ext.refl [] w13).drewN q2).cell hHeld.2 (by simp)⟩) (fun hHeld => ?_)
                clear hK K
                try simp only [Act.put, List.setIfInBounds_toArray, List.set_cons_zero, List.set_cons_succ]
                replace hX := hX.drewN q2
                generalize w13.drewN q2 = w14 at *
                clear hua8 hua9
                repeat (first | (refine plan_skip (by rfl) ?_; simp only [Act.put, List.setIfInBounds_toArray, List.set_cons_zero, List.set_cons_succ]) | (refine plan_take (v := ?_) (by rfl) ?_ ?_; rotate_left; (· (intro w hSw; obtain ⟨s0, s1⟩ := hSw; go_simp; try with_reducible rfl)); simp only [Act.put, List.setIfInBounds_toArray, List.set_cons_zero, List.set_cons_succ]))
                refine plan_call (by rfl) (fun K hK => ?_)
                go_simp
                with_reducible refine (graph_On _ gp gm G' x (hg6.ext0 hX) hsm hxn.i64).mono ?_
                rintro e w15 ⟨u, rfl, hu, hE7⟩
                go_simp
                refine hK.out _ _ (⟨hE7.cell hHeld.1 (by simp), hE7.cell hHeld.2 (by simp)⟩) (fun hHeld => ?_)
                clear hK K
                try simp only [Act.put, List.setIfInBounds_toArray, List.set_cons_zero, List.set_cons_succ]
                replace hX := hX.nil_of hE7
                obtain ⟨bu, hua, -⟩ := hu.at
                clear hu hE7
                repeat (first | (refine plan_skip (by rfl) ?_; simp only [Act.put, List.setIfInBounds_toArray, List.set_cons_zero, List.set_cons_succ]) | (refine plan_take (v := ?_) (by rfl) ?_ ?_; rotate_left; (· (intro w hSw; obtain ⟨s0, s1⟩ := hSw; go_simp; try with_reducible rfl)); simp only [Act.put, List.setIfInBounds_toArray, List.set_cons_zero, List.set_cons_succ]))
                refine plan_call (by rfl) (fun K hK => ?_)
                go_simp
                with_reducible refine (law_named _ u bu (G'.of x) B hua hHeld.2 hol (fun y hy => Near.le (hgd'.ofNear x y hy))).mono ?_
                rintro e w16 ⟨u8, rfl, hu8, hE8⟩
                go_simp
                refine hK.out _ _ (⟨hE8.cell hHeld.1 (by simp), hE8.cell hHeld.2 (by simp)⟩) (fun hHeld => ?_)
                clear hK K
                try simp only [Act.put, List.setIfInBounds_toArray, List.set_cons_zero, List.set_cons_succ]
                replace hX := hX.nil_of hE8
                obtain ⟨bu8, hua8, -⟩ := hu8.at
                clear hu8 hE8 hua
                repeat (first | (refine plan_skip (by rfl) ?_; simp only [Act.put, List.setIfInBounds_toArray, List.set_cons_zero, List.set_cons_succ]) | (refine plan_take (v := ?_) (by rfl) ?_ ?_; rotate_left; (· (intro w hSw; obtain ⟨s0, s1⟩ := hSw; go_simp; try with_reducible rfl)); simp only [Act.put, List.setIfInBounds_toArray, List.set_cons_zero, List.set_cons_succ]))
                refine plan_call (by rfl) (fun K hK => ?_)
                go_simp
                with_reducible refine (law_one _ x (Near.le hxn)).mono ?_
                rintro e w17 ⟨rfl, rfl⟩
                go_simp
                refine hK.out _ _ (hHeld) (fun hHeld => ?_)
                clear hK K
                try simp only [Act.put, List.setIfInBounds_toArray, List.set_cons_zero, List.set_cons_succ]
                repeat (first | (refine plan_skip (by rfl) ?_; simp only [Act.put, List.setIfInBounds_toArray, List.set_cons_zero, List.set_cons_succ]) | (refine plan_take (v := ?_) (by rfl) ?_ ?_; rotate_left; (· (intro w hSw; obtain ⟨s0, s1⟩ := hSw; go_simp; try with_reducible rfl)); simp only [Act.put, List.setIfInBounds_toArray, List.set_cons_zero, List.set_cons_succ]))
                refine plan_call (by rfl) (fun K hK => ?_)
                go_simp
                with_reducible refine (graph_On _ hp hm G'.other (one x) (hh6.ext0 hX) hsm2 hxn.one).mono ?_
                rintro e w17 ⟨u9, rfl, hu9, hE9⟩
                go_simp
                refine hK.out _ _ (⟨hE9.cell hHeld.1 (by simp), hE9.cell hHeld.2 (by simp)⟩) (fun hHeld => ?_)
                clear hK K
                try simp only [Act.put, List.setIfInBounds_toArray, List.set_cons_zero, List.set_cons_succ]
                replace hX := hX.nil_of hE9
                obtain ⟨bu9, hua9, -⟩ := hu9.at
                rw [other_of] at hua9
                replace hua8 := hua8.ext hE9 (by simp)
                clear hu9 hE9
                repeat (first | (refine plan_skip (by rfl) ?_; simp only [Act.put, List.setIfInBounds_toArray, List.set_cons_zero, List.set_cons_succ]) | (refine plan_take (v := ?_) (by rfl) ?_ ?_; rotate_left; (· (intro w hSw; obtain ⟨s0, s1⟩ := hSw; go_simp; try with_reducible rfl)); simp only [Act.put, List.setIfInBounds_toArray, List.set_cons_zero, List.set_cons_succ]))
                refine plan_call (by rfl) (fun K hK => ?_)
                go_simp
                with_reducible refine (ints_Same hua8 hua9 (by rw [List.length_map]; omega)).mono ?_
                rintro e w18 ⟨rfl, q3, rfl⟩
                go_simp
                refine hK.out _ _ (⟨((Ext.refl [] w17).drewN q3).cell hHeld.1 (by simp), ((Ext.refl [] w17).drewN q3).cell hHeld.2 (by simp)⟩) (fun hHeld => ?_)
                clear hK K
                try simp only [Act.put, List.setIfInBounds_toArray, List.set_cons_zero, List.set_cons_succ]
                replace hX := hX.drewN q3
                generalize w17.drewN q3 = w18 at *
                clear hua8 hua9
                repeat (first | (refine plan_skip (by rfl) ?_; simp only [Act.put, List.setIfInBounds_toArray, List.set_cons_zero, List.set_cons_succ]) | (refine plan_take (v := ?_) (by rfl) ?_ ?_; rotate_left; (· (intro w hSw; obtain ⟨s0, s1⟩ := hSw; go_simp; try with_reducible rfl)); simp only [Act.put, List.setIfInBounds_toArray, List.set_cons_zero, List.set_cons_succ]))
                refine plan_end ?_
                have hgf := hg6.ext0 hX
                have hhf := hh6.ext0 hX
                have hEf := hE6w.nil_of hX
                have hEvf := hEv6.nil_of hX
                clear hX hg6 hh6 hHeld c1' cB'
                go_wp2
                go_roundg kk
                case measure => omega
                case rel => exact ⟨j + 1, G', by omega, by go_num, hgf, hhf, hgd', hEf, hEvf⟩
    · obtain rfl : j = m1 := by omega
      have cB := hEv.cell hcB (by simp; omega)
      clear hg hh hgd hacts hg3 hcB hEv hEw hgm1 hhm1 hgh hBg hBh
      go_wp2_with fail
      refine (clock_New _).mono ?_
      rintro e w4 ⟨cp, F0, rfl, hc4', hE4, hF0⟩
      go_wp2_with fail
      refine (clock_New _).mono ?_
      rintro e w5 ⟨dp, F1, rfl, hd5, hE5, hF1⟩
      have hcB5 := hE5.cell (hE4.cell cB (by simp)) (by simp)
      have hE5w := (hE.nil_of hE4).nil_of hE5
      have hBl2 := lt_of_cell cB
      have hm2o := hm2.out
      obtain ⟨F0', F1', hck⟩ := Cks.start (late : Int) hc4' hd5 hE5 hE4.size hF0 hF1
      have hB0 : wr.heap.size ≤ w5.heap.size := by have := hE4.size; have := hE5.size; omega
      have hBw : w.heap.size ≤ wr.heap.size := hE.size
      generalize wr.heap.size = B0 at *
      clear hc4' hd5 hE4 hE5 hF0 hF1 cB hE hBl
      go_wp2_with fail
      clear hm2o
      go_loopg [164] m2 (fun k s wr => ∃ (j : Nat) (R S : List En) (F F2 : List Nat), j + k = m2 ∧ s = .int .i64 (j : Int) ∧ Cks wr cp dp F F2 R S late B0 j ∧ wr.cell? ⟨B, 0, none⟩ = some (.func (.func 7) #[] #[]) ∧ B0 ≤ wr.heap.size ∧ Ext [] w wr)
      case atStart => exact ⟨0, [], [], F0', F1', by omega, rfl, hck, hcB5, hB0, hE5w⟩
      case round =>
        obtain ⟨j2, R, S, F, F2, hjk2, rfl, hck, cB, hB0, hE⟩ := hrel
        clear hcB5 hE5w
        by_cases hlt2 : j2 < m2
        · obtain ⟨kk, rfl⟩ : ∃ kk, gk = kk + 1 := ⟨gk - 1, by omega⟩
          obtain ⟨b, off, kind, id, t, rfl, ⟨hk, hi, ht⟩⟩ := halarms j2 hlt2
          have k0 := hE.cell hk (by simp)
          have k1 := hE.cell hi (by simp)
          have k2 := hE.cell ht (by simp)
          clear hk hi ht
          have cf := fun w => law_far w id
          by_cases hskip : far id = true ∨ t < 0 ∨ 1099511627776 - (late : Int) < t
          · as_aux_lemma =>
            have hck6 := (hck.ext0 ((Ext.refl [] wr).alloc (.cells #[.int .i64 kind, .int .i64 id, .int .i64 t] 45))).mono (Nat.le_succ j2)
            have cB6 := ((Ext.refl [] wr).alloc (.cells #[.int .i64 kind, .int .i64 id, .int .i64 t] 45)).cell cB (by simp)
            have hE6 := hE.alloc (.cells #[.int .i64 kind, .int .i64 id, .int .i64 t] 45)
            have hBN : B0 ≤ (wr.alloc (.cells #[.int .i64 kind, .int .i64 id, .int .i64 t] 45)).heap.size := by simp; omega
            clear hck cB hE halarms
            cases hf : far id with
            | true =>
              rw [hf] at cf
              replace hf := hid hf
              clear hskip
              go_wp2_with fail
              refine (cf _).mono ?_
              rintro e w6 ⟨rfl, rfl⟩
              go_wp2
              go_roundg kk
              case measure => omega
              case rel => exact ⟨j2 + 1, R, S, F, F2, by omega, by go_num, hck6, cB6, hBN, hE6⟩
            | false =>
              rw [hf] at cf
              by_cases ht0 : t < 0
              · replace hf := hid hf
                clear hskip
                go_wp2_with fail
                refine (cf _).mono ?_
                rintro e w6 ⟨rfl, rfl⟩
                go_wp2
                go_roundg kk
                case measure => omega
                case rel => exact ⟨j2 + 1, R, S, F, F2, by omega, by go_num, hck6, cB6, hBN, hE6⟩
              · have ht1 : 1099511627776 - (late : Int) < t := by
                  rcases hskip with h | h | h
                  · rw [hf] at h; cases h
                  · exact absurd h ht0
                  · exact h
                replace hf := hid hf
                clear hskip
                go_wp2_with fail
                refine (cf _).mono ?_
                rintro e w6 ⟨rfl, rfl⟩
                go_wp2
                go_roundg kk
                case measure => omega
                case rel => exact ⟨j2 + 1, R, S, F, F2, by omega, by go_num, hck6, cB6, hBN, hE6⟩
          · have hnf : far id = false := by
              cases hf : far id with
              | true => exact absurd (.inl hf) hskip
              | false => rfl
            have hin : Near id := near_of hnf
            have ht0 : 0 ≤ t := by omega
            have ht1 : t + (late : Int) ≤ 1099511627776 := by omega
            have ht2 : ¬ t > 1099511627776 - (late : Int) := by omega
            rw [hnf] at cf
            replace hnf := hid hnf
            clear hskip
            go_wp2_with fail
            refine (cf _).mono ?_
            rintro e w6 ⟨rfl, rfl⟩
            have hck6 := hck.ext0 ((Ext.refl [] wr).alloc (.cells #[.int .i64 kind, .int .i64 id, .int .i64 t] 45))
            have hbN := block_alloc_new wr (.cells #[.int .i64 kind, .int .i64 id, .int .i64 t] 45)
            have hEN := (Ext.refl [] wr).alloc (.cells #[.int .i64 kind, .int .i64 id, .int .i64 t] 45)
            have hsz6 : wr.heap.size < (wr.alloc (.cells #[.int .i64 kind, .int .i64 id, .int .i64 t] 45)).heap.size := by simp
            have hF6 : ∀ x ∈ F, x ≠ wr.heap.size := fun x hx => by have := (hck.f x hx).2; omega
            have hF62 : ∀ x ∈ F2, x ≠ wr.heap.size := fun x hx => by have := (hck.f2 x hx).2; omega
            have hFB : ∀ x ∈ F, x ≠ B := fun x hx => by have := (hck.f x hx).1; omega
            have hFB2 : ∀ x ∈ F2, x ≠ B := fun x hx => by have := (hck.f2 x hx).1; omega
            generalize wr.alloc (.cells #[.int .i64 kind, .int .i64 id, .int .i64 t] 45) = WN at *
            have cB6 := hEN.cell cB (by simp)
            have c0 := cellOf (k := 0) hbN rfl
            have c1' := cellOf (k := 1) hbN rfl
            have c2' := cellOf (k := 2) hbN rfl
            have hE6 := hE.nil_of hEN
            clear hck cB hE hbN cf k0 k1 k2 halarms hEN
            have hBN : B0 ≤ WN.heap.size := by omega
            have hwr := hid (IntWalk.i64_in (t + (late : Int)) (by omega))
            generalize wr.heap.size = N at *
            go_upto_block 4 with (fail)
            go_cut [] (fun wc => ∃ R' S' G G2, Cks wc cp dp G G2 R' S' late B0 (j2 + 1) ∧ wc.cell? ⟨N, 1, none⟩ = some (.int .i64 id) ∧ wc.cell? ⟨B, 0, none⟩ = some (.func (.func 7) #[] #[]) ∧ Ext [] w wc ∧ B0 ≤ wc.heap.size)
            case first =>
              by_cases q1 : (kind == 1) = true
              · as_aux_lemma =>
                go_wp2_with fail
                refine wp_region_plan (fun w' => w'.cell? ⟨N, 1, none⟩ = some (.int .i64 id) ∧ w'.cell? ⟨N, 2, none⟩ = some (.int .i64 t) ∧ w'.cell? ⟨B, 0, none⟩ = some (.func (.func 7) #[] #[])) [(0, true), (1, true), (2, true), (3, true), (4, true), (6, true), (7, true), (8, true), (9, true), (11, true), (12, true), (13, true), (14, true), (5, false), (10, false), (15, false), (16, true)] (by kernel_rfl) (by kernel_rfl) (fun _ _ _ _ _ h => h) (⟨c1', c2', cB6⟩) (fun hHeld => ?_)
                simp only [planOps, List.map_cons, List.map_nil, List.getElem?_toArray, List.getElem?_cons_succ, List.getElem?_cons_zero, Option.getD_some]
                repeat (first | (refine plan_skip (by rfl) ?_; simp only [Act.put, List.setIfInBounds_toArray, List.set_cons_zero, List.set_cons_succ]) | (refine plan_take (v := ?_) (by rfl) ?_ ?_; rotate_left; (· (intro w hSw; obtain ⟨s0, s1, s2⟩ := hSw; go_simp; try with_reducible rfl)); simp only [Act.put, List.setIfInBounds_toArray, List.set_cons_zero, List.set_cons_succ]))
                refine plan_call (by rfl) (fun K hK => ?_)
                go_simp
                with_reducible refine (clock_Set _ cp F R id t (hck6.c.ext (Ext.self_drew WN) (by simp)) hin.i64 ⟨ht0, by omega⟩ (by have := hck6.len; omega)).mono ?_
                rintro e w7 ⟨rfl, F', R', hc7, hs7, hE7, -, hf7⟩
                go_simp
                refine hK.out _ _ (⟨hE7.cell hHeld.1 (fun hm' => hF6 _ hm' rfl), hE7.cell hHeld.2.1 (fun hm' => hF6 _ hm' rfl), hE7.cell hHeld.2.2 (fun hm' => hFB _ hm' rfl)⟩) (fun hHeld => ?_)
                clear hK K
                try simp only [Act.put, List.setIfInBounds_toArray, List.set_cons_zero, List.set_cons_succ]
                have hd7 := hck6.d1 hE7.of_drew
                repeat (first | (refine plan_skip (by rfl) ?_; simp only [Act.put, List.setIfInBounds_toArray, List.set_cons_zero, List.set_cons_succ]) | (refine plan_take (v := ?_) (by rfl) ?_ ?_; rotate_left; (· (intro w hSw; obtain ⟨s0, s1, s2⟩ := hSw; go_simp; try with_reducible rfl)); simp only [Act.put, List.setIfInBounds_toArray, List.set_cons_zero, List.set_cons_succ]))
                refine plan_call (by rfl) (fun K hK => ?_)
                go_simp
                with_reducible refine (law_one _ id (Near.le hin)).mono ?_
                rintro e w8 ⟨rfl, rfl⟩
                go_simp
                refine hK.out _ _ (hHeld) (fun hHeld => ?_)
                clear hK K
                try simp only [Act.put, List.setIfInBounds_toArray, List.set_cons_zero, List.set_cons_succ]
                repeat (first | (refine plan_skip (by rfl) ?_; simp only [Act.put, List.setIfInBounds_toArray, List.set_cons_zero, List.set_cons_succ]) | (refine plan_take (v := ?_) (by rfl) ?_ ?_; rotate_left; (· (intro w hSw; obtain ⟨s0, s1, s2⟩ := hSw; go_simp; try with_reducible rfl)); simp only [Act.put, List.setIfInBounds_toArray, List.set_cons_zero, List.set_cons_succ]))
                refine plan_call (by rfl) (fun K hK => ?_)
                go_simp
                rw [hwr.out]
                with_reducible refine (clock_Set _ dp F2 S (one id) (t + late) hd7 hin.one ⟨by omega, ht1⟩ (by have := hck6.len; have := hck6.slen; omega)).mono ?_
                rintro e w9 ⟨rfl, F2', S', hc9, hs9, hE9, -, hf9⟩
                go_simp
                refine hK.out _ _ (⟨hE9.cell hHeld.1 (fun hm' => hF62 _ hm' rfl), hE9.cell hHeld.2.1 (fun hm' => hF62 _ hm' rfl), hE9.cell hHeld.2.2 (fun hm' => hFB2 _ hm' rfl)⟩) (fun hHeld => ?_)
                clear hK K
                try simp only [Act.put, List.setIfInBounds_toArray, List.set_cons_zero, List.set_cons_succ]
                obtain ⟨d1, d2, dB⟩ := hHeld
                obtain ⟨G, G2, hckf⟩ := hck6.set hBN hin ht0 ht1 hc7 hs7 hE7.of_drew hf7 hc9 hs9 hE9 hf9
                have hEf : Ext [] w w9 := (hE6.trans hE7.of_drew (fun x hx hlt => absurd (hck6.f x hx).1 (by have := hBw; omega))).trans hE9 (fun x hx hlt => absurd (hck6.f2 x hx).1 (by have := hBw; omega))
                have hBf : B0 ≤ w9.heap.size := by have h1 := hE7.size; have h2 := hE9.size; simp at h1; omega
                clear hck6 hc7 hd7 hs7 hE7 hf7 hc9 hs9 hE9 hf9 hE6 c0 c1' c2' cB6
                repeat (first | (refine plan_skip (by rfl) ?_; simp only [Act.put, List.setIfInBounds_toArray, List.set_cons_zero, List.set_cons_succ]) | (refine plan_take (v := ?_) (by rfl) ?_ ?_; rotate_left; (· (intro w hSw; obtain ⟨s0, s1, s2⟩ := hSw; go_simp; try with_reducible rfl)); simp only [Act.put, List.setIfInBounds_toArray, List.set_cons_zero, List.set_cons_succ]))
                refine plan_end ?_
                go_wp2
                go_meet
                case rel => exact ⟨R', S', G, G2, hckf, d1, dB, hEf, hBf⟩
              · replace q1 := Bool.eq_false_iff.2 q1
                by_cases q2 : (kind == 2) = true
                · as_aux_lemma =>
                  go_wp2_with fail
                  refine wp_region_plan (fun w' => w'.cell? ⟨N, 1, none⟩ = some (.int .i64 id) ∧ w'.cell? ⟨N, 2, none⟩ = some (.int .i64 t) ∧ w'.cell? ⟨B, 0, none⟩ = some (.func (.func 7) #[] #[])) [(0, true), (1, true), (2, true), (4, true), (5, true), (6, true), (7, true), (3, false), (8, false), (9, false), (10, true)] (by kernel_rfl) (by kernel_rfl) (fun _ _ _ _ _ h => h) (⟨c1', c2', cB6⟩) (fun hHeld => ?_)
                  simp only [planOps, List.map_cons, List.map_nil, List.getElem?_toArray, List.getElem?_cons_succ, List.getElem?_cons_zero, Option.getD_some]
                  repeat (first | (refine plan_skip (by rfl) ?_; simp only [Act.put, List.setIfInBounds_toArray, List.set_cons_zero, List.set_cons_succ]) | (refine plan_take (v := ?_) (by rfl) ?_ ?_; rotate_left; (· (intro w hSw; obtain ⟨s0, s1, s2⟩ := hSw; go_simp; try with_reducible rfl)); simp only [Act.put, List.setIfInBounds_toArray, List.set_cons_zero, List.set_cons_succ]))
                  refine plan_call (by rfl) (fun K hK => ?_)
                  go_simp
                  with_reducible refine (clock_CancelTo _ cp F R id (hck6.c.ext (Ext.self_drew WN) (by simp)) hin.i64 (by have := hck6.len; omega)).mono ?_
                  rintro e w7 ⟨r, rfl, hx7⟩
                  go_simp
                  refine hK.out _ _ (⟨hx7.ext.cell hHeld.1 (fun hm' => hF6 _ hm' rfl), hx7.ext.cell hHeld.2.1 (fun hm' => hF6 _ hm' rfl), hx7.ext.cell hHeld.2.2 (fun hm' => hFB _ hm' rfl)⟩) (fun hHeld => ?_)
                  clear hK K
                  try simp only [Act.put, List.setIfInBounds_toArray, List.set_cons_zero, List.set_cons_succ]
                  repeat (first | (refine plan_skip (by rfl) ?_; simp only [Act.put, List.setIfInBounds_toArray, List.set_cons_zero, List.set_cons_succ]) | (refine plan_take (v := ?_) (by rfl) ?_ ?_; rotate_left; (· (intro w hSw; obtain ⟨s0, s1, s2⟩ := hSw; go_simp; try with_reducible rfl)); simp only [Act.put, List.setIfInBounds_toArray, List.set_cons_zero, List.set_cons_succ]))
                  refine plan_call (by rfl) (fun K hK => ?_)
                  go_simp
                  with_reducible refine (law_one _ id (Near.le hin)).mono ?_
                  rintro e w8 ⟨rfl, rfl⟩
                  go_simp
                  refine hK.out _ _ (hHeld) (fun hHeld => ?_)
                  clear hK K
                  try simp only [Act.put, List.setIfInBounds_toArray, List.set_cons_zero, List.set_cons_succ]
                  repeat (first | (refine plan_skip (by rfl) ?_; simp only [Act.put, List.setIfInBounds_toArray, List.set_cons_zero, List.set_cons_succ]) | (refine plan_take (v := ?_) (by rfl) ?_ ?_; rotate_left; (· (intro w hSw; obtain ⟨s0, s1, s2⟩ := hSw; go_simp; try with_reducible rfl)); simp only [Act.put, List.setIfInBounds_toArray, List.set_cons_zero, List.set_cons_succ]))
                  refine plan_call (by rfl) (fun K hK => ?_)
                  go_simp
                  with_reducible refine (clock_CancelTo _ dp F2 S (one id) (hck6.d1 hx7.ext.of_drew) hin.one (by have := hck6.len; have := hck6.slen; omega)).mono ?_
                  rintro e w9 ⟨r2, rfl, hx9⟩
                  go_simp
                  refine hK.out _ _ (⟨hx9.ext.cell hHeld.1 (fun hm' => hF62 _ hm' rfl), hx9.ext.cell hHeld.2.1 (fun hm' => hF62 _ hm' rfl), hx9.ext.cell hHeld.2.2 (fun hm' => hFB2 _ hm' rfl)⟩) (fun hHeld => ?_)
                  clear hK K
                  try simp only [Act.put, List.setIfInBounds_toArray, List.set_cons_zero, List.set_cons_succ]
                  obtain ⟨d1, d2, dB⟩ := hHeld
                  have hE7 := hx7.ext
                  have hE9 := hx9.ext
                  obtain ⟨hrr, R', S', hckf⟩ := (hck6.ext0 (Ext.self_drew WN)).cancel hx7 hx9
                  subst hrr
                  have hEf : Ext [] w w9 := (hE6.trans hE7.of_drew (fun x hx hlt => absurd (hck6.f x hx).1 (by have := hBw; omega))).trans hE9 (fun x hx hlt => absurd (hck6.f2 x hx).1 (by have := hBw; omega))
                  have hBf : B0 ≤ w9.heap.size := by have h1 := hE7.size; have h2 := hE9.size; simp at h1; omega
                  clear hck6 hE7 hE9 hE6 c0 c1' c2' cB6 hx7 hx9
                  repeat (first | (refine plan_skip (by rfl) ?_; simp only [Act.put, List.setIfInBounds_toArray, List.set_cons_zero, List.set_cons_succ]) | (refine plan_take (v := ?_) (by rfl) ?_ ?_; rotate_left; (· (intro w hSw; obtain ⟨s0, s1, s2⟩ := hSw; go_simp; try with_reducible rfl)); simp only [Act.put, List.setIfInBounds_toArray, List.set_cons_zero, List.set_cons_succ]))
                  refine plan_end ?_
                  go_wp2
                  go_meet
                  case rel => exact ⟨R', S', F, F2, hckf.mono (by omega), d1, dB, hEf, hBf⟩
                · replace q2 := Bool.eq_false_iff.2 q2
                  as_aux_lemma =>
                  go_wp2_with fail
                  refine wp_region_plan (fun w' => w'.cell? ⟨N, 1, none⟩ = some (.int .i64 id) ∧ w'.cell? ⟨N, 2, none⟩ = some (.int .i64 t) ∧ w'.cell? ⟨B, 0, none⟩ = some (.func (.func 7) #[] #[])) [(0, true), (1, true), (2, true), (3, true), (6, true), (7, true), (8, true), (9, true), (10, true), (4, false), (5, false), (11, false), (12, false), (13, true)] (by kernel_rfl) (by kernel_rfl) (fun _ _ _ _ _ h => h) (⟨c1', c2', cB6⟩) (fun hHeld => ?_)
                  simp only [planOps, List.map_cons, List.map_nil, List.getElem?_toArray, List.getElem?_cons_succ, List.getElem?_cons_zero, Option.getD_some]
                  repeat (first | (refine plan_skip (by rfl) ?_; simp only [Act.put, List.setIfInBounds_toArray, List.set_cons_zero, List.set_cons_succ]) | (refine plan_take (v := ?_) (by rfl) ?_ ?_; rotate_left; (· (intro w hSw; obtain ⟨s0, s1, s2⟩ := hSw; go_simp; try with_reducible rfl)); simp only [Act.put, List.setIfInBounds_toArray, List.set_cons_zero, List.set_cons_succ]))
                  refine plan_call (by rfl) (fun K hK => ?_)
                  go_simp
                  with_reducible refine (clock_Due' _ cp F R t (hck6.c.ext (Ext.self_drew WN) (by simp)) (fun z hz => ((hck6.ext0 (Ext.self_drew WN)).f z hz).2) (fun z hz => (hck6.good z hz).1.i64) (by have := hck6.len; omega)).mono ?_
                  rintro e w7 ⟨u, rfl, hu, hc7, hE7⟩
                  go_simp
                  refine hK.out _ _ (⟨hE7.cell hHeld.1 (fun hm' => hF6 _ hm' rfl), hE7.cell hHeld.2.1 (fun hm' => hF6 _ hm' rfl), hE7.cell hHeld.2.2 (fun hm' => hFB _ hm' rfl)⟩) (fun hHeld => ?_)
                  clear hK K
                  try simp only [Act.put, List.setIfInBounds_toArray, List.set_cons_zero, List.set_cons_succ]
                  obtain ⟨bu, hua, -⟩ := hu.at
                  obtain ⟨-, m2', m3', -⟩ := hdue_mem t R.length R
                  have hd7 := hck6.d1 hE7.of_drew
                  repeat (first | (refine plan_skip (by rfl) ?_; simp only [Act.put, List.setIfInBounds_toArray, List.set_cons_zero, List.set_cons_succ]) | (refine plan_take (v := ?_) (by rfl) ?_ ?_; rotate_left; (· (intro w hSw; obtain ⟨s0, s1, s2⟩ := hSw; go_simp; try with_reducible rfl)); simp only [Act.put, List.setIfInBounds_toArray, List.set_cons_zero, List.set_cons_succ]))
                  refine plan_call (by rfl) (fun K hK => ?_)
                  go_simp
                  with_reducible refine (law_named _ u bu _ B hua hHeld.2.2 (by have := hck6.len; omega) (fun y hy => by obtain ⟨z, hz, rfl⟩ := m2' y hy; exact Near.le (hck6.good z hz).1)).mono ?_
                  rintro e w8 ⟨u8, rfl, hu8, hE8⟩
                  go_simp
                  refine hK.out _ _ (⟨hE8.cell hHeld.1 (by simp), hE8.cell hHeld.2.1 (by simp), hE8.cell hHeld.2.2 (by simp)⟩) (fun hHeld => ?_)
                  clear hK K
                  try simp only [Act.put, List.setIfInBounds_toArray, List.set_cons_zero, List.set_cons_succ]
                  repeat (first | (refine plan_skip (by rfl) ?_; simp only [Act.put, List.setIfInBounds_toArray, List.set_cons_zero, List.set_cons_succ]) | (refine plan_take (v := ?_) (by rfl) ?_ ?_; rotate_left; (· (intro w hSw; obtain ⟨s0, s1, s2⟩ := hSw; go_simp; try with_reducible rfl)); simp only [Act.put, List.setIfInBounds_toArray, List.set_cons_zero, List.set_cons_succ]))
                  refine plan_call (by rfl) (fun K hK => ?_)
                  go_simp
                  rw [hwr.out]
                  with_reducible refine (clock_Due' _ dp F2 S (t + late) (hd7.ext hE8 (by simp)) (fun z hz => by have h1 := (hck6.f2 z hz).2; have h2 := hE7.size; have h3 := hE8.size; simp at h2; omega) hck6.sgood (by have := hck6.len; have := hck6.slen; omega)).mono ?_
                  rintro e w9 ⟨u9, rfl, hu9, hc9, hE9⟩
                  go_simp
                  refine hK.out _ _ (⟨hE9.cell hHeld.1 (fun hm' => hF62 _ hm' rfl), hE9.cell hHeld.2.1 (fun hm' => hF62 _ hm' rfl), hE9.cell hHeld.2.2 (fun hm' => hFB2 _ hm' rfl)⟩) (fun hHeld => ?_)
                  clear hK K
                  try simp only [Act.put, List.setIfInBounds_toArray, List.set_cons_zero, List.set_cons_succ]
                  obtain ⟨hls, hckf⟩ := hck6.due hc7 hE7.of_drew hE8 hc9 hE9
                  rw [hls] at hu9
                  obtain ⟨bu8, hua8, hub8⟩ := hu8.at
                  obtain ⟨bu9, hua9, -⟩ := hu9.at
                  have hua8' := hua8.ext hE9 (fun z hz hm' => by
                    have h1 := (hu8.lt (hub8.trans hz)).1
                    have h2 := (hck6.f2 z hm').2
                    have h3 := hE7.size
                    simp at h3; omega)
                  have hEf : Ext [] w w9 := ((hE6.trans hE7.of_drew (fun x hx hlt => absurd (hck6.f x hx).1 (by have := hBw; omega))).nil_of hE8).trans hE9 (fun x hx hlt => absurd (hck6.f2 x hx).1 (by have := hBw; omega))
                  have hBf : B0 ≤ w9.heap.size := by have h1 := hE7.size; have h2 := hE8.size; have h3 := hE9.size; simp at h1; omega
                  clear hu hua hu8 hua8 hu9 hub8 hd7 hc7 hc9 hE7 hE8 hE9
                  repeat (first | (refine plan_skip (by rfl) ?_; simp only [Act.put, List.setIfInBounds_toArray, List.set_cons_zero, List.set_cons_succ]) | (refine plan_take (v := ?_) (by rfl) ?_ ?_; rotate_left; (· (intro w hSw; obtain ⟨s0, s1, s2⟩ := hSw; go_simp; try with_reducible rfl)); simp only [Act.put, List.setIfInBounds_toArray, List.set_cons_zero, List.set_cons_succ]))
                  refine plan_call (by rfl) (fun K hK => ?_)
                  go_simp
                  with_reducible refine (ints_Same hua8' hua9 (by rw [List.length_map]; have := hck6.len; omega)).mono ?_
                  rintro e w10 ⟨rfl, q, rfl⟩
                  go_simp
                  refine hK.out _ _ (⟨((Ext.refl [] w9).drewN q).cell hHeld.1 (by simp), ((Ext.refl [] w9).drewN q).cell hHeld.2.1 (by simp), ((Ext.refl [] w9).drewN q).cell hHeld.2.2 (by simp)⟩) (fun hHeld => ?_)
                  clear hK K
                  try simp only [Act.put, List.setIfInBounds_toArray, List.set_cons_zero, List.set_cons_succ]
                  have hckg := hckf.ext0 ((Ext.refl [] w9).drewN q)
                  have hEg := hEf.drewN q
                  have hBg : B0 ≤ (w9.drewN q).heap.size := hBf
                  generalize w9.drewN q = w10 at *
                  obtain ⟨d1, d2, dB⟩ := hHeld
                  clear hck6 hE6 c0 c1' c2' cB6 hua8' hua9 hckf hEf hBf hls
                  repeat (first | (refine plan_skip (by rfl) ?_; simp only [Act.put, List.setIfInBounds_toArray, List.set_cons_zero, List.set_cons_succ]) | (refine plan_take (v := ?_) (by rfl) ?_ ?_; rotate_left; (· (intro w hSw; obtain ⟨s0, s1, s2⟩ := hSw; go_simp; try with_reducible rfl)); simp only [Act.put, List.setIfInBounds_toArray, List.set_cons_zero, List.set_cons_succ]))
                  refine plan_end ?_
                  go_wp2
                  go_meet
                  case rel => exact ⟨_, _, F, F2, hckg.mono (by omega), d1, dB, hEg, hBg⟩
            case rest =>
              obtain ⟨R', S', G, G2, hck', d1, dB, hEc, hBc⟩ := hcut
              have hlr : R'.length ≤ 60 := by have := hck'.len; omega
              have hls := hck'.slen
              have cN1 := clock_Next wc cp G R' hck'.c (by omega)
              have cN2 := fun w h => clock_Next w dp G2 S' h (by omega)
              have cA1 := fun w h => clock_At w cp G R' id h hin.i64
              have cA2 := fun w h => clock_At w dp G2 S' (one id) h hin.one
              have cL1 := fun w h => clock_Len w cp G R' h
              have cL2 := fun w h => clock_Len w dp G2 S' h
              simp only [hls] at cL2
              replace hls := hid hls
              clear hck6 hE6 c0 c1' c2' cB6
              rcases hck'.next with ⟨n1', n2'⟩ | ⟨ni, nt, g1, g2, g3, n1', n2'⟩
              · rw [n1'] at cN1
                simp only [n2'] at cN2
                rcases hck'.ats id with ⟨A1, A2⟩ | ⟨ta, ha0, ha1, A1, A2⟩
                · as_aux_lemma =>
                  have cB1 := fun w h => (cA1 w h).mono fun e w' h' => (⟨A1 e h'.2, h'.1⟩ : e = _ ∧ w = w')
                  have cB2 := fun w h => (cA2 w h).mono fun e w' h' => (⟨A2 e h'.2, h'.1⟩ : e = _ ∧ w = w')
                  clear cA1 cA2 A1 A2
                  go_wp2_with fail
                  refine cN1.mono ?_
                  rintro e w5 ⟨hE5, rfl⟩
                  go_wp2_with fail
                  refine (cN2 _ (hck'.d.ext hE5 (by simp))).mono ?_
                  rintro e w6 ⟨hE6, rfl⟩
                  have hckn := (hck'.ext0 hE5).ext0 hE6
                  have d1n := hE6.cell (hE5.cell d1 (by simp)) (by simp)
                  have dBn := hE6.cell (hE5.cell dB (by simp)) (by simp)
                  have hEn := (hEc.nil_of hE5).nil_of hE6
                  have hBn : B0 ≤ w6.heap.size := by have h1 := hE5.size; have h2 := hE6.size; omega
                  clear hck' d1 dB hEc hBc hE5 hE6 cN1 cN2
                  go_wp2_with fail
                  refine (cB1 _ hckn.c).mono ?_
                  rintro e w7 ⟨rfl, rfl⟩
                  go_wp2_with fail
                  refine (law_one _ id (Near.le hin)).mono ?_
                  rintro e w7 ⟨rfl, rfl⟩
                  go_wp2_with fail
                  refine (cB2 _ hckn.d).mono ?_
                  rintro e w7 ⟨rfl, rfl⟩
                  go_wp2_with fail
                  refine (cL1 _ hckn.c).mono ?_
                  rintro e w7 ⟨rfl, rfl⟩
                  go_wp2_with fail
                  refine (cL2 _ hckn.d).mono ?_
                  rintro e w7 ⟨rfl, rfl⟩
                  clear cB1 cB2 cL1 cL2
                  go_wp2
                  go_roundg kk
                  case measure => omega
                  case rel => exact ⟨j2 + 1, R', S', G, G2, by omega, by go_num, hckn, dBn, hBn, hEn⟩
                · as_aux_lemma =>
                  have cB1 := fun w h => (cA1 w h).mono fun e w' h' => (⟨A1 e h'.2, h'.1⟩ : e = _ ∧ w = w')
                  have cB2 := fun w h => (cA2 w h).mono fun e w' h' => (⟨A2 e h'.2, h'.1⟩ : e = _ ∧ w = w')
                  clear cA1 cA2 A1 A2
                  go_wp2_with fail
                  refine cN1.mono ?_
                  rintro e w5 ⟨hE5, rfl⟩
                  go_wp2_with fail
                  refine (cN2 _ (hck'.d.ext hE5 (by simp))).mono ?_
                  rintro e w6 ⟨hE6, rfl⟩
                  have hckn := (hck'.ext0 hE5).ext0 hE6
                  have d1n := hE6.cell (hE5.cell d1 (by simp)) (by simp)
                  have dBn := hE6.cell (hE5.cell dB (by simp)) (by simp)
                  have hEn := (hEc.nil_of hE5).nil_of hE6
                  have hBn : B0 ≤ w6.heap.size := by have h1 := hE5.size; have h2 := hE6.size; omega
                  clear hck' d1 dB hEc hBc hE5 hE6 cN1 cN2
                  go_wp2_with fail
                  refine (cB1 _ hckn.c).mono ?_
                  rintro e w7 ⟨rfl, rfl⟩
                  go_wp2_with fail
                  refine (law_one _ id (Near.le hin)).mono ?_
                  rintro e w7 ⟨rfl, rfl⟩
                  go_wp2_with fail
                  refine (cB2 _ hckn.d).mono ?_
                  rintro e w7 ⟨rfl, rfl⟩
                  go_wp2_with fail
                  refine (cL1 _ hckn.c).mono ?_
                  rintro e w7 ⟨rfl, rfl⟩
                  go_wp2_with fail
                  refine (cL2 _ hckn.d).mono ?_
                  rintro e w7 ⟨rfl, rfl⟩
                  clear cB1 cB2 cL1 cL2
                  go_wp2
                  go_roundg kk
                  case measure => omega
                  case rel => exact ⟨j2 + 1, R', S', G, G2, by omega, by go_num, hckn, dBn, hBn, hEn⟩
              · rw [n1'] at cN1
                simp only [n2'] at cN2
                rcases hck'.ats id with ⟨A1, A2⟩ | ⟨ta, ha0, ha1, A1, A2⟩
                · as_aux_lemma =>
                  have cB1 := fun w h => (cA1 w h).mono fun e w' h' => (⟨A1 e h'.2, h'.1⟩ : e = _ ∧ w = w')
                  have cB2 := fun w h => (cA2 w h).mono fun e w' h' => (⟨A2 e h'.2, h'.1⟩ : e = _ ∧ w = w')
                  clear cA1 cA2 A1 A2
                  go_wp2_with fail
                  refine cN1.mono ?_
                  rintro e w5 ⟨hE5, rfl⟩
                  go_wp2_with fail
                  refine (cN2 _ (hck'.d.ext hE5 (by simp))).mono ?_
                  rintro e w6 ⟨hE6, rfl⟩
                  have hckn := (hck'.ext0 hE5).ext0 hE6
                  have d1n := hE6.cell (hE5.cell d1 (by simp)) (by simp)
                  have dBn := hE6.cell (hE5.cell dB (by simp)) (by simp)
                  have hEn := (hEc.nil_of hE5).nil_of hE6
                  have hBn : B0 ≤ w6.heap.size := by have h1 := hE5.size; have h2 := hE6.size; omega
                  clear hck' d1 dB hEc hBc hE5 hE6 cN1 cN2
                  go_wp2_with fail
                  refine (cB1 _ hckn.c).mono ?_
                  rintro e w7 ⟨rfl, rfl⟩
                  go_wp2_with fail
                  refine (law_one _ id (Near.le hin)).mono ?_
                  rintro e w7 ⟨rfl, rfl⟩
                  go_wp2_with fail
                  refine (cB2 _ hckn.d).mono ?_
                  rintro e w7 ⟨rfl, rfl⟩
                  go_wp2_with fail
                  refine (cL1 _ hckn.c).mono ?_
                  rintro e w7 ⟨rfl, rfl⟩
                  go_wp2_with fail
                  refine (cL2 _ hckn.d).mono ?_
                  rintro e w7 ⟨rfl, rfl⟩
                  clear cB1 cB2 cL1 cL2
                  go_wp2_with fail
                  refine (law_one _ ni (Near.le g1)).mono ?_
                  rintro e w7 ⟨rfl, rfl⟩
                  go_wp2
                  go_roundg kk
                  case measure => omega
                  case rel => exact ⟨j2 + 1, R', S', G, G2, by omega, by go_num, hckn, dBn, hBn, hEn⟩
                · as_aux_lemma =>
                  have cB1 := fun w h => (cA1 w h).mono fun e w' h' => (⟨A1 e h'.2, h'.1⟩ : e = _ ∧ w = w')
                  have cB2 := fun w h => (cA2 w h).mono fun e w' h' => (⟨A2 e h'.2, h'.1⟩ : e = _ ∧ w = w')
                  clear cA1 cA2 A1 A2
                  go_wp2_with fail
                  refine cN1.mono ?_
                  rintro e w5 ⟨hE5, rfl⟩
                  go_wp2_with fail
                  refine (cN2 _ (hck'.d.ext hE5 (by simp))).mono ?_
                  rintro e w6 ⟨hE6, rfl⟩
                  have hckn := (hck'.ext0 hE5).ext0 hE6
                  have d1n := hE6.cell (hE5.cell d1 (by simp)) (by simp)
                  have dBn := hE6.cell (hE5.cell dB (by simp)) (by simp)
                  have hEn := (hEc.nil_of hE5).nil_of hE6
                  have hBn : B0 ≤ w6.heap.size := by have h1 := hE5.size; have h2 := hE6.size; omega
                  clear hck' d1 dB hEc hBc hE5 hE6 cN1 cN2
                  go_wp2_with fail
                  refine (cB1 _ hckn.c).mono ?_
                  rintro e w7 ⟨rfl, rfl⟩
                  go_wp2_with fail
                  refine (law_one _ id (Near.le hin)).mono ?_
                  rintro e w7 ⟨rfl, rfl⟩
                  go_wp2_with fail
                  refine (cB2 _ hckn.d).mono ?_
                  rintro e w7 ⟨rfl, rfl⟩
                  go_wp2_with fail
                  refine (cL1 _ hckn.c).mono ?_
                  rintro e w7 ⟨rfl, rfl⟩
                  go_wp2_with fail
                  refine (cL2 _ hckn.d).mono ?_
                  rintro e w7 ⟨rfl, rfl⟩
                  clear cB1 cB2 cL1 cL2
                  go_wp2_with fail
                  refine (law_one _ ni (Near.le g1)).mono ?_
                  rintro e w7 ⟨rfl, rfl⟩
                  go_wp2
                  go_roundg kk
                  case measure => omega
                  case rel => exact ⟨j2 + 1, R', S', G, G2, by omega, by go_num, hckn, dBn, hBn, hEn⟩
        · as_aux_lemma =>
          obtain rfl : j2 = m2 := by omega
          go_wp2
          go_ret
          exact ⟨rfl, hE⟩
end Go.Proofs.YtegcnimekfanaaaGreat
