/-
  container/heap over a clock's row: up, down, Fix, Push, Remove.
-/
import Derived.Deep.LoopGhost
import Derived.Deep.DeepCutAuto
import Derived.Test.YtegcnimekfanaaaGreatHeapB
namespace Go.Proofs.YtegcnimekfanaaaGreat
open Go.RowKit

section
variable {α : Type} (lt : α → α → Bool)
def hless (R : List α) (i j : Nat) : Bool := match R[i]?, R[j]? with
  | some x, some y => lt x y
  | _, _ => false
def hup : Nat → List α → Nat → List α
  | 0, R, _ => R
  | k + 1, R, j => if (j - 1) / 2 = j then R else if hless lt R j ((j - 1) / 2) then hup k (swp R ((j - 1) / 2) j) ((j - 1) / 2) else R
def hdown : Nat → List α → Nat → Nat → List α × Nat
  | 0, R, i, _ => (R, i)
  | k + 1, R, i, n => if n ≤ 2 * i + 1 then (R, i) else
    if hless lt R (if 2 * i + 2 < n ∧ hless lt R (2 * i + 2) (2 * i + 1) = true then 2 * i + 2 else 2 * i + 1) i then
      hdown k (swp R i (if 2 * i + 2 < n ∧ hless lt R (2 * i + 2) (2 * i + 1) = true then 2 * i + 2 else 2 * i + 1)) (if 2 * i + 2 < n ∧ hless lt R (2 * i + 2) (2 * i + 1) = true then 2 * i + 2 else 2 * i + 1) n
    else (R, i)
end

theorem hless_of {R : List En} {i j : Nat} {x y : En} (hi : R[i]? = some x) (hj : R[j]? = some y) : hless En.lt R i j = x.lt y := by simp [hless, hi, hj]

theorem HeapAt.row {w : World} {cp : Nat} {F : List Nat} {mv : Value} {R : List En} (h : HeapAt w cp F mv R) : ∃ a c, w.cell? ⟨cp, 0, none⟩ = some (.slice a R.length c) := by
  obtain ⟨v, h1, h2, -⟩ := h
  obtain ⟨a, c, rfl⟩ := slice_form h2
  exact ⟨a, c, cellOf (k := 0) h1 rfl⟩

set_option maxRecDepth 8000 in
set_option maxHeartbeats 1000000 in
theorem heap_up (w : World) (cp : Nat) (F : List Nat) (mv : Value) (R : List En) (j : Nat) (h : HeapAt w cp F mv R) (hj : j < R.length) (hn : R.length ≤ 1000000) (K : Nat) (hK : j ≤ K) :
    Calls Tryz.prog 118 #[.iface 145 (.pointer (some ⟨cp, 0, none⟩)), .int .i64 (j : Int)] w fun e w' => e = .returned (.tuple #[]) ∧ HeapAt w' cp F mv (hup En.lt K R j) ∧ Ext F w w' := by
  go_enter Tryz.func118, Tryz.ntmps118
  go_wp2_with fail
  go_loopg [1, 4] K (fun k s1 _s4 wr => ∃ (j' : Nat) (R' : List En), s1 = .int .i64 (j' : Int) ∧ HeapAt wr cp F mv R' ∧ Ext F w wr ∧ j' < R'.length ∧ R'.length = R.length ∧ j' ≤ k ∧ hup En.lt k R' j' = hup En.lt K R j)
  case atStart => exact ⟨j, R, rfl, h, Ext.refl _ _, hj, rfl, hK, rfl⟩
  case round =>
    obtain ⟨j', R', rfl, hR, hE, hjl, hRl, hjk, hre⟩ := hrel
    by_cases hj0 : j' = 0
    · subst hj0
      have he : hup En.lt gk R' 0 = R' := by cases gk <;> simp [hup]
      rw [he] at hre
      replace hre := hid hre
      clear hjk hjl hn hj he
      go_wp2
      go_end0
      rw [← hre.out]
      exact ⟨rfl, hR, hE⟩
    · obtain ⟨i, hi⟩ : ∃ i, j' = i + 1 := ⟨j' - 1, by omega⟩
      subst hi
      have hib : i ≤ 1000000 := by omega
      go_upto_region 1 with (fail)
      obtain ⟨p, hp⟩ : ∃ p, i / 2 = p := ⟨_, rfl⟩
      have hpi : (i : Int) / 2 = (p : Int) := by omega
      rw [hpi]
      have hpl : p < i + 1 := by omega
      have hpl2 : p < R'.length := by omega
      obtain ⟨kk, rfl⟩ : ∃ kk, gk = kk + 1 := ⟨gk - 1, by omega⟩
      have hkk : p ≤ kk := by omega
      obtain ⟨a, c, hc⟩ := hR.row
      obtain ⟨x, hx⟩ : ∃ x, R'[i + 1]? = some x := ⟨_, List.getElem?_eq_getElem hjl⟩
      obtain ⟨y, hy⟩ : ∃ y, R'[p]? = some y := ⟨_, List.getElem?_eq_getElem hpl2⟩
      have e1 : ((i + 1 : Nat) : Int) = (i : Int) + 1 := by omega
      rw [hRl] at hc
      have cL := row_Less wr cp F mv R' _ hc hR (i + 1) p x y hx hy (by omega)
      rw [e1] at cL
      have hre2 : (if x.lt y = true then hup En.lt kk (swp R' p (i + 1)) p else R') = hup En.lt K R j := by
        rw [← hre, hup, Nat.add_sub_cancel, hp, if_neg (show ¬ p = i + 1 by omega), hless_of hx hy]
      have hm1 := meth_less cp _ wr hc
      have hb0 : ((p : Int) == (i : Int) + 1) = false := by simp; omega
      replace hre2 := hid hre2
      replace hp := hid hp
      replace hn := hid hn
      replace hib := hid hib
      clear hre hpi hx hy
      go_wp2_with fail
      refine cL.mono ?_
      rintro e w1 ⟨rfl, q, rfl⟩
      cases hxy : x.lt y with
      | false =>
        have hre3 : R' = hup En.lt K R j := by have := hre2.out; rw [hxy] at this; simpa using this
        replace hre3 := hid hre3
        clear hre2 cL hm1
        go_wp2
        go_end0
        rw [← hre3.out]
        exact ⟨rfl, hR.ext0 ((Ext.refl _ _).drewN q), hE.drewN q⟩
      | true =>
        have hre3 : hup En.lt kk (swp R' p (i + 1)) p = hup En.lt K R j := by have := hre2.out; rw [hxy] at this; simpa using this
        have hR1 := hR.ext0 ((Ext.refl [] wr).drewN q)
        have hc1 : (wr.drewN q).cell? ⟨cp, 0, none⟩ = _ := hc
        have hE1 := hE.drewN q
        have hm2 := meth_swap cp _ (wr.drewN q) hc1
        have cS := row_Swap (wr.drewN q) cp F mv R' _ hc1 hR1 p (i + 1) hpl2 hjl (by omega) (by have := hn.out; omega)
        rw [e1] at cS
        have hl2 : p < (swp R' p (i + 1)).length := by rw [swp_length]; exact hpl2
        have hl3 : (swp R' p (i + 1)).length = R.length := by rw [swp_length]; exact hRl
        replace hre3 := hid hre3
        replace hl2 := hid hl2
        replace hl3 := hid hl3
        clear hre2 cL hm1 hR hc hE
        go_wp2_with fail
        refine cS.mono ?_
        rintro e w2 ⟨rfl, hR2, hE2⟩
        clear cS hm2 hR1 hc1
        have hE3 := hE1.trans hE2 (fun x hx _ => hx)
        clear hE1 hE2
        go_wp2
        go_roundg kk
        case measure => omega
        case rel => exact ⟨p, _, rfl, hR2, hE3, hl2.out, hl3.out, hkk, hre3.out⟩

set_option maxRecDepth 8000 in
set_option maxHeartbeats 1000000 in
theorem heap_down (w : World) (cp : Nat) (F : List Nat) (mv : Value) (R : List En) (i0 n : Nat) (h : HeapAt w cp F mv R) (hn : n ≤ R.length) (hl : R.length ≤ 1000000) (hi0 : i0 ≤ 1000000) (K : Nat) (hK : n ≤ K + i0) :
    Calls Tryz.prog 117 #[.iface 145 (.pointer (some ⟨cp, 0, none⟩)), .int .i64 (i0 : Int), .int .i64 (n : Int)] w fun e w' =>
      e = .returned (.bool (decide (i0 < (hdown En.lt K R i0 n).2))) ∧ HeapAt w' cp F mv (hdown En.lt K R i0 n).1 ∧ Ext F w w' := by
  obtain ⟨⟨Rf, fi⟩, hres⟩ : ∃ o, hdown En.lt K R i0 n = o := ⟨_, rfl⟩
  rw [hres]
  go_enter Tryz.func117, Tryz.ntmps117
  go_wp2_with fail
  go_loopg [7, 8, 9, 10] K (fun k s7 _s8 _s9 _s10 wr => ∃ (i : Nat) (R' : List En), s7 = .int .i64 (i : Int) ∧ HeapAt wr cp F mv R' ∧ Ext F w wr ∧ R'.length = R.length ∧ i ≤ 1000000 ∧ n ≤ k + i ∧ hdown En.lt k R' i n = (Rf, fi))
  case atStart => exact ⟨i0, R, rfl, h, Ext.refl _ _, rfl, hi0, hK, hres⟩
  case round =>
    obtain ⟨i, R', rfl, hR, hE, hRl, hib, hnk, hre⟩ := hrel
    by_cases hlast : n ≤ 2 * i + 1
    · have he : R' = Rf ∧ i = fi := by
        cases gk with
        | zero => simpa [hdown] using hre
        | succ kk => rw [hdown, if_pos hlast] at hre; simpa using hre
      replace he := hid he
      have hb0 : (2 * (i : Int) + 1 ≥ (n : Int)) := by omega
      clear hre hres hnk hn hl hK
      go_wp2
      go_ret
      rw [← he.out.1, ← he.out.2]
      exact ⟨by simp, hR, hE⟩
    · obtain ⟨kk, rfl⟩ : ∃ kk, gk = kk + 1 := by
        cases gk with
        | zero => omega
        | succ kk => exact ⟨kk, rfl⟩
      rw [hdown, if_neg hlast] at hre
      obtain ⟨j1, hj1⟩ : ∃ j1, 2 * i + 1 = j1 := ⟨_, rfl⟩
      obtain ⟨j2, hj2⟩ : ∃ j2, 2 * i + 2 = j2 := ⟨_, rfl⟩
      rw [hj1, hj2] at hre
      rw [hj1] at hlast
      have hz1 : 2 * (i : Int) + 1 = (j1 : Int) := by omega
      have hz2 : (j1 : Int) + 1 = (j2 : Int) := by omega
      have hlt1 : j1 < n := by omega
      have hle1 : ¬ (n : Int) ≤ (j1 : Int) := by omega
      replace hre := hid hre
      clear hres hlast
      have hilt : i < R'.length := by omega
      have hj1l : j1 < R'.length := by omega
      obtain ⟨xi, hxi⟩ : ∃ x, R'[i]? = some x := ⟨_, List.getElem?_eq_getElem hilt⟩
      obtain ⟨x1, hx1⟩ : ∃ x, R'[j1]? = some x := ⟨_, List.getElem?_eq_getElem hj1l⟩
      obtain ⟨a, c, hc⟩ := hR.row
      rw [hRl] at hc
      have hi1 : i < j1 := by omega
      have hi2 : i < j2 := by omega
      replace hl := hid hl
      replace hn := hid hn
      replace hnk := hid hnk
      replace hilt := hid hilt
      replace hj1 := hid hj1
      replace hj2 := hid hj2
      replace hK := hid hK
      by_cases hj2n : j2 < n
      · have hj2l : j2 < R'.length := by have := hn.out; omega
        obtain ⟨x2, hx2⟩ : ∃ x, R'[j2]? = some x := ⟨_, List.getElem?_eq_getElem hj2l⟩
        have cL := row_Less wr cp F mv R' _ hc hR j2 j1 x2 x1 hx2 hx1 (by rw [hRl]; exact hl.out)
        have hm1 := meth_less cp _ wr hc
        have hj2b : (j2 : Int) < (n : Int) := by omega
        replace hxi := hid hxi
        replace hx1 := hid hx1
        replace hx2 := hid hx2
        go_wp2_with fail
        refine cL.mono ?_
        rintro e w2 ⟨rfl, q, rfl⟩
        have hR2 := hR.ext0 ((Ext.refl [] wr).drewN q)
        have hc2 : (wr.drewN q).cell? ⟨cp, 0, none⟩ = _ := hc
        have hE2 := hE.drewN q
        clear cL hm1 hR hE hc
        generalize wr.drewN q = w2 at *
        cases hlt : x2.lt x1 with
        | true =>
          have hre : Hid ((if hless En.lt R' j2 i = true then hdown En.lt kk (swp R' i j2) j2 n else (R', i)) = (Rf, fi)) := by
            have := hre.out
            rw [hless_of hx2.out hx1.out, hlt, if_pos (show (j2 < n ∧ true = true) from ⟨hj2n, rfl⟩)] at this
            exact hid this
          replace hx2 := hx2.out
          replace hxi := hxi.out
          have cL2 := row_Less w2 cp F mv R' _ hc2 hR2 j2 i x2 xi hx2 hxi (by rw [hRl]; exact hl.out)
          have hm2 := meth_less cp _ w2 hc2
          go_wp2_with fail
          refine cL2.mono ?_
          rintro e w3 ⟨rfl, q3, rfl⟩
          cases hlti : x2.lt xi with
          | false =>
            have he : R' = Rf ∧ i = fi := by have := hre.out; rw [hless_of hx2 hxi, hlti] at this; simpa using this
            have hRf := hR2.ext0 ((Ext.refl [] w2).drewN q3)
            have hEf := hE2.drewN q3
            replace he := hid he
            clear hre cL2 hm2 hR2 hE2
            go_wp2
            go_ret
            rw [← he.out.1, ← he.out.2]
            exact ⟨by simp, hRf, hEf⟩
          | true =>
            have hre3 : hdown En.lt kk (swp R' i j2) j2 n = (Rf, fi) := by have := hre.out; rw [hless_of hx2 hxi, hlti] at this; simpa using this
            have hR3 := hR2.ext0 ((Ext.refl [] w2).drewN q3)
            have hc3 : (w2.drewN q3).cell? ⟨cp, 0, none⟩ = _ := hc2
            have hE3 := hE2.drewN q3
            have hm3 := meth_swap cp _ (w2.drewN q3) hc3
            have cS := row_Swap (w2.drewN q3) cp F mv R' _ hc3 hR3 i j2 (by have := hilt.out; omega) hj2l (by omega) (by rw [hRl]; exact hl.out)
            have hl3 : (swp R' i j2).length = R.length := by rw [swp_length]; exact hRl
            have hnk3 : n ≤ kk + j2 := by have := hnk.out; omega
            have hib3 : j2 ≤ 1000000 := by have := hl.out; have := hn.out; have := hj2l; omega
            replace hre3 := hid hre3
            replace hl3 := hid hl3
            replace hnk3 := hid hnk3
            replace hib3 := hid hib3
            clear hre cL2 hm2 hR2 hE2
            go_wp2_with fail
            refine cS.mono ?_
            rintro e w4 ⟨rfl, hR4, hE4⟩
            have hE5 := hE3.trans hE4 (fun x hx _ => hx)
            clear cS hm3 hR3 hc3 hE3 hE4
            go_wp2
            go_roundg kk
            case measure => omega
            case rel => exact ⟨j2, _, rfl, hR4, hE5, hl3.out, hib3.out, hnk3.out, hre3.out⟩
        | false =>
          have hre : Hid ((if hless En.lt R' j1 i = true then hdown En.lt kk (swp R' i j1) j1 n else (R', i)) = (Rf, fi)) := by
            have := hre.out
            rw [hless_of hx2.out hx1.out, hlt, if_neg (show ¬ (j2 < n ∧ false = true) by simp)] at this
            exact hid this
          replace hx1 := hx1.out
          replace hxi := hxi.out
          have cL2 := row_Less w2 cp F mv R' _ hc2 hR2 j1 i x1 xi hx1 hxi (by rw [hRl]; exact hl.out)
          have hm2 := meth_less cp _ w2 hc2
          go_wp2_with fail
          refine cL2.mono ?_
          rintro e w3 ⟨rfl, q3, rfl⟩
          cases hlti : x1.lt xi with
          | false =>
            have he : R' = Rf ∧ i = fi := by have := hre.out; rw [hless_of hx1 hxi, hlti] at this; simpa using this
            have hRf := hR2.ext0 ((Ext.refl [] w2).drewN q3)
            have hEf := hE2.drewN q3
            replace he := hid he
            clear hre cL2 hm2 hR2 hE2
            go_wp2
            go_ret
            rw [← he.out.1, ← he.out.2]
            exact ⟨by simp, hRf, hEf⟩
          | true =>
            have hre3 : hdown En.lt kk (swp R' i j1) j1 n = (Rf, fi) := by have := hre.out; rw [hless_of hx1 hxi, hlti] at this; simpa using this
            have hR3 := hR2.ext0 ((Ext.refl [] w2).drewN q3)
            have hc3 : (w2.drewN q3).cell? ⟨cp, 0, none⟩ = _ := hc2
            have hE3 := hE2.drewN q3
            have hm3 := meth_swap cp _ (w2.drewN q3) hc3
            have cS := row_Swap (w2.drewN q3) cp F mv R' _ hc3 hR3 i j1 (by have := hilt.out; omega) hj1l (by omega) (by rw [hRl]; exact hl.out)
            have hl3 : (swp R' i j1).length = R.length := by rw [swp_length]; exact hRl
            have hnk3 : n ≤ kk + j1 := by have := hnk.out; omega
            have hib3 : j1 ≤ 1000000 := by have := hl.out; have := hn.out; have := hj1l; omega
            replace hre3 := hid hre3
            replace hl3 := hid hl3
            replace hnk3 := hid hnk3
            replace hib3 := hid hib3
            clear hre cL2 hm2 hR2 hE2
            go_wp2_with fail
            refine cS.mono ?_
            rintro e w4 ⟨rfl, hR4, hE4⟩
            have hE5 := hE3.trans hE4 (fun x hx _ => hx)
            clear cS hm3 hR3 hc3 hE3 hE4
            go_wp2
            go_roundg kk
            case measure => omega
            case rel => exact ⟨j1, _, rfl, hR4, hE5, hl3.out, hib3.out, hnk3.out, hre3.out⟩
      · have hre : Hid ((if hless En.lt R' j1 i = true then hdown En.lt kk (swp R' i j1) j1 n else (R', i)) = (Rf, fi)) := by
          have := hre.out
          rw [if_neg (show ¬ (j2 < n ∧ hless En.lt R' j2 j1 = true) from fun h => hj2n h.1)] at this
          exact hid this
        have hj2b : ¬ (j2 : Int) < (n : Int) := by omega
        have cL2 := row_Less wr cp F mv R' _ hc hR j1 i x1 xi hx1 hxi (by rw [hRl]; exact hl.out)
        have hm2 := meth_less cp _ wr hc
        go_wp2_with fail
        refine cL2.mono ?_
        rintro e w3 ⟨rfl, q3, rfl⟩
        cases hlti : x1.lt xi with
        | false =>
          have he : R' = Rf ∧ i = fi := by have := hre.out; rw [hless_of hx1 hxi, hlti] at this; simpa using this
          have hRf := hR.ext0 ((Ext.refl [] wr).drewN q3)
          have hEf := hE.drewN q3
          replace he := hid he
          clear hre cL2 hm2 hR hE
          go_wp2
          go_ret
          rw [← he.out.1, ← he.out.2]
          exact ⟨by simp, hRf, hEf⟩
        | true =>
          have hre3 : hdown En.lt kk (swp R' i j1) j1 n = (Rf, fi) := by have := hre.out; rw [hless_of hx1 hxi, hlti] at this; simpa using this
          have hR3 := hR.ext0 ((Ext.refl [] wr).drewN q3)
          have hc3 : (wr.drewN q3).cell? ⟨cp, 0, none⟩ = _ := hc
          have hE3 := hE.drewN q3
          have hm3 := meth_swap cp _ (wr.drewN q3) hc3
          have cS := row_Swap (wr.drewN q3) cp F mv R' _ hc3 hR3 i j1 (by have := hilt.out; omega) hj1l (by omega) (by rw [hRl]; exact hl.out)
          have hl3 : (swp R' i j1).length = R.length := by rw [swp_length]; exact hRl
          have hnk3 : n ≤ kk + j1 := by have := hnk.out; omega
          have hib3 : j1 ≤ 1000000 := by have := hl.out; have := hn.out; have := hj1l; omega
          replace hre3 := hid hre3
          replace hl3 := hid hl3
          replace hnk3 := hid hnk3
          replace hib3 := hid hib3
          clear hre cL2 hm2 hR hE
          go_wp2_with fail
          refine cS.mono ?_
          rintro e w4 ⟨rfl, hR4, hE4⟩
          have hE5 := hE3.trans hE4 (fun x hx _ => hx)
          clear cS hm3 hR3 hc3 hE3 hE4
          go_wp2
          go_roundg kk
          case measure => omega
          case rel => exact ⟨j1, _, rfl, hR4, hE5, hl3.out, hib3.out, hnk3.out, hre3.out⟩
end Go.Proofs.YtegcnimekfanaaaGreat
