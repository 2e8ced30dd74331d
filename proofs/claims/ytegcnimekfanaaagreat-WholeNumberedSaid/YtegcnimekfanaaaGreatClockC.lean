/-
  alarm.Clock: Cancel, Due.
-/
import Derived.Test.YtegcnimekfanaaaGreatClockB
namespace Go.Proofs.YtegcnimekfanaaaGreat
open Go.RowKit

theorem swp_other {α : Type} (R : List α) (i j m : Nat) (hi : m ≠ i) (hj : m ≠ j) : (swp R i j)[m]? = R[m]? := by
  unfold swp
  split
  · rw [List.getElem?_set_ne (Ne.symm hj), List.getElem?_set_ne (Ne.symm hi)]
  · rfl
section
variable {α : Type} (lt : α → α → Bool)
theorem hup_other : ∀ (k : Nat) (R : List α) (j m : Nat), j < m → (hup lt k R j)[m]? = R[m]?
  | 0, _, _, _, _ => rfl
  | k + 1, R, j, m, h => by
    rw [hup]
    split
    · rfl
    · split
      · rw [hup_other k _ _ m (by omega), swp_other _ _ _ _ (by omega) (by omega)]
      · rfl
theorem hdown_other : ∀ (k : Nat) (R : List α) (i n m : Nat), n ≤ m → (hdown lt k R i n).1[m]? = R[m]?
  | 0, _, _, _, _, _ => rfl
  | k + 1, R, i, n, m, h => by
    rw [hdown]
    split
    · rfl
    · rename_i hni
      have hj : (if 2 * i + 2 < n ∧ hless lt R (2 * i + 2) (2 * i + 1) = true then 2 * i + 2 else 2 * i + 1) < n ∧ i < (if 2 * i + 2 < n ∧ hless lt R (2 * i + 2) (2 * i + 1) = true then 2 * i + 2 else 2 * i + 1) := by
        split <;> omega
      generalize (if 2 * i + 2 < n ∧ hless lt R (2 * i + 2) (2 * i + 1) = true then 2 * i + 2 else 2 * i + 1) = j at *
      split
      · rw [hdown_other k _ _ n m h, swp_other _ _ _ _ (by omega) (by omega)]
      · rfl
theorem hmend_other (R : List α) (i n m : Nat) (hi : i < m) (h : n ≤ m) : (hmend lt R i n)[m]? = R[m]? := by
  unfold hmend
  split
  · exact hdown_other lt _ _ _ _ _ h
  · rw [hup_other lt _ _ _ _ hi, hdown_other lt _ _ _ _ _ h]
theorem dropLast_perm {R : List α} {x : α} (h : R[R.length - 1]? = some x) : R.dropLast ++ [x] = R := by
  have hl := (List.getElem?_eq_some_iff.1 h).1
  have hne : R ≠ [] := by intro e; subst e; simp at hl
  have h2 := List.dropLast_concat_getLast hne
  have h3 : R.getLast hne = x := by
    have := List.getLast_eq_getElem hne
    rw [this]
    exact (List.getElem?_eq_some_iff.1 h).2
  rw [h3] at h2
  exact h2
theorem hrem_perm (R : List α) (i : Nat) (x : α) (hx : R[i]? = some x) : (hrem lt R i ++ [x]).Perm R := by
  have hi := (List.getElem?_eq_some_iff.1 hx).1
  unfold hrem
  split
  · rename_i h
    rw [dropLast_perm (by rw [h]; exact hx)]
  · rename_i h
    obtain ⟨y, hy⟩ : ∃ y, R[R.length - 1]? = some y := ⟨_, List.getElem?_eq_getElem (by omega)⟩
    have hs : (swp R i (R.length - 1))[R.length - 1]? = some x := by
      unfold swp
      rw [hx, hy]
      simp only
      rw [List.getElem?_set_self (by simp; omega)]
    have hm : (hmend lt (swp R i (R.length - 1)) i (R.length - 1))[(hmend lt (swp R i (R.length - 1)) i (R.length - 1)).length - 1]? = some x := by
      rw [hmend_length, swp_length, hmend_other lt _ _ _ _ (by omega) (Nat.le_refl _), hs]
    rw [dropLast_perm hm]
    exact (hmend_perm lt _ _ _).trans (swp_perm _ _ _)
theorem hrem_length (R : List α) (i : Nat) : (hrem lt R i).length = R.length - 1 := by
  unfold hrem; split
  · simp
  · rw [List.length_dropLast, hmend_length, swp_length]
end

theorem mdel_length_of {α : Type} {L : List (Int × α)} {k : Int} {v : α} (hr : (L.map (·.1)).Pairwise (· < ·)) (hg : mget L k = some v) : (mdel L k).length + 1 = L.length := by
  induction L with
  | nil => simp [mget] at hg
  | cons p L ih =>
    simp only [List.map_cons, List.pairwise_cons] at hr
    by_cases hp : p.1 = k
    · have h1 : mdel L k = L := by
        unfold mdel
        rw [List.filter_eq_self.2]
        intro q hq
        have := hr.1 q.1 (List.mem_map.2 ⟨q, hq, rfl⟩)
        simp; omega
      have h2 : mdel (p :: L) k = mdel L k := by simp [mdel, hp]
      rw [h2, h1]; rfl
    · have h2 : mdel (p :: L) k = p :: mdel L k := by simp [mdel, hp]
      have h3 : mget L k = some v := by
        have : (p.1 == k) = false := by simpa using hp
        simpa [mget, List.find?_cons, this] using hg
      rw [h2, List.length_cons, List.length_cons, ih hr.2 h3]

set_option maxRecDepth 8000 in
set_option maxHeartbeats 1000000 in
theorem clock_Cancel (w : World) (cp : Nat) (F : List Nat) (R : List En) (id : Int) (h : ClockAt w cp F R) (hi : I64 id) (hn : R.length ≤ 1000000) :
    Calls Tryz.prog 22 #[.pointer (some ⟨cp, 0, none⟩), .int .i64 id] w fun e w' =>
      (∃ (i : Nat) (x : En), R[i]? = some x ∧ x.id = id ∧ e = .returned (.bool true) ∧ ClockAt w' cp F (hrem En.lt R i) ∧ Ext F w w') ∨ ((∀ x ∈ R, x.id ≠ id) ∧ e = .returned (.bool false) ∧ w = w') := by
  obtain ⟨a, c, mb, h1, hx⟩ := h.look hi
  obtain ⟨mb', F0, L, hh, hmF, hF0, hmF2, hm, hl, k1, k2⟩ := h
  obtain rfl : mb' = mb := by
    obtain ⟨v, h1', -⟩ := hh
    rw [h1] at h1'
    simp at h1'
    exact h1'.2.symm
  have c1 := cellOf (k := 1) h1 rfl
  rcases hx with ⟨i, x, hxi, hxd, hb, hr⟩ | ⟨hno, hr⟩
  · have x2 := cellOf (k := 2) hb rfl
    have hil := (List.getElem?_eq_some_iff.1 hxi).1
    have cR := heap_Remove w.drew cp F0 _ _ i (hh.ext0 (Ext.refl [] w).drew) hil hn
    go_enter Tryz.func22, Tryz.ntmps22
    go_upto_region 4 with (fail)
    go_cut [] (fun wc => HeapAt wc cp F0 (.map (some mb')) (hrem En.lt R i) ∧ Ext F0 w wc)
    case first =>
      have x2' : w.drew.cell? ⟨x.b, 2, none⟩ = _ := x2
      go_region_law (first | (go_simp; go_at_call 76; refine cR.mono ?_; rintro e w2 ⟨v2, rfl, k3, k4⟩))
      all_goals
        simp only [Exit.then]
        refine ‹∀ (a : Act) (w : World), Go.Met _ a w → _› _ _ ?_
        go_meet
        case rel => exact ⟨k3, (Ext.refl F0 w).drew.trans k4 (fun x hx _ => hx)⟩
    case rest =>
    obtain ⟨hh2, hE2⟩ := hcut
    have hm2 := hm.ext hE2 hmF
    obtain ⟨a2, c2, hc2⟩ := hh2.row
    have c11 : ∃ v, wc.heap[cp]? = some (.cells #[v, .map (some mb')] 140 (0, 0)) := by obtain ⟨v, h1, -⟩ := hh2; exact ⟨v, h1⟩
    obtain ⟨v, hv⟩ := c11
    have c1b := cellOf (k := 1) hv rfl
    obtain ⟨w3, hrun, hm3, hE3, -⟩ := hm2.delete Tryz.underlying136 hi 0
    have hmap : ∀ b ∈ [mb'], b < wc.heap.size → ∃ es c, wc.heap[b]? = some (.map es c) := by
      intro b hb _
      simp only [List.mem_singleton] at hb
      subst hb
      exact hm2.map
    have hh3 := hh2.extm hE3 hmap
    have hEF : Ext F w w3 := (hE2.mono (fun y hy _ => hF0 y hy)).trans hE3 (by intro y hy _; simp at hy; subst hy; exact hmF2)
    have hg := k1 x (List.mem_of_getElem? hxi)
    have hdl := mdel_length_of hm.rising hg
    have hfin : ClockAt w3 cp F (hrem En.lt R i) := by
      rw [hxd] at hdl
      refine ⟨mb', F0, _, hh3, hmF, hF0, hmF2, hm3, ?_, ?_, ?_⟩
      · rw [hrem_length]; omega
      · intro y hy
        have hyR : y ∈ R := (hrem_perm En.lt R i x hxi).mem_iff.1 (by simp [hy])
        rw [mget_mdel]
        split
        · rename_i hyd
          exfalso
          have e1 := k1 y hyR
          rw [hyd, ← hxd, hg] at e1
          have e2 : x.b = y.b := by simpa [ep] using e1
          -- two alarms with one block
          obtain ⟨v', -, -, -, h4, -⟩ := hh2
          have hp := ((hrem_perm En.lt R i x hxi).map (·.b))
          have hnd : ((hrem En.lt R i ++ [x]).map (·.b)).Nodup := by
            obtain ⟨v'', -, -, -, h4'', -⟩ := hh
            exact hp.nodup_iff.2 h4''
          rw [List.map_append] at hnd
          exact (List.nodup_append.1 hnd).2.2 y.b (List.mem_map.2 ⟨y, hy, rfl⟩) x.b (by simp) e2.symm
        · exact k1 y hyR
      · intro k v hkv
        rw [mget_mdel] at hkv
        split at hkv
        · cases hkv
        · rename_i hk
          obtain ⟨y, hy, h1, h2⟩ := k2 k v hkv
          have hy2 := (hrem_perm En.lt R i x hxi).mem_iff.2 hy
          rcases List.mem_append.1 hy2 with hy2 | hy2
          · exact ⟨y, hy2, h1, h2⟩
          · simp only [List.mem_singleton] at hy2
            subst hy2
            exact absurd (h1.symm.trans hxd) hk
    replace hxd := hid hxd
    clear hm hm2 hm3 hh hh2 hh3 cR hr c1 x2 h1 hb hv hmap hg hdl
    go_wp2
    go_ret
    exact .inl ⟨i, x, hxi, hxd.out, rfl, hfin, hEF⟩
  · replace hno := hid hno
    go_enter Tryz.func22, Tryz.ntmps22
    go_wp2
    go_ret
    exact .inr ⟨hno.out, rfl, rfl⟩
end Go.Proofs.YtegcnimekfanaaaGreat
