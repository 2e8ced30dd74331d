/-
  alarm.Clock: Set.
-/
import Derived.Deep.DeepCutAuto
import Derived.Test.YtegcnimekfanaaaGreatClockA
namespace Go.Proofs.YtegcnimekfanaaaGreat
open Go.RowKit

/-- What a clock's heap is behind Set. -/
def SetTo (R : List En) (id tick : Int) (R' : List En) : Prop :=
  (∃ (i : Nat) (x : En), R[i]? = some x ∧ x.id = id ∧ R' = hfix En.lt (R.set i ⟨tick, id, x.b⟩) i) ∨ ((∀ x ∈ R, x.id ≠ id) ∧ ∃ b, R' = hpush En.lt R ⟨tick, id, b⟩)

/-- Blocks that are maps lie apart from a heap. -/
theorem HeapAt.extm {S F : List Nat} {w w' : World} {cp : Nat} {mv : Value} {R : List En} (h : HeapAt w cp F mv R) (he : Ext S w w') (hS : ∀ b ∈ S, b < w.heap.size → ∃ es c, w.heap[b]? = some (.map es c)) : HeapAt w' cp F mv R := by
  obtain ⟨v, h1, h2, h3, h4, h5, h6, h7⟩ := h
  have nS : ∀ b o, w.heap[b]? = some o → (∀ es c, o ≠ .map es c) → b ∉ S := fun b o hb hn hs => by
    obtain ⟨es, c, hm⟩ := hS b hs (lt_of_block hb)
    rw [hb] at hm
    exact hn es c (Option.some.inj hm)
  refine ⟨v, he.block h1 (nS _ _ h1 (by simp)), he.row h2 (fun g hg hs => ?_), fun i x hx => he.block (h3 i x hx) (nS _ _ (h3 i x hx) (by simp)), h4, h5, h6, h7⟩
  obtain ⟨es, c, hm⟩ := hS g hs (h2.lt g hg).2
  exact row_not h2 hm (by simp) hg

/-- An alarm's tick is set anew. -/
theorem HeapAt.tick {F : List Nat} {w : World} {cp : Nat} {mv : Value} {R : List En} (h : HeapAt w cp F mv R) {i : Nat} {x : En} (hx : R[i]? = some x) (t : Int) :
    HeapAt (w.setCell ⟨x.b, 0, none⟩ (.int .i64 t)) cp F mv (R.set i ⟨t, x.id, x.b⟩) ∧ Ext [x.b] w (w.setCell ⟨x.b, 0, none⟩ (.int .i64 t)) ∧ x.b ∈ F := by
  obtain ⟨v, h1, h2, h3, h4, h5, h6, h7⟩ := h
  have hb := h3 i x hx
  have he : Ext [x.b] w (w.setCell ⟨x.b, 0, none⟩ (.int .i64 t)) := (Ext.refl _ _).setCell (.inl (by simp)) _
  have hvb : v.ownBlock ≠ some x.b := row_not h2 hb (by simp)
  have hmap : (R.set i ⟨t, x.id, x.b⟩).map (·.b) = R.map (·.b) := by
    rw [List.map_set]
    have hi := (List.getElem?_eq_some_iff.1 hx).1
    have : x.b = (R.map (·.b))[i]'(by simpa using hi) := by
      have := (List.getElem?_eq_some_iff.1 hx).2
      simp [this]
    rw [this]
    exact List.set_getElem_self _
  have hp : eptrs (R.set i ⟨t, x.id, x.b⟩) = eptrs R := by
    have e : ∀ l : List En, eptrs l = (l.map (·.b)).map fun b => .pointer (some ⟨b, 0, none⟩) := fun l => by simp [eptrs]
    rw [e, e, hmap]
  refine ⟨⟨v, he.block h1 ?_, ?_, ?_, by rw [hmap]; exact h4, h5, h6, ?_⟩, he, h7 x (List.mem_of_getElem? hx)⟩
  · simp only [List.mem_singleton]; rintro rfl; rw [h1] at hb; simp at hb
  · rw [hp, List.length_set]
    exact he.row h2 (fun g hg hm => by simp only [List.mem_singleton] at hm; subst hm; exact hvb hg)
  · intro k z hz
    rw [List.getElem?_set] at hz
    split at hz
    · rename_i hik
      subst hik
      split at hz
      · simp only [Option.some.injEq] at hz
        subst hz
        exact block_setCell_same (k := 0) _ hb
      · cases hz
    · rename_i hik
      exact block_setCell_other _ (h3 k z hz) (nodup_ne (f := (·.b)) h4 hz hx (Ne.symm hik))
  · intro z hz
    rcases List.mem_or_eq_of_mem_set hz with hz | rfl
    · exact h7 z hz
    · exact h7 x (List.mem_of_getElem? hx)

theorem mem_set_or {α : Type} {R : List α} {i : Nat} {x z y : α} (hx : R[i]? = some x) (hy : y ∈ R) : y ∈ R.set i z ∨ y = x := by
  obtain ⟨k, hk, rfl⟩ := List.mem_iff_getElem.1 hy
  by_cases hik : i = k
  · subst hik
    rw [List.getElem?_eq_getElem hk] at hx
    exact .inr (Option.some.inj hx)
  · refine .inl (List.mem_iff_getElem.2 ⟨k, by simpa using hk, by simp [hik]⟩)
theorem mem_set_new {α : Type} {R : List α} {i : Nat} {x z : α} (hx : R[i]? = some x) : z ∈ R.set i z := by
  have hi := (List.getElem?_eq_some_iff.1 hx).1
  exact List.mem_iff_getElem.2 ⟨i, by simpa using hi, by simp⟩
theorem hfix_perm {α : Type} (lt : α → α → Bool) (R : List α) (i : Nat) : (hfix lt R i).Perm R := hmend_perm lt R i _
theorem hpush_perm {α : Type} (lt : α → α → Bool) (R : List α) (x : α) : (hpush lt R x).Perm (R ++ [x]) := hup_perm lt _ _ _

set_option maxRecDepth 8000 in
set_option maxHeartbeats 1000000 in
theorem clock_Set (w : World) (cp : Nat) (F : List Nat) (R : List En) (id tick : Int) (h : ClockAt w cp F R) (hi : I64 id) (ht : 0 ≤ tick ∧ tick ≤ 1099511627776) (hn : R.length < 1000000) :
    Calls Tryz.prog 21 #[.pointer (some ⟨cp, 0, none⟩), .int .i64 id, .int .i64 tick] w fun e w' => e = .returned (.int .i64 0) ∧
      ∃ F' R', ClockAt w' cp F' R' ∧ SetTo R id tick R' ∧ Ext F w w' ∧ (∀ x ∈ F, x ∈ F') ∧ ∀ x ∈ F', x ∈ F ∨ w.heap.size ≤ x := by
  have ht1 : ¬ tick < 0 := by omega
  have ht2 : ¬ tick > 1099511627776 := by omega
  obtain ⟨a, c, mb, h1, hx⟩ := h.look hi
  obtain ⟨mb', F0, L, hh, hmF, hF0, hmF2, hm, hl, k1, k2⟩ := h
  obtain rfl : mb' = mb := by
    obtain ⟨v, h1', -⟩ := hh
    rw [h1] at h1'
    simp at h1'
    exact h1'.2.symm
  have c1 := cellOf (k := 1) h1 rfl
  clear ht
  rcases hx with ⟨i, x, hxi, hxd, hb, hr⟩ | ⟨hno, hr⟩
  · have x0 := cellOf (k := 0) hb rfl
    have x0f := freeOf (k := 0) hb
    have hil := (List.getElem?_eq_some_iff.1 hxi).1
    obtain ⟨hh1, hE1, hxF⟩ := hh.tick hxi tick
    have hb1 := block_setCell_same (k := 0) (.int .i64 tick) hb
    have hm1 := hm.ext hE1 (by simp only [List.mem_singleton]; rintro rfl; exact hmF hxF)
    have hE1F : Ext F0 w (w.setCell ⟨x.b, 0, none⟩ (.int .i64 tick)) := hE1.mono (by intro y hy _; simp at hy; subst hy; exact hxF)
    have e1 : (R.set i ⟨tick, x.id, x.b⟩).length = R.length := by simp
    go_enter Tryz.func21, Tryz.ntmps21
    go_upto_region 6 with (fail)
    generalize w.setCell ⟨x.b, 0, none⟩ (.int .i64 tick) = w1 at *
    have x2 : w1.cell? ⟨x.b, 2, none⟩ = _ := cellOf (k := 2) hb1 rfl
    have cF := heap_Fix w1.drew cp F0 _ _ i (hh1.ext0 (Ext.refl [] w1).drew) (by rw [e1]; exact hil) (by rw [e1]; omega)
    replace hn := hid hn
    clear hh hm h1 hb hr x0 x0f c1
    go_cut [] (fun wc => HeapAt wc cp F0 (.map (some mb')) (hfix En.lt (R.set i ⟨tick, x.id, x.b⟩) i) ∧ Ext F0 w1 wc)
    case first =>
      have x2' : w1.drew.cell? ⟨x.b, 2, none⟩ = _ := x2
      go_region_law (first | (go_simp; go_at_call 74; refine cF.mono ?_; rintro e w2 ⟨rfl, k3, k4⟩))
      all_goals
        simp only [Exit.then]
        refine ‹∀ (a : Act) (w : World), Go.Met _ a w → _› _ _ ?_
        go_meet
        case rel => exact ⟨k3, (Ext.refl F0 w1).drew.trans k4 (fun x hx _ => hx)⟩
    case rest =>
    obtain ⟨hh2, hE2⟩ := hcut
    clear cF hh1 hb1 x2
    have hm2 := hm1.ext hE2 hmF
    have hEF : Ext F w wc := (hE1F.trans hE2 (fun x hx _ => hx)).mono (fun y hy _ => hF0 y hy)
    replace hxd := hid hxd
    go_wp2
    go_ret
    have hxd := hxd.out
    subst hxd
    refine ⟨rfl, F, _, ⟨mb', F0, L, hh2, hmF, hF0, hmF2, hm2, ?_, ?_, ?_⟩, .inl ⟨i, x, hxi, rfl, rfl⟩, hEF, fun x hx => hx, fun x hx => .inl hx⟩
    · rw [hfix, hmend_length, e1, hl]
    · intro y hy
      rcases List.mem_or_eq_of_mem_set ((hfix_perm En.lt _ _).mem_iff.1 hy) with hy | rfl
      · exact k1 y hy
      · exact k1 x (List.mem_of_getElem? hxi)
    · intro k v hkv
      obtain ⟨y, hy, h1, h2⟩ := k2 k v hkv
      rcases mem_set_or (z := (⟨tick, x.id, x.b⟩ : En)) hxi hy with hy' | rfl
      · exact ⟨y, (hfix_perm En.lt _ _).mem_iff.2 hy', h1, h2⟩
      · exact ⟨_, (hfix_perm En.lt _ _).mem_iff.2 (mem_set_new hxi), h1, h2⟩
  · -- a new one
    have hmL : L.length < maxLen := by rw [hl]; simp [maxLen]; omega
    have hmgn : mget L id = none := by
      cases hg : mget L id with
      | none => rfl
      | some v =>
        obtain ⟨x, hx, hxi, -⟩ := k2 id v hg
        exact absurd hxi (hno x hx)
    have hm1 := hm.ext ((Ext.refl [] w).alloc (.cells #[.int .i64 tick, .int .i64 id, .int .i64 0] 143)) (by simp)
    have hh1 := hh.ext0 ((Ext.refl [] w).alloc (.cells #[.int .i64 tick, .int .i64 id, .int .i64 0] 143))
    have hE1 : Ext F w (w.alloc (.cells #[.int .i64 tick, .int .i64 id, .int .i64 0] 143)) := (Ext.refl F w).alloc _
    have hb1 := block_alloc_new w (.cells #[.int .i64 tick, .int .i64 id, .int .i64 0] 143)
    have h11 := block_alloc_old (.cells #[.int .i64 tick, .int .i64 id, .int .i64 0] 143) h1
    obtain ⟨B, hB⟩ : ∃ B, w.heap.size = B := ⟨_, rfl⟩
    have hBR : B ∉ R.map (·.b) := by
      intro hmem
      obtain ⟨x, hx, rfl⟩ := List.mem_map.1 hmem
      obtain ⟨v, -, -, h3, -⟩ := hh
      obtain ⟨k, hk, rfl⟩ := List.mem_iff_getElem.1 hx
      have := lt_of_block (h3 k _ (List.getElem?_eq_getElem hk))
      omega
    have hBm : mb' ≠ B := by have := hm.lt; omega
    rw [hB] at hb1
    obtain ⟨w2, hrun, hm2, hE2, -⟩ := hm1.update Tryz.underlying136 hmL hi (.pointer (some ⟨B, 0, none⟩))
    replace hno := hid hno
    replace hn2 := hid hn
    replace hmL := hid hmL
    replace hl := hid hl
    replace hmgn := hid hmgn
    clear hn
    go_enter Tryz.func21, Tryz.ntmps21
    go_upto_region 9 with (fail)
    have hmap : ∀ b ∈ [mb'], b < (w.alloc (.cells #[.int .i64 tick, .int .i64 id, .int .i64 0] 143)).heap.size → ∃ es c, (w.alloc (.cells #[.int .i64 tick, .int .i64 id, .int .i64 0] 143)).heap[b]? = some (.map es c) := by
      intro b hb _
      simp only [List.mem_singleton] at hb
      subst hb
      exact hm1.map
    have hh2 := (hh1.extm hE2 hmap).mono (F' := B :: F0) (fun x hx => by simp [hx])
    have hb2 := hE2.block hb1 (by simpa using Ne.symm hBm)
    have hE12 : Ext F w w2 := hE1.trans hE2 (by intro x hx _; simp at hx; subst hx; exact hmF2)
    have cP := heap_Push w2 cp B (B :: F0) _ R tick id 0 hh2 hb2 (by simp) hBR hn2.out
    have c11 := cellOf (k := 1) h11 rfl
    have hsz : w.heap.size ≤ w2.heap.size := hE12.size
    clear hmap hh1 hm1 hE1 hb1 hE2 hr c1 hh hm h1 h11
    go_wp2_with fail
    refine cP.mono ?_
    rintro e w3 ⟨rfl, F', hh3, hE3, hF1, hF2⟩
    clear cP hh2 hb2 hrun c11
    have hmF1 : mb' ∉ B :: F0 := by simp [hBm, hmF]
    have hm3 := hm2.ext hE3 hmF1
    have hmlt := hm2.lt
    go_wp2
    go_ret
    have hno := hno.out
    refine ⟨rfl, mb' :: (F ++ F'), _, ⟨mb', F', _, hh3, ?_, fun x hx => by simp [hx], by simp, hm3, ?_, ?_, ?_⟩, .inr ⟨hno, B, rfl⟩, ?_, fun x hx => by simp [hx], ?_⟩
    · intro hmem
      rcases hF2 mb' hmem with h | h
      · exact hmF1 h
      · omega
    · rw [hpush, hup_length, mput, mins_length]
      have hdl : (mdel L id).length = L.length := by
        unfold mdel
        rw [List.filter_eq_self.2]
        intro p hp
        have hg := hmgn.out
        unfold mget at hg
        rw [Option.map_eq_none_iff, List.find?_eq_none] at hg
        have := hg p hp
        simpa using this
      rw [hdl, hl.out]
      simp
    · intro y hy
      rw [mget_mput]
      rcases List.mem_append.1 ((hpush_perm En.lt _ _).mem_iff.1 hy) with hy | hy
      · rw [if_neg (hno y hy)]; exact k1 y hy
      · simp only [List.mem_singleton] at hy
        subst hy
        simp
    · intro k v hkv
      rw [mget_mput] at hkv
      split at hkv
      · rename_i hk
        simp only [Option.some.injEq] at hkv
        exact ⟨⟨tick, id, B⟩, (hpush_perm En.lt _ _).mem_iff.2 (by simp), hk.symm, hkv.symm⟩
      · obtain ⟨y, hy, h1, h2⟩ := k2 k v hkv
        exact ⟨y, (hpush_perm En.lt _ _).mem_iff.2 (by simp [hy]), h1, h2⟩
    · refine hE12.trans hE3 (fun x hx hlt => ?_)
      rcases List.mem_cons.1 hx with rfl | hx
      · omega
      · exact hF0 x hx
    · intro x hx
      rcases List.mem_cons.1 hx with rfl | hx
      · exact .inl hmF2
      · rcases List.mem_append.1 hx with hx | hx
        · exact .inl hx
        · rcases hF2 x hx with h | h
          · rcases List.mem_cons.1 h with rfl | h
            · exact .inr (by omega)
            · exact .inl (hF0 x h)
          · exact .inr (by omega)
end Go.Proofs.YtegcnimekfanaaaGreat
