/-
  container/heap over a clock's row: Fix, Push, Remove.
-/
import Derived.Test.YtegcnimekfanaaaGreatHeapC
namespace Go.Proofs.YtegcnimekfanaaaGreat
open Go.RowKit

section
variable {α : Type} (lt : α → α → Bool)
theorem hup_length : ∀ (k : Nat) (R : List α) (j : Nat), (hup lt k R j).length = R.length
  | 0, _, _ => rfl
  | k + 1, R, j => by
    rw [hup]
    split
    · rfl
    · split
      · rw [hup_length, swp_length]
      · rfl
theorem hdown_length : ∀ (k : Nat) (R : List α) (i n : Nat), (hdown lt k R i n).1.length = R.length
  | 0, _, _, _ => rfl
  | k + 1, R, i, n => by
    rw [hdown]
    split
    · rfl
    · generalize (if 2 * i + 2 < n ∧ hless lt R (2 * i + 2) (2 * i + 1) = true then 2 * i + 2 else 2 * i + 1) = j
      split
      · rw [hdown_length, swp_length]
      · rfl
/-- down, and up where it went nowhere. -/
def hmend (R : List α) (i n : Nat) : List α := if i < (hdown lt R.length R i n).2 then (hdown lt R.length R i n).1 else hup lt R.length (hdown lt R.length R i n).1 i
theorem hmend_length (R : List α) (i n : Nat) : (hmend lt R i n).length = R.length := by
  unfold hmend; split
  · rw [hdown_length]
  · rw [hup_length, hdown_length]
def hfix (R : List α) (i : Nat) : List α := hmend lt R i R.length
def hpush (R : List α) (x : α) : List α := hup lt R.length (R ++ [x]) R.length
def hrem (R : List α) (i : Nat) : List α := if R.length - 1 = i then R.dropLast else (hmend lt (swp R i (R.length - 1)) i (R.length - 1)).dropLast
end

set_option maxRecDepth 8000 in
theorem heap_Fix (w : World) (cp : Nat) (F : List Nat) (mv : Value) (R : List En) (i : Nat) (h : HeapAt w cp F mv R) (hi : i < R.length) (hl : R.length ≤ 1000000) :
    Calls Tryz.prog 74 #[.iface 145 (.pointer (some ⟨cp, 0, none⟩)), .int .i64 (i : Int)] w fun e w' => e = .returned (.tuple #[]) ∧ HeapAt w' cp F mv (hfix En.lt R i) ∧ Ext F w w' := by
  obtain ⟨a, c, hc⟩ := h.row
  have hm := meth_len cp _ w hc
  have cL := row_Len w a R.length c
  have cD := heap_down w cp F mv R i R.length h (Nat.le_refl _) hl (by omega) R.length (by omega)
  have hfx : hfix En.lt R i = if i < (hdown En.lt R.length R i R.length).2 then (hdown En.lt R.length R i R.length).1 else hup En.lt R.length (hdown En.lt R.length R i R.length).1 i := rfl
  have hdl := hdown_length En.lt R.length R i R.length
  obtain ⟨⟨R1, i1⟩, hd⟩ : ∃ o, hdown En.lt R.length R i R.length = o := ⟨_, rfl⟩
  rw [hd] at cD hfx hdl
  replace hfx := hid hfx
  replace hd := hid hd
  replace hl := hid hl
  replace hdl := hid hdl
  go_enter Tryz.func74, Tryz.ntmps74
  go_wp2_with fail
  refine cL.mono ?_
  rintro e w1 ⟨rfl, rfl⟩
  go_wp2_with fail
  refine cD.mono ?_
  rintro e w1 ⟨rfl, h1, hE1⟩
  clear cL cD hm
  by_cases hlt : i < i1
  · have e : hfix En.lt R i = R1 := by rw [hfx.out, if_pos hlt]
    replace e := hid e
    clear hfx
    go_wp2
    go_end0
    rw [e.out]
    exact ⟨rfl, h1, hE1⟩
  · have e : hfix En.lt R i = hup En.lt R.length R1 i := by rw [hfx.out, if_neg hlt]
    have hl1 : R1.length = R.length := hdl.out
    have cU := heap_up w1 cp F mv R1 i h1 (by rw [hl1]; exact hi) (by rw [hl1]; exact hl.out) R.length (by omega)
    replace e := hid e
    replace hl1 := hid hl1
    clear hfx
    go_wp2_with fail
    refine cU.mono ?_
    rintro e' w2 ⟨rfl, h2, hE2⟩
    clear cU
    go_wp2
    go_end0
    rw [e.out]
    exact ⟨rfl, h2, hE1.trans hE2 (fun x hx _ => hx)⟩

set_option maxRecDepth 8000 in
theorem heap_Push (w : World) (cp b : Nat) (F : List Nat) (mv : Value) (R : List En) (tick id idx : Int) (h : HeapAt w cp F mv R) (hb : w.heap[b]? = some (.cells #[.int .i64 tick, .int .i64 id, .int .i64 idx] 143 (0, 0)))
    (hbF : b ∈ F) (hbR : b ∉ R.map (·.b)) (hn : R.length < 1000000) :
    Calls Tryz.prog 75 #[.iface 145 (.pointer (some ⟨cp, 0, none⟩)), .iface 141 (.pointer (some ⟨b, 0, none⟩))] w fun e w' => e = .returned (.tuple #[]) ∧
      ∃ F', HeapAt w' cp F' mv (hpush En.lt R ⟨tick, id, b⟩) ∧ Ext F w w' ∧ (∀ x ∈ F, x ∈ F') ∧ ∀ x ∈ F', x ∈ F ∨ w.heap.size ≤ x := by
  have hm := meth_push ⟨cp, 0, none⟩ w
  have cP := row_Push w cp b F mv R tick id idx h hb hbF hbR hn
  have hhp : hpush En.lt R ⟨tick, id, b⟩ = hup En.lt R.length (R ++ [⟨tick, id, b⟩]) R.length := rfl
  replace hhp := hid hhp
  clear hbR
  go_enter Tryz.func75, Tryz.ntmps75
  go_wp2_with fail
  refine cP.mono ?_
  rintro e w1 ⟨rfl, F', h1, hE1, hF1, hF2⟩
  clear cP hm hb
  obtain ⟨a, c, hc⟩ := h1.row
  have hm := meth_len cp _ w1 hc
  have cL := row_Len w1 a (R ++ [(⟨tick, id, b⟩ : En)]).length c
  have hl1 : (R ++ [(⟨tick, id, b⟩ : En)]).length = R.length + 1 := by simp
  rw [hl1] at hm cL hc
  have cU := heap_up w1 cp F' mv _ R.length h1 (by simp) (by rw [hl1]; omega) R.length (Nat.le_refl _)
  replace hn := hid hn
  replace hl1 := hid hl1
  go_wp2_with fail
  refine cL.mono ?_
  rintro e w1' ⟨rfl, rfl⟩
  have hn2 := hn.out
  go_wp2_with fail
  refine cU.mono ?_
  rintro e w2 ⟨rfl, h2, hE2⟩
  clear cL cU hm hc
  go_wp2
  go_end0
  rw [hhp.out]
  refine ⟨rfl, F', h2, hE1.trans hE2 (fun x hx hlt => ?_), hF1, hF2⟩
  rcases hF2 x hx with h | h
  · exact h
  · omega

set_option maxRecDepth 8000 in
set_option maxHeartbeats 1000000 in
theorem heap_Remove (w : World) (cp : Nat) (F : List Nat) (mv : Value) (R : List En) (i : Nat) (h : HeapAt w cp F mv R) (hi : i < R.length) (hl : R.length ≤ 1000000) :
    Calls Tryz.prog 76 #[.iface 145 (.pointer (some ⟨cp, 0, none⟩)), .int .i64 (i : Int)] w fun e w' => ∃ v, e = .returned v ∧ HeapAt w' cp F mv (hrem En.lt R i) ∧ Ext F w w' := by
  obtain ⟨a, c, hc⟩ := h.row
  have hm := meth_len cp _ w hc
  have cL := row_Len w a R.length c
  obtain ⟨n, hn⟩ : ∃ n, R.length = n + 1 := ⟨R.length - 1, by omega⟩
  have hpop : ∀ (w1 : World) (R1 : List En), R1.length = n + 1 → HeapAt w1 cp F mv R1 → Calls Tryz.prog 248 #[.pointer (some ⟨cp, 0, none⟩)] w1 fun e w' => ∃ v, e = .returned v ∧ HeapAt w' cp F mv R1.dropLast ∧ Ext F w1 w' := by
    intro w1 R1 hl1 h1
    have hne : R1 ≠ [] := by intro e; rw [e] at hl1; simp at hl1
    have hsplit := List.dropLast_concat_getLast hne
    rw [← hsplit] at h1
    exact (row_Pop w1 cp F mv R1.dropLast _ h1 (by simp; omega)).mono fun e w' ⟨k1, k2, k3⟩ => ⟨_, k1, k2, k3⟩
  have hrm : hrem En.lt R i = if n = i then R.dropLast else (hmend En.lt (swp R i n) i n).dropLast := by
    unfold hrem; rw [hn, Nat.add_sub_cancel]
  replace hrm := hid hrm
  rw [hn] at cL hm hc
  have hR0 := hn
  by_cases hin : n = i
  · subst hin
    have hP := hpop w R hn h
    have hmp := meth_pop ⟨cp, 0, none⟩ w
    replace hn := hid hn
    replace hl := hid (show n ≤ 1000000 by omega)
    have hnb := hl.out
    clear hR0 hpop
    go_enter Tryz.func76, Tryz.ntmps76
    go_wp2_with fail
    refine cL.mono ?_
    rintro e w1 ⟨rfl, rfl⟩
    go_wp2_with fail
    refine hP.mono ?_
    rintro e w2 ⟨v, rfl, h2, hE2⟩
    have e : hrem En.lt R n = R.dropLast := by rw [hrm.out]; simp
    replace e := hid e
    clear cL hP hm hmp hc
    go_wp2
    go_ret
    rw [e.out]
    exact ⟨_, rfl, h2, hE2⟩
  · have hnb : n ≤ 1000000 := by omega
    have hms := meth_swap cp _ w hc
    have cS := row_Swap w cp F mv R _ hc h i n hi (by omega) (by omega) hl
    have hsl : (swp R i n).length = n + 1 := by rw [swp_length]; exact hn
    have hin2 : i < n := by omega
    replace hR0 := hid hR0
    replace hn := hid hn
    replace hl := hid hl
    have hinb : ((n : Int) == (i : Int)) = false := by simp; omega
    go_enter Tryz.func76, Tryz.ntmps76
    go_wp2_with fail
    refine cL.mono ?_
    rintro e w1 ⟨rfl, rfl⟩
    go_wp2_with fail
    refine cS.mono ?_
    rintro e w2 ⟨rfl, h2, hE2⟩
    have cD := heap_down w2 cp F mv (swp R i n) i n h2 (by omega) (by rw [hsl]; have := hl.out; have := hn.out; omega) (by omega) (swp R i n).length (by rw [hsl]; omega)
    have hmd : hmend En.lt (swp R i n) i n = if i < (hdown En.lt (swp R i n).length (swp R i n) i n).2 then (hdown En.lt (swp R i n).length (swp R i n) i n).1 else hup En.lt (swp R i n).length (hdown En.lt (swp R i n).length (swp R i n) i n).1 i := rfl
    have hdl := hdown_length En.lt (swp R i n).length (swp R i n) i n
    obtain ⟨⟨R1, i1⟩, hd⟩ : ∃ o, hdown En.lt (swp R i n).length (swp R i n) i n = o := ⟨_, rfl⟩
    rw [hd] at cD hmd hdl
    have hl1 : R1.length = n + 1 := hdl.trans hsl
    have e0 : hrem En.lt R i = (hmend En.lt (swp R i n) i n).dropLast := by rw [hrm.out, if_neg hin]
    rw [hmd] at e0
    replace e0 := hid e0
    replace hd := hid hd
    replace hsl := hid hsl
    clear hm cL cS hms hmd hdl hc hrm
    go_wp2_with fail
    refine cD.mono ?_
    rintro e w3 ⟨rfl, h3, hE3⟩
    have hE23 := hE2.trans hE3 (fun x hx _ => hx)
    clear cD hE2 hE3 h2
    by_cases hlt : i < i1
    · have e1 : hrem En.lt R i = R1.dropLast := by rw [e0.out, if_pos hlt]
      have hP := hpop w3 R1 hl1 h3
      have hmp := meth_pop ⟨cp, 0, none⟩ w3
      replace e1 := hid e1
      replace hl1 := hid hl1
      clear e0 hpop
      go_wp2_with fail
      refine hP.mono ?_
      rintro e w4 ⟨v, rfl, h4, hE4⟩
      clear hP hmp
      go_wp2
      go_ret
      rw [e1.out]
      exact ⟨_, rfl, h4, hE23.trans hE4 (fun x hx _ => hx)⟩
    · have e1 : hrem En.lt R i = (hup En.lt (swp R i n).length R1 i).dropLast := by rw [e0.out, if_neg hlt]
      have cU := heap_up w3 cp F mv R1 i h3 (by omega) (by rw [hl1]; have := hl.out; have := hn.out; omega) (swp R i n).length (by rw [hsl.out]; omega)
      replace e1 := hid e1
      clear e0
      go_wp2_with fail
      refine cU.mono ?_
      rintro e w4 ⟨rfl, h4, hE4⟩
      have hP := hpop w4 _ (by rw [hup_length]; exact hl1) h4
      have hmp := meth_pop ⟨cp, 0, none⟩ w4
      have hE5 := hE23.trans hE4 (fun x hx _ => hx)
      clear cU hpop hE4 hE23 h3
      go_wp2_with fail
      refine hP.mono ?_
      rintro e w5 ⟨v, rfl, h5, hE6⟩
      clear hP hmp
      go_wp2
      go_ret
      rw [e1.out]
      exact ⟨_, rfl, h5, hE5.trans hE6 (fun x hx _ => hx)⟩
end Go.Proofs.YtegcnimekfanaaaGreat
