/-
  WholeNumbered: what its arguments' reading says of memory.
-/
import Derived.Test.YtegcnimekfanaaaGreatLawD
import Derived.Deep.SlicePairs
import Derived.ChangeArms
namespace Go.Proofs.YtegcnimekfanaaaGreat
open Go.RowKit Go.Deep Go.ChangeShapes Go.WideShapes

theorem spot_of {w : World} {a : Addr} {v : Value} (h : w.cell? a = some v) : a = ⟨a.block, a.off, none⟩ := by
  obtain ⟨b, o, s⟩ := a
  cases s with
  | none => rfl
  | some s =>
    simp only [World.cell?] at h
    split at h <;> simp at h
theorem add_at (b o i : Nat) : (⟨b, o, none⟩ : Addr).add i = ⟨b, o + i, none⟩ := by
  unfold Addr.add
  split
  · rename_i h; subst h; rfl
  · rfl
/-- Three cells of a struct, one behind the other. -/
theorem three_cells {w : World} {base : Nat} {a : Addr} {cs : List Value} (h : w.cells? base a 3 = some cs) :
    ∃ v0 v1 v2, cs = [v0, v1, v2] ∧ a = ⟨a.block, a.off, none⟩ ∧ w.cell? ⟨a.block, a.off, none⟩ = some v0 ∧ w.cell? ⟨a.block, a.off + 1, none⟩ = some v1 ∧ w.cell? ⟨a.block, a.off + 2, none⟩ = some v2 := by
  obtain ⟨-, hl, hc⟩ := World.cells?_some h
  match cs, hl with
  | [v0, v1, v2], _ =>
    have e0 := hc 0 (by omega)
    have e1 := hc 1 (by omega)
    have e2 := hc 2 (by omega)
    have z : a.add 0 = a := rfl
    rw [z] at e0
    have hs := spot_of (v := v0) (by simpa using e0)
    refine ⟨v0, v1, v2, rfl, hs, ?_, ?_, ?_⟩
    · rw [← hs]; simpa using e0
    · rw [hs, add_at] at e1; simpa using e1
    · rw [hs, add_at] at e2; simpa using e2

section
variable {H : Type} {enc : TypeId × Value → H} {w : World} {base : Nat} {spare : Nat → Bool} {held : Bool}
theorem cells33 : Tryz.prog.cellsOf 33 = 3 := by kernel_rfl
theorem cells45 : Tryz.prog.cellsOf 45 = 3 := by kernel_rfl
theorem cells3 : Tryz.prog.cellsOf 3 = 1 := by kernel_rfl
theorem cells27 : Tryz.prog.cellsOf 27 = 1 := by kernel_rfl

/-- A slice of ints, read. -/
theorem ints_read {n : Nat} {v : Value} {x : DataW H × List MemPlace} (h : DataW.trod enc Tryz.prog w base spare held n 27 [v] = some x) : ∃ bo xs, IntsAt w v bo xs ∧ xs.length ≤ 9223372036854775807 := by
  rcases open_ints Tryz.underlying27 Tryz.underlying3 cells3 h with ⟨h1, -⟩ | ⟨a, len, cap, zs, h1, -, hl, hm, hz, -, hc, -⟩
  · simp only [List.cons.injEq, and_true] at h1
    subst h1
    exact ⟨none, [], ⟨none, 0, rfl, .inl ⟨rfl, rfl⟩⟩, by simp⟩
  · simp only [List.cons.injEq, and_true] at h1
    subst h1
    have hle : len ≤ zs.length := by rw [hz]; split <;> omega
    have hlen : (zs.take len).length = len := by rw [List.length_take]; omega
    unfold maxLen at hm
    by_cases h0 : len = 0
    · subst h0
      exact ⟨none, [], ⟨some a, cap, rfl, .inl ⟨rfl, rfl⟩⟩, by simp⟩
    · have hs : a = ⟨a.block, a.off, none⟩ := spot_of (a := a) (hc 0 (by omega))
      refine ⟨some a.block, zs.take len, ⟨some a, cap, by rw [hlen], .inr ⟨a.block, a.off, by rw [← hs], rfl, fun j hj => ?_⟩⟩, by omega⟩
      rw [hlen] at hj
      have := hc j (by omega)
      have hs' : a = ⟨a.block, a.off, none⟩ := hs
      rw [hs', add_at] at this
      rw [this]
      congr 2
      rw [List.getD_eq_getElem?_getD, List.getD_eq_getElem?_getD, List.getElem?_take_of_lt hj]

theorem acts_read {n : Nat} {v : Value} {x : DataW H × List MemPlace} (h : DataW.trod enc Tryz.prog w base spare held n 22 [v] = some x) : ActsAt w v := by
  rcases open_slice Tryz.underlying22 h with ⟨h1, -⟩ | ⟨a, len, cap, m, k, D, Pl, h1, -, hl, hm, hmm, -, hx⟩
  · simp only [List.cons.injEq, and_true] at h1
    subst h1
    exact ⟨none, 0, 0, rfl, Nat.le_refl _, by omega, by simp⟩
  · simp only [List.cons.injEq, and_true] at h1
    subst h1
    have hlm : len ≤ m := by rw [hmm]; split <;> omega
    unfold maxLen at hm
    refine ⟨some a, len, cap, rfl, hl, hm, fun j hj => ?_⟩
    have each : ∀ i, i < len → ∃ act, a.add (i * 3) = ⟨(a.add (i * 3)).block, (a.add (i * 3)).off, none⟩ ∧ ActAt w (a.add (i * 3)).block (a.add (i * 3)).off act := by
      intro i hi
      obtain ⟨cs', h1, h2⟩ := hx i (by omega)
      rw [cells33] at h1
      obtain ⟨v0, v1, v2, rfl, hs, e0, e1, e2⟩ := three_cells h1
      obtain ⟨xs, k', -, -, -, hxl, hf⟩ := DataW.trod_struct Tryz.underlying33 h2
      have g0 := hf 0 { name := "Kind", type := 3, offset := 0, embedded := false, tag := "", pkgPath := "", byteOffset := 0 } rfl
      have g1 := hf 1 { name := "X", type := 3, offset := 1, embedded := false, tag := "", pkgPath := "", byteOffset := 8 } rfl
      have g2 := hf 2 { name := "On", type := 27, offset := 2, embedded := false, tag := "", pkgPath := "", byteOffset := 16 } rfl
      simp only [cells3, cells27, List.drop_zero, List.drop_succ_cons, List.take_succ_cons, List.take_zero] at g0 g1 g2
      match xs, hxl with
      | [y0, y1, y2], _ =>
        obtain ⟨kind, hk, -⟩ := DataW.trod_int Tryz.underlying3 g0
        obtain ⟨xx, hxx, -⟩ := DataW.trod_int Tryz.underlying3 g1
        obtain ⟨bo, on, hon, hol⟩ := ints_read g2
        simp only [List.cons.injEq, and_true] at hk hxx
        subst hk hxx
        exact ⟨⟨kind, xx, on⟩, hs, ⟨e0, e1, ⟨v2, bo, e2, hon, hol⟩⟩⟩
    obtain ⟨act0, hs0, -⟩ := each 0 (by omega)
    have ha : a = ⟨a.block, a.off, none⟩ := by simpa [Addr.add] using hs0
    obtain ⟨act, hs, hact⟩ := each j hj
    refine ⟨a.block, a.off, act, by rw [← ha], ?_⟩
    have e : a.add (j * 3) = ⟨a.block, a.off + j * 3, none⟩ := by rw [ha, add_at]
    rw [e] at hact
    exact hact
theorem alarms_read {n : Nat} {v : Value} {x : DataW H × List MemPlace} (h : DataW.trod enc Tryz.prog w base spare held n 23 [v] = some x) : AlarmsAt w v := by
  rcases open_slice Tryz.underlying23 h with ⟨h1, -⟩ | ⟨a, len, cap, m, k, D, Pl, h1, -, hl, hm, hmm, -, hx⟩
  · simp only [List.cons.injEq, and_true] at h1
    subst h1
    exact ⟨none, 0, 0, rfl, Nat.le_refl _, by omega, by simp⟩
  · simp only [List.cons.injEq, and_true] at h1
    subst h1
    have hlm : len ≤ m := by rw [hmm]; split <;> omega
    unfold maxLen at hm
    refine ⟨some a, len, cap, rfl, hl, hm, fun j hj => ?_⟩
    have each : ∀ i, i < len → ∃ k id t, a.add (i * 3) = ⟨(a.add (i * 3)).block, (a.add (i * 3)).off, none⟩ ∧ AlarmAt w (a.add (i * 3)).block (a.add (i * 3)).off k id t := by
      intro i hi
      obtain ⟨cs', h1, h2⟩ := hx i (by omega)
      rw [cells45] at h1
      obtain ⟨v0, v1, v2, rfl, hs, e0, e1, e2⟩ := three_cells h1
      obtain ⟨xs, k', -, -, -, hxl, hf⟩ := DataW.trod_struct Tryz.underlying45 h2
      have g0 := hf 0 { name := "Kind", type := 3, offset := 0, embedded := false, tag := "", pkgPath := "", byteOffset := 0 } rfl
      have g1 := hf 1 { name := "Id", type := 3, offset := 1, embedded := false, tag := "", pkgPath := "", byteOffset := 8 } rfl
      have g2 := hf 2 { name := "At", type := 3, offset := 2, embedded := false, tag := "", pkgPath := "", byteOffset := 16 } rfl
      simp only [cells3, List.drop_zero, List.drop_succ_cons, List.take_succ_cons, List.take_zero] at g0 g1 g2
      match xs, hxl with
      | [y0, y1, y2], _ =>
        obtain ⟨k, hk, -⟩ := DataW.trod_int Tryz.underlying3 g0
        obtain ⟨id, hid, -⟩ := DataW.trod_int Tryz.underlying3 g1
        obtain ⟨t, ht, -⟩ := DataW.trod_int Tryz.underlying3 g2
        simp only [List.cons.injEq, and_true] at hk hid ht
        subst hk hid ht
        exact ⟨k, id, t, hs, ⟨e0, e1, e2⟩⟩
    obtain ⟨k0, id0, t0, hs0, -⟩ := each 0 (by omega)
    have ha : a = ⟨a.block, a.off, none⟩ := by simpa [Addr.add] using hs0
    obtain ⟨k, id, t, hs, hact⟩ := each j hj
    refine ⟨a.block, a.off, k, id, t, by rw [← ha], ?_⟩
    have e : a.add (j * 3) = ⟨a.block, a.off + j * 3, none⟩ := by rw [ha, add_at]
    rw [e] at hact
    exact hact
end
end Go.Proofs.YtegcnimekfanaaaGreat
