/-
  WholeNumbered's own closures: one, named, far; ContainsFunc at far.
-/
import Derived.Test.YtegcnimekfanaaaGreatClockD
namespace Go.Proofs.YtegcnimekfanaaaGreat
open Go.RowKit

def one (n : Int) : Int := 2 * n + 1
def far (n : Int) : Bool := decide (n < -1099511627776) || decide (n > 1099511627776)
theorem near_of {n : Int} (h : far n = false) : -1099511627776 ≤ n ∧ n ≤ 1099511627776 := by
  simp [far] at h; omega

theorem law_one (w : World) (n : Int) (h : -1099511627776 ≤ n ∧ n ≤ 1099511627776) : Calls Tryz.prog 7 #[.int .i64 n] w fun e w' => e = .returned (.int .i64 (one n)) ∧ w = w' := by
  go_enter Tryz.func7, Tryz.ntmps7
  go_wp2
  go_ret
  exact ⟨ret_int (by simp [one]), rfl⟩
theorem law_far (w : World) (n : Int) : Calls Tryz.prog 9 #[.int .i64 n] w fun e w' => e = .returned (.bool (far n)) ∧ w = w' := by
  by_cases h : n < -1099511627776
  · go_enter Tryz.func9, Tryz.ntmps9
    go_wp2
    go_ret
    exact ⟨by simp [far, h], rfl⟩
  · go_enter Tryz.func9, Tryz.ntmps9
    go_wp2
    go_ret
    have e : far n = decide (n > 1099511627776) := by unfold far; rw [decide_eq_false (show ¬ n < -1099511627776 by omega)]; simp
    exact ⟨by rw [e]; rfl, rfl⟩

set_option maxRecDepth 8000 in
/-- named: each number's other one. -/
theorem law_named (w : World) (v : Value) (bo : Option Nat) (xs : List Int) (B : Nat) (h : IntsAt w v bo xs) (hB : w.cell? ⟨B, 0, none⟩ = some (.func (.func 7) #[] #[])) (hl : xs.length ≤ 900000) (hx : ∀ x ∈ xs, -1099511627776 ≤ x ∧ x ≤ 1099511627776) :
    Calls Tryz.prog 8 #[v, .pointer (some ⟨B, 0, none⟩)] w fun e w' => ∃ u, e = .returned u ∧ IntRow w' w.heap.size u (xs.map one) ∧ Ext [] w w' := by
  obtain ⟨a, c, rfl⟩ := h.form
  obtain ⟨n, hn⟩ : ∃ n, xs.length = n := ⟨_, rfl⟩
  rw [hn] at hl h ⊢
  replace hn := hid hn
  go_enter Tryz.func8, Tryz.ntmps8
  go_wp2_with fail
  go_loopg [4, 6, 9] n (fun k s4 _s6 s9 wr => ∃ j : Nat, j + k = n ∧ s9 = .int .i64 (j : Int) ∧ wr.ownsRow 0 3 1 s4 j (izs ((xs.take j).map one)) ∧ (∀ g, s4.ownBlock = some g → w.heap.size ≤ g) ∧ Ext [] w wr)
  case atStart => exact ⟨0, by omega, rfl, World.ownsRow_nil _ _ _ _, by simp [Value.ownBlock], Ext.refl _ _⟩
  case round =>
    obtain ⟨j, hjk, rfl, hrow, hrb, hE⟩ := hrel
    by_cases hlt : j < n
    · have hkl : j < xs.length := by rw [hn.out]; exact hlt
      obtain ⟨kk, rfl⟩ : ∃ kk, gk = kk + 1 := ⟨gk - 1, by omega⟩
      have hcB := hE.cell hB (by simp)
      obtain ⟨b, off, rfl, hcell⟩ : ∃ b off, a = some ⟨b, off, none⟩ ∧ wr.cell? ⟨b, off + j, none⟩ = some (.int .i64 xs[j]) := by
        obtain ⟨a', c', hv', h' | ⟨b, off, h1, h2, h3⟩⟩ := h.ext hE (by simp)
        · rw [h'.1] at hkl; simp at hkl
        · cases hv'
          refine ⟨b, off, h1, ?_⟩
          rw [h3 j hkl]
          simp [hkl]
      have hxb := hx xs[j] (List.getElem_mem hkl)
      have htk : (xs.take (j + 1)).map one = (xs.take j).map one ++ [one xs[j]] := by
        rw [List.take_succ_eq_append_getElem hkl, List.map_append]; rfl
      obtain ⟨y, hy⟩ : ∃ y, xs[j] = y := ⟨_, rfl⟩
      rw [hy] at hcell hxb htk
      replace htk := hid htk
      have c1 := law_one wr y hxb
      obtain ⟨a4, c4, rfl⟩ := slice_form hrow
      replace hxb := hid hxb
      clear hy hkl
      go_wp2_with fail
      refine c1.mono ?_
      rintro e w2 ⟨rfl, rfl⟩
      clear c1
      go_wp2_with (at_builtin; refine wl_append_some (v := .slice a4 j c4) _ rfl (.tmp 13) (.tmp 17) 27 27 rfl ety27 rfl (hrow.alloc _) rfl (Src.one Tryz.underlying27 (block_alloc_new _ _) rfl) (by omega) ?_ ?_ ?_)
      case refine_1 => simp only [maxLen]; omega
      case refine_2 => omega
      intro g6 c6 w6 hrow6 hX6 hg6
      have hg60 : w.heap.size ≤ g6 := by
        rcases hg6 with h | h
        · exact hrb g6 h
        · have := hE.size; omega
      have hE6 : Ext [] w w6 := (hE.alloc (.cells #[.int .i64 (one y)] 3)).trans hX6 (by
        intro b hb hlt'
        have := hrb b (by simpa using hb)
        omega)
      have hrow7 : w6.ownsRow 0 3 1 (.slice (some ⟨g6, 0, none⟩) (j + 1) c6) (j + 1) (izs ((xs.take (j + 1)).map one)) := by
        rw [htk.out, izs_snoc, List.map_take]; exact hrow6
      have hrb7 : ∀ g', (Value.slice (some ⟨g6, 0, none⟩) (j + 1) c6).ownBlock = some g' → w.heap.size ≤ g' := fun g' hg' => by
        obtain rfl : g6 = g' := by simpa [Value.ownBlock] using hg'
        exact hg60
      replace hrow7 := hid hrow7
      replace hrb7 := hid hrb7
      clear hrow6 hX6 hg6 hrow
      go_wp2
      go_roundg kk
      case measure => omega
      case rel => exact ⟨j + 1, by omega, by go_num, hrow7.out, hrb7.out, hE6⟩
    · obtain rfl : j = n := by omega
      obtain ⟨a4, c4, rfl⟩ := slice_form hrow
      have hfin : IntRow wr w.heap.size (.slice a4 j c4) (xs.map one) := by
        refine IntRow.of_row ?_ hrb
        rw [List.length_map, hn.out]
        rw [List.take_of_length_le (by rw [hn.out]; exact Nat.le_refl _)] at hrow
        exact hrow
      go_wp2
      go_ret
      exact ⟨_, rfl, hfin, hE⟩

theorem law_anyFar (w : World) (v : Value) (bo : Option Nat) (xs : List Int) (h : IntsAt w v bo xs) (hl : xs.length ≤ 9223372036854775807) :
    Calls Tryz.prog 11 #[v, .func (.func 9) #[] #[]] w fun e w' => e = .returned (.bool (xs.any far)) ∧ ∃ q, w' = w.drewN q := by
  have eg : ∀ args w, (callFunc 9 args).run Tryz.prog w = .ok (.enter 9 args) w := enters_of Tryz.func9 (by kernel_rfl) rfl
  obtain ⟨a, c, rfl, ⟨rfl, -⟩ | ⟨b, off, rfl, -, hc⟩⟩ := h
  · exact (AnyE.slices_ContainsFunc_empty Tryz.l11 a c _ w).mono fun e w' ⟨h1, h2⟩ => ⟨by simpa using h1, 0, h2⟩
  · have := AnyE.slices_ContainsFunc Tryz.l11 (Value.int .i64) far 9 #[] eg b off xs.length c xs w (fun W z _ => (law_far W z).mono fun e w' ⟨h1, h2⟩ => ⟨h1, 0, h2.symm⟩) (Nat.le_refl _) hl (fun j hj => by
      rw [hc j hj]; simp [hj])
    rw [List.take_of_length_le (Nat.le_refl _)] at this
    exact this
end Go.Proofs.YtegcnimekfanaaaGreat
