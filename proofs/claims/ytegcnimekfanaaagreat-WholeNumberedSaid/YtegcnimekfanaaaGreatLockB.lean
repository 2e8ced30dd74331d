/-
  Package lock, walked: Blockers of an object of which one step is held.
-/
import Derived.LoopN
import Derived.Test.YtegcnimekfanaaaGreatLockA
import Derived.Test.YtegcnimekfanaaaGreatClockD
namespace Go.Proofs.YtegcnimekfanaaaGreat
open Go.RowKit

theorem lock_IndexFunc_nil (w : World) (c : Nat) (f : Value) : Calls Tryz.prog 140 #[.slice none 0 c, f] w fun e w' => e = .returned (.int .i64 (-1)) ∧ w = w' := by
  go_enter Tryz.func140, Tryz.ntmps140
  go_wp2_with fail
  refine wp_loop_rounds 1 ?_
  rw [rounds_succ]
  go_wp2
  go_ret
  exact ⟨rfl, rfl⟩
theorem place_nil (w : World) (c : Nat) (n : Int) : Calls Tryz.prog 97 #[.slice none 0 c, .int .i64 n] w fun e w' => e = .returned (.int .i64 (-1)) ∧ Ext [] w w' := by
  go_enter Tryz.func97, Tryz.ntmps97
  go_wp2_with fail
  refine (lock_IndexFunc_nil _ _ _).mono ?_
  rintro e w1 ⟨rfl, rfl⟩
  go_wp2
  go_ret
  exact ⟨rfl, (Ext.refl [] w).alloc _⟩

set_option maxRecDepth 8000 in
set_option maxHeartbeats 2000000 in
theorem blockers_one (w : World) (tp mb ob g c : Nat) (s : ByteArray) (m n : Int) (x y : Stp) (ht : w.heap[tp]? = some (.cells #[.map (some mb)] 167 (0, 0))) (hm : SMapAt w mb [(s.data.toList, .pointer (some ⟨ob, 0, none⟩))]) (hs : s.size ≤ maxLen)
    (ho : w.heap[ob]? = some (.cells #[.slice (some ⟨g, 0, none⟩) 1 c, .slice none 0 0] 192 (0, 0))) (hr : w.ownsRow 0 196 8 (.slice (some ⟨g, 0, none⟩) 1 c) 1 (Lk.vs ⟨m, x⟩)) (hne : m ≠ n) (hc : conflict x y = true) :
    Calls Tryz.prog 50 #[.pointer (some ⟨tp, 0, none⟩), .string s, .int .i64 n, y.v] w fun e w' => ∃ u, e = .returned u ∧ IntRow w' w.heap.size u [m] ∧ Ext [] w w' := by
  have cc := commute_Conflict x y
  rw [hc] at cc
  clear hc
  obtain ⟨⟨xo, xa, xb, xn⟩, ⟨xc, xt, xm⟩⟩ := x
  obtain ⟨⟨yo, ya, yb, yn⟩, ⟨yc, yt, ym⟩⟩ := y
  simp only [Stp.v, Lk.vs] at cc hr ⊢
  have hE0 := (Ext.refl [] w).alloc (.cells #[.int .i64 yo, .string ya, .string yb, .int .i64 yn, .int .i64 yc, .string yt, .int .i64 ym] 92)
  have hrun := (hm.ext hE0 (by simp)).lookup Tryz.underlying165 zero190 hs
  have hsg : ((sget [(s.data.toList, Value.pointer (some ⟨ob, 0, none⟩))] s.data.toList).getD (.pointer none)) = .pointer (some ⟨ob, 0, none⟩) := by simp [sget]
  rw [hsg] at hrun
  have t0 := cellOf (k := 0) (hE0.block ht (by simp)) rfl
  have o0 := cellOf (k := 0) (hE0.block ho (by simp)) rfl
  have o1 := cellOf (k := 1) (hE0.block ho (by simp)) rfl
  have hne0 : (m != n) = true := by simpa using hne
  replace hs := hid hs
  replace hE0 := hid hE0
  replace hne := hid hne
  clear hsg hm ht
  go_enter Tryz.func50, Tryz.ntmps50
  go_wp2_with fail
  refine (place_nil _ _ _).mono ?_
  rintro e w1 ⟨rfl, hE1⟩
  have o0' := hE1.cell o0 (by simp)
  have gc : ∀ k v, [.int .i64 m, .int .i64 xo, .string xa, .string xb, .int .i64 xn, .int .i64 xc, .string xt, .int .i64 xm][k]? = some v → w.cell? ⟨g, k, none⟩ = some v := fun k v hk => by
    have := hr.cells (g := g) rfl k v hk
    have e : (⟨g, 0, none⟩ : Addr).add k = ⟨g, k, none⟩ := by simp [Addr.add]; omega
    rwa [e] at this
  have hE2 := (hE0.out.nil_of hE1).alloc (.cells #[.slice (some ⟨g, 0, none⟩) 1 c, .slice none 0 0] 113)
  have g0 := hE2.cell (gc 0 _ rfl) (by simp)
  have g1 := hE2.cell (gc 1 _ rfl) (by simp)
  have g2 := hE2.cell (gc 2 _ rfl) (by simp)
  have g3 := hE2.cell (gc 3 _ rfl) (by simp)
  have g4 := hE2.cell (gc 4 _ rfl) (by simp)
  have g5 := hE2.cell (gc 5 _ rfl) (by simp)
  have g6 := hE2.cell (gc 6 _ rfl) (by simp)
  have g7 := hE2.cell (gc 7 _ rfl) (by simp)
  have hby := hE1.block (block_alloc_new w (.cells #[.int .i64 yo, .string ya, .string yb, .int .i64 yn, .int .i64 yc, .string yt, .int .i64 ym] 92)) (by simp)
  have y0 := cellOf (k := 0) hby rfl
  have y1 := cellOf (k := 1) hby rfl
  have y2 := cellOf (k := 2) hby rfl
  have y3 := cellOf (k := 3) hby rfl
  have y4 := cellOf (k := 4) hby rfl
  have y5 := cellOf (k := 5) hby rfl
  have y6 := cellOf (k := 6) hby rfl
  have hlty := lt_of_block hby
  have hltg := lt_of_cell g0
  simp only [World.size_alloc] at hltg
  clear hrun t0 o1 gc hby
  go_wp2_with fail
  refine wp_loop_rounds 3 ?_
  rw [rounds_succ]
  go_wp2_with fail
  refine wp_loop_rounds 2 ?_
  rw [rounds_succ]
  go_wp2_with fail
  refine (cc _).mono ?_
  rintro e w4 ⟨rfl, hE4⟩
  have hE4' := (hE2.alloc (.cells #[.int .i64 m, .int .i64 xo, .string xa, .string xb, .int .i64 xn, .int .i64 xc, .string xt, .int .i64 xm] 196)).nil_of hE4
  have hb16 := hE4.block (block_alloc_new2 w1 (.cells #[.slice (some ⟨g, 0, none⟩) 1 c, .slice none 0 0] 113) (.cells #[.int .i64 m, .int .i64 xo, .string xa, .string xb, .int .i64 xn, .int .i64 xc, .string xt, .int .i64 xm] 196)) (by simp)
  have hb42 := hE4.block (block_alloc_old (.cells #[.int .i64 m, .int .i64 xo, .string xa, .string xb, .int .i64 xn, .int .i64 xc, .string xt, .int .i64 xm] 196) (block_alloc_new w1 (.cells #[.slice (some ⟨g, 0, none⟩) 1 c, .slice none 0 0] 113))) (by simp)
  have l0 := cellOf (k := 0) hb16 rfl
  have hlt4 := lt_of_block hb42
  clear g0 g1 g2 g3 g4 g5 g6 g7 y0 y1 y2 y3 y4 y5 y6 o0 o0' hb16 cc hE2 hE1 hE4
  go_wp2_with (at_builtin; refine wl_append_some (v := .slice none 0 0) _ rfl (.tmp 64) (.tmp 67) 27 27 rfl ety27 rfl (World.ownsRow_nil _ _ _ _) rfl (Src.one Tryz.underlying27 (block_alloc_new _ _) rfl) (by omega) ?_ ?_ ?_)
  case refine_1 => simp only [maxLen]; omega
  case refine_2 => omega
  intro g6 c6 w6 hrow6 hX6 hg6
  have hb42' := (((Ext.refl [] w4).alloc (.cells #[.int .i64 m] 3)).trans hX6 (by simp [Value.ownBlock])).block hb42 (by simp)
  have p1 := cellOf (k := 1) hb42' rfl
  have hE6 := (hE4'.alloc (.cells #[.int .i64 m] 3)).trans hX6 (by simp [Value.ownBlock])
  have hg60 : w.heap.size ≤ g6 := by
    rcases hg6 with h | h
    · cases h
    · have := hE4'.size; omega
  have hrow : IntRow w6 w.heap.size (.slice (some ⟨g6, 0, none⟩) 1 c6) [m] := IntRow.of_row hrow6 (fun g' hg' => by
    obtain rfl : g6 = g' := by simpa [Value.ownBlock] using hg'
    exact hg60)
  replace hrow := hid hrow
  clear hb42 hb42' hrow6 hX6 hg6 l0 hlt4
  go_wp2_with fail
  rw [rounds_succ]
  go_wp2_with fail
  rw [rounds_succ]
  go_wp2_with fail
  refine wp_loop_rounds 1 ?_
  rw [rounds_succ]
  go_wp2_with fail
  rw [rounds_succ]
  go_wp2_with fail
  refine (ints_Sort hrow.out (by simp)).mono ?_
  rintro e w7 ⟨rfl, h7, hE7⟩
  have e1 : isort [m] = [m] := isort_of_rising (by simp)
  rw [e1] at h7
  replace h7 := hid h7
  go_wp2_with fail
  refine (ints_Compact h7.out (by simp)).mono ?_
  rintro e w8 ⟨u8, rfl, h8, -, hE8⟩
  have e2 : Lib.compact [m] = [m] := rfl
  rw [e2] at h8
  replace h8 := hid h8
  go_wp2
  go_ret
  exact ⟨_, rfl, h8.out, (hE6.trans hE7 (by simp [Value.ownBlock]; omega)).trans hE8 (by simp [Value.ownBlock]; omega)⟩
end Go.Proofs.YtegcnimekfanaaaGreat
