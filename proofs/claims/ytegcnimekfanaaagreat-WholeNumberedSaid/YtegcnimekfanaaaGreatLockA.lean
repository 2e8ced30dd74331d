/-
  Package lock, walked at an empty table: New, Unqueue, get, Grant.
-/
import Derived.Deep.RegionLaw
import Derived.Test.YtegcnimekfanaaaGreatMapsS
import Derived.Test.YtegcnimekfanaaaGreatStepF
namespace Go.Proofs.YtegcnimekfanaaaGreat
open Go.RowKit

theorem e113 : ETy Tryz.prog 113 196 8 88 := ETy.of (z := .agg #[.int .i64 0, .int .i64 0, .string ⟨#[]⟩, .string ⟨#[]⟩, .int .i64 0, .int .i64 0, .string ⟨#[]⟩, .int .i64 0]) Tryz.underlying113 (by kernel_rfl) rfl (by decide)
theorem zero190 (w : World) : (zeroValue 190).run Tryz.prog w = .ok (.pointer none) w := Tryz.zeroValue190 w

theorem lock_New (w : World) : Calls Tryz.prog 40 #[] w fun e w' => ∃ tp mb, e = .returned (.pointer (some ⟨tp, 0, none⟩)) ∧ w'.heap[tp]? = some (.cells #[.map (some mb)] 167 (0, 0)) ∧ SMapAt w' mb [] ∧ Ext [] w w' ∧ w.heap.size ≤ mb := by
  have hmm := @run_makeMap Tryz.prog
  go_enter Tryz.func40, Tryz.ntmps40
  go_wp2
  go_ret
  exact ⟨_, _, rfl, block_alloc_new2 _ _ _, (SMapAt.made w).ext ((Ext.refl [] _).alloc _) (by simp), ((Ext.refl [] w).alloc _).alloc _, Nat.le_refl _⟩

set_option maxRecDepth 8000 in
theorem unqueue_none (w : World) (tp mb : Nat) (L : List (Bts × Value)) (s : ByteArray) (n : Int) (ht : w.heap[tp]? = some (.cells #[.map (some mb)] 167 (0, 0))) (hm : SMapAt w mb L) (hs : s.size ≤ maxLen) (hg : sget L s.data.toList = none) :
    Calls Tryz.prog 100 #[.pointer (some ⟨tp, 0, none⟩), .string s, .int .i64 n] w fun e w' => e = .returned (.bool false) ∧ Ext [] w w' := by
  have hE0 := (Ext.refl [] w).alloc (.cells #[.int .i64 n] 3)
  have hrun := (hm.ext hE0 (by simp)).lookup Tryz.underlying165 zero190 hs
  rw [hg, Option.getD_none] at hrun
  have c0 := cellOf (k := 0) (hE0.block ht (by simp)) rfl
  replace hs := hid hs
  replace hE0 := hid hE0
  clear hg
  go_enter Tryz.func100, Tryz.ntmps100
  go_wp2_with fail
  refine wp_region_plan (Ext [] _) [(0, true), (1, true), (2, true), (3, true), (4, true), (5, true), (6, true), (7, true), (8, false), (9, true), (10, true)] (by kernel_rfl) (by kernel_rfl) (fun _ _ _ _ _ h => h) (Ext.self_drew _) (fun hHeld => ?_)
  simp only [planOps, List.map_cons, List.map_nil, List.getElem?_toArray, List.getElem?_cons_succ, List.getElem?_cons_zero, Option.getD_some]
  repeat (first | (refine plan_skip (by rfl) ?_; simp only [Act.put, List.setIfInBounds_toArray, List.set_cons_zero, List.set_cons_succ]) | (refine plan_take (v := ?_) (by rfl) ?_ ?_; rotate_left; (· (intro w hSw; replace hSw := hSw.old.1; go_simp; try with_reducible rfl)); simp only [Act.put, List.setIfInBounds_toArray, List.set_cons_zero, List.set_cons_succ]))
  refine plan_end ?_
  go_wp2
  go_ret
  exact ⟨rfl, hE0.out.nil_of hHeld⟩

set_option maxRecDepth 8000 in
theorem get_none (w : World) (tp mb : Nat) (L : List (Bts × Value)) (s : ByteArray) (ht : w.heap[tp]? = some (.cells #[.map (some mb)] 167 (0, 0))) (hm : SMapAt w mb L) (hs : s.size ≤ maxLen) (hL : L.length < maxLen) (hg : sget L s.data.toList = none)
    (hg2 : ∀ v : Value, sget (sput L s.data.toList v) s.data.toList = some v) :
    Calls Tryz.prog 101 #[.pointer (some ⟨tp, 0, none⟩), .string s] w fun e w' => e = .returned (.pointer (some ⟨w.heap.size, 0, none⟩)) ∧ SMapAt w' mb (sput L s.data.toList (.pointer (some ⟨w.heap.size, 0, none⟩))) ∧
      w'.heap[w.heap.size]? = some (.cells #[.slice none 0 0, .slice none 0 0] 192 (0, 0)) ∧ Ext [mb] w w' := by
  have hrun := hm.lookup Tryz.underlying165 zero190 hs
  rw [hg, Option.getD_none] at hrun
  have c0 := cellOf (k := 0) ht rfl
  have hE1 := (Ext.refl [] w).alloc (.cells #[.slice none 0 0, .slice none 0 0] 192)
  obtain ⟨w2, hrun2, hm2, hE2, -⟩ := (hm.ext hE1 (by simp)).update Tryz.underlying165 hL hs (.pointer (some ⟨w.heap.size, 0, none⟩))
  have hrun3 := hm2.lookup Tryz.underlying165 zero190 hs
  rw [hg2, Option.getD_some] at hrun3
  have htm : tp ≠ mb := by
    rintro rfl
    obtain ⟨es, c, he⟩ := hm.map
    rw [ht] at he; cases he
  have ht2 := hE2.block (hE1.block ht (by simp)) (by simpa using htm)
  have c2 := cellOf (k := 0) ht2 rfl
  have hb2 := hE2.block (block_alloc_new w (.cells #[.slice none 0 0, .slice none 0 0] 192)) (by have := hm.lt; simp; omega)
  have hE := (hE1.mono (T := [mb]) (by simp)).trans hE2 (by simp)
  replace hm2 := hid hm2
  replace hb2 := hid hb2
  replace hE := hid hE
  replace hs := hid hs
  replace htm := hid htm
  clear hg hg2 hE1 hE2 ht2 hm ht
  go_enter Tryz.func101, Tryz.ntmps101
  go_wp2
  go_ret
  exact ⟨rfl, hm2.out, hb2.out, hE.out⟩

/-- One struct of so many cells, as what is appended. -/
theorem Src.struct {P : Program} {w : World} {tx e' : TypeId} (hk : P.underlying tx = some (.slice e')) {b c T n : Nat} {vs : List Value} {fr : Nat × Nat} (hb : w.heap[b]? = some (.cells vs.toArray T fr)) (hn : vs.length = n) (h1 : ∀ v ∈ vs, v.oneCell' = true) :
    Src P n tx (.slice (some ⟨b, 0, none⟩) 1 c) 1 vs w :=
  Src.ofSlice w hk _ 1 c vs (by omega) (fun j u hj => by
    have := cellOf (w := w) (k := j) hb (v := u) (by simpa using hj)
    have e : (⟨b, 0, none⟩ : Addr).add j = ⟨b, j, none⟩ := by simp [Addr.add]; omega
    rw [e]; exact this) h1

structure Lk where
  txn : Int
  step : Stp
@[reducible] def Lk.vs (l : Lk) : List Value := [.int .i64 l.txn, .int .i64 l.step.c.op, .string l.step.c.a, .string l.step.c.b, .int .i64 l.step.c.n, .int .i64 l.step.r.code, .string l.step.r.text, .int .i64 l.step.r.n]

theorem Lk.one (l : Lk) : ∀ v ∈ Lk.vs l, v.oneCell' = true := by
  intro v hv
  simp only [Lk.vs, List.mem_cons, List.not_mem_nil, or_false] at hv
  rcases hv with rfl | rfl | rfl | rfl | rfl | rfl | rfl | rfl <;> rfl

/-- The end of an append to the slice of nothing in a struct's first field. -/
theorem grant_close {w w2 w3 wa : World} {mb ob g c : Nat} {L : List (Bts × Value)} {vs : List Value} {u : Value} (hE : Ext [mb] w w2) (hm : SMapAt w2 mb L) (hb : w2.heap[ob]? = some (.cells #[.slice none 0 0, u] 192 (0, 0))) (how : w.heap.size ≤ ob)
    (hwa : Ext [] w2 wa) (hlt : w2.heap.size ≤ g) (hx : Ext (Value.slice none 0 0).ownBlock.toList wa w3) (hr : w3.ownsRow 0 196 8 (.slice (some ⟨g, 0, none⟩) 1 c) 1 vs) :
    SMapAt (w3.setCell ⟨ob, 0, none⟩ (.slice (some ⟨g, 0, none⟩) 1 c)) mb L ∧ (w3.setCell ⟨ob, 0, none⟩ (.slice (some ⟨g, 0, none⟩) 1 c)).heap[ob]? = some (.cells #[.slice (some ⟨g, 0, none⟩) 1 c, u] 192 (0, 0)) ∧
      (w3.setCell ⟨ob, 0, none⟩ (.slice (some ⟨g, 0, none⟩) 1 c)).ownsRow 0 196 8 (.slice (some ⟨g, 0, none⟩) 1 c) 1 vs ∧ Ext [mb] w (w3.setCell ⟨ob, 0, none⟩ (.slice (some ⟨g, 0, none⟩) 1 c)) := by
  have h3 : Ext [] w2 w3 := hwa.trans hx (by simp [Value.ownBlock])
  have hob := lt_of_block hb
  have h4 : Ext [ob] w2 (w3.setCell ⟨ob, 0, none⟩ (.slice (some ⟨g, 0, none⟩) 1 c)) := (h3.mono (by simp)).setCell (.inl (by simp)) _
  have hne : mb ≠ ob := by
    rintro rfl
    obtain ⟨es, c', he⟩ := hm.map
    rw [hb] at he; cases he
  refine ⟨hm.ext h4 (by simpa using hne), ?_, ?_, hE.trans h4 (by simp; omega)⟩
  · have := block_setCell_same (k := 0) (.slice (some ⟨g, 0, none⟩) 1 c) (h3.block hb (by simp))
    simpa using this
  · exact ownsRow_of_block hr (fun g' hg' => by
      obtain rfl : g = g' := by simpa [Value.ownBlock] using hg'
      exact Below.heap_setCell _ _ _ _ (by show g ≠ ob; omega))

set_option maxRecDepth 8000 in
set_option maxHeartbeats 1000000 in
theorem grant_none (w : World) (tp mb : Nat) (s : ByteArray) (n : Int) (x : Stp) (ht : w.heap[tp]? = some (.cells #[.map (some mb)] 167 (0, 0))) (hm : SMapAt w mb []) (hs : s.size ≤ maxLen) :
    Calls Tryz.prog 53 #[.pointer (some ⟨tp, 0, none⟩), .string s, .int .i64 n, x.v] w fun e w' => e = .returned (.tuple #[]) ∧ ∃ ob g c, SMapAt w' mb [(s.data.toList, .pointer (some ⟨ob, 0, none⟩))] ∧
      w'.heap[ob]? = some (.cells #[.slice (some ⟨g, 0, none⟩) 1 c, .slice none 0 0] 192 (0, 0)) ∧ w'.ownsRow 0 196 8 (.slice (some ⟨g, 0, none⟩) 1 c) 1 (Lk.vs ⟨n, x⟩) ∧ Ext [mb] w w' ∧ w.heap.size ≤ ob ∧ w.heap.size ≤ g := by
  obtain ⟨⟨xo, xa, xb, xn⟩, ⟨xc, xt, xm⟩⟩ := x
  simp only [Stp.v, Lk.vs]
  have hE0 := (Ext.refl [] w).alloc (.cells #[.int .i64 xo, .string xa, .string xb, .int .i64 xn, .int .i64 xc, .string xt, .int .i64 xm] 92)
  have hb0 := block_alloc_new w (.cells #[.int .i64 xo, .string xa, .string xb, .int .i64 xn, .int .i64 xc, .string xt, .int .i64 xm] 92)
  go_enter Tryz.func53, Tryz.ntmps53
  go_wp2_with fail
  refine (unqueue_none _ tp mb [] s n (hE0.block ht (by simp)) (hm.ext hE0 (by simp)) hs rfl).mono ?_
  rintro e w1 ⟨rfl, hE1⟩
  go_wp2_with fail
  refine (get_none _ tp mb [] s (hE1.block (hE0.block ht (by simp)) (by simp)) ((hm.ext hE0 (by simp)).ext hE1 (by simp)) hs (by simp [maxLen]) rfl (by simp [sput, sdel, sins, sget])).mono ?_
  rintro e w2 ⟨rfl, hm2, hb2, hE2⟩
  go_wp2_with fail
  have hbx := hE2.block (hE1.block hb0 (by simp)) (by have := hm.lt; simp; omega)
  have hob := lt_of_block hb2
  have hE := ((hE0.nil_of hE1).mono (T := [mb]) (by simp)).trans hE2 (by simp)
  have hmb := hm2.map
  have a0 := cellOf (k := 0) hbx rfl
  have a1 := cellOf (k := 1) hbx rfl
  have a2 := cellOf (k := 2) hbx rfl
  have a3 := cellOf (k := 3) hbx rfl
  have a4 := cellOf (k := 4) hbx rfl
  have a5 := cellOf (k := 5) hbx rfl
  have a6 := cellOf (k := 6) hbx rfl
  have b0 := cellOf (k := 0) hb2 rfl
  have f0 := freeOf (k := 0) hb2
  have hsz1 := hE0.size
  have hsz2 := hE1.size
  have hobw : w.heap.size ≤ w1.heap.size := by simp at hsz1 hsz2; omega
  clear hbx hb0 hsz1 hsz2
  replace hmb := hid hmb
  replace hE := hid hE
  generalize w1.heap.size = ob at *
  go_region_law (refine step_append_some (v := .slice none 0 0) _ (by rfl) (.tmp 20) (.tmp 24) 113 113 (by rfl) e113 (by rfl) (World.ownsRow_nil _ _ _ _) (by rfl) (by exact Src.struct (vs := Lk.vs ⟨n, ⟨⟨xo, xa, xb, xn⟩, ⟨xc, xt, xm⟩⟩⟩) Tryz.underlying113 (block_alloc_new _ _) rfl (Lk.one _)) (by omega) (by simp [maxLen]) (by omega) ?_; intro g2 cap2 w3 hownB hextB hgB; have hpB := hextB.block (block_alloc_old _ hb2) (by simp [Value.ownBlock]); have hcB := cellOf (k := 0) hpB rfl; have hfB := freeOf (k := 0) hpB)
  all_goals
    go_wp2
    go_end0
    refine ⟨rfl, ob, g2, cap2, ?_⟩
    have hg2 : w2.heap.size ≤ g2 := by
      rcases hgB with h | h
      · cases h
      · rw [h]; simp
    have hfin := grant_close hE.out hm2 hb2 hobw (by first | exact ((Ext.refl [] w2).alloc _).drew | exact ((Ext.refl [] w2).drew).alloc _) hg2 hextB hownB
    have hsz := hE.out.size
    exact ⟨hfin.1, hfin.2.1, hfin.2.2.1, hfin.2.2.2, hobw, by omega⟩
end Go.Proofs.YtegcnimekfanaaaGreat
