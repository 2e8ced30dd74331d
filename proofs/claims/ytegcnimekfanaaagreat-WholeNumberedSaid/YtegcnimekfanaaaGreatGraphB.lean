/-
  Package graph, walked: Remove.
-/
import Derived.Deep.DeepCutAuto
import Derived.Test.YtegcnimekfanaaaGreatGraphA
namespace Go.Proofs.YtegcnimekfanaaaGreat
open Go.RowKit

/-- x leaves the list of one who waits. -/
def Gr.drop (x : Int) (G : Gr) (y : Int) : Gr := G.set y ((G.of y).filter fun z => !decide (z = x))
def Gr.remove (G : Gr) (x : Int) : Gr := (Gr.waits (mdel G x)).foldl (Gr.drop x) (mdel G x)

theorem mdel_length {α : Type} (G : List (Int × α)) (x : Int) : (mdel G x).length ≤ G.length := List.length_filter_le _ _
theorem mins_length {α : Type} (q : Int × α) (G : List (Int × α)) : (mins q G).length = G.length + 1 := by
  induction G with
  | nil => rfl
  | cons r G ih => simp only [mins]; split <;> simp [ih]
theorem Gr.of_small {G : Gr} (h : G.small) (x : Int) : (G.of x).length ≤ 1000000 := by
  unfold Gr.of mget
  cases hf : G.find? fun p => p.1 == x with
  | none => simp
  | some q => exact h.2 q (List.mem_of_find?_eq_some hf)

theorem graph_del {w : World} {p mb : Nat} {G : Gr} {x : Int} (h : GraphAt w p mb G) (hx : I64 x) (ty : TypeId) :
    ∃ w', (Builtin.delete_ #[121, 3] ty #[.map (some mb), .int .i64 x]).run Tryz.prog w = .ok (.tuple #[]) w' ∧ GraphAt w' p mb (mdel G x) ∧ Ext [mb] w w' := by
  obtain ⟨hp, val, bo, hm, hvv⟩ := h
  have hpm : p ≠ mb := by
    rintro rfl
    obtain ⟨es, c, he⟩ := hm.map
    rw [hp] at he
    cases he
  obtain ⟨w4, hrun, hm4, hE4, -⟩ := hm.delete Tryz.underlying121 hx ty
  rw [mdel_map] at hm4
  refine ⟨w4, hrun, ⟨hE4.block hp (by simpa using hpm), val, bo, hm4, fun q hq => ?_⟩, hE4⟩
  obtain ⟨h1, g, c, h2, h3⟩ := hvv q (mem_mdel hq).1
  refine ⟨h1, g, c, h2, h3.ext hE4 fun b hb hmem => ?_⟩
  cases hb
  simp only [List.mem_singleton] at hmem
  obtain ⟨es, c, he⟩ := hm.map
  rw [← hmem] at he
  exact h3.not_map h1 he
theorem GraphAt.mapAt {w : World} {p mb : Nat} {G : Gr} (h : GraphAt w p mb G) : ∃ es c, w.heap[mb]? = some (.map es c) := by
  obtain ⟨hp, val, bo, hm, hv⟩ := h
  exact hm.map
theorem GraphAt.cell {w : World} {p mb : Nat} {G : Gr} (h : GraphAt w p mb G) : w.cell? ⟨p, 0, none⟩ = some (.map (some mb)) := cellOf (k := 0) h.1 rfl

set_option maxHeartbeats 1000000 in
theorem graph_Remove (w : World) (p mb : Nat) (G : Gr) (x : Int) (h : GraphAt w p mb G) (hx : I64 x)
    (hs : ∀ k, Gr.small (((Gr.waits (mdel G x)).take k).foldl (Gr.drop x) (mdel G x)) ∧ List.length (((Gr.waits (mdel G x)).take k).foldl (Gr.drop x) (mdel G x)) < 1000000)
    (hk : ∀ y ∈ Gr.waits G, I64 y) :
    Calls Tryz.prog 12 #[.pointer (some ⟨p, 0, none⟩), .int .i64 x] w fun e w' => e = .returned (.tuple #[]) ∧ GraphAt w' p mb (G.remove x) ∧ Ext [mb] w w' := by
  go_enter Tryz.func12, Tryz.ntmps12
  go_wp2_with fail
  have hg1 := (h.ext0 ((Ext.refl [] w).alloc (.cells #[.int .i64 x] 3))).ext0 (Ext.refl [] _).drew
  have hE1 := ((Ext.refl [] w).alloc (.cells #[.int .i64 x] 3))
  have hB := block_alloc_new w (.cells #[.int .i64 x] 3)
  generalize hw1 : w.alloc (.cells #[.int .i64 x] 3) = w1 at *
  have hBn : ∃ B, w.heap.size = B := ⟨_, rfl⟩
  obtain ⟨B, hBn⟩ := hBn
  rw [hBn] at hB ⊢
  have hBn := hid hBn
  clear hw1
  obtain ⟨w2, hrun, hg2, hE2⟩ := graph_del hg1 hx 0
  have c0 := hg1.cell
  have hBw : w1.cell? ⟨B, 0, none⟩ = some (.int .i64 x) := cellOf (k := 0) hB rfl
  have c1 : w1.drew.cell? ⟨B, 0, none⟩ = some (.int .i64 x) := hBw
  have hmB : B ≠ mb := by
    rintro rfl
    obtain ⟨es, c, he⟩ := hg1.mapAt
    have he : w1.heap[B]? = _ := he
    rw [hB] at he
    cases he
  have hB2 := hE2.block (w := w1.drew) hB (by simpa using hmB)
  have hs0 := hid hs
  clear hs
  go_cut [] (fun wc => w2 = wc)
  case first =>
    go_region_law (fail)
    all_goals
      go_wp2_with fail
      go_meet
      case rel => rfl
  case rest =>
  subst hcut
  clear hrun c0 c1
  go_wp2_with fail
  refine (graph_Waits w2 p mb _ hg2 (by have := (hs0.out 0).1.1; simpa using this)).mono ?_
  rintro e w3 ⟨v, rfl, hv, hE3⟩
  obtain ⟨ks, hks⟩ : ∃ ks, Gr.waits (mdel G x) = ks := ⟨_, rfl⟩
  rw [hks] at hv
  have hg3 := hg2.ext0 hE3
  obtain ⟨bo, hvat, hvb⟩ := hv.at
  have hnmb : ∀ b, bo = some b → b ∉ [mb] := by
    intro b hb hmem
    have h1 := (hv.lt (hvb.trans hb)).1
    simp only [List.mem_singleton] at hmem
    obtain ⟨es, c, he⟩ := hg2.mapAt
    have := lt_of_block he
    omega
  obtain ⟨a, c, rfl⟩ := hvat.form
  have hE13 : Ext [mb] w w3 := by
    have e1 : Ext [mb] w w1 := hE1.mono (by simp)
    have e2 : Ext [mb] w1 w2 := (Ext.refl [mb] w1).drew.trans hE2 (by simp)
    exact (e1.trans e2 (by simp)).nil_of hE3
  have hB3 := hE3.block hB2 (by simp)
  obtain ⟨n, hn⟩ : ∃ n, ks.length = n := ⟨_, rfl⟩
  have hnb : n ≤ 1000000 := by
    have h1 := (hs0.out 0).1.1
    simp only [List.take_zero, List.foldl_nil] at h1
    rw [← hn, ← hks]
    simpa [Gr.waits] using h1
  have hn0 := hid hn
  rw [hn]
  clear hn
  go_wp2_with fail
  go_loopw [5, 14] (fun _y i wr => ∃ k : Nat, k ≤ n ∧ i = .int .i64 k ∧ GraphAt wr p mb ((ks.take k).foldl (Gr.drop x) (mdel G x)) ∧ Ext [mb] w3 wr) (fun _ i _ => n - (intOf i).toNat)
  case atStart => exact ⟨0, by omega, rfl, by simpa using hg3, Ext.refl _ _⟩
  case round =>
    obtain ⟨k, hk1, rfl, hg, hE⟩ := hrel
    by_cases hlt : k < n
    · have hkl : k < ks.length := by rw [hn0.out]; exact hlt
      have hvk := hvat.ext hE hnmb
      have hBk := hE.block hB3 (by simpa using hmB)
      have htk : (ks.take (k + 1)).foldl (Gr.drop x) (mdel G x) = Gr.drop x ((ks.take k).foldl (Gr.drop x) (mdel G x)) ks[k] := by
        rw [List.take_succ_eq_append_getElem hkl, List.foldl_append]; rfl
      have hsk := hs0.out k
      rw [hks] at hsk
      obtain ⟨y, hy⟩ : ∃ y, ks[k] = y := ⟨_, rfl⟩
      have hyI : I64 y := by
        refine hk y ?_
        have h1 : y ∈ Gr.waits (mdel G x) := by rw [hks, ← hy]; exact List.getElem_mem hkl
        obtain ⟨q, hq, rfl⟩ := List.mem_map.1 h1
        exact List.mem_map.2 ⟨q, (mem_mdel hq).1, rfl⟩
      obtain ⟨Gk, hGk⟩ : ∃ Gk, (ks.take k).foldl (Gr.drop x) (mdel G x) = Gk := ⟨_, rfl⟩
      rw [hGk] at hg hsk htk
      rw [hy] at htk
      have htk := hid htk
      have hsl : (Gk.of y).length ≤ 1000000 := Gr.of_small hsk.1 y
      have hsk1 := hid hsk
      have hsl := hid hsl
      obtain ⟨b, off, rfl, rfl, hcell⟩ : ∃ b off, a = some ⟨b, off, none⟩ ∧ bo = some b ∧ wr.cell? ⟨b, off + k, none⟩ = some (.int .i64 y) := by
        obtain ⟨a', c', hv', h | ⟨b, off, h1, h2, h3⟩⟩ := hvk
        · rw [h.1] at hkl; simp at hkl
        · cases hv'
          refine ⟨b, off, h1, h2, ?_⟩
          rw [h3 k hkl, ← hy]
          simp [hkl]
      clear hsk hks hv hvat hvk hnmb hkl hGk hy hB hB2 hB3
      have hn0' := hn0
      go_wp2_with fail
      refine (graph_On wr p mb Gk y hg hsk1.out.1 hyI).mono ?_
      rintro e w4 ⟨v1, rfl, hr4, hE4⟩
      have hB4 := hE4.block hBk (by simp)
      have hub : ∀ g, v1.ownBlock = some g → wr.heap.size ≤ g := fun g hg => (hr4.lt hg).1
      go_wp2_with fail
      refine (ints_DeleteFunc hr4 hsl.out x B (fun g hg => by have := hub g hg; have := lt_of_block hBk; omega) (cellOf (k := 0) hB4 rfl)).mono ?_
      rintro e w5 ⟨v2, rfl, hr5, ho5, hE5⟩
      have hE45 : Ext [] wr w5 := hE4.trans hE5 (by intro g hg hlt; have := hub g (by simpa using hg); omega)
      obtain ⟨bo5, hat5, -⟩ := hr5.at
      have hform : ∀ a n c, v2 = .slice (some a) n c → ∃ b off, a = ⟨b, off, none⟩ := by
        intro a n c h
        rcases hr5.split with ⟨h', _⟩ | ⟨g, cap, cur, h', _⟩
        · rw [h'] at h; cases h
        · rw [h'] at h; cases h; exact ⟨_, _, rfl⟩
      go_wp2_with fail
      refine (graph_Set w5 p mb Gk y v2 bo5 _ (hg.ext0 hE45) hsk1.out.2 hyI hat5 hform (by have := hsl.out; have := List.length_filter_le (fun z => !decide (z = x)) (Gk.of y); omega)).mono ?_
      rintro e w6 ⟨rfl, hg6, hE6⟩
      have hEE : Ext [mb] w3 w6 := (hE.nil_of hE45).trans hE6 (by simp)
      clear hr4 hr5 hat5 hform hB4
      go_wp2
      go_roundw
      case rel => exact ⟨k + 1, by omega, by go_num, by rw [htk.out]; exact hg6, hEE⟩
      case measure => simp [intOf]; omega
    · obtain rfl : k = n := by omega
      go_wp2
      go_end0
      rw [List.take_of_length_le (by rw [hn0.out]; exact Nat.le_refl _)] at hg
      refine ⟨rfl, ?_, hE13.trans hE (by simp)⟩
      unfold Gr.remove
      rw [hks]
      exact hg
end Go.Proofs.YtegcnimekfanaaaGreat
