/-
  Package device, walked: Write.
-/
import Derived.Test.YtegcnimekfanaaaGreatDeviceA
namespace Go.Proofs.YtegcnimekfanaaaGreat
open Go.RowKit

theorem ETy.run_one {w : World} {b : Nat} {x y : Value} {T : TypeId} {fr : Nat × Nat} (hb : w.heap[b]? = some (.cells #[x, y] T fr)) (h1 : x.oneCell' = true) (h2 : y.oneCell' = true) {P : Program} {tx e' : TypeId} {c : Nat}
    (hk : P.underlying tx = some (.slice e')) : Src P 2 tx (.slice (some ⟨b, 0, none⟩) 1 c) 1 [x, y] w :=
  Src.ofSlice w hk _ 1 c [x, y] rfl (fun j u hj => by
    match j, hj with
    | 0, hj => simp at hj; subst hj; exact cellOf hb rfl
    | 1, hj => simp at hj; subst hj; exact cellOf (k := 1) hb rfl) (by simp [h1, h2])

def Dev.pad (t : ByteArray) : ByteArray := t ++ Dev.zero.extract t.size 64
def Dev.write (D : Dev) (i : Nat) (t : ByteArray) : Dev := if D.may then { D.call with cache := D.cache ++ [((i : Int), Dev.pad t)] } else D.call

theorem rows_apart {w : World} {e e' : TypeId} {size size' : Nat} {v v' : Value} {n n' : Nat} {xs xs' : List Value} (h : w.ownsRow 0 e size v n xs) (h' : w.ownsRow 0 e' size' v' n' xs') (hne : e ≠ e') {g : Nat}
    (hg : v.ownBlock = some g) : v'.ownBlock ≠ some g := by
  intro hg'
  rcases h.2 with ⟨rfl, _⟩ | ⟨g1, cap, cur, rfl, _, h1, _⟩
  · simp [Value.ownBlock] at hg
  · rcases h'.2 with ⟨rfl, _⟩ | ⟨g2, cap', cur', rfl, _, h2, _⟩
    · simp [Value.ownBlock] at hg'
    · simp [Value.ownBlock] at hg hg'
      subst hg
      subst hg'
      rw [h1] at h2
      simp at h2
      exact hne h2.2
theorem wrs_snoc (l : List (Int × ByteArray)) (x : Int) (t : ByteArray) : wrs (l ++ [(x, t)]) = wrs l ++ [.int .i64 x, .string t] := by simp [wrs]

/-- A write was appended to the cache, and the cache is stored. -/
theorem dev_write_close {w w1 w2 w3 : World} {p : Nat} {D : Dev} {vs vc : Value} {l c : Int} {d : Bool} {t : ByteArray} {i : Nat} {o : Obj} {g2 cap2 : Nat} (hs : w.ownsRow 0 9 1 vs D.sectors.length (strs D.sectors)) (hc : w.ownsRow 0 160 2 vc D.cache.length (wrs D.cache))
    (hsp : vs.ownBlock ≠ some p) (hcp : vc.ownBlock ≠ some p) (hE1 : Ext [p] w w1) (hz : Ext [] w1 w2) (hextB : Ext vc.ownBlock.toList (w2.alloc o) w3)
    (hpB : w3.heap[p]? = some (.cells #[vs, vc, .int .i64 l, .bool d, .int .i64 c] 150 (0, 0))) (hp : p < w.heap.size)
    (hownB : w3.ownsRow 0 160 2 (.slice (some ⟨g2, 0, none⟩) (D.cache.length + 1) cap2) (D.cache.length + 1) (wrs D.cache ++ [.int .i64 i, .string t])) (hgB : vc.ownBlock = some g2 ∨ g2 = (w2.alloc o).heap.size) :
    Goes w (w3.setCell ⟨p, 1, none⟩ (.slice (some ⟨g2, 0, none⟩) (D.cache.length + 1) cap2)) (p :: (vs.ownBlock.toList ++ vc.ownBlock.toList)) (fun w F => DevAt w p F ⟨D.sectors, D.cache ++ [((i : Int), t)], l, d, c⟩) := by
  have hpl := lt_of_block hpB
  have h12 := hE1.size
  have h23 := hz.size
  have hgp : g2 ≠ p := by
    rintro rfl
    rcases hgB with h | h
    · exact hcp h
    · simp at h; omega
  have hE3 : Ext vc.ownBlock.toList w1 w3 := (hz.alloc o |>.mono (T := vc.ownBlock.toList) (by simp)).trans hextB (fun x hx _ => hx)
  have hE : Ext (p :: (vs.ownBlock.toList ++ vc.ownBlock.toList)) w w3 :=
    (hE1.mono (by simp)).trans hE3 (fun x hx _ => by simp at hx; simp [hx])
  have hs3 : w3.ownsRow 0 9 1 vs D.sectors.length (strs D.sectors) := by
    refine hE3.row (hE1.row hs ?_) ?_
    · intro g hg hm; simp at hm; subst hm; exact hsp hg
    · intro g hg hm; exact rows_apart hs hc (by decide) hg (by simpa using hm)
  have hkeep : ∀ b, b ≠ p → (w3.setCell ⟨p, 1, none⟩ (.slice (some ⟨g2, 0, none⟩) (D.cache.length + 1) cap2)).heap[b]? = w3.heap[b]? := fun b hb => Below.heap_setCell _ _ _ _ hb
  refine ⟨p :: (vs.ownBlock.toList ++ [g2]), ⟨vs, _, block_setCell_same _ hpB, ?_, ?_, hsp, by simpa [Value.ownBlock] using hgp, by simp [Value.ownBlock]⟩, hE.setCell (.inl (by simp)) _, ?_⟩
  · exact ownsRow_of_block hs3 fun g hg => hkeep g (by rintro rfl; exact hsp hg)
  · rw [wrs_snoc, List.length_append]
    exact ownsRow_of_block hownB fun g hg => hkeep g (by simp [Value.ownBlock] at hg; omega)
  · intro x hx
    simp only [List.mem_cons, List.mem_append] at hx ⊢
    rcases hx with h | h | h
    · exact .inl (.inl h)
    · exact .inl (.inr (.inl h))
    · have h : x = g2 := by simpa using h
      subst h
      rcases hgB with h | h
      · exact .inl (.inr (.inr (by simp [h])))
      · simp at h; right; omega

set_option maxHeartbeats 400000 in
theorem dev_Write_ok (w : World) (p : Nat) (F : List Nat) (D : Dev) (i : Nat) (t : ByteArray) (h : DevAt w p F D) (hi : i < D.sectors.length) (_hn : D.sectors.length ≤ 65536) (ht : t.size ≤ 64) (hl : D.left ≤ 9223372036854775807)
    (hm : D.may = true) (hcl : D.cache.length ≤ 1000000) :
    Calls Tryz.prog 87 #[.pointer (some ⟨p, 0, none⟩), .int .i64 i, .string t] w fun e w' => e = .returned (.int .i64 0) ∧ Goes w w' F (fun w F => DevAt w p F (D.write i t)) := by
  obtain ⟨vs, vc, hp, hs, hc, hsp, hcp, rfl⟩ := h
  obtain ⟨a, c, rfl⟩ := slice_form hs
  have h0 := cellOf (k := 0) hp rfl
  have hz1 : decide ((i : Int) < 0) = false := by simp
  have hz2 : decide ((D.sectors.length : Int) ≤ i) = false := by simp; omega
  have hz3 : decide ((64 : Int) < t.size) = false := by simp; omega
  go_enter Tryz.func87, Tryz.ntmps87
  go_wp2_with fail
  refine (dev_call w p _ vc D hl hp).mono ?_
  rintro e w1 ⟨rfl, hE1, hp1⟩
  rw [hm]
  have hk1 := cellOf (k := 1) hp1 rfl
  have hf1 := freeOf (k := 1) hp1
  have hpw := lt_of_block hp
  clear h0 hp
  go_wp2_with fail
  have hrc1 := hE1.row hc (by intro g hg hmem; simp at hmem; subst hmem; exact hcp hg)
  have hrs1 := hE1.row hs (by intro g hg hmem; simp at hmem; subst hmem; exact hsp hg)
  have hvp : p ∉ vc.ownBlock.toList := by simpa using hcp
  have hk8 : D.cache.length + 1 ≤ maxLen := by simp only [maxLen]; omega
  have hk9 : (D.cache.length + 1) * 24 ≤ 140737488355328 := by omega
  have hzs : Dev.zero.size = 64 := by simp [Dev.zero, ByteArray.size]
  have hzt : (t.size : Int) ≤ 64 := by omega
  go_region_law (first | (go_simp; go_at_call 77; refine (dev_zeros _).mono ?_; rintro e w2 ⟨rfl, hz⟩; have hc1 : w2.cell? ⟨p, 1, none⟩ = some vc := (Ext.of_below hz).cell (by exact hk1) (by simp); have hc1a : ∀ o, (w2.alloc o).cell? ⟨p, 1, none⟩ = some vc := fun o => ((Ext.refl [] w2).alloc o).cell hc1 (by simp)) | (refine step_append_some (v := vc) _ (by rfl) (.tmp 32) (.tmp 41) 148 148 (by rfl) e148 (by rfl) (by exact ((Ext.of_below hz).row hrc1 (by simp)).alloc _) (by rfl) (by exact ETy.run_one (block_alloc_new _ _) (by rfl) (by rfl) Tryz.underlying148) (by omega) hk8 hk9 ?_; intro g2 cap2 w3 hownB hextB hgB; have hpB := hextB.block (block_alloc_old _ ((Ext.of_below hz).block (by exact hp1) (by simp))) hvp; have hcB := cellOf (k := 1) hpB rfl; have hfB := freeOf (k := 1) hpB))
  all_goals
    go_wp2
    go_ret
    refine ⟨rfl, ?_⟩
    have e : D.write i t = ⟨D.sectors, D.cache ++ [((i : Int), Dev.pad t)], D.call.left, D.call.down, D.call.calls⟩ := by
      simp only [Dev.write, hm, if_true, Dev.call]; split <;> (try split) <;> rfl
    rw [e]
    exact dev_write_close hs hc hsp hcp hE1 ((Ext.refl [] w1).drew.trans (Ext.of_below hz) (by simp)) hextB hpB hpw hownB hgB
end Go.Proofs.YtegcnimekfanaaaGreat
