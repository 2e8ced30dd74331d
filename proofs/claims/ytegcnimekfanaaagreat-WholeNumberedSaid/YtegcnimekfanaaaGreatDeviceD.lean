/-
  Package device, walked: Crash.
-/
import Derived.Test.YtegcnimekfanaaaGreatDeviceC
import Derived.Test.YtegcnimekfanaaaGreatInts
namespace Go.Proofs.YtegcnimekfanaaaGreat
open Go.RowKit

/-- The writes whose places are chosen, from the place j on. -/
def Dev.chosen (ks : List Int) : Nat → List (Int × ByteArray) → List (Int × ByteArray)
  | _, [] => []
  | j, x :: r => if ks.contains (j : Int) then x :: Dev.chosen ks (j + 1) r else Dev.chosen ks (j + 1) r
theorem Dev.chosen_append (ks : List Int) : ∀ (j : Nat) (l : List (Int × ByteArray)) (x : Int × ByteArray),
    Dev.chosen ks j (l ++ [x]) = Dev.chosen ks j l ++ (if ks.contains ((j + l.length : Nat) : Int) then [x] else [])
  | j, [], x => by simp [Dev.chosen]
  | j, y :: r, x => by
    have := Dev.chosen_append ks (j + 1) r x
    have e : j + 1 + r.length = j + (r.length + 1) := by omega
    simp only [List.cons_append, Dev.chosen, this, List.length_cons, e]
    split <;> rfl
def Dev.crash (D : Dev) (ks : List Int) : Dev := { sectors := Dev.lay D.sectors (Dev.chosen ks 0 D.cache), cache := [], left := -1, down := false, calls := D.calls }

set_option maxHeartbeats 400000 in
theorem dev_Crash (w : World) (p : Nat) (F : List Nat) (D : Dev) (kv : Value) (bo : Option Nat) (ks : List Int) (h : DevAt w p F D) (hn : 0 < D.sectors.length) (_hn1 : D.sectors.length ≤ 65536)
    (hcl : D.cache.length ≤ 1000000) (hin : ∀ x ∈ D.cache, 0 ≤ x.1 ∧ x.1 < D.sectors.length) (hk : IntsAt w kv bo ks) (hkb : ∀ b, bo = some b → b ∉ F) (hkl : ks.length ≤ 9223372036854775807) :
    Calls Tryz.prog 35 #[.pointer (some ⟨p, 0, none⟩), kv] w fun e w' => e = .returned (.tuple #[]) ∧ Goes w w' F (fun w F => DevAt w p F (D.crash ks)) := by
  obtain ⟨vs, vc, hp, hs, hc, hsp, hcp, rfl⟩ := h
  obtain ⟨n, hD⟩ : ∃ n, D.sectors.length = n := ⟨_, rfl⟩
  obtain ⟨m, hM⟩ : ∃ m, D.cache.length = m := ⟨_, rfl⟩
  rw [hD] at hn hs hin
  rw [hM] at hcl hc
  have HD := hid hD
  have HM := hid hM
  clear hD hM
  obtain ⟨g, c, rfl⟩ := slice_some hs hn
  obtain ⟨a, cc, rfl⟩ := slice_form hc
  have hpw := lt_of_block hp
  have hk1 := cellOf (k := 1) hp rfl
  have hgp : g ≠ p := by simpa [Value.ownBlock] using hsp
  have hkp : ∀ b, bo = some b → b ∉ [p, g] := fun b hb hm => hkb b hb (by simp at hm; simp [Value.ownBlock]; rcases hm with h | h <;> simp [h])
  go_enter Tryz.func35, Tryz.ntmps35
  go_wp2_with fail
  go_loopw [4, 5, 11] (fun _i _t i wr => ∃ k : Nat, k ≤ m ∧ i = .int .i64 k ∧ Ext [p, g] w wr ∧
    wr.heap[p]? = some (.cells #[.slice (some ⟨g, 0, none⟩) n c, .slice a m cc, .int .i64 D.left, .bool D.down, .int .i64 D.calls] 150 (0, 0)) ∧
    wr.ownsRow 0 9 1 (.slice (some ⟨g, 0, none⟩) n c) n (strs (Dev.lay D.sectors (Dev.chosen ks 0 (D.cache.take k)))) ∧ wr.ownsRow 0 160 2 (.slice a m cc) m (wrs D.cache)) (fun _ _ i _ => m - (intOf i).toNat)
  case atStart => exact ⟨0, by omega, rfl, Ext.refl _ _, hp, by simpa [Dev.lay, Dev.chosen] using hs, hc⟩
  case round =>
    clear hp hs hc hk1
    obtain ⟨k, hk', rfl, hE, hpk, hrs, hrc⟩ := hrel
    have h0 := cellOf (k := 0) hpk rfl
    have hkr := hk.ext hE hkp
    by_cases hlt : k < m
    · obtain ⟨g1, cc1, hgc⟩ := slice_some hrc (by omega)
      simp only [Value.slice.injEq] at hgc
      obtain ⟨rfl, -, -⟩ := hgc
      have hlt' : k < D.cache.length := by rw [HM.out]; exact hlt
      have hw := wrs_at D.cache k hlt'
      have hx := hin _ (List.getElem_mem hlt')
      have htk : D.cache.take (k + 1) = D.cache.take k ++ [D.cache[k]] := List.take_succ_eq_append_getElem hlt'
      obtain ⟨⟨xa, xt⟩, hxx⟩ : ∃ x, D.cache[k] = x := ⟨_, rfl⟩
      rw [hxx] at hw hx htk
      obtain ⟨xn, hxn⟩ : ∃ xn : Nat, xa = xn := ⟨xa.toNat, by omega⟩
      subst hxn
      have hxi : xn < n := by omega
      have hl1 := congrArg (Dev.chosen ks 0) htk
      rw [Dev.chosen_append, Nat.zero_add, show (D.cache.take k).length = k by simp; omega] at hl1
      have HL := hid hl1
      have c1 := (ownsRow_cell hrc hw.1).1
      have c2 := (ownsRow_cell hrc hw.2).1
      have hlen : (strs (Dev.lay D.sectors (Dev.chosen ks 0 (D.cache.take k)))).length = n := by rw [strs_length, Dev.lay_length, HD.out]
      clear hl1 htk hw hx hxx
      go_wp2_with fail
      have hE2 := hE.alloc (.cells #[.int .i64 xn, .string xt] 160)
      have hp2 := block_alloc_old (.cells #[.int .i64 xn, .string xt] 160) hpk
      have hrs2 := hrs.alloc (.cells #[.int .i64 xn, .string xt] 160)
      have hrc2 := hrc.alloc (.cells #[.int .i64 xn, .string xt] 160)
      have hN2 := block_alloc_new wr (.cells #[.int .i64 xn, .string xt] 160)
      have hkr2 := hkr.ext ((Ext.refl [] wr).alloc (.cells #[.int .i64 xn, .string xt] 160)) (by simp)
      have hNp : p ≠ wr.heap.size := by have := lt_of_block hpk; omega
      have hNg : g ≠ wr.heap.size := by have := (hrs.lt g rfl).2; omega
      generalize hw2 : wr.alloc (.cells #[.int .i64 xn, .string xt] 160) = w2 at *
      generalize hNN : wr.heap.size = N at *
      clear hw2 hNN h0 hpk hrs hrc c1 c2 hkr
      have h0 := cellOf (k := 0) hp2 rfl
      have d0 := cellOf (k := 0) hN2 rfl
      have d1 := cellOf (k := 1) hN2 rfl
      have c3 := ownsRow_cell hrs2 (i := xn) (List.getElem?_eq_getElem (by rw [hlen]; exact hxi))
      have c31 := c3.1
      have c32 := c3.2
      have hgg : g1 ≠ g := fun e => rows_apart hrs2 hrc2 (by decide) rfl (by simp [Value.ownBlock, e])
      clear c3
      refine (ints_Contains (k : Int) hkr2 hkl).mono ?_
      rintro e w' ⟨rfl, rfl⟩
      cases hch : ks.contains (k : Int) with
      | true =>
        go_wp2_with fail
        go_region_held3 (fun w' => w'.cell? ⟨p, 0, none⟩ = some (.slice (some ⟨g, 0, none⟩) n c) ∧ w'.cell? ⟨N, 0, none⟩ = some (.int .i64 xn) ∧ w'.cell? ⟨N, 1, none⟩ = some (.string xt)) (go_keep) (fail)
        have hrel : Ext [p, g] w (w2.setCell ⟨g, xn, none⟩ (.string xt)) ∧
            (w2.setCell ⟨g, xn, none⟩ (.string xt)).heap[p]? = some (.cells #[.slice (some ⟨g, 0, none⟩) n c, .slice (some ⟨g1, 0, none⟩) m cc, .int .i64 D.left, .bool D.down, .int .i64 D.calls] 150 (0, 0)) ∧
            (w2.setCell ⟨g, xn, none⟩ (.string xt)).ownsRow 0 9 1 (.slice (some ⟨g, 0, none⟩) n c) n (strs (Dev.lay D.sectors (Dev.chosen ks 0 (D.cache.take (k + 1))))) ∧
            (w2.setCell ⟨g, xn, none⟩ (.string xt)).ownsRow 0 160 2 (.slice (some ⟨g1, 0, none⟩) m cc) m (wrs D.cache) := by
          refine ⟨hE2.setCell (.inl (by simp)) _, block_setCell_other _ hp2 (by simpa using Ne.symm hgp), ?_, ?_⟩
          · rw [HL.out, hch, if_pos rfl, Dev.lay_snoc, strs_set]
            exact ownsRow_set _ hrs2
          · exact ownsRow_of_block hrc2 fun g' hg' => by
              obtain rfl : g1 = g' := by simpa [Value.ownBlock] using hg'
              exact Below.heap_setCell _ _ _ _ hgg
        clear h0 d0 d1 c31 c32 hp2 hrs2 hrc2 hN2
        go_wp2
        go_roundw
        case rel => exact ⟨k + 1, by omega, by go_num, hrel.1.drew, hrel.2⟩
        case measure => simp [intOf]; omega
      | false =>
        have hrs3 : w2.ownsRow 0 9 1 (.slice (some ⟨g, 0, none⟩) n c) n (strs (Dev.lay D.sectors (Dev.chosen ks 0 (D.cache.take (k + 1))))) := by
          rw [HL.out, hch]; simpa using hrs2
        clear h0 d0 d1 c31 c32 hN2 hrs2
        go_wp2
        go_roundw
        case rel => exact ⟨k + 1, by omega, by go_num, hE2, hp2, hrs3, hrc2⟩
        case measure => simp [intOf]; omega
    · obtain rfl : k = m := by omega
      have c1 := cellOf (k := 1) hpk rfl
      have c2 := cellOf (k := 2) hpk rfl
      have c3 := cellOf (k := 3) hpk rfl
      have f1 := fun j => freeOf (k := j) hpk
      go_wp2
      go_end0
      refine ⟨rfl, ?_⟩
      rw [List.take_of_length_le (by rw [HM.out]; exact Nat.le_refl _)] at hrs
      refine ⟨p :: ((Value.slice (some ⟨g, 0, none⟩) n c).ownBlock.toList ++ []), ⟨_, _, block_setCell_same _ (block_setCell_same _ (block_setCell_same _ hpk)), ?_, World.ownsRow_nil _ _ _ _, hsp, by simp [Value.ownBlock], by simp [Value.ownBlock]⟩, ?_, ?_⟩
      · rw [Dev.crash, Dev.lay_length, HD.out]
        exact ownsRow_of_block hrs fun g' hg' => by
          obtain rfl : g = g' := by simpa [Value.ownBlock] using hg'
          rw [Below.heap_setCell _ _ _ _ hgp, Below.heap_setCell _ _ _ _ hgp, Below.heap_setCell _ _ _ _ hgp]
      · refine Ext.setCell (Ext.setCell (Ext.setCell ?_ (.inl (by simp)) _) (.inl (by simp)) _) (.inl (by simp)) _
        exact hE.mono (by simp [Value.ownBlock])
      · intro x hx
        left
        simp [Value.ownBlock] at hx ⊢
        rcases hx with h | h <;> simp [h]
end Go.Proofs.YtegcnimekfanaaaGreat
