/-
  Package device, walked: Flush.
-/
import Derived.Test.YtegcnimekfanaaaGreatDeviceB
namespace Go.Proofs.YtegcnimekfanaaaGreat
open Go.RowKit

/-- Writes are carried out, one behind the other. -/
def Dev.lay (l : List ByteArray) (ws : List (Int × ByteArray)) : List ByteArray := ws.foldl (fun l x => l.set x.1.toNat x.2) l
theorem Dev.lay_length (l : List ByteArray) (ws : List (Int × ByteArray)) : (Dev.lay l ws).length = l.length := by
  unfold Dev.lay
  induction ws generalizing l with
  | nil => rfl
  | cons x ws ih => simp only [List.foldl_cons]; rw [ih]; simp
theorem Dev.lay_snoc (l : List ByteArray) (ws : List (Int × ByteArray)) (x : Int × ByteArray) : Dev.lay l (ws ++ [x]) = (Dev.lay l ws).set x.1.toNat x.2 := by simp [Dev.lay]
def Dev.flush (D : Dev) : Dev := if D.may then { D.call with sectors := Dev.lay D.sectors D.cache, cache := [] } else D.call

theorem strs_set (l : List ByteArray) (i : Nat) (t : ByteArray) : strs (l.set i t) = (strs l).set i (.string t) := by simp [strs, List.map_set]
/-- One cell of an owned row of one-cell elements is written. -/
theorem ownsRow_set {w : World} {e : TypeId} {g cap n : Nat} {xs : List Value} {i : Nat} (u : Value) (h : w.ownsRow 0 e 1 (.slice (some ⟨g, 0, none⟩) n cap) n xs) :
    (w.setCell ⟨g, i, none⟩ u).ownsRow 0 e 1 (.slice (some ⟨g, 0, none⟩) n cap) n (xs.set i u) := by
  refine ⟨by simpa using h.1, ?_⟩
  rcases h.2 with ⟨h1, _⟩ | ⟨g1, cap1, cur, hv, h1, h2, h3, h4, h5, h6⟩
  · simp at h1
  · simp at hv
    obtain ⟨rfl, rfl⟩ := hv
    refine .inr ⟨g, cap, cur.setIfInBounds i u, rfl, h1, block_setCell_same u h2, h3, h4, by simpa using h5, ?_⟩
    rw [← h6, Array.toList_setIfInBounds]
    exact List.take_set
/-- A cell of an owned row is not frozen, and holds its value. -/
theorem ownsRow_cell {w : World} {e : TypeId} {size g cap n : Nat} {xs : List Value} (h : w.ownsRow 0 e size (.slice (some ⟨g, 0, none⟩) n cap) n xs) {i : Nat} {u : Value} (hi : xs[i]? = some u) :
    w.cell? ⟨g, i, none⟩ = some u ∧ w.frozen? ⟨g, i, none⟩ = false := by
  rcases h.2 with ⟨h1, _⟩ | ⟨g1, cap1, cur, hv, h1, h2, h3, h4, h5, h6⟩
  · simp at h1
  · simp at hv
    obtain ⟨rfl, rfl⟩ := hv
    refine ⟨cellOf h2 ?_, freeOf h2⟩
    rw [← h6] at hi
    rw [← Array.getElem?_toList]
    rw [List.getElem?_take] at hi
    split at hi
    · exact hi
    · simp at hi
theorem slice_some {w : World} {e : TypeId} {size : Nat} {v : Value} {n : Nat} {xs : List Value} (h : w.ownsRow 0 e size v n xs) (hn : 0 < n) : ∃ g c, v = .slice (some ⟨g, 0, none⟩) n c := by
  rcases h.2 with ⟨rfl, h0⟩ | ⟨g, cap, cur, rfl, _⟩
  · omega
  · exact ⟨_, _, rfl⟩
theorem wrs_at (l : List (Int × ByteArray)) (k : Nat) (h : k < l.length) : (wrs l)[k * 2]? = some (.int .i64 l[k].1) ∧ (wrs l)[k * 2 + 1]? = some (.string l[k].2) := by
  induction l generalizing k with
  | nil => simp at h
  | cons x l ih =>
    cases k with
    | zero => simp [wrs]
    | succ k =>
      have := ih k (by simpa using h)
      simp only [wrs, List.flatMap_cons, Nat.add_mul, Nat.one_mul] at *
      exact ⟨by simpa using this.1, by simpa [Nat.add_right_comm] using this.2⟩

set_option maxHeartbeats 400000 in
theorem dev_Flush_ok (w : World) (p : Nat) (F : List Nat) (D : Dev) (h : DevAt w p F D) (hn : 0 < D.sectors.length) (hl : D.left ≤ 9223372036854775807)
    (hm : D.may = true) (hcl : D.cache.length ≤ 1000000) (hin : ∀ x ∈ D.cache, 0 ≤ x.1 ∧ x.1 < D.sectors.length) :
    Calls Tryz.prog 84 #[.pointer (some ⟨p, 0, none⟩)] w fun e w' => e = .returned (.int .i64 0) ∧ Goes w w' F (fun w F => DevAt w p F D.flush) := by
  obtain ⟨vs, vc, hp, hs, hc, hsp, hcp, rfl⟩ := h
  obtain ⟨n, hD⟩ : ∃ n, D.sectors.length = n := ⟨_, rfl⟩
  obtain ⟨m, hM⟩ : ∃ m, D.cache.length = m := ⟨_, rfl⟩
  rw [hD] at hn hs hin
  rw [hM] at hcl hc
  have HD := hid hD
  have HM := hid hM
  clear hD hM
  obtain ⟨g, c, rfl⟩ := slice_some hs hn
  obtain ⟨a, cc, rfl⟩ := slice_form hc
  have hpw := lt_of_block hp
  go_enter Tryz.func84, Tryz.ntmps84
  go_wp2_with fail
  refine (dev_call w p _ _ D hl hp).mono ?_
  rintro e w1 ⟨rfl, hE1, hp1⟩
  rw [hm]
  have hk1 := cellOf (k := 1) hp1 rfl
  have hrc1 := hE1.row hc (by intro g' hg hmem; simp at hmem; subst hmem; exact hcp hg)
  have hrs1 := hE1.row hs (by intro g' hg hmem; simp at hmem; subst hmem; exact hsp hg)
  go_wp2_with fail
  clear hp
  have hgp : g ≠ p := by simpa [Value.ownBlock] using hsp
  go_loopw [4, 13] (fun _t i wr => ∃ k : Nat, k ≤ m ∧ i = .int .i64 k ∧ Ext [p, g] w1 wr ∧
    wr.heap[p]? = some (.cells #[.slice (some ⟨g, 0, none⟩) n c, .slice a m cc, .int .i64 D.call.left, .bool D.call.down, .int .i64 D.call.calls] 150 (0, 0)) ∧
    wr.ownsRow 0 9 1 (.slice (some ⟨g, 0, none⟩) n c) n (strs (Dev.lay D.sectors (D.cache.take k))) ∧ wr.ownsRow 0 160 2 (.slice a m cc) m (wrs D.cache)) (fun _ i _ => m - (intOf i).toNat)
  case atStart => exact ⟨0, by omega, rfl, Ext.refl _ _, hp1, by simpa [Dev.lay] using hrs1, hrc1⟩
  case round =>
    obtain ⟨k, hk, rfl, hE, hpk, hrs, hrc⟩ := hrel
    have h0 := cellOf (k := 0) hpk rfl
    by_cases hlt : k < m
    · obtain ⟨g1, cc1, hgc⟩ := slice_some hrc (by omega)
      simp only [Value.slice.injEq] at hgc
      obtain ⟨rfl, -, -⟩ := hgc
      have hlt' : k < D.cache.length := by rw [HM.out]; exact hlt
      have hw := wrs_at D.cache k hlt'
      have hx := hin _ (List.getElem_mem hlt')
      have htk : D.cache.take (k + 1) = D.cache.take k ++ [D.cache[k]] := List.take_succ_eq_append_getElem hlt'
      obtain ⟨⟨xa, xt⟩, hxx⟩ : ∃ x, D.cache[k] = x := ⟨_, rfl⟩
      rw [hxx] at hw hx htk
      obtain ⟨xn, hxn⟩ : ∃ xn : Nat, xa = xn := ⟨xa.toNat, by omega⟩
      subst hxn
      have hxi : xn < n := by omega
      have hl1 := congrArg (Dev.lay D.sectors) htk
      rw [Dev.lay_snoc] at hl1
      have HL := hid hl1
      have c1 := (ownsRow_cell hrc hw.1).1
      have c2 := (ownsRow_cell hrc hw.2).1
      have hlen : (strs (Dev.lay D.sectors (D.cache.take k))).length = n := by rw [strs_length, Dev.lay_length, HD.out]
      have c3 := ownsRow_cell hrs (i := xn) (List.getElem?_eq_getElem (by rw [hlen]; exact hxi))
      have c31 := c3.1
      have c32 := c3.2
      clear hl1 htk hw hx c3 hxx
      go_wp2_with fail
      have hE2 := hE.alloc (.cells #[.int .i64 xn, .string xt] 160)
      have hp2 := block_alloc_old (.cells #[.int .i64 xn, .string xt] 160) hpk
      have hrs2 := hrs.alloc (.cells #[.int .i64 xn, .string xt] 160)
      have hrc2 := hrc.alloc (.cells #[.int .i64 xn, .string xt] 160)
      have hN2 := block_alloc_new wr (.cells #[.int .i64 xn, .string xt] 160)
      have hNp : p ≠ wr.heap.size := by have := lt_of_block hpk; omega
      have hNg : g ≠ wr.heap.size := by have := (hrs.lt g rfl).2; omega
      generalize hw2 : wr.alloc (.cells #[.int .i64 xn, .string xt] 160) = w2 at *
      generalize hNN : wr.heap.size = N at *
      clear hw2 hNN h0 hpk hrs hrc c1 c2 c31 c32
      have h0 := cellOf (k := 0) hp2 rfl
      have d0 := cellOf (k := 0) hN2 rfl
      have d1 := cellOf (k := 1) hN2 rfl
      have c3 := ownsRow_cell hrs2 (i := xn) (List.getElem?_eq_getElem (by rw [hlen]; exact hxi))
      have c31 := c3.1
      have c32 := c3.2
      clear c3
      go_region_held3 (fun w' => w'.cell? ⟨p, 0, none⟩ = some (.slice (some ⟨g, 0, none⟩) n c) ∧ w'.cell? ⟨N, 0, none⟩ = some (.int .i64 xn) ∧ w'.cell? ⟨N, 1, none⟩ = some (.string xt)) (go_keep) (fail)
      have hgg : g1 ≠ g := fun e => rows_apart hrs2 hrc2 (by decide) rfl (by simp [Value.ownBlock, e])
      have hrel : Ext [p, g] w1 (w2.setCell ⟨g, xn, none⟩ (.string xt)) ∧
          (w2.setCell ⟨g, xn, none⟩ (.string xt)).heap[p]? = some (.cells #[.slice (some ⟨g, 0, none⟩) n c, .slice (some ⟨g1, 0, none⟩) m cc, .int .i64 D.call.left, .bool D.call.down, .int .i64 D.call.calls] 150 (0, 0)) ∧
          (w2.setCell ⟨g, xn, none⟩ (.string xt)).ownsRow 0 9 1 (.slice (some ⟨g, 0, none⟩) n c) n (strs (Dev.lay D.sectors (D.cache.take (k + 1)))) ∧
          (w2.setCell ⟨g, xn, none⟩ (.string xt)).ownsRow 0 160 2 (.slice (some ⟨g1, 0, none⟩) m cc) m (wrs D.cache) := by
        refine ⟨hE2.setCell (.inl (by simp)) _, block_setCell_other _ hp2 (by simpa using Ne.symm hgp), ?_, ?_⟩
        · rw [HL.out, strs_set]
          exact ownsRow_set _ hrs2
        · exact ownsRow_of_block hrc2 fun g' hg' => by
            obtain rfl : g1 = g' := by simpa [Value.ownBlock] using hg'
            exact Below.heap_setCell _ _ _ _ hgg
      clear h0 d0 d1 c31 c32 hp2 hrs2 hrc2 hN2
      go_wp2
      go_roundw
      case rel => exact ⟨k + 1, by omega, by go_num, hrel.1.drew, hrel.2⟩
      case measure => simp [intOf]; omega
    · obtain rfl : k = m := by omega
      have c1 := cellOf (k := 1) hpk rfl
      have f1 := freeOf (k := 1) hpk
      go_wp2
      go_ret
      refine ⟨rfl, ?_⟩
      have e : D.flush = ⟨Dev.lay D.sectors D.cache, [], D.call.left, D.call.down, D.call.calls⟩ := by
        simp only [Dev.flush, hm, if_true, Dev.call]
      rw [e]
      rw [List.take_of_length_le (by rw [HM.out]; exact Nat.le_refl _)] at hrs
      refine ⟨p :: ((Value.slice (some ⟨g, 0, none⟩) n c).ownBlock.toList ++ []), ⟨_, _, block_setCell_same _ hpk, ?_, World.ownsRow_nil _ _ _ _, hsp, by simp [Value.ownBlock], by simp [Value.ownBlock]⟩, ?_, ?_⟩
      · rw [Dev.lay_length, HD.out]
        exact ownsRow_of_block hrs fun g' hg' => by
          obtain rfl : g = g' := by simpa [Value.ownBlock] using hg'
          exact Below.heap_setCell _ _ _ _ hgp
      · refine Ext.setCell ?_ (.inl (by simp)) _
        exact (hE1.mono (by simp)).trans hE (by simp [Value.ownBlock])
      · intro x hx
        left
        simp [Value.ownBlock] at hx ⊢
        rcases hx with h | h <;> simp [h]
end Go.Proofs.YtegcnimekfanaaaGreat
