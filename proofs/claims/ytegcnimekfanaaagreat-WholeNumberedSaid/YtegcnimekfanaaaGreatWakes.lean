/-
  wakes10: fixed facts of all layers beneath an engine.
-/
import Derived.Test.YtegcnimekfanaaaGreatLive
import Derived.Test.YtegcnimekfanaaaGreatLockB
import Derived.Test.YtegcnimekfanaaaGreatPlainI
import Derived.Test.YtegcnimekfanaaaGreatWalB
namespace Go.Proofs.YtegcnimekfanaaaGreat
open Go.RowKit

def wakeX : Stp := ⟨⟨8, ⟨#[97]⟩, ⟨#[]⟩, 0⟩, ⟨1, ⟨#[]⟩, 0⟩⟩
def wakeY : Stp := ⟨⟨10, ⟨#[97]⟩, ⟨#[]⟩, 0⟩, ⟨2, ⟨#[]⟩, 0⟩⟩
theorem wake_conflict : conflict wakeX wakeY = true := by decide +kernel
theorem wake_set1 : Gr.set [] 1 [2] = [(1, [2])] := by
  have e : isort [2] = [2] := isort_of_rising (by simp)
  unfold Gr.set; rw [e]; rfl
theorem wake_set2 : Gr.set [(1, [2])] 2 [1] = [(1, [2]), (2, [1])] := by
  have e : isort [1] = [1] := isort_of_rising (by simp)
  unfold Gr.set; rw [e]; rfl
theorem wake_cyc : Gr.cyc [(1, [2]), (2, [1])] 10 [1, 2] (fun _ => false) = some [1, 2] := by decide +kernel
theorem wake_of : ∀ z, ∀ y ∈ Gr.of [(1, [2]), (2, [1])] z, I64 y := by
  intro z y hy
  obtain ⟨p, hp, hy'⟩ := of_mem hy
  simp only [List.mem_cons, List.not_mem_nil, or_false] at hp
  rcases hp with rfl | rfl <;> simp only [List.mem_cons, List.not_mem_nil, or_false] at hy' <;> subst hy' <;> unfold I64 <;> omega
theorem wake_due {R : List En} (h : SetTo [] 2 5 R) : (hdue R.length R 5).1 = [2] ∧ R.length = 1 ∧ ∀ x ∈ R, x.id = 2 := by
  rcases h with ⟨i, x, hx, -⟩ | ⟨-, b, rfl⟩
  · simp at hx
  · have e : hpush En.lt [] ⟨5, 2, b⟩ = [⟨5, 2, b⟩] := rfl
    rw [e]
    exact ⟨by simp [hdue], rfl, by simp⟩

theorem below_ext {w w' : World} (h : Below w.heap.size w w') : Ext [] w w' := Ext.of_below h

theorem SMapAt.ne_cells {w : World} {mb b : Nat} {L : List (Bts × Value)} {vs : Array Value} {T : TypeId} {fr : Nat × Nat} (h : SMapAt w mb L) (hb : w.heap[b]? = some (.cells vs T fr)) : b ∉ [mb] := by
  intro hm
  obtain rfl : b = mb := by simpa using hm
  obtain ⟨es, c, he⟩ := h.map
  rw [hb] at he; cases he
theorem clock_New' (w : World) : Calls Tryz.prog 20 #[] w fun e w' => e = .returned (.pointer (some ⟨w.heap.size + 1, 0, none⟩)) ∧ ClockAt w' (w.heap.size + 1) [w.heap.size + 1, w.heap.size] [] ∧ Ext [] w w' ∧
    w'.heap[w.heap.size + 1]? = some (.cells #[.slice none 0 0, .map (some w.heap.size)] 140 (0, 0)) ∧ w'.heap[w.heap.size]? = some (.map #[] 0) := by
  have hmm := @run_makeMap Tryz.prog
  go_enter Tryz.func20, Tryz.ntmps20
  go_wp2
  go_ret
  refine ⟨rfl, ⟨w.heap.size, [w.heap.size + 1], [], ⟨.slice none 0 0, block_alloc_new2 _ _ _, World.ownsRow_nil _ _ _ _, by simp, by simp, by simp, by simp [Value.ownBlock], by simp⟩, by simp, by simp, by simp, (MapAt.made w).ext ((Ext.refl [] _).alloc _) (by simp), rfl, by simp, by simp [mget]⟩, ((Ext.refl [] w).alloc _).alloc _, block_alloc_new2 _ _ _, block_alloc_old _ (block_alloc_new _ _)⟩
/-- What is in none of a graph's blocks: neither its own two, nor one that holds an int. -/
theorem GraphAt.extNI {S : List Nat} {w w' : World} {p mb : Nat} {G : Gr} (h : GraphAt w p mb G) (he : Ext S w w') (hS : ∀ b ∈ S, b ≠ p ∧ b ≠ mb ∧ ∀ o n, w.cell? ⟨b, o, none⟩ ≠ some (.int .i64 n)) : GraphAt w' p mb G := by
  obtain ⟨hp, val, bo, hm, hv⟩ := h
  refine ⟨he.block hp (fun hs => (hS p hs).1 rfl), val, bo, hm.ext he (fun hs => (hS mb hs).2.1 rfl), fun x hx => ?_⟩
  obtain ⟨h1, g, c, h2, h3⟩ := hv x hx
  refine ⟨h1, g, c, h2, h3.ext he fun b hb => ?_⟩
  cases hb
  intro hs
  obtain ⟨a, c, _, ⟨_, h⟩ | ⟨b', off, rfl, hb, h⟩⟩ := h3
  · cases h
  · cases hb
    exact (hS _ hs).2.2 _ _ (h 0 (List.length_pos_iff.2 h1))
theorem GraphAt.gmap {w : World} {gp gm : Nat} {G : Gr} (h : GraphAt w gp gm G) : ∃ es c, w.heap[gm]? = some (.map es c) := by
  obtain ⟨-, _, _, hm, -⟩ := h
  exact hm.map
theorem GraphAt.ne_cells {w : World} {gp gm b : Nat} {G : Gr} {vs : Array Value} {T : TypeId} {fr : Nat × Nat} (h : GraphAt w gp gm G) (hb : w.heap[b]? = some (.cells vs T fr)) : b ∉ [gm] := by
  intro hm
  obtain rfl : b = gm := by simpa using hm
  obtain ⟨es, c, he⟩ := h.gmap
  rw [hb] at he; cases he
theorem GraphAt.ne_row {w : World} {gp gm : Nat} {G : Gr} {e : TypeId} {size n : Nat} {v : Value} {xs : List Value} (h : GraphAt w gp gm G) (hr : w.ownsRow 0 e size v n xs) : ∀ g, v.ownBlock = some g → g ∉ [gm] := by
  intro g hg
  rcases hr.2 with ⟨rfl, -⟩ | ⟨g', cap, cur, rfl, -, hb, -⟩
  · cases hg
  · obtain rfl : g' = g := by simpa [Value.ownBlock] using hg
    exact h.ne_cells hb

set_option maxRecDepth 8000 in
set_option maxHeartbeats 2000000 in
theorem wakes_true (w : World) : Calls Tryz.prog 6 #[] w fun e w' => e = .returned (.bool true) ∧ Ext [] w w' := by
  have hz100 : ∀ w, (Instr.makeSlice 80 (.int .i64 100) (.int .i64 100)).run Tryz.prog w = .ok (.slice (some ⟨w.heap.size, 0, none⟩) 100 100) (w.alloc (.cells (zeroRow 100) 5)) := fun w => run_make_zeros Tryz.underlying80 (by kernel_rfl) 100 (by decide) w
  go_enter Tryz.func6, Tryz.ntmps6
  go_wp2_with fail
  refine (dev_New 20 _ (by decide) (by decide)).mono ?_
  rintro e w1 ⟨p, rfl, hp, F, hD, hF, hB1⟩
  have hE1 := Ext.of_below hB1
  go_wp2_with fail
  refine (live_true _).mono ?_
  rintro e w2 ⟨rfl, hE2⟩
  have hD2 := hD.ext hE2 (by simp)
  have hE2' := hE1.nil_of hE2
  have hw2s := hE2'.size
  go_wp2_with fail
  refine (wal_Open 2 16 7 _ p F (Dev.new 20) hD2 (by decide) (by decide) (by decide) (by decide) (by decide)).mono ?_
  rintro e w3 ⟨l, rfl, hl, hL, hB3⟩
  have hlF : l ∉ F := fun hm => by have := hD2.lt l hm; omega
  have hE3 := Ext.of_below hB3
  have hD3 := hD2.ext hE3 (by simp)
  have hE3' := hE2'.nil_of hE3
  clear hD hD2 hE1 hE2 hE2' hE3 hB1 hB3
  have hcv := run_conv_zeros (P := Tryz.prog) Tryz.underlying80 Tryz.underlying5 Tryz.underlying9 100 w3.heap.size 100 (block_alloc_new w3 (.cells (zeroRow 100) 5))
  obtain ⟨tx, htx⟩ : ∃ tx : ByteArray, (⟨(List.replicate 100 0).toArray⟩ : ByteArray) = tx := ⟨_, rfl⟩
  have hts : tx.size = 100 := by rw [← htx]; simp [ByteArray.size]
  rw [htx] at hcv
  clear htx
  have hc3 : cost tx.size = 3 := by rw [hts]; rfl
  have hLD : LogDev l p ⟨2, 16, 7, 7⟩ (Dev.new 20) (w3.alloc (.cells (zeroRow 100) 5)) (l :: F) := ⟨F, rfl, hlF, ((Ext.refl [] w3).alloc _).block hL (by simp), hD3.ext ((Ext.refl [] w3).alloc _) (by simp)⟩
  have cA := wal_Append (w3.alloc (.cells (zeroRow 100) 5)) l p _ ⟨2, 16, 7, 7⟩ (Dev.new 20) tx hLD ⟨by decide, by decide, by decide, by decide, by decide, by decide, by decide⟩ ⟨rfl, by decide⟩ (by decide) (by decide) (by decide) (by omega) (by rw [hc3]; decide)
  simp only [hc3] at cA
  replace hts := hid hts
  replace hc3 := hid hc3
  clear hLD hL hD3
  go_wp2_with fail
  refine cA.mono ?_
  rintro e w4 ⟨rfl, G4, -, hE4, -⟩
  clear cA
  go_wp2_with fail
  have hl0 : ∀ x ∈ (l :: F), w.heap.size ≤ x := by
    intro x hx
    rcases List.mem_cons.1 hx with rfl | hx
    · exact Nat.le_trans hw2s hl
    · exact hF x hx
  have hEa : Ext [] w w4 := (hE3'.alloc (.cells (zeroRow 100) 5)).trans hE4 (fun x hx hlt => absurd (hl0 x hx) (by omega))
  have hbr := block_alloc_new w4 (.cells #[.int .i64 7, .int .i64 9, .string tx] 65)
  have hEb := hEa.alloc (.cells #[.int .i64 7, .int .i64 9, .string tx] 65)
  clear hE3' hE4 hEa hF hl0 hl hlF hp hcv
  generalize hW4 : w4.alloc (.cells #[.int .i64 7, .int .i64 9, .string tx] 65) = W4 at *
  clear hW4
  generalize w4.heap.size = rb at *
  refine (lock_New _).mono ?_
  rintro e w5 ⟨tp, mb, rfl, ht5, hm5, hE5, hmb0⟩
  go_wp2_with fail
  refine (graph_New _).mono ?_
  rintro e w6 ⟨gp, gm, rfl, hg6, hE6, -, hgm⟩
  go_wp2_with fail
  refine (clock_New' _).mono ?_
  rintro e w7 ⟨rfl, hc7, hE7, hcp7, hcm7⟩
  have hcml := lt_of_block hcm7
  have hcpl := lt_of_block hcp7
  have hgml : gm < w6.heap.size := by obtain ⟨-, _, _, hm, -⟩ := hg6; exact hm.lt
  have hgpl : gp < w6.heap.size := lt_of_block hg6.1
  have htpl := lt_of_block (hE6.block ht5 (by simp))
  have hml6 := (hm5.ext hE6 (by simp)).lt
  have hrbl : rb < w6.heap.size := lt_of_block (hE6.block (hE5.block hbr (by simp)) (by simp))
  generalize hcpe : w6.heap.size + 1 = cp at *
  generalize hcme : w6.heap.size = cm at *
  replace hcpe := hid hcpe
  clear hcme
  go_wp2_with fail
  have hbx := block_alloc_old (.cells #[.int .i64 10, .string ⟨#[97]⟩, .string ⟨#[]⟩, .int .i64 0, .int .i64 2, .string ⟨#[]⟩, .int .i64 0] 92) (block_alloc_new w7 (.cells #[.int .i64 8, .string ⟨#[97]⟩, .string ⟨#[]⟩, .int .i64 0, .int .i64 1, .string ⟨#[]⟩, .int .i64 0] 92))
  have hby := block_alloc_new2 w7 (.cells #[.int .i64 8, .string ⟨#[97]⟩, .string ⟨#[]⟩, .int .i64 0, .int .i64 1, .string ⟨#[]⟩, .int .i64 0] 92) (.cells #[.int .i64 10, .string ⟨#[97]⟩, .string ⟨#[]⟩, .int .i64 0, .int .i64 2, .string ⟨#[]⟩, .int .i64 0] 92)
  have hE8 := ((Ext.refl [] w7).alloc (.cells #[.int .i64 8, .string ⟨#[97]⟩, .string ⟨#[]⟩, .int .i64 0, .int .i64 1, .string ⟨#[]⟩, .int .i64 0] 92)).alloc (.cells #[.int .i64 10, .string ⟨#[97]⟩, .string ⟨#[]⟩, .int .i64 0, .int .i64 2, .string ⟨#[]⟩, .int .i64 0] 92)
  generalize hW8 : (w7.alloc (.cells #[.int .i64 8, .string ⟨#[97]⟩, .string ⟨#[]⟩, .int .i64 0, .int .i64 1, .string ⟨#[]⟩, .int .i64 0] 92)).alloc (.cells #[.int .i64 10, .string ⟨#[97]⟩, .string ⟨#[]⟩, .int .i64 0, .int .i64 2, .string ⟨#[]⟩, .int .i64 0] 92) = W8 at *
  clear hW8
  generalize w7.heap.size = xb at *
  have hxl := lt_of_block hbx
  have hyl := lt_of_block hby
  -- all behind the two steps
  have hbr8 := hE8.block (hE7.block (hE6.block (hE5.block hbr (by simp)) (by simp)) (by simp)) (by simp)
  have ht8 := hE8.block (hE7.block (hE6.block ht5 (by simp)) (by simp)) (by simp)
  have hm8 := ((hm5.ext hE6 (by simp)).ext hE7 (by simp)).ext hE8 (by simp)
  have hg8 := (hg6.ext0 hE7).ext0 hE8
  have hc8 := hc7.ext hE8 (by simp)
  have hEw := (((hEb.nil_of hE5).nil_of hE6).nil_of hE7).nil_of hE8
  have hml := hm5.lt
  have hcp8 := hE8.block hcp7 (by simp)
  have hcm8 := hE8.block hcm7 (by simp)
  have hwl := hEb.size
  have hFm : ∀ x ∈ [cp, cm], x ∉ [mb] ∧ x ∉ [gm] := fun x hx => by
    have := hcpe.out
    simp at hx ⊢; omega
  have hmg : mb ≠ gm := by omega
  clear hbr ht5 hm5 hE5 hg6 hE6 hc7 hE7 hE8 hEb
  refine (grant_none _ tp mb ⟨#[115, 101, 116]⟩ 1 wakeX ht8 hm8 (by decide)).mono ?_
  rintro e w9 ⟨rfl, ob, g, c, hm9, ho9, hr9, hE9, hobl, hgl⟩
  have hbr9 := hE9.block hbr8 (hm8.ne_cells hbr8)
  have hbx9 := hE9.block hbx (hm8.ne_cells hbx)
  have hby9 := hE9.block hby (hm8.ne_cells hby)
  have hcp9 := hE9.block hcp8 (hm8.ne_cells hcp8)
  have hcm9 := hE9.block hcm8 (hFm cm (by simp)).1
  have ht9 := hE9.block ht8 (hm8.ne_cells ht8)
  have hg9 := hg8.ext hE9 (fun b hb _ => by obtain rfl : b = mb := by simpa using hb
                                            exact ⟨hmg, hm8.map⟩)
  have hc9 := hc8.ext hE9 (fun x hx => (hFm x hx).1)
  have hEw9 := hEw.trans hE9 (by simp; omega)
  clear hbr8 hbx hby ht8 hg8 hc8 hE9 hEw hm8
  go_wp2_with fail
  have hi2 : IntsAt (w9.alloc (.cells #[.int .i64 2] 3)) (.slice (some ⟨w9.heap.size, 0, none⟩) 1 1) (some w9.heap.size) [2] := ints_one (block_alloc_new _ _)
  have hX9 := (Ext.refl [] w9).alloc (.cells #[.int .i64 2] 3)
  refine (graph_Set _ gp gm [] 1 _ _ [2] (hg9.ext0 hX9) (by decide) (by unfold I64; omega) hi2 (fun a n c h => by cases h; exact ⟨_, _, rfl⟩) (by decide)).mono ?_
  rintro e w10 ⟨rfl, hg10, hE10⟩
  rw [wake_set1] at hg10
  have hE10' := (hX9.mono (T := [gm]) (by simp)).trans hE10 (by simp)
  have hbr10 := hE10'.block hbr9 (hg9.ne_cells hbr9)
  have hbx10 := hE10'.block hbx9 (hg9.ne_cells hbx9)
  have hby10 := hE10'.block hby9 (hg9.ne_cells hby9)
  have hcp10 := hE10'.block hcp9 (hg9.ne_cells hcp9)
  have hcm10 := hE10'.block hcm9 (hFm cm (by simp)).2
  have ht10 := hE10'.block ht9 (hg9.ne_cells ht9)
  have ho10 := hE10'.block ho9 (hg9.ne_cells ho9)
  have hm10 := hm9.ext hE10' (by simpa using hmg)
  have hr10 := hE10'.row hr9 (hg9.ne_row hr9)
  have hc10 := hc9.ext hE10' (fun x hx => (hFm x hx).2)
  have hEw10 := hEw9.trans hE10' (by simp; omega)
  clear hbr9 hbx9 hby9 ht9 ho9 hm9 hr9 hc9 hEw9 hE10 hE10' hg9 hX9 hi2
  go_wp2_with fail
  have hi3 : IntsAt (w10.alloc (.cells #[.int .i64 1] 3)) (.slice (some ⟨w10.heap.size, 0, none⟩) 1 1) (some w10.heap.size) [1] := ints_one (block_alloc_new _ _)
  have hX10 := (Ext.refl [] w10).alloc (.cells #[.int .i64 1] 3)
  refine (graph_Set _ gp gm [(1, [2])] 2 _ _ [1] (hg10.ext0 hX10) (by decide) (by unfold I64; omega) hi3 (fun a n c h => by cases h; exact ⟨_, _, rfl⟩) (by decide)).mono ?_
  rintro e w11 ⟨rfl, hg11, hE11⟩
  rw [wake_set2] at hg11
  have hE11' := (hX10.mono (T := [gm]) (by simp)).trans hE11 (by simp)
  have hbr11 := hE11'.block hbr10 (hg10.ne_cells hbr10)
  have hbx11 := hE11'.block hbx10 (hg10.ne_cells hbx10)
  have hby11 := hE11'.block hby10 (hg10.ne_cells hby10)
  have hcp11 := hE11'.block hcp10 (hg10.ne_cells hcp10)
  have hcm11 := hE11'.block hcm10 (hFm cm (by simp)).2
  have ht11 := hE11'.block ht10 (hg10.ne_cells ht10)
  have ho11 := hE11'.block ho10 (hg10.ne_cells ho10)
  have hm11 := hm10.ext hE11' (by simpa using hmg)
  have hr11 := hE11'.row hr10 (hg10.ne_row hr10)
  have hc11 := hc10.ext hE11' (fun x hx => (hFm x hx).2)
  have hEw11 := hEw10.trans hE11' (by simp; omega)
  clear hbr10 hbx10 hby10 ht10 ho10 hm10 hr10 hc10 hEw10 hE11 hE11' hg10 hX10 hi3
  go_wp2_with fail
  refine (clock_Set _ cp [cp, cm] [] 2 5 hc11 (by unfold I64; omega) (by decide) (by decide)).mono ?_
  rintro e w12 ⟨rfl, F8, R8, hc12, hset, hE12, hF8, hF8'⟩
  have hcpe' := hcpe.out
  have nS : ∀ b, b < cm ∨ cp < b → b ∉ [cp, cm] := fun b hb => by simp; omega
  have hbr12 := hE12.block hbr11 (nS _ (by omega))
  have hbx12 := hE12.block hbx11 (nS _ (by omega))
  have hby12 := hE12.block hby11 (nS _ (by omega))
  have ht12 := hE12.block ht11 (nS _ (by omega))
  have ho12 := hE12.block ho11 (nS _ (by omega))
  have hm12 := hm11.ext hE12 (nS _ (by omega))
  have hr12 := hE12.row hr11 (fun g' hg' => by
    obtain rfl : g = g' := by simpa [Value.ownBlock] using hg'
    exact nS _ (by omega))
  have hg12 := hg11.extNI hE12 (fun b hb => by
    simp only [List.mem_cons, List.not_mem_nil, or_false] at hb
    refine ⟨by omega, by omega, fun o n he => ?_⟩
    rcases hb with rfl | rfl
    · simp only [World.cell?, hcp11] at he
      match o, he with
      | 0, he => simp at he
      | 1, he => simp at he
      | k + 2, he => simp at he
    · simp [World.cell?, hcm11] at he)
  have hEw12 := hEw11.trans hE12 (by simp; omega)
  have hc12' := hc12.trim
  have hF8w : ∀ x ∈ F8.filter (· < w12.heap.size), w.heap.size ≤ x := fun x hx => by
    have hx1 := (List.mem_filter.1 hx).1
    have hs := hEw11.size
    rcases hF8' x hx1 with h | h
    · simp only [List.mem_cons, List.not_mem_nil, or_false] at h; omega
    · omega
  obtain ⟨d1, d2, d3⟩ := wake_due hset
  clear hbr11 hbx11 hby11 ht11 ho11 hm11 hr11 hg11 hcp11 hcm11 hc11 hE12 hEw11 hc12 hF8 hF8' hset nS hcpe' hFm hmg hmb0 hgm hxl hyl hml hwl hcml hcpl hgml hgpl htpl hml6 hrbl hobl hgl hcpe hw2s
  replace d1 := hid d1
  replace d2 := hid d2
  have r0 := cellOf (k := 0) hbr12 rfl
  have r1 := cellOf (k := 1) hbr12 rfl
  have y0 := cellOf (k := 0) hby12 rfl
  have y1 := cellOf (k := 1) hby12 rfl
  have y2 := cellOf (k := 2) hby12 rfl
  have y3 := cellOf (k := 3) hby12 rfl
  have y4 := cellOf (k := 4) hby12 rfl
  have y5 := cellOf (k := 5) hby12 rfl
  have y6 := cellOf (k := 6) hby12 rfl
  go_wp2_with fail
  refine (blockers_one _ tp mb ob g c ⟨#[115, 101, 116]⟩ 1 2 wakeX wakeY ht12 hm12 (by decide) ho12 hr12 (by decide) wake_conflict).mono ?_
  rintro e w13 ⟨u, rfl, hu, hE13⟩
  have hbx13 := hE13.block hbx12 (by simp)
  have hby13 := hE13.block hby12 (by simp)
  have hg13 := hg12.ext0 hE13
  have hc13 := hc12'.ext hE13 (by simp)
  have hEw13 := hEw12.nil_of hE13
  have hF13 : ∀ x ∈ F8.filter (· < w12.heap.size), x < w13.heap.size := fun x hx => by
    have h1 := hE13.size
    have h2 : x < w12.heap.size := by simpa using (List.mem_filter.1 hx).2
    omega
  clear y0 y1 y2 y3 y4 y5 y6 r0 r1 hbr12 hbx12 hby12 ht12 ho12 hm12 hr12 hg12 hc12' hEw12 hE13
  go_wp2_with fail
  obtain ⟨bo, hua, -⟩ := hu.at
  refine (ints_Equal (hua.ext ((Ext.refl [] w13).alloc (.cells #[.int .i64 1] 3)) (by simp)) (ints_one (c := 1) (block_alloc_new w13 (.cells #[.int .i64 1] 3))) (by decide) (by decide)).mono ?_
  rintro e w14 ⟨rfl, q14, rfl⟩
  have hE14 := ((Ext.refl [] w13).alloc (.cells #[.int .i64 1] 3)).drewN q14
  generalize (w13.alloc (.cells #[.int .i64 1] 3)).drewN q14 = w14 at *
  have hbx14 := hE14.block hbx13 (by simp)
  have hby14 := hE14.block hby13 (by simp)
  have hg14 := hg13.ext0 hE14
  have hc14 := hc13.ext hE14 (by simp)
  have hEw14 := hEw13.nil_of hE14
  have hF14 : ∀ x ∈ F8.filter (· < w12.heap.size), x < w14.heap.size := fun x hx => Nat.lt_of_lt_of_le (hF13 x hx) hE14.size
  have x0 := cellOf (k := 0) hbx14 rfl
  have y0 := cellOf (k := 0) hby14 rfl
  have x1 := cellOf (k := 1) hbx14 rfl
  have y1 := cellOf (k := 1) hby14 rfl
  have x2 := cellOf (k := 2) hbx14 rfl
  have y2 := cellOf (k := 2) hby14 rfl
  have x3 := cellOf (k := 3) hbx14 rfl
  have y3 := cellOf (k := 3) hby14 rfl
  have x4 := cellOf (k := 4) hbx14 rfl
  have y4 := cellOf (k := 4) hby14 rfl
  have x5 := cellOf (k := 5) hbx14 rfl
  have y5 := cellOf (k := 5) hby14 rfl
  have x6 := cellOf (k := 6) hbx14 rfl
  have y6 := cellOf (k := 6) hby14 rfl
  have e14 : ([1] : List Int) == [1] := rfl
  have cC := fun w => commute_Conflict wakeX wakeY w
  rw [wake_conflict] at cC
  clear hbx13 hby13 hg13 hc13 hEw13 hF13 hE14 hua hu hbx14 hby14
  go_wp2_with fail
  refine (cC _).mono ?_
  rintro e w15 ⟨rfl, hE15⟩
  have hg15 := hg14.ext0 hE15
  have hc15 := hc14.ext hE15 (by simp)
  have hEw15 := hEw14.nil_of hE15
  have hF15 : ∀ x ∈ F8.filter (· < w12.heap.size), x < w15.heap.size := fun x hx => Nat.lt_of_lt_of_le (hF14 x hx) hE15.size
  clear x0 x1 x2 x3 x4 x5 x6 y0 y1 y2 y3 y4 y5 y6 hg14 hc14 hEw14 hF14 hE15 cC
  go_wp2_with fail
  refine (graph_Cycle _ gp gm 10 [(1, [2]), (2, [1])] [1, 2] hg15 (by unfold Gr.small; decide) (by unfold I64; decide) wake_of (by decide) wake_cyc).mono ?_
  rintro e w16 ⟨u2, rfl, hu2, -, -, hE16⟩
  have hc16 := hc15.ext hE16 (by simp)
  have hEw16 := hEw15.nil_of hE16
  have hF16 : ∀ x ∈ F8.filter (· < w12.heap.size), x < w16.heap.size := fun x hx => Nat.lt_of_lt_of_le (hF15 x hx) hE16.size
  clear hg15 hc15 hEw15 hF15 hE16
  go_wp2_with fail
  obtain ⟨bo2, hua2, -⟩ := hu2.at
  refine (ints_Equal (hua2.ext ((Ext.refl [] w16).alloc (.cells #[.int .i64 1, .int .i64 2] 3)) (by simp)) (ints_two (c := 2) (block_alloc_new w16 (.cells #[.int .i64 1, .int .i64 2] 3))) (by decide) (by decide)).mono ?_
  rintro e w17 ⟨rfl, q17, rfl⟩
  have hE17 := ((Ext.refl [] w16).alloc (.cells #[.int .i64 1, .int .i64 2] 3)).drewN q17
  generalize (w16.alloc (.cells #[.int .i64 1, .int .i64 2] 3)).drewN q17 = w17 at *
  have hc17 := hc16.ext hE17 (by simp)
  have hEw17 := hEw16.nil_of hE17
  have hF17 : ∀ x ∈ F8.filter (· < w12.heap.size), x < w17.heap.size := fun x hx => Nat.lt_of_lt_of_le (hF16 x hx) hE17.size
  have e17 : ([1, 2] : List Int) == [1, 2] := rfl
  clear hua2 hu2 hc16 hEw16 hF16 hE17
  go_wp2_with fail
  refine (clock_Due' _ cp _ R8 5 hc17 hF17 (fun x hx => by rw [d3 x hx]; unfold I64; omega) (by rw [d2.out]; decide)).mono ?_
  rintro e w18 ⟨u3, rfl, hu3, -, hE18⟩
  rw [d1.out] at hu3
  have hEw18 := hEw17.trans hE18 (fun x hx hlt => absurd (hF8w x hx) (by omega))
  clear hc17 hF17 hE18 hEw17 hF8w
  go_wp2_with fail
  obtain ⟨bo3, hua3, -⟩ := hu3.at
  refine (ints_Equal (hua3.ext ((Ext.refl [] w18).alloc (.cells #[.int .i64 2] 3)) (by simp)) (ints_one (c := 1) (block_alloc_new w18 (.cells #[.int .i64 2] 3))) (by decide) (by decide)).mono ?_
  rintro e w19 ⟨rfl, q19, rfl⟩
  have hE19 := (hEw18.alloc (.cells #[.int .i64 2] 3)).drewN q19
  generalize (w18.alloc (.cells #[.int .i64 2] 3)).drewN q19 = w19 at *
  have e19 : ([2] : List Int) == [2] := rfl
  go_wp2
  go_ret
  exact ⟨rfl, hE19⟩
end Go.Proofs.YtegcnimekfanaaaGreat
