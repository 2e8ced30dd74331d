/-
  Package device, walked: zeros, Len, Loose, call, New.
-/
import Derived.Test.YtegcnimekfanaaaGreatRows
import Derived.Test.YtegcnimekfanaaaGreatBase
import Derived.Deep.RegionHeld3
import Derived.Deep.RegionLaw
namespace Go.Proofs.YtegcnimekfanaaaGreat
open Go.RowKit

theorem e110 : ETy Tryz.prog 110 9 1 16 := .of (z := .string ⟨#[]⟩) Tryz.underlying110 (by kernel_rfl) rfl (by decide)
theorem e148 : ETy Tryz.prog 148 160 2 24 := .of (z := .agg #[.int .i64 0, .string ⟨#[]⟩]) Tryz.underlying148 (by kernel_rfl) rfl (by decide)

/-- A device: its sectors, the writes that aren't flushed, how many calls are left, is the power gone, how many calls there were. -/
structure Dev where
  sectors : List ByteArray
  cache : List (Int × ByteArray)
  left : Int
  down : Bool
  calls : Int

def Dev.zero : ByteArray := ⟨(List.replicate 64 0).toArray⟩
def strs (l : List ByteArray) : List Value := l.map .string
def wrs (l : List (Int × ByteArray)) : List Value := l.flatMap fun x => [.int .i64 x.1, .string x.2]
theorem strs_length (l : List ByteArray) : (strs l).length = l.length := by simp [strs]

/-- In w a device D lies at block p, its sectors in rs, its cache in rc. -/
def DevAt (w : World) (p : Nat) (F : List Nat) (D : Dev) : Prop :=
  ∃ vs vc, w.heap[p]? = some (.cells #[vs, vc, .int .i64 D.left, .bool D.down, .int .i64 D.calls] 150 (0, 0)) ∧
    w.ownsRow 0 9 1 vs D.sectors.length (strs D.sectors) ∧ w.ownsRow 0 160 2 vc D.cache.length (wrs D.cache) ∧
    vs.ownBlock ≠ some p ∧ vc.ownBlock ≠ some p ∧ F = p :: (vs.ownBlock.toList ++ vc.ownBlock.toList)

/-- What a call does to what lies in the blocks F: R holds of the blocks F' behind it. -/
def Goes (w w' : World) (F : List Nat) (R : World → List Nat → Prop) : Prop :=
  ∃ F', R w' F' ∧ Ext F w w' ∧ ∀ x ∈ F', x ∈ F ∨ w.heap.size ≤ x
theorem Goes.refl {w : World} {F : List Nat} {R : World → List Nat → Prop} (h : R w F) : Goes w w F R := ⟨F, h, Ext.refl _ _, fun _ hx => .inl hx⟩
theorem Goes.trans {w wo w' : World} {F F1 : List Nat} {R : World → List Nat → Prop} (h1 : Ext F w wo) (h2 : ∀ x ∈ F1, x ∈ F ∨ w.heap.size ≤ x) (h : Goes wo w' F1 R) : Goes w w' F R := by
  obtain ⟨F2, hr, he, hf⟩ := h
  refine ⟨F2, hr, h1.trans he ?_, ?_⟩
  · intro x hx hlt
    rcases h2 x hx with h | h
    · exact h
    · omega
  · intro x hx
    rcases hf x hx with h | h
    · exact h2 x h
    · exact .inr (by have := h1.size; omega)

def zeros64 : Array Value := (List.replicate 64 (Value.int .u8 0)).toArray
theorem make64 (w : World) : (Instr.makeSlice 80 (.int .i64 64) (.int .i64 64)).run Tryz.prog w = .ok (.slice (some ⟨w.heap.size, 0, none⟩) 64 64) (w.alloc (.cells zeros64 5)) := by kernel_rfl
theorem conv64 (w : World) : (convert 80 9 (.slice (some ⟨w.heap.size, 0, none⟩) 64 64)).run Tryz.prog (w.alloc (.cells zeros64 5)) = .ok (.string Dev.zero) (w.alloc (.cells zeros64 5)) := by
  have := run_convert_bytes_arg (P := Tryz.prog) (w.alloc (.cells zeros64 5)) 80 5 Tryz.underlying80 Tryz.underlying5 w.heap.size 0 64 64 (List.replicate 64 0) (by simp) (by
    intro i hi
    refine cellOf (block_alloc_new _ _) ?_
    rw [zeros64, Nat.zero_add, List.getElem?_toArray, List.getElem?_replicate, if_pos hi, List.getD_eq_getElem?_getD, List.getElem?_replicate, if_pos hi]
    rfl) 9 Tryz.underlying9
  simpa [strOfNums, Dev.zero] using this
theorem dev_zeros (w : World) : Calls Tryz.prog 77 #[] w fun e w' => e = .returned (.string Dev.zero) ∧ Below w.heap.size w w' := by
  have h1 := make64 w
  have h2 := conv64 w
  go_enter Tryz.func77, Tryz.ntmps77
  go_wp2
  go_ret
  exact ⟨rfl, (Below.refl _ _).alloc (Nat.le_refl _) _⟩

theorem dev_Len (w : World) (p : Nat) (F : List Nat) (D : Dev) (h : DevAt w p F D) : Calls Tryz.prog 119 #[.pointer (some ⟨p, 0, none⟩)] w fun e w' => e = .returned (.int .i64 D.sectors.length) ∧ w = w' := by
  obtain ⟨vs, vc, hp, hs, -, -, -, -⟩ := h
  have hc := cellOf (k := 0) hp rfl
  obtain ⟨a, c, rfl⟩ : ∃ a c, vs = .slice a D.sectors.length c := by
    rcases hs.2 with ⟨rfl, h0⟩ | ⟨g, cap, cur, rfl, _⟩
    · exact ⟨_, _, by rw [h0]⟩
    · exact ⟨_, _, rfl⟩
  go_enter Tryz.func119, Tryz.ntmps119
  go_wp2
  go_ret
  exact ⟨rfl, rfl⟩

theorem slice_form {w : World} {e : TypeId} {size : Nat} {v : Value} {n : Nat} {xs : List Value} (h : w.ownsRow 0 e size v n xs) : ∃ a c, v = .slice a n c := by
  rcases h.2 with ⟨rfl, h0⟩ | ⟨g, cap, cur, rfl, _⟩
  · exact ⟨_, _, by rw [h0]⟩
  · exact ⟨_, _, rfl⟩

theorem dev_Loose (w : World) (p : Nat) (F : List Nat) (D : Dev) (h : DevAt w p F D) : Calls Tryz.prog 39 #[.pointer (some ⟨p, 0, none⟩)] w fun e w' => e = .returned (.int .i64 D.cache.length) ∧ w = w' := by
  obtain ⟨vs, vc, hp, -, hs, -, -, -⟩ := h
  have hc := cellOf (k := 1) hp rfl
  obtain ⟨a, c, rfl⟩ := slice_form hs
  go_enter Tryz.func39, Tryz.ntmps39
  go_wp2
  go_ret
  exact ⟨rfl, rfl⟩

def Dev.call (D : Dev) : Dev :=
  if D.down then D else if D.left = 0 then { D with down := true } else { D with left := if 0 < D.left then D.left - 1 else D.left, calls := wrap64 (D.calls + 1) }
def Dev.may (D : Dev) : Bool := !D.down && decide (D.left ≠ 0)

set_option maxHeartbeats 400000 in
theorem dev_call (w : World) (p : Nat) (vs vc : Value) (D : Dev) (hl : D.left ≤ 9223372036854775807)
    (hp : w.heap[p]? = some (.cells #[vs, vc, .int .i64 D.left, .bool D.down, .int .i64 D.calls] 150 (0, 0))) :
    Calls Tryz.prog 121 #[.pointer (some ⟨p, 0, none⟩)] w fun e w' => e = .returned (.bool D.may) ∧ Ext [p] w w' ∧
      w'.heap[p]? = some (.cells #[vs, vc, .int .i64 D.call.left, .bool D.call.down, .int .i64 D.call.calls] 150 (0, 0)) := by
  obtain ⟨S, C, left, down, calls⟩ := D
  simp only at hl hp
  have h0 := cellOf (k := 0) hp rfl
  have h1 := cellOf (k := 1) hp rfl
  have h2 := cellOf (k := 2) hp rfl
  have h3 := cellOf (k := 3) hp rfl
  have h4 := cellOf (k := 4) hp rfl
  have hf := fun k => freeOf (k := k) hp
  cases down with
  | true =>
    go_enter Tryz.func121, Tryz.ntmps121
    go_wp2
    go_ret
    exact ⟨rfl, Ext.refl _ _, hp⟩
  | false =>
    by_cases hz : left = 0
    · subst hz
      go_enter Tryz.func121, Tryz.ntmps121
      go_wp2
      go_ret
      exact ⟨rfl, (Ext.refl _ _).setCell (.inl (by simp)) _, block_setCell_same _ hp⟩
    · have hzb : (left == 0) = false := by simpa using hz
      by_cases hpos : 0 < left
      · go_enter Tryz.func121, Tryz.ntmps121
        go_wp2
        go_ret
        have e : Dev.call ⟨S, C, left, false, calls⟩ = ⟨S, C, left - 1, false, wrap64 (calls + 1)⟩ := by simp [Dev.call, hz, hpos]
        rw [e]
        exact ⟨by simp [Dev.may, hz], ((Ext.refl _ _).setCell (.inl (by simp)) _).setCell (.inl (by simp)) _, block_setCell_same _ (block_setCell_same _ hp)⟩
      · go_enter Tryz.func121, Tryz.ntmps121
        go_wp2
        go_ret
        have e : Dev.call ⟨S, C, left, false, calls⟩ = ⟨S, C, left, false, wrap64 (calls + 1)⟩ := by simp [Dev.call, hz]; omega
        rw [e]
        exact ⟨by simp [Dev.may, hz], (Ext.refl _ _).setCell (.inl (by simp)) _, block_setCell_same _ hp⟩

def Dev.new (n : Nat) : Dev := ⟨List.replicate n Dev.zero, [], -1, false, 0⟩

theorem strs_snoc (l : List ByteArray) (x : ByteArray) : strs (l ++ [x]) = strs l ++ [.string x] := by simp [strs]

set_option maxHeartbeats 400000 in
theorem dev_New (n : Nat) (w : World) (h0 : 1 ≤ n) (h1 : n ≤ 65536) :
    Calls Tryz.prog 27 #[.int .i64 n] w fun e w' => ∃ p, e = .returned (.tuple #[.pointer (some ⟨p, 0, none⟩), .int .i64 0]) ∧ w.heap.size ≤ p ∧ ∃ F, DevAt w' p F (Dev.new n) ∧ (∀ x ∈ F, w.heap.size ≤ x) ∧ Below w.heap.size w w' := by
  go_enter Tryz.func27, Tryz.ntmps27
  go_wp2
  go_loopw [14] (fun i wr => ∃ k : Nat, k ≤ n ∧ i = .int .i64 k ∧ Below w.heap.size w wr ∧ ∃ v, wr.heap[w.heap.size]? = some (.cells #[v, .slice none 0 0, .int .i64 (-1), .bool false, .int .i64 0] 150 (0, 0)) ∧
    wr.ownsRow 0 9 1 v k (strs (List.replicate k Dev.zero)) ∧ ∀ g, v.ownBlock = some g → w.heap.size < g) (fun i _ => n - (intOf i).toNat)
  case atStart => exact ⟨0, by omega, rfl, (Below.refl _ _).alloc (Nat.le_refl _) _, _, block_alloc_new _ _, World.ownsRow_nil _ _ _ _, by simp [Value.ownBlock]⟩
  case round =>
    obtain ⟨k, hk, rfl, hbel, v, hp, hown, hvg⟩ := hrel
    have hcp := cellOf (k := 0) hp rfl
    have hfp := freeOf (k := 0) hp
    have hpl := lt_of_block hp
    by_cases hlt : k < n
    · go_wp2_with fail
      have hvp : w.heap.size ∉ v.ownBlock.toList := by
        intro hm
        have := hvg _ (by simpa using hm)
        omega
      have hk1 : k + 1 ≤ maxLen := by simp only [maxLen]; omega
      have hk2 : (k + 1) * 16 ≤ 140737488355328 := by omega
      go_region_law (first | (go_simp; go_at_call 77; refine (dev_zeros _).mono ?_; rintro e w1 ⟨rfl, hz⟩; have hc1 : w1.cell? ⟨w.heap.size, 0, none⟩ = some v := (Ext.of_below hz).cell (by exact hcp) (by simp); have hc1a : ∀ o, (w1.alloc o).cell? ⟨w.heap.size, 0, none⟩ = some v := fun o => ((Ext.refl [] w1).alloc o).cell hc1 (by simp)) | (refine step_append_some (v := v) _ (by rfl) (.tmp 20) (.tmp 22) 110 110 (by rfl) e110 (by rfl) (by exact ((Ext.of_below hz).row hown (by simp)).alloc _) (by rfl) (by exact Src.one Tryz.underlying110 (block_alloc_new _ _) (by rfl)) (by omega) hk1 hk2 ?_; intro g2 cap2 w3 hownB hextB hgB; have hpB : w3.heap[w.heap.size]? = some (.cells #[v, .slice none 0 0, .int .i64 (-1), .bool false, .int .i64 0] 150 (0, 0)) := hextB.block (block_alloc_old _ ((Ext.of_below hz).block hp (by simp))) hvp; have hcB := cellOf (k := 0) hpB rfl; have hfB := freeOf (k := 0) hpB))
      all_goals
        have hz1 : wr.heap.size ≤ w1.heap.size := hz.size
        have hg2 : w.heap.size < g2 := by
          rcases hgB with h | h
          · exact hvg _ h
          · simp at h; omega
        have hB : Below w.heap.size w (w3.setCell ⟨w.heap.size, 0, none⟩ (.slice (some ⟨g2, 0, none⟩) (k + 1) cap2)) := by
          refine Below.setCell (p := ⟨w.heap.size, 0, none⟩) ?_ (Nat.le_refl _) _
          refine (hbel.drew.trans (hz.mono (by exact Nat.le_of_lt hpl))).trans ?_
          have hE : Ext v.ownBlock.toList w1 w3 := ((Ext.refl _ w1).alloc _).trans hextB (fun x hx _ => hx)
          exact ⟨hE.os, hE.tape, hE.output, hE.size, fun b hb => hE.same b (by omega) (fun hm => by have := hvg b (by simpa using hm); omega)⟩
        have hown4 : (w3.setCell ⟨w.heap.size, 0, none⟩ (.slice (some ⟨g2, 0, none⟩) (k + 1) cap2)).ownsRow 0 9 1 (.slice (some ⟨g2, 0, none⟩) (k + 1) cap2) (k + 1) (strs (List.replicate (k + 1) Dev.zero)) := by
          rw [List.replicate_succ', strs_snoc]
          exact ownsRow_of_block hownB fun g hg => by
            obtain rfl : g2 = g := by simpa [Value.ownBlock] using hg
            exact Below.heap_setCell _ _ _ _ (by simp; omega)
        have hp4 := block_setCell_same (k := 0) (.slice (some ⟨g2, 0, none⟩) (k + 1) cap2) hpB
        have hgg : ∀ g, (Value.slice (some ⟨g2, 0, none⟩) (k + 1) cap2).ownBlock = some g → w.heap.size < g := by
          intro g hg
          simp [Value.ownBlock] at hg
          omega
        clear hcB hfB hcp hfp
        go_wp2
        go_roundw
        case rel => exact ⟨k + 1, by omega, by go_num, hB, _, hp4, hown4, hgg⟩
        case measure => simp [intOf]; omega
    · obtain rfl : k = n := by omega
      go_wp2
      go_ret2
      refine ⟨_, rfl, Nat.le_refl _, _, ⟨v, _, hp, by simpa [Dev.new] using hown, World.ownsRow_nil _ _ _ _, ?_, by simp [Value.ownBlock], rfl⟩, ?_, hbel⟩
      · intro h; have := hvg _ h; omega
      · intro x hx
        simp [Value.ownBlock] at hx
        rcases hx with rfl | hx
        · exact Nat.le_refl _
        · exact Nat.le_of_lt (hvg x hx)
end Go.Proofs.YtegcnimekfanaaaGreat
