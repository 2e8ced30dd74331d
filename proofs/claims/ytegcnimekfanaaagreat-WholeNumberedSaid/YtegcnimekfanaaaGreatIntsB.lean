/-
  Slices of ints of the call's own: cloned, sorted, compacted, cut by a test; read: index, equal, greatest.
-/
import Derived.Test.YtegcnimekfanaaaGreatMaps
namespace Go.Proofs.YtegcnimekfanaaaGreat
open Go.RowKit Go.Sort

def IntRow (w : World) (base : Nat) (v : Value) (xs : List Int) : Prop := w.ownsRow base 3 1 v xs.length (xs.map (.int .i64))

theorem IntRow.nil (w : World) (base : Nat) : IntRow w base (.slice none 0 0) [] := World.ownsRow_nil _ _ _ _
theorem IntRow.split {w : World} {base : Nat} {v : Value} {xs : List Int} (h : IntRow w base v xs) :
    (v = .slice none 0 0 ∧ xs = []) ∨ ∃ g cap cur, v = .slice (some ⟨g, 0, none⟩) xs.length cap ∧ base ≤ g ∧ w.heap[g]? = some (.cells cur 3 (0, 0)) ∧ xs.length ≤ cap ∧ cap ≤ maxLen ∧ cur.size = cap ∧ cur.toList.take xs.length = xs.map (.int .i64) := by
  unfold IntRow at h
  rcases h.2 with ⟨rfl, h0⟩ | ⟨g, cap, cur, rfl, h1, h2, h3, h4, h5, h6⟩
  · exact .inl ⟨rfl, List.eq_nil_of_length_eq_zero h0⟩
  · exact .inr ⟨g, cap, cur, rfl, h1, h2, h3, h4, by simpa using h5, by simpa using h6⟩
theorem IntRow.mk {w : World} {base g cap : Nat} {cur : Array Value} {xs : List Int} (h1 : base ≤ g) (h2 : w.heap[g]? = some (.cells cur 3 (0, 0))) (h3 : xs.length ≤ cap) (h4 : cap ≤ maxLen) (h5 : cur.size = cap)
    (h6 : cur.toList.take xs.length = xs.map (.int .i64)) : IntRow w base (.slice (some ⟨g, 0, none⟩) xs.length cap) xs :=
  ⟨by simp, .inr ⟨g, cap, cur, rfl, h1, h2, h3, h4, by simpa using h5, by simpa using h6⟩⟩
theorem IntRow.lt {w : World} {base : Nat} {v : Value} {xs : List Int} (h : IntRow w base v xs) {g : Nat} (hg : v.ownBlock = some g) : base ≤ g ∧ g < w.heap.size := by
  unfold IntRow at h
  exact h.lt g hg
theorem IntRow.ext {S : List Nat} {w w' : World} {base : Nat} {v : Value} {xs : List Int} (h : IntRow w base v xs) (he : Ext S w w') (hb : ∀ g, v.ownBlock = some g → g ∉ S) : IntRow w' base v xs := by
  have hl := fun g hg => h.lt (g := g) hg
  rcases h.split with ⟨rfl, rfl⟩ | ⟨g, cap, cur, rfl, h1, h2, h3, h4, h5, h6⟩
  · exact IntRow.nil _ _
  · exact IntRow.mk h1 ((he.same g (hl g rfl).2 (hb g rfl)).trans h2) h3 h4 h5 h6
theorem IntRow.base {w : World} {base b' : Nat} {v : Value} {xs : List Int} (h : IntRow w base v xs) (hb : b' ≤ base) : IntRow w b' v xs := by
  unfold IntRow at h ⊢
  exact ownsRow_base_a h hb
theorem IntRow.cells {w : World} {base g n cap : Nat} {xs : List Int} (h : IntRow w base (.slice (some ⟨g, 0, none⟩) n cap) xs) (j : Nat) (hj : j < xs.length) : w.cell? ⟨g, j, none⟩ = some (.int .i64 (xs.getD j 0)) := by
  rcases h.split with ⟨h, _⟩ | ⟨g', cap', cur, hv, _, hb, _, _, _, h6⟩
  · simp at h
  · simp only [Value.slice.injEq, Option.some.injEq, Addr.mk.injEq] at hv
    obtain ⟨⟨rfl, -⟩, rfl, rfl⟩ := hv
    refine cellOf hb ?_
    have h7 : (cur.toList.take xs.length)[j]? = (xs.map (.int .i64))[j]? := by rw [h6]
    rw [List.getElem?_take_of_lt hj, Array.getElem?_toList] at h7
    rw [h7]
    simp [hj]
theorem IntRow.at {w : World} {base : Nat} {v : Value} {xs : List Int} (h : IntRow w base v xs) : ∃ bo, IntsAt w v bo xs ∧ v.ownBlock = bo := by
  rcases h.split with ⟨rfl, rfl⟩ | ⟨g, cap, cur, rfl, h1, h2, h3, h4, h5, h6⟩
  · exact ⟨none, ⟨none, 0, rfl, .inl ⟨rfl, rfl⟩⟩, rfl⟩
  · exact ⟨some g, ⟨_, _, rfl, .inr ⟨g, 0, rfl, rfl, fun j hj => by simpa using h.cells j hj⟩⟩, rfl⟩

theorem ety27 : ETy Tryz.prog 27 3 1 8 := ETy.of (z := .int .i64 0) Tryz.underlying27 (by kernel_rfl) rfl (by decide)

theorem ints_Clone {w : World} {v : Value} {bo : Option Nat} {xs : List Int} (h : IntsAt w v bo xs) (hbig : xs.length ≤ 1000000) (hv : ∀ a n c, v = .slice (some a) n c → ∃ b off, a = ⟨b, off, none⟩) :
    Calls Tryz.prog 14 #[v] w fun e w' => ∃ v', e = .returned v' ∧ IntRow w' w.heap.size v' xs ∧ (xs ≠ [] → v' ≠ .slice none 0 0) ∧ Ext [] w w' := by
  obtain ⟨-, ⟨i, z, hi, hz, hs, hb8, hzs⟩, -⟩ := ety27
  obtain ⟨a, c, rfl, h⟩ := h
  have hm : maxLen = 9223372036854775807 := rfl
  cases a with
  | none =>
    rcases h with ⟨rfl, -⟩ | ⟨b, off, h, _⟩
    · exact (Tryz.slices_Clone_nil _ c w).mono fun e w' ⟨h1, h2⟩ => by subst h2; exact ⟨_, h1, IntRow.nil _ _, by simp, Ext.refl _ _⟩
    · cases h
  | some a =>
    obtain ⟨b, off, rfl⟩ := hv a _ _ rfl
    have h : ∀ j, j < xs.length → w.cell? ⟨b, off + j, none⟩ = some (.int .i64 (xs.getD j 0)) := by
      rcases h with ⟨rfl, -⟩ | ⟨b, off, h0, -, h⟩
      · intro j hj; simp at hj
      · cases h0; exact h
    refine (Tryz.slices_Clone i z 1 8 hi hz hs hb8 hzs (by omega) (fun w => Tryz.sizeOf3 w) b off xs.length c (xs.map (.int .i64)) w (by simp) (by rw [hm]; omega) (by omega) ?_ ?_).mono fun e w' ⟨v', h1, h2, h3, h4⟩ => ⟨v', h1, h2, fun _ => h3, Ext.of_below h4⟩
    · intro j u hu
      have hj : j < xs.length := by have := (List.getElem?_eq_some_iff.1 hu).1; simpa using this
      rw [h j hj]
      simp [hj] at hu
      simp [hu, hj]
    · intro u hu
      obtain ⟨z, -, rfl⟩ := List.mem_map.1 hu
      rfl

theorem take_putCells (cur : Array Value) (ts : List Int) (m : Nat) (h : ts.length ≤ cur.size) (hm : m ≤ ts.length) : (putCells (Value.int .i64) 0 ts.toArray cur).toList.take m = (ts.take m).map (.int .i64) := by
  have := congrArg (List.take m) (take_putCells_i cur ts h)
  rw [List.take_take, Nat.min_eq_left hm] at this
  rw [show putCells (Value.int .i64) 0 ts.toArray cur = putCells encZ 0 ts.toArray cur from rfl, this, List.map_take]
theorem IntRow.put {w : World} {base g n cap : Nat} {xs : List Int} (h : IntRow w base (.slice (some ⟨g, 0, none⟩) n cap) xs) (ys : List Int) (hy : ys.length = xs.length) (m : Nat) (hm : m ≤ ys.length) (k : Nat) (os : Array Obj) :
    IntRow (grow (putRow (Value.int .i64) (Sort.ahead w k) g 0 ys.toArray) os) base (.slice (some ⟨g, 0, none⟩) (ys.take m).length cap) (ys.take m) ∧ Ext [g] w (grow (putRow (Value.int .i64) (Sort.ahead w k) g 0 ys.toArray) os) := by
  rcases h.split with ⟨h, _⟩ | ⟨g', cap', cur, hv, h1, h2, h3, h4, h5, h6⟩
  · cases h
  · cases hv
    have hl : (ys.take m).length = m := by simp; omega
    refine ⟨IntRow.mk h1 (heap_sorted_i _ h2) (by omega) h4 (by simp [putCells, h5]) ?_, ?_⟩
    · rw [hl, take_putCells cur ys m (by omega) hm]
    · exact (Ext.refl _ w).grown (grownBy_sorted_i _) (fun k hk => by cases hk; simp)
theorem putRow_nil (w : World) (os : World) (h : w = os) : w = grow os #[] := by subst h; cases w; simp [grow]

theorem IntRow.holds {w : World} {base g n cap : Nat} {xs : List Int} (h : IntRow w base (.slice (some ⟨g, 0, none⟩) n cap) xs) : Holds (Value.int .i64) w g 0 xs.toArray := by
  rcases h.split with ⟨h, _⟩ | ⟨g', cap', cur, hv, h1, h2, h3, h4, h5, h6⟩
  · cases h
  · cases hv
    exact holds_of_block_i h2 h6

def isort (xs : List Int) : List Int := xs.mergeSort fun x y => decide (x ≤ y)
theorem isort_length (xs : List Int) : (isort xs).length = xs.length := by simp [isort]

theorem ints_Sort {w : World} {base : Nat} {v : Value} {xs : List Int} (h : IntRow w base v xs) (hbig : xs.length ≤ 1000000) :
    Calls Tryz.prog 68 #[v] w fun e w' => e = .returned (.tuple #[]) ∧ IntRow w' base v (isort xs) ∧ Ext v.ownBlock.toList w w' := by
  have h0 := h
  rcases h.split with ⟨rfl, rfl⟩ | ⟨g, cap, cur, rfl, h1, h2, h3, h4, h5, h6⟩
  · exact (Tryz.slices_Sort_int_none none 0 w).mono fun e w' ⟨h1, h2⟩ => by subst h2; exact ⟨h1, by simpa [isort] using h0, Ext.refl _ _⟩
  · refine (Tryz.slices_Sort_int g 0 cap xs w h.holds (lt_of_block h2) (by omega)).mono ?_
    rintro e w' ⟨rfl, n, os, rfl⟩
    have := h.put (isort xs) (isort_length xs) (isort xs).length (Nat.le_refl _) n os
    rw [List.take_of_length_le (Nat.le_refl _)] at this
    rw [isort_length] at this
    exact ⟨rfl, this.1, this.2⟩

theorem ints_Compact {w : World} {base : Nat} {v : Value} {xs : List Int} (h : IntRow w base v xs) (hbig : xs.length ≤ 1000000) :
    Calls Tryz.prog 69 #[v] w fun e w' => ∃ v', e = .returned v' ∧ IntRow w' base v' (Lib.compact xs) ∧ v'.ownBlock = v.ownBlock ∧ Ext v.ownBlock.toList w w' := by
  have h0 := h
  rcases h.split with ⟨rfl, rfl⟩ | ⟨g, cap, cur, rfl, h1, h2, h3, h4, h5, h6⟩
  · exact (Tryz.slices_Compact_int_empty none 0 w).mono fun e w' ⟨h1, h2⟩ => by subst h2; exact ⟨_, h1, h0, rfl, Ext.refl _ _⟩
  · refine (Tryz.slices_Compact_int g 0 cap xs w h.holds (by omega) h3).mono ?_
    rintro e w' ⟨rfl, q, rfl⟩
    have hle : (Lib.compact xs).length ≤ xs.length := Lib.compact_length_le xs
    have := h.put (Lib.compact xs ++ List.replicate (xs.length - (Lib.compact xs).length) 0) (by simp; omega) (Lib.compact xs).length (by simp) q #[]
    rw [List.take_left' rfl, ← putRow_nil _ _ rfl] at this
    exact ⟨_, rfl, this.1, rfl, this.2⟩

/-- The closure of Remove: is it this one? -/
theorem is67 (x z : Int) (B : Nat) (W : World) (hc : W.cell? ⟨B, 0, none⟩ = some (.int .i64 x)) :
    FnGives Tryz.prog 67 #[.pointer (some ⟨B, 0, none⟩)] #[.int .i64 z] (.bool (decide (z = x))) W := by
  show Calls Tryz.prog 67 #[.int .i64 z, .pointer (some ⟨B, 0, none⟩)] W _
  go_enter Tryz.func67, Tryz.ntmps67
  go_wp2
  all_goals (go_ret; exact ⟨by by_cases h : z = x <;> simp [h], 0, rfl⟩)

theorem ints_DeleteFunc {w : World} {base : Nat} {v : Value} {xs : List Int} (h : IntRow w base v xs) (hbig : xs.length ≤ 1000000) (x : Int) (B : Nat) (hne : ∀ g, v.ownBlock = some g → g ≠ B) (hB : w.cell? ⟨B, 0, none⟩ = some (.int .i64 x)) :
    Calls Tryz.prog 66 #[v, .func (.func 67) #[] #[.pointer (some ⟨B, 0, none⟩)]] w fun e w' => ∃ v', e = .returned v' ∧ IntRow w' base v' (xs.filter (fun z => !decide (z = x))) ∧ v'.ownBlock = v.ownBlock ∧ Ext v.ownBlock.toList w w' := by
  have h0 := h
  have eg : ∀ args w, (callFunc 67 args).run Tryz.prog w = .ok (.enter 67 args) w := enters_of Tryz.func67 (by kernel_rfl) rfl
  have hBl := lt_of_cell hB
  rcases h.split with ⟨rfl, rfl⟩ | ⟨g, cap, cur, rfl, h1, h2, h3, h4, h5, h6⟩
  · have h65 : Calls Tryz.prog 65 #[.slice none 0 0, .func (.func 67) #[] #[.pointer (some ⟨B, 0, none⟩)]] w fun e w' => e = .returned (.int .i64 (-1)) ∧ w' = w := AnyE.slices_IndexFunc_empty Tryz.l65 none 0 _ w
    go_enter Tryz.func66, Tryz.ntmps66
    go_wp2_with (go_at_call 65; refine h65.mono ?_; rintro e w' ⟨rfl, rfl⟩)
    go_ret
    exact ⟨_, rfl, h0, rfl, Ext.refl _ _⟩
  · have hgB : g ≠ B := hne g rfl
    refine (AnyE.slices_DeleteFunc Tryz.l66 (Value.int .i64) (fun _ => rfl) (fun z => decide (z = x)) 67 #[.pointer (some ⟨B, 0, none⟩)] eg 0 Tryz.zeroValue3 g 0 cap xs.toArray w ?_ ?_ h.holds (by simp; omega) (by simpa using h3)).mono ?_
    · exact fun W z hb => is67 x z B W ((hb.cell (p := ⟨B, 0, none⟩) hBl).trans hB)
    · exact fun n os dk z _ => is67 x z B _ (by
        unfold sortWorld
        rw [cell?_grow _ _ _ (by show B < (putRow _ _ _ _ _).heap.size; rw [size_putRow]; exact hBl), cell?_putRow_other _ _ g 0 _ _ (Or.inl (Ne.symm hgB))]
        exact hB)
    · rintro e w' ⟨rfl, q, rfl⟩
      simp only [List.size_toArray]
      have hle : (xs.filter (fun z => !decide (z = x))).length ≤ xs.length := List.length_filter_le _ _
      have := h.put (xs.filter (fun z => !decide (z = x)) ++ List.replicate (xs.length - (xs.filter (fun z => !decide (z = x))).length) 0) (by simp only [List.length_append, List.length_replicate]; omega) (xs.filter (fun z => !decide (z = x))).length (by simp) q #[]
      rw [List.take_left' rfl, ← putRow_nil _ _ rfl] at this
      exact ⟨_, rfl, this.1, rfl, this.2⟩
theorem ints_Index {w : World} {v : Value} {bo : Option Nat} {xs : List Int} (x : Int) (h : IntsAt w v bo xs) (hbig : xs.length ≤ 9223372036854775807) :
    Calls Tryz.prog 114 #[v, .int .i64 x] w fun e w' => e = .returned (.int .i64 (Lib.idxOf xs x)) ∧ w = w' := by
  obtain ⟨a, c, rfl, h⟩ := h
  rcases h with ⟨rfl, -⟩ | ⟨b, off, rfl, -, h⟩
  · exact (Tryz.slices_Index_int_empty a c x w).mono fun e w' ⟨h1, h2⟩ => ⟨by simpa using h1, h2.symm⟩
  · exact (Tryz.slices_Index_int b off xs.length c xs x w (Nat.le_refl _) hbig h).mono fun e w' ⟨h1, h2⟩ => ⟨by simpa using h1, h2.symm⟩
theorem ints_Max {w : World} {v : Value} {bo : Option Nat} {xs : List Int} (h : IntsAt w v bo xs) (hn : xs ≠ []) (hbig : xs.length ≤ 9223372036854775807) :
    Calls Tryz.prog 70 #[v] w fun e w' => e = .returned (.int .i64 (Lib.maxOf xs)) ∧ w = w' := by
  obtain ⟨a, c, rfl, h⟩ := h
  rcases h with ⟨rfl, -⟩ | ⟨b, off, rfl, -, h⟩
  · exact absurd rfl hn
  · exact (Tryz.slices_Max_int b off xs.length c xs w (List.length_pos_iff.2 hn) (Nat.le_refl _) hbig h).mono fun e w' ⟨h1, h2⟩ => ⟨by simpa using h1, h2.symm⟩
theorem ints_Equal {w : World} {v u : Value} {bo bu : Option Nat} {xs ys : List Int} (h : IntsAt w v bo xs) (k : IntsAt w u bu ys) (hbig : xs.length ≤ 9223372036854775807) (hbig2 : ys.length ≤ 9223372036854775807) :
    Calls Tryz.prog 16 #[v, u] w fun e w' => e = .returned (.bool (xs == ys)) ∧ ∃ q, w' = w.drewN q := by
  obtain ⟨a, c, rfl, h⟩ := h
  obtain ⟨a2, c2, rfl, k⟩ := k
  rcases h with ⟨rfl, -⟩ | ⟨b, off, rfl, -, h⟩
  · refine (Tryz.slices_Equal_int_empty a a2 c ys.length c2 w hbig2).mono fun e w' ⟨h1, h2⟩ => ⟨?_, 0, h2⟩
    rw [h1]; cases ys <;> simp
  · rcases k with ⟨rfl, -⟩ | ⟨b2, off2, rfl, -, k⟩
    · by_cases hx : xs = []
      · subst hx
        exact (Tryz.slices_Equal_int_empty (some ⟨b, off, none⟩) a2 c 0 c2 w (by omega)).mono fun e w' ⟨h1, h2⟩ => ⟨by simpa using h1, 0, h2⟩
      · refine (Tryz.slices_Equal_int_lens (some ⟨b, off, none⟩) a2 xs.length c 0 c2 w (by simpa using hx)).mono fun e w' ⟨h1, h2⟩ => ⟨?_, 0, h2⟩
        rw [h1]; cases xs <;> simp at hx ⊢
    · exact (Tryz.slices_Equal_int b off xs.length c b2 off2 ys.length c2 xs ys w (Nat.le_refl _) (Nat.le_refl _) hbig hbig2 h k).mono fun e w' ⟨h1, h2⟩ => ⟨by simpa using h1, h2⟩
end Go.Proofs.YtegcnimekfanaaaGreat
