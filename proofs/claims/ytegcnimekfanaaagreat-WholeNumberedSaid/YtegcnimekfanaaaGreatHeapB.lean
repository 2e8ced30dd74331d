/-
  alarm.row: Pop and Push.
-/
import Derived.Test.YtegcnimekfanaaaGreatHeapA
namespace Go.Proofs.YtegcnimekfanaaaGreat
open Go.RowKit

theorem eptrs_snoc (R : List En) (x : En) : eptrs (R ++ [x]) = eptrs R ++ [.pointer (some ⟨x.b, 0, none⟩)] := by simp [eptrs]
theorem e138 : ETy Tryz.prog 138 141 1 8 := ETy.of (z := .pointer none) Tryz.underlying138 (by kernel_rfl) rfl (by decide)

set_option maxRecDepth 4000 in
theorem row_Pop (w : World) (cp : Nat) (F : List Nat) (mv : Value) (R : List En) (x : En) (h : HeapAt w cp F mv (R ++ [x])) (hn : R.length < 1000000) :
    Calls Tryz.prog 248 #[.pointer (some ⟨cp, 0, none⟩)] w fun e w' => e = .returned (.iface 141 (.pointer (some ⟨x.b, 0, none⟩))) ∧ HeapAt w' cp F mv R ∧ Ext F w w' := by
  obtain ⟨v', h1, h2, h3, h4, h5, h6, h7⟩ := h
  obtain ⟨g, c, rfl⟩ := slice_some h2 (by simp)
  have hcl := ownsRow_cap h2
  simp only [List.length_append, List.length_cons, List.length_nil, Nat.zero_add] at h2 hcl
  obtain ⟨n, hnn⟩ : ∃ n, R.length = n := ⟨_, rfl⟩
  have cl := ownsRow_cell h2 (i := n) (u := .pointer (some ⟨x.b, 0, none⟩)) (by rw [eptrs_snoc, List.getElem?_append_right (by simp [eptrs, hnn])]; simp [eptrs, hnn])
  have cl1 := cl.1
  have cl2 := cl.2
  have hgc : g ≠ cp := fun e => row_not h2 h1 (by simp) (by rw [← e]; rfl)
  have hpost : ∀ w1, w1 = (w.setCell ⟨g, n, none⟩ (.pointer none)).setCell ⟨cp, 0, none⟩ (.slice (some ⟨g, 0, none⟩) n c) → HeapAt w1 cp F mv R ∧ Ext F w w1 := by
    rintro w1 rfl
    have hE : Ext F w ((w.setCell ⟨g, n, none⟩ (.pointer none)).setCell ⟨cp, 0, none⟩ (.slice (some ⟨g, 0, none⟩) n c)) := (((Ext.refl F w)).setCell (.inl (h6 g rfl)) _).setCell (.inl h5) _
    refine ⟨⟨.slice (some ⟨g, 0, none⟩) n c, ?_, ?_, ?_, ?_, h5, h6, fun z hz => h7 z (by simp [hz])⟩, hE⟩
    · exact block_setCell_same (k := 0) _ (block_setCell_other _ h1 (Ne.symm hgc))
    · rw [hnn]
      rw [eptrs_snoc, hnn] at h2
      have r1 := ownsRow_set (i := n) (.pointer none) h2
      rw [List.set_append_right _ _ (by simp [eptrs, hnn])] at r1
      refine ownsRow_of_block (ownsRow_less r1 (by simp [eptrs, hnn]) (by omega)) fun g' hg' => ?_
      obtain rfl : g = g' := by simpa [Value.ownBlock] using hg'
      exact Below.heap_setCell _ _ _ _ hgc
    · intro i z hz
      have hb := h3 i z (by rw [List.getElem?_append_left (List.getElem?_eq_some_iff.1 hz).1]; exact hz)
      have hzg : z.b ≠ g := fun e => row_not h2 hb (by simp) (by rw [e]; rfl)
      have hzc : z.b ≠ cp := by intro e; rw [e, h1] at hb; simp at hb
      rw [Below.heap_setCell _ _ _ _ hzc, Below.heap_setCell _ _ _ _ hzg]
      exact hb
    · rw [List.map_append] at h4
      exact (List.nodup_append.1 h4).1
  replace hpost := hid hpost
  have c0 := cellOf (k := 0) h1 rfl
  have f0 := freeOf (k := 0) h1
  have hnc : (n : Int) ≤ (c : Int) := by omega
  rw [hnn] at hn hcl
  have hcz : (w.setCell ⟨g, n, none⟩ (.pointer none)).cell? ⟨cp, 0, none⟩ = some (.slice (some ⟨g, 0, none⟩) (n + 1) c) := by
    have := cellOf (k := 0) (block_setCell_other (p := ⟨g, n, none⟩) (.pointer none) h1 (Ne.symm hgc)) rfl
    rw [show (R ++ [x]).length = n + 1 by simp [hnn]] at this
    exact this
  rw [show (R ++ [x]).length = n + 1 by simp [hnn]] at c0
  clear h1 h2 h3 h4 h5 h6 h7 cl hnn
  go_enter Tryz.func248, Tryz.ntmps248
  go_wp2
  go_ret
  exact ⟨rfl, hpost.out _ rfl⟩

theorem HeapAt.mono {w : World} {cp : Nat} {F F' : List Nat} {mv : Value} {R : List En} (h : HeapAt w cp F mv R) (hF : ∀ x ∈ F, x ∈ F') : HeapAt w cp F' mv R := by
  obtain ⟨v, h1, h2, h3, h4, h5, h6, h7⟩ := h
  exact ⟨v, h1, h2, h3, h4, hF _ h5, fun g hg => hF _ (h6 g hg), fun x hx => hF _ (h7 x hx)⟩

theorem assert141 (a : Addr) (w : World) : (Instr.typeAssert (.iface 141 (.pointer (some a))) 20 141 true).run Tryz.prog w = .ok (.tuple #[.pointer (some a), .bool true]) w := by kernel_rfl

set_option maxRecDepth 4000 in
theorem row_Push (w : World) (cp b : Nat) (F : List Nat) (mv : Value) (R : List En) (tick id idx : Int) (h : HeapAt w cp F mv R) (hb : w.heap[b]? = some (.cells #[.int .i64 tick, .int .i64 id, .int .i64 idx] 143 (0, 0)))
    (hbF : b ∈ F) (hbR : b ∉ R.map (·.b)) (hn : R.length < 1000000) :
    Calls Tryz.prog 249 #[.pointer (some ⟨cp, 0, none⟩), .iface 141 (.pointer (some ⟨b, 0, none⟩))] w fun e w' => e = .returned (.tuple #[]) ∧
      ∃ F', HeapAt w' cp F' mv (R ++ [⟨tick, id, b⟩]) ∧ Ext F w w' ∧ (∀ x ∈ F, x ∈ F') ∧ ∀ x ∈ F', x ∈ F ∨ w.heap.size ≤ x := by
  obtain ⟨v, h1, h2, h3, h4, h5, h6, h7⟩ := h
  obtain ⟨n, hnn⟩ : ∃ n, R.length = n := ⟨_, rfl⟩
  rw [hnn] at h2 hn
  have hvc : v.ownBlock ≠ some cp := row_not h2 h1 (by simp)
  have hvb : v.ownBlock ≠ some b := row_not h2 hb (by simp)
  have hcb : cp ≠ b := by rintro rfl; rw [h1] at hb; simp at hb
  obtain ⟨a, c, rfl⟩ := slice_form h2
  have hE1 : Ext F w (w.setCell ⟨b, 2, none⟩ (.int .i64 (n : Int))) := (Ext.refl F w).setCell (.inl hbF) _
  have hX1 : Ext [b] w (w.setCell ⟨b, 2, none⟩ (.int .i64 (n : Int))) := (Ext.refl [b] w).setCell (.inl (by simp)) _
  have h1a := hX1.block h1 (by simpa using hcb)
  have h2a := hX1.row h2 (fun g hg => by intro hm; simp at hm; subst hm; exact hvb hg)
  have hba := block_setCell_same (k := 2) (.int .i64 (n : Int)) hb
  have c0 := cellOf (k := 0) h1 rfl
  have b2 := cellOf (k := 2) hb rfl
  have b2f := freeOf (k := 2) hb
  have c0a := cellOf (k := 0) h1a rfl
  have hta := assert141 ⟨b, 0, none⟩
  have hnew : ((w.setCell ⟨b, 2, none⟩ (.int .i64 (n : Int))).alloc (.cells #[.pointer (some ⟨b, 0, none⟩)] 141)).heap[w.heap.size]? = some (.cells #[.pointer (some ⟨b, 0, none⟩)] 141 (0, 0)) := by
    have := block_alloc_new (w.setCell ⟨b, 2, none⟩ (.int .i64 (n : Int))) (.cells #[.pointer (some ⟨b, 0, none⟩)] 141)
    rwa [World.size_setCell] at this
  go_enter Tryz.func249, Tryz.ntmps249
  go_wp2_with (at_builtin; refine wl_append_some (v := .slice a n c) _ rfl (.tmp 22) (.tmp 24) 138 138 rfl e138 rfl (h2a.alloc _) rfl (Src.one Tryz.underlying138 hnew rfl) (by omega) ?_ ?_ ?_)
  case refine_1 => simp only [maxLen]; omega
  case refine_2 => omega
  intro g cap w2 hown hX hg
  have notv : ∀ b', b' ∈ (Value.slice a n c).ownBlock.toList → (Value.slice a n c).ownBlock = some b' := fun b' hb' => by simpa using hb'
  have hX2 : Ext (b :: (Value.slice a n c).ownBlock.toList) w w2 := ((hX1.alloc (.cells #[.pointer (some ⟨b, 0, none⟩)] 141)).mono (by simp)).trans hX (by intro x hx _; simp [hx])
  have hE2 : Ext F w w2 := hX2.mono (by
    intro x hx _
    rcases List.mem_cons.1 hx with rfl | hx
    · exact hbF
    · exact h6 x (notv x hx))
  have h1b := hX2.block h1 (by intro hm; rcases List.mem_cons.1 hm with hm | hm; exact hcb hm; exact hvc (notv _ hm))
  have hbb : w2.heap[b]? = some (.cells #[.int .i64 tick, .int .i64 id, .int .i64 (n : Int)] 143 (0, 0)) := hX.block (block_alloc_old _ hba) (fun hm => hvb (notv _ hm))
  have hgb : g ≠ b := fun e => row_not hown hbb (by simp) (by rw [← e]; rfl)
  have hgc : g ≠ cp := fun e => row_not hown h1b (by simp) (by rw [← e]; rfl)
  have hg0 : g ∈ F ∨ w.heap.size ≤ g := by
    rcases hg with hg | hg
    · exact .inl (h6 g hg)
    · exact .inr (by omega)
  have hpost : ∀ w1, w1 = w2.setCell ⟨cp, 0, none⟩ (.slice (some ⟨g, 0, none⟩) (n + 1) cap) → HeapAt w1 cp (g :: F) mv (R ++ [⟨tick, id, b⟩]) ∧ Ext F w w1 := by
    rintro w1 rfl
    refine ⟨⟨.slice (some ⟨g, 0, none⟩) (n + 1) cap, block_setCell_same (k := 0) _ h1b, ?_, ?_, ?_, by simp [h5], ?_, ?_⟩, hE2.setCell (.inl h5) _⟩
    · rw [eptrs_snoc, List.length_append, hnn]
      refine ownsRow_of_block hown fun g' hg' => ?_
      obtain rfl : g = g' := by simpa [Value.ownBlock] using hg'
      exact Below.heap_setCell _ _ _ _ hgc
    · intro i z hz
      rcases Nat.lt_or_ge i R.length with hlt | hge
      · rw [List.getElem?_append_left hlt] at hz
        have hzb := h3 i z hz
        have hzc : z.b ≠ cp := by intro e; rw [e, h1] at hzb; simp at hzb
        rw [Below.heap_setCell _ _ _ _ hzc]
        refine hX2.block hzb ?_
        intro hm
        rcases List.mem_cons.1 hm with hm | hm
        · exact hbR (List.mem_map.2 ⟨z, List.mem_of_getElem? hz, hm⟩)
        · exact row_not h2 hzb (by simp) (notv _ hm)
      · rw [List.getElem?_append_right hge] at hz
        have hi : i = n := by
          have := (List.getElem?_eq_some_iff.1 hz).1
          simp at this
          omega
        subst hi
        simp only [hnn, Nat.sub_self, List.getElem?_cons_zero, Option.some.injEq] at hz
        subst hz
        rw [Below.heap_setCell _ _ _ _ (Ne.symm hcb)]
        exact hbb
    · rw [List.map_append]
      refine List.nodup_append.2 ⟨h4, by simp, ?_⟩
      intro x hx y hy e
      simp only [List.map_cons, List.map_nil, List.mem_singleton] at hy
      subst hy
      exact hbR (e ▸ hx)
    · intro g' hg'
      obtain rfl : g = g' := by simpa [Value.ownBlock] using hg'
      simp
    · intro z hz
      rcases List.mem_append.1 hz with hz | hz
      · simp [h7 z hz]
      · simp only [List.mem_singleton] at hz
        subst hz
        simp [hbF]
  replace hpost := hid hpost
  have c0b := cellOf (k := 0) h1b rfl
  have c0f := freeOf (k := 0) h1b
  clear h1 h2 h3 h4 h6 h7 h1a h2a hba hown hX hX2 hE2 hE1 hX1 hnew hta c0 b2 b2f c0a hg h1b hbb
  go_wp2
  go_end0
  refine ⟨rfl, g :: F, (hpost.out _ rfl).1, (hpost.out _ rfl).2, fun x hx => by simp [hx], fun x hx => ?_⟩
  rcases List.mem_cons.1 hx with rfl | hx
  · exact hg0
  · exact .inl hx
end Go.Proofs.YtegcnimekfanaaaGreat
