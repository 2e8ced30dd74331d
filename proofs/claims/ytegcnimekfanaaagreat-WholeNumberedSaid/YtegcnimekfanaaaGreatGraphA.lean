/-
  Package graph, walked: New, On, Waits, Set, Remove.
-/
import Derived.Test.YtegcnimekfanaaaGreatIntsB
namespace Go.Proofs.YtegcnimekfanaaaGreat
open Go.RowKit

abbrev Gr := List (Int × List Int)
def Gr.of (G : Gr) (x : Int) : List Int := (mget G x).getD []
def Gr.waits (G : Gr) : List Int := G.map (·.1)
def Gr.set (G : Gr) (x : Int) (ys : List Int) : Gr := if Lib.compact (isort ys) = [] then mdel G x else mput G x (Lib.compact (isort ys))
def Gr.small (G : Gr) : Prop := G.length ≤ 1000000 ∧ ∀ x ∈ G, x.2.length ≤ 1000000

/-- A graph in memory: its cell, its map, the slices that the map holds. -/
def GraphAt (w : World) (p mb : Nat) (G : Gr) : Prop :=
  w.heap[p]? = some (.cells #[.map (some mb)] 123 (0, 0)) ∧ ∃ (val : Int → Value) (bo : Int → Nat), MapAt w mb (G.map fun x => (x.1, val x.1)) ∧ ∀ x ∈ G, x.2 ≠ [] ∧ ∃ g c, val x.1 = .slice (some ⟨g, 0, none⟩) x.2.length c ∧ IntsAt w (val x.1) (some (bo x.1)) x.2

theorem IntsAt.not_map {w : World} {v : Value} {b : Nat} {xs : List Int} (h : IntsAt w v (some b) xs) (hx : xs ≠ []) {es : Array MapEntry} {c : Nat} : w.heap[b]? ≠ some (.map es c) := by
  obtain ⟨a, c, rfl, ⟨_, h⟩ | ⟨b', off, rfl, hb, h⟩⟩ := h
  · cases h
  · cases hb
    intro he
    have := h 0 (List.length_pos_iff.2 hx)
    simp [World.cell?, he] at this
theorem GraphAt.ext {S : List Nat} {w w' : World} {p mb : Nat} {G : Gr} (h : GraphAt w p mb G) (he : Ext S w w') (hS : ∀ b ∈ S, b < w.heap.size → b ≠ mb ∧ ∃ es c, w.heap[b]? = some (.map es c)) : GraphAt w' p mb G := by
  obtain ⟨hp, val, bo, hm, hv⟩ := h
  have nS : ∀ b o, w.heap[b]? = some o → (∀ es c, o ≠ .map es c) → b ∉ S := fun b o hb hn hs => by
    obtain ⟨-, es, c, hm⟩ := hS b hs (lt_of_block hb)
    rw [hb] at hm
    exact hn es c (Option.some.inj hm)
  refine ⟨he.block hp (nS _ _ hp (fun _ _ => by simp)), val, bo, hm.ext he (fun hs => (hS mb hs hm.lt).1 rfl), fun x hx => ?_⟩
  obtain ⟨h1, g, c, h2, h3⟩ := hv x hx
  refine ⟨h1, g, c, h2, h3.ext he fun b hb => ?_⟩
  cases hb
  intro hs
  have hlt : bo x.1 < w.heap.size := by
    obtain ⟨a, c, _, ⟨_, h⟩ | ⟨b', off, rfl, hb, h⟩⟩ := h3
    · cases h
    · cases hb; exact lt_of_cell (h 0 (List.length_pos_iff.2 h1))
  obtain ⟨-, es, c', hm'⟩ := hS _ hs hlt
  exact h3.not_map h1 hm'
theorem GraphAt.ext0 {w w' : World} {p mb : Nat} {G : Gr} (h : GraphAt w p mb G) (he : Ext [] w w') : GraphAt w' p mb G := h.ext he (by simp)

theorem mget_map {α β : Type} (G : List (Int × α)) (f : Int × α → β) (x : Int) : mget (G.map fun p => (p.1, f p)) x = ((G.find? fun p => p.1 == x).map f) := by
  unfold mget
  simp only [List.find?_map, Function.comp_def, Option.map_map]

theorem graph_New (w : World) : Calls Tryz.prog 10 #[] w fun e w' => ∃ p mb, e = .returned (.pointer (some ⟨p, 0, none⟩)) ∧ GraphAt w' p mb [] ∧ Ext [] w w' ∧ w.heap.size ≤ p ∧ w.heap.size ≤ mb := by
  have hmm := @run_makeMap Tryz.prog
  go_enter Tryz.func10, Tryz.ntmps10
  go_wp2
  go_ret
  exact ⟨_, _, rfl, ⟨block_alloc_new2 _ _ _, fun _ => .slice none 0 0, fun _ => 0, (MapAt.made w).ext ((Ext.refl [] _).alloc _) (by simp), by simp⟩, ((Ext.refl [] w).alloc _).alloc _, by omega, Nat.le_refl _⟩

theorem zero27 (w : World) : (zeroValue 27).run Tryz.prog w = .ok (.slice none 0 0) w := Tryz.zeroValue27 w

theorem graph_On (w : World) (p mb : Nat) (G : Gr) (x : Int) (h : GraphAt w p mb G) (hs : G.small) (hx : I64 x) :
    Calls Tryz.prog 19 #[.pointer (some ⟨p, 0, none⟩), .int .i64 x] w fun e w' => ∃ v, e = .returned v ∧ IntRow w' w.heap.size v (G.of x) ∧ Ext [] w w' := by
  obtain ⟨hp, val, bo, hm, hv⟩ := h
  have hrun := hm.lookup Tryz.underlying121 zero27 hx
  have c0 := cellOf (k := 0) hp rfl
  have hc : ∃ v bo', (mget (G.map fun x => (x.1, val x.1)) x).getD (.slice none 0 0) = v ∧ IntsAt w v bo' (G.of x) ∧ (G.of x).length ≤ 1000000 ∧ (∀ a n c, v = .slice (some a) n c → ∃ b off, a = ⟨b, off, none⟩) := by
    rw [mget_map G (fun x => val x.1) x]
    unfold Gr.of mget
    cases hf : G.find? fun p => p.1 == x with
    | none => exact ⟨_, none, rfl, ⟨none, 0, rfl, .inl ⟨rfl, rfl⟩⟩, by simp, by rintro a n c h; cases h⟩
    | some q =>
      obtain ⟨h1, g, c, h2, h3⟩ := hv q (List.mem_of_find?_eq_some hf)
      refine ⟨val q.1, some (bo q.1), rfl, h3, hs.2 q (List.mem_of_find?_eq_some hf), ?_⟩
      rintro a n c' h; rw [h2] at h; cases h; exact ⟨_, _, rfl⟩
  obtain ⟨v, bo', hv1, hv2, hv3, hv4⟩ := hc
  rw [hv1] at hrun
  clear hv1 hv
  go_enter Tryz.func19, Tryz.ntmps19
  go_wp2_with fail
  refine (ints_Clone hv2 hv3 hv4).mono ?_
  rintro e w1 ⟨u, rfl, h1, -, h3⟩
  go_wp2
  go_ret
  exact ⟨_, rfl, h1, h3⟩

theorem isort_of_rising {l : List Int} (h : l.Pairwise (· < ·)) : isort l = l := by
  unfold isort
  exact List.mergeSort_of_pairwise (h.imp fun {a b} hab => by simp; omega)
theorem GraphAt.rising {w : World} {p mb : Nat} {G : Gr} (h : GraphAt w p mb G) : G.waits.Pairwise (· < ·) := by
  obtain ⟨hp, val, bo, hm, hv⟩ := h
  have := hm.rising
  rw [List.map_map] at this
  exact this

theorem graph_Waits (w : World) (p mb : Nat) (G : Gr) (h : GraphAt w p mb G) (hs : G.length ≤ 1000000) :
    Calls Tryz.prog 18 #[.pointer (some ⟨p, 0, none⟩)] w fun e w' => ∃ v, e = .returned v ∧ IntRow w' w.heap.size v G.waits ∧ Ext [] w w' := by
  have hr := h.rising
  obtain ⟨hp, val, bo, hm, hv⟩ := h
  have c0 := cellOf (k := 0) hp rfl
  have hS := Tryz.slices_Sorted_keys_72 mb _ _ MR w hm.own (by rw [mapD_size]; simp [maxLen]; omega) (by rw [mapD_size]; simp; omega)
  clear hv
  go_enter Tryz.func18, Tryz.ntmps18
  go_wp2_with fail
  refine (Tryz.maps_Keys_73 _ _).mono ?_
  rintro e w1 ⟨rfl, rfl⟩
  go_wp2_with fail
  refine hS.mono ?_
  rintro e w2 ⟨v, ss, rfl, hp1, hrow, -, hb⟩
  go_wp2
  go_ret
  rw [mapD_keys, List.map_map] at hp1
  have e1 : ss.mergeSort (fun x y => decide (x ≤ y)) = G.waits := by
    rw [mergeSort_of_perm_i hp1]
    exact isort_of_rising hr
  have e2 : ss.length = G.waits.length := hp1.length_eq
  rw [e1, e2] at hrow
  refine ⟨v, rfl, IntRow.base (base := (w.alloc (.cells #[.map (some mb)] 121)).heap.size) hrow (by simp), ?_⟩
  exact ((Ext.refl [] w).alloc _).trans (Ext.of_below hb) (by simp)

theorem compact_nil : Lib.compact ([] : List Int) = [] := rfl

theorem mdel_map (G : Gr) (f : Int → Value) (x : Int) : mdel (G.map fun q => (q.1, f q.1)) x = (mdel G x).map fun q => (q.1, f q.1) := by
  unfold mdel
  rw [List.filter_map]
  rfl
theorem mins_map (q : Int × List Int) (f : Int → Value) (G : Gr) : mins (q.1, f q.1) (G.map fun q => (q.1, f q.1)) = (mins q G).map fun q => (q.1, f q.1) := by
  induction G with
  | nil => rfl
  | cons r G ih =>
    simp only [List.map_cons, mins]
    split
    · rfl
    · simp [ih]
theorem mem_mdel {α : Type} {G : List (Int × α)} {x : Int} {q : Int × α} (h : q ∈ mdel G x) : q ∈ G ∧ q.1 ≠ x := by
  simpa [mdel] using h
theorem mem_mins {α : Type} {G : List (Int × α)} {x q : Int × α} (h : q ∈ mins x G) : q = x ∨ q ∈ G := by
  induction G with
  | nil => simpa [mins] using h
  | cons r G ih =>
    simp only [mins] at h
    split at h
    · simpa using h
    · rcases List.mem_cons.1 h with h | h
      · exact .inr (by simp [h])
      · rcases ih h with h | h
        · exact .inl h
        · exact .inr (by simp [h])
theorem mem_mput {α : Type} {G : List (Int × α)} {x : Int} {v : α} {q : Int × α} (h : q ∈ mput G x v) : q = (x, v) ∨ (q ∈ G ∧ q.1 ≠ x) := by
  rcases mem_mins h with h | h
  · exact .inl h
  · exact .inr (mem_mdel h)

theorem graph_Set (w : World) (p mb : Nat) (G : Gr) (x : Int) (v : Value) (bo : Option Nat) (ys : List Int) (h : GraphAt w p mb G) (hs : G.length < 1000000) (hx : I64 x)
    (hv : IntsAt w v bo ys) (hv2 : ∀ a n c, v = .slice (some a) n c → ∃ b off, a = ⟨b, off, none⟩) (hl : ys.length ≤ 1000000) :
    Calls Tryz.prog 13 #[.pointer (some ⟨p, 0, none⟩), .int .i64 x, v] w fun e w' => e = .returned (.tuple #[]) ∧ GraphAt w' p mb (G.set x ys) ∧ Ext [mb] w w' := by
  go_enter Tryz.func13, Tryz.ntmps13
  go_wp2_with fail
  refine (ints_Clone hv hl hv2).mono ?_
  rintro e w1 ⟨u, rfl, h1, -, hE1⟩
  go_wp2_with fail
  refine (ints_Sort h1 hl).mono ?_
  rintro e w2 ⟨rfl, h2, hE2⟩
  go_wp2_with fail
  refine (ints_Compact h2 (by rw [isort_length]; exact hl)).mono ?_
  rintro e w3 ⟨u3, rfl, h3, ho, hE3⟩
  have hub : ∀ g, u.ownBlock = some g → w.heap.size ≤ g := fun g hg => (h1.lt hg).1
  have hE : Ext [] w w3 := by
    refine ((hE1.trans hE2 ?_).trans hE3 ?_)
    all_goals
      intro g hg hlt
      have := hub g (by simpa using hg)
      omega
  have hg3 := h.ext0 hE
  obtain ⟨hp, val, bo, hm, hvv⟩ := hg3
  have c0 := cellOf (k := 0) hp rfl
  have hset : G.set x ys = if Lib.compact (isort ys) = [] then mdel G x else mput G x (Lib.compact (isort ys)) := rfl
  generalize hzs : Lib.compact (isort ys) = zs at *
  have hpm : p ≠ mb := by
    rintro rfl
    obtain ⟨es, c, he⟩ := hm.map
    rw [hp] at he
    cases he
  by_cases hz0 : zs = []
  · obtain ⟨a, c, rfl⟩ : ∃ a c, u3 = .slice a 0 c := by
      obtain ⟨b, h, -⟩ := h3.at
      obtain ⟨a, c, h⟩ := h.form
      exact ⟨a, c, by rw [h, hz0]; rfl⟩
    obtain ⟨w4, hrun, hm4, hE4, -⟩ := hm.delete Tryz.underlying121 hx 0
    rw [if_pos hz0] at hset
    have hset3 := hid hset
    have hpm := hid hpm
    clear hset hzs h3 ho hz0
    go_wp2
    refine bodyPost_ret (results_none rfl _ _ _) rfl ?_
    rw [hset3.out]
    rw [mdel_map] at hm4
    refine ⟨rfl, ⟨hE4.block hp (by simpa using hpm.out), val, bo, hm4, fun q hq => ?_⟩, (hE.mono (by simp)).trans hE4 (by simp)⟩
    obtain ⟨h1, g, c, h2, h3⟩ := hvv q (mem_mdel hq).1
    refine ⟨h1, g, c, h2, h3.ext hE4 fun b hb hmem => ?_⟩
    cases hb
    simp only [List.mem_singleton] at hmem
    obtain ⟨es, c, he⟩ := hm.map
    rw [← hmem] at he
    exact h3.not_map h1 he
  · rcases h3.split with ⟨rfl, h⟩ | ⟨g, cap, cur, rfl, k1, k2, k3, k4, k5, k6⟩
    · exact absurd h hz0
    rw [if_neg hz0] at hset
    obtain ⟨w4, hrun, hm4, hE4, -⟩ := hm.update Tryz.underlying121 (by simp [maxLen]; omega) hx (.slice (some ⟨g, 0, none⟩) zs.length cap)
    have hset2 := hid hset
    have hpm := hid hpm
    have hs := hid hs
    have hl := hid hl
    have hzs := hid hzs
    have k2 := hid k2
    have hat : IntsAt w3 (.slice (some ⟨g, 0, none⟩) zs.length cap) (some g) zs := ⟨_, _, rfl, .inr ⟨g, 0, rfl, rfl, fun j hj => by simpa using h3.cells j hj⟩⟩
    have hat := hid hat
    have hm4 := hid hm4
    have hb0 : ((zs.length : Int) == 0) = false := by cases zs <;> simp at hz0 ⊢; omega
    have hz0 := hid hz0
    clear hset k1 k3 k4 k5 k6 ho h3
    go_wp2
    go_end0
    rw [hset2.out]
    have hm5 := hm4.out
    refine ⟨rfl, ⟨hE4.block hp (by simpa using hpm.out), fun k => if k = x then .slice (some ⟨g, 0, none⟩) zs.length cap else val k, fun k => if k = x then g else bo k, ?_, fun q hq => ?_⟩, (hE.mono (by simp)).trans hE4 (by simp)⟩
    · have e1 : mput (G.map fun q => (q.1, val q.1)) x (.slice (some ⟨g, 0, none⟩) zs.length cap) = (mput G x zs).map fun q => (q.1, if q.1 = x then .slice (some ⟨g, 0, none⟩) zs.length cap else val q.1) := by
        unfold mput
        rw [mdel_map]
        have e2 : ((mdel G x).map fun q => (q.1, val q.1)) = (mdel G x).map fun q => (q.1, if q.1 = x then .slice (some ⟨g, 0, none⟩) zs.length cap else val q.1) :=
          List.map_congr_left fun q hq => by rw [if_neg (mem_mdel hq).2]
        rw [e2]
        have := mins_map (x, zs) (fun k => if k = x then .slice (some ⟨g, 0, none⟩) zs.length cap else val k) (mdel G x)
        simpa using this
      rw [← e1]
      exact hm5
    · have nb : ∀ (b : Nat) (v : Value) (xs : List Int), IntsAt w3 v (some b) xs → xs ≠ [] → IntsAt w4 v (some b) xs := fun b v xs h hx => h.ext hE4 fun b' hb hmem => by
        cases hb
        simp only [List.mem_singleton] at hmem
        obtain ⟨es, c, he⟩ := hm.map
        rw [← hmem] at he
        exact h.not_map hx he
      rcases mem_mput hq with rfl | ⟨hq, hne⟩
      · simp only [if_true]
        exact ⟨hz0.out, g, cap, rfl, nb _ _ _ hat.out hz0.out⟩
      · simp only [hne, if_false]
        obtain ⟨h1, g', c', h2, h3⟩ := hvv q hq
        exact ⟨h1, g', c', h2, nb _ _ _ h3 h1⟩
end Go.Proofs.YtegcnimekfanaaaGreat
