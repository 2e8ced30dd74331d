/-
  The search through a graph comes to its end.
-/
import Derived.Test.YtegcnimekfanaaaGreatPlainH
namespace Go.Proofs.YtegcnimekfanaaaGreat

def wsum (U : List Int) (f : Int → Nat) : Nat := (U.map f).sum
theorem wsum_le {U : List Int} {f g : Int → Nat} (h : ∀ u, f u ≤ g u) : wsum U f ≤ wsum U g := by
  induction U with
  | nil => exact Nat.le_refl _
  | cons u U ih => simp only [wsum, List.map_cons, List.sum_cons] at *; have := h u; omega
theorem wsum_drop {U : List Int} {f g : Int → Nat} (h : ∀ u, f u ≤ g u) {y : Int} (hy : y ∈ U) (w : Nat) (hw : f y + w ≤ g y) : wsum U f + w ≤ wsum U g := by
  induction U with
  | nil => cases hy
  | cons u U ih =>
    have hr : wsum U f ≤ wsum U g := wsum_le h
    simp only [wsum, List.map_cons, List.sum_cons] at *
    rcases List.mem_cons.1 hy with rfl | hy
    · omega
    · have := ih hy
      have := h u
      omega

/-- What is still ahead of a search. -/
def Gr.left (G : Gr) (U : List Int) (st : List (Int × Nat)) (d : Int → Bool) : Nat :=
  wsum U (fun u => if u ∈ st.map (·.1) ∨ d u = true then 0 else (G.of u).length + 2) + (st.map fun q => (G.of q.1).length - q.2 + 1).sum

theorem idxOf_neg {l : List Int} {y : Int} (h : ¬ 0 ≤ Lib.idxOf l y) : y ∉ l := by
  intro hm
  apply h
  rw [Lib.idxOf_nonneg_iff]
  simpa using hm

theorem srch_ends (G : Gr) (U : List Int) (hU : ∀ u, ∀ y ∈ G.of u, y ∈ U) : ∀ (k : Nat) (st : List (Int × Nat)) (d : Int → Bool), (∀ q ∈ st, q.2 ≤ (G.of q.1).length) → G.left U st d ≤ k → ∃ o, G.srch k st d = some o
  | k, [], d, _, _ => ⟨([], d), by cases k <;> rfl⟩
  | 0, q :: r, d, _, h => by simp [Gr.left] at h
  | k + 1, (x, n) :: r, d, hq, h => by
    have hr : ∀ q ∈ r, q.2 ≤ (G.of q.1).length := fun q hq' => hq q (by simp [hq'])
    rw [Gr.srch]
    by_cases hn : n = (G.of x).length
    · rw [if_pos hn]
      refine srch_ends G U hU k r _ hr ?_
      unfold Gr.left at h ⊢
      have h1 : wsum U (fun u => if u ∈ r.map (·.1) ∨ (u == x || d u) = true then 0 else (G.of u).length + 2) ≤ wsum U (fun u => if u ∈ ((x, n) :: r).map (·.1) ∨ d u = true then 0 else (G.of u).length + 2) := by
        refine wsum_le fun u => ?_
        by_cases hu : u ∈ r.map (·.1) ∨ (u == x || d u) = true
        · rw [if_pos hu]; exact Nat.zero_le _
        · rw [if_neg hu]
          have : ¬ (u ∈ ((x, n) :: r).map (·.1) ∨ d u = true) := by
            intro h2
            apply hu
            rcases h2 with h2 | h2
            · simp only [List.map_cons, List.mem_cons] at h2
              rcases h2 with h2 | h2
              · exact .inr (by simp [h2])
              · exact .inl h2
            · exact .inr (by simp [h2])
          rw [if_neg this]; exact Nat.le_refl _
      simp only [List.map_cons, List.sum_cons] at h h1 ⊢
      omega
    · rw [if_neg hn]
      have hlt : n < (G.of x).length := by have := hq (x, n) (by simp); simp at this; omega
      have hbump : ∀ q ∈ (x, n + 1) :: r, q.2 ≤ (G.of q.1).length := by
        intro q hq'
        rcases List.mem_cons.1 hq' with rfl | hq'
        · exact hlt
        · exact hr q hq'
      by_cases hi : 0 ≤ Lib.idxOf (((x, n) :: r).map (·.1)).reverse ((G.of x).getD n 0)
      · rw [if_pos hi]; exact ⟨_, rfl⟩
      · rw [if_neg hi]
        have hyw := idxOf_neg hi
        by_cases hd : d ((G.of x).getD n 0) = true
        · rw [if_pos hd]
          refine srch_ends G U hU k _ d hbump ?_
          unfold Gr.left at h ⊢
          simp only [List.map_cons, List.sum_cons] at h ⊢
          omega
        · rw [if_neg hd]
          refine srch_ends G U hU k _ d ?_ ?_
          · intro q hq'
            rcases List.mem_cons.1 hq' with rfl | hq'
            · exact Nat.zero_le _
            · exact hbump q hq'
          · have hyU : (G.of x).getD n 0 ∈ U := by
              refine hU x _ ?_
              rw [List.getD_eq_getElem?_getD, List.getElem?_eq_getElem hlt, Option.getD_some]
              exact List.getElem_mem hlt
            generalize (G.of x).getD n 0 = y at *
            have hyw' : y ∉ ((x, n) :: r).map (·.1) := fun hm => hyw (List.mem_reverse.2 hm)
            unfold Gr.left at h ⊢
            have h1 : wsum U (fun u => if u ∈ ((y, 0) :: (x, n + 1) :: r).map (·.1) ∨ d u = true then 0 else (G.of u).length + 2) + ((G.of y).length + 2) ≤ wsum U (fun u => if u ∈ ((x, n) :: r).map (·.1) ∨ d u = true then 0 else (G.of u).length + 2) := by
              refine wsum_drop (fun u => ?_) hyU _ ?_
              · by_cases hu : u ∈ ((x, n) :: r).map (·.1) ∨ d u = true
                · have : u ∈ ((y, 0) :: (x, n + 1) :: r).map (·.1) ∨ d u = true := by
                    rcases hu with hu | hu
                    · left; simp only [List.map_cons, List.mem_cons] at hu ⊢; exact .inr hu
                    · exact .inr hu
                  rw [if_pos this]; exact Nat.zero_le _
                · rw [if_neg hu]; split <;> omega
              · rw [if_pos (.inl (by simp)), if_neg (fun h => h.elim hyw' hd)]
                omega
            simp only [List.map_cons, List.sum_cons] at h h1 ⊢
            omega

/-- Whoever is among these, or waited for. -/
def Gr.all (G : Gr) : List Int := G.waits ++ (G.flatMap (·.2)).filter fun y => !decide (y ∈ G.waits)
theorem of_nil {G : Gr} {x : Int} (h : x ∉ G.waits) : G.of x = [] := by
  unfold Gr.of mget
  have : G.find? (fun p => p.1 == x) = none := by
    rw [List.find?_eq_none]
    intro p hp
    have : p.1 ≠ x := fun e => h (List.mem_map.2 ⟨p, hp, e⟩)
    simpa using this
  rw [this]; rfl
theorem of_mem {G : Gr} {x y : Int} (h : y ∈ G.of x) : ∃ p ∈ G, y ∈ p.2 := by
  unfold Gr.of mget at h
  cases hf : G.find? (fun p => p.1 == x) with
  | none => rw [hf] at h; cases h
  | some p => rw [hf] at h; exact ⟨p, List.mem_of_find?_eq_some hf, h⟩
theorem all_mem {G : Gr} (u y : Int) (h : y ∈ G.of u) : y ∈ G.all := by
  obtain ⟨p, hp, hy⟩ := of_mem h
  unfold Gr.all
  by_cases hw : y ∈ G.waits
  · simp [hw]
  · exact List.mem_append.2 (.inr (List.mem_filter.2 ⟨List.mem_flatMap.2 ⟨p, hp, hy⟩, by simp [hw]⟩))
theorem wsum_app (U V : List Int) (f : Int → Nat) : wsum (U ++ V) f = wsum U f + wsum V f := by simp [wsum]
theorem wsum_const (U : List Int) (f : Int → Nat) (c : Nat) (h : ∀ u ∈ U, f u ≤ c) : wsum U f ≤ c * U.length := by
  induction U with
  | nil => simp [wsum]
  | cons u U ih =>
    have := ih fun x hx => h x (by simp [hx])
    have := h u (by simp)
    simp only [wsum, List.map_cons, List.sum_cons, List.length_cons, Nat.mul_succ] at *
    omega
theorem flat_len (G : Gr) (b : Nat) (h : ∀ p ∈ G, p.2.length ≤ b) : (G.flatMap (·.2)).length ≤ b * G.length := by
  induction G with
  | nil => simp
  | cons p G ih =>
    have := ih fun x hx => h x (by simp [hx])
    have := h p (by simp)
    simp only [List.flatMap_cons, List.length_append, List.length_cons, Nat.mul_succ]
    omega
theorem of_len {G : Gr} {b : Nat} (h : ∀ p ∈ G, p.2.length ≤ b) (x : Int) : (G.of x).length ≤ b := by
  unfold Gr.of mget
  cases hf : G.find? (fun p => p.1 == x) with
  | none => simp
  | some p => exact h p (List.mem_of_find?_eq_some hf)
/-- A search that starts at one ends within so many steps. -/
theorem from_ends (G : Gr) (a b K : Nat) (ha : G.length ≤ a) (hb : ∀ p ∈ G, p.2.length ≤ b) (hK : (b + 2) * a + 2 * (b * a) + b + 1 ≤ K) (x : Int) (d : Int → Bool) : ∃ o, G.srch K [(x, 0)] d = some o := by
  refine srch_ends G G.all all_mem K _ d (by simp) (Nat.le_trans ?_ hK)
  have hx := of_len hb x
  have h1 : wsum G.all (fun u => if u ∈ [(x, 0)].map (·.1) ∨ d u = true then 0 else (G.of u).length + 2) ≤ wsum G.all (fun u => (G.of u).length + 2) :=
    wsum_le fun u => by split <;> omega
  have h2 : wsum G.all (fun u => (G.of u).length + 2) ≤ (b + 2) * a + 2 * (b * a) := by
    unfold Gr.all
    rw [wsum_app]
    have e1 : wsum G.waits (fun u => (G.of u).length + 2) ≤ (b + 2) * G.waits.length := wsum_const _ _ _ fun u _ => by have := of_len hb u; omega
    have e2 : wsum ((G.flatMap (·.2)).filter fun y => !decide (y ∈ G.waits)) (fun u => (G.of u).length + 2) ≤ 2 * ((G.flatMap (·.2)).filter fun y => !decide (y ∈ G.waits)).length := by
      refine wsum_const _ _ _ fun u hu => ?_
      have : u ∉ G.waits := by simpa using (List.mem_filter.1 hu).2
      rw [of_nil this]; simp
    have e3 := List.length_filter_le (fun y => !decide (y ∈ G.waits)) (G.flatMap (·.2))
    have e4 := flat_len G b hb
    have e5 : G.waits.length = G.length := by simp [Gr.waits]
    rw [e5] at e1
    have e6 : (b + 2) * G.length ≤ (b + 2) * a := Nat.mul_le_mul_left _ ha
    have e7 : b * G.length ≤ b * a := Nat.mul_le_mul_left _ ha
    omega
  unfold Gr.left
  simp only [List.map_cons, List.map_nil, List.sum_cons, List.sum_nil] at h1 ⊢
  omega
theorem cyc_ends (G : Gr) (K : Nat) (h : ∀ x d, ∃ o, G.srch K [(x, 0)] d = some o) : ∀ (xs : List Int) (d : Int → Bool), ∃ l, G.cyc K xs d = some l
  | [], d => ⟨[], rfl⟩
  | x :: xs, d => by
    rw [Gr.cyc]
    by_cases hd : d x = true
    · rw [if_pos hd]; exact cyc_ends G K h xs d
    · rw [if_neg hd]
      obtain ⟨⟨l1, d1⟩, ho⟩ := h x d
      rw [ho]
      simp only
      split
      · exact cyc_ends G K h xs d1
      · exact ⟨_, rfl⟩
end Go.Proofs.YtegcnimekfanaaaGreat
