/-
  WholeNumbered, the plain law of the graph: the search, circles, victims.
-/
import Derived.Test.YtegcnimekfanaaaGreatPlainG
namespace Go.Proofs.YtegcnimekfanaaaGreat

theorem idxFrom_other (y : Int) : ∀ (l : List Int) (i : Nat), Lib.idxFrom (l.map one) (one y) i = Lib.idxFrom l y i
  | [], _ => rfl
  | x :: l, i => by
    simp only [List.map_cons, Lib.idxFrom, one_inj]
    rw [idxFrom_other y l (i + 1)]
theorem idxOf_other (l : List Int) (y : Int) : Lib.idxOf (l.map one) (one y) = Lib.idxOf l y := idxFrom_other y l 0

def ost (st : List (Int × Nat)) : List (Int × Nat) := st.map fun q => (one q.1, q.2)
theorem ost_way (st : List (Int × Nat)) : ((ost st).map (·.1)).reverse = ((st.map (·.1)).reverse).map one := by
  simp [ost]

theorem other_srch (G : Gr) : ∀ (k : Nat) (st : List (Int × Nat)) (d D : Int → Bool) (l : List Int) (d' : Int → Bool), (∀ x, D (one x) = d x) → (∀ q ∈ st, q.2 ≤ (G.of q.1).length) → G.srch k st d = some (l, d') →
    ∃ D', G.other.srch k (ost st) D = some (l.map one, D') ∧ ∀ x, D' (one x) = d' x
  | k, [], d, D, l, d', hD, _, h => by
    have h1 : l = [] ∧ d' = d := by cases k <;> simp [Gr.srch] at h <;> exact ⟨h.1, h.2.symm⟩
    obtain ⟨rfl, rfl⟩ := h1
    exact ⟨D, by cases k <;> simp [Gr.srch, ost], hD⟩
  | 0, q :: r, d, D, l, d', hD, _, h => by simp [Gr.srch] at h
  | k + 1, (x, n) :: r, d, D, l, d', hD, hq, h => by
    rw [Gr.srch] at h
    have e : ost ((x, n) :: r) = (one x, n) :: ost r := rfl
    have hr : ∀ q ∈ r, q.2 ≤ (G.of q.1).length := fun q hq' => hq q (by simp [hq'])
    rw [e, Gr.srch, other_of, List.length_map]
    by_cases hn : n = (G.of x).length
    · rw [if_pos hn] at h ⊢
      refine other_srch G k r _ _ l d' (fun z => ?_) hr h
      rw [one_beq, hD]
    · rw [if_neg hn] at h ⊢
      have hlt : n < (G.of x).length := by have := hq (x, n) (by simp); simp at this; omega
      have hy : ((G.of x).map one).getD n 0 = one ((G.of x).getD n 0) := by
        rw [List.getD_eq_getElem?_getD, List.getD_eq_getElem?_getD, List.getElem?_map, List.getElem?_eq_getElem hlt]; rfl
      have hw : (((one x, n) :: ost r).map (·.1)).reverse = ((((x, n) :: r).map (·.1)).reverse).map one := ost_way ((x, n) :: r)
      rw [hy, hw, idxOf_other]
      generalize (((x, n) :: r).map (·.1)).reverse = wy at *
      have hbump : ∀ q ∈ (x, n + 1) :: r, q.2 ≤ (G.of q.1).length := by
        intro q hq'
        rcases List.mem_cons.1 hq' with rfl | hq'
        · exact hlt
        · exact hr q hq'
      by_cases hi : 0 ≤ Lib.idxOf wy ((G.of x).getD n 0)
      · rw [if_pos hi] at h ⊢
        simp only [Option.some.injEq, Prod.mk.injEq] at h
        obtain ⟨rfl, rfl⟩ := h
        exact ⟨D, by rw [List.map_drop], hD⟩
      · rw [if_neg hi] at h ⊢
        rw [hD]
        by_cases hd : d ((G.of x).getD n 0) = true
        · rw [if_pos hd] at h ⊢
          exact other_srch G k ((x, n + 1) :: r) d D l d' hD hbump h
        · rw [if_neg hd] at h ⊢
          refine other_srch G k (((G.of x).getD n 0, 0) :: (x, n + 1) :: r) d D l d' hD ?_ h
          intro q hq'
          rcases List.mem_cons.1 hq' with rfl | hq'
          · exact Nat.zero_le _
          · exact hbump q hq'

theorem other_cyc (G : Gr) (K : Nat) : ∀ (xs : List Int) (d D : Int → Bool) (l : List Int), (∀ x, D (one x) = d x) → G.cyc K xs d = some l → G.other.cyc K (xs.map one) D = some (l.map one)
  | [], d, D, l, hD, h => by
    simp only [Gr.cyc, Option.some.injEq] at h
    subst h
    rfl
  | x :: xs, d, D, l, hD, h => by
    rw [Gr.cyc] at h
    rw [List.map_cons, Gr.cyc, hD]
    by_cases hd : d x = true
    · rw [if_pos hd] at h ⊢
      exact other_cyc G K xs d D l hD h
    · rw [if_neg hd] at h ⊢
      cases hs : G.srch K [(x, 0)] d with
      | none => rw [hs] at h; cases h
      | some o =>
        obtain ⟨l1, d1⟩ := o
        rw [hs] at h
        obtain ⟨D1, hs1, hD1⟩ := other_srch G K [(x, 0)] d D l1 d1 hD (by simp) hs
        have e : ost [(x, 0)] = [(one x, 0)] := rfl
        rw [e] at hs1
        rw [hs1]
        simp only at h ⊢
        by_cases hl : l1 = []
        · subst hl
          simp only [if_true, List.map_nil] at h ⊢
          exact other_cyc G K xs d1 D1 l hD1 h
        · rw [if_neg hl] at h
          rw [if_neg (by simpa using hl)]
          simp only [Option.some.injEq] at h
          rw [h]

theorem maxOf_other (l : List Int) (h : l ≠ []) : Lib.maxOf (l.map one) = one (Lib.maxOf l) := by
  have hm : ∀ a b : Int, max (one a) (one b) = one (max a b) := by intro a b; unfold one; omega
  have hf : ∀ (l : List Int) (a : Int), (l.map one).foldl max (one a) = one (l.foldl max a) := by
    intro l
    induction l with
    | nil => intro a; rfl
    | cons x l ih => intro a; simp only [List.map_cons, List.foldl_cons, hm, ih]
  cases l with
  | nil => exact absurd rfl h
  | cons x l => exact hf (x :: l) x
end Go.Proofs.YtegcnimekfanaaaGreat
