/-
  WholeNumbered, the plain law of the graph: with each number's other one, the same answers by these.
-/
import Derived.Test.YtegcnimekfanaaaGreatLawA
import Derived.Test.YtegcnimekfanaaaGreatGraphC
namespace Go.Proofs.YtegcnimekfanaaaGreat

theorem one_inj {a b : Int} : one a = one b ↔ a = b := by unfold one; omega
theorem one_lt {a b : Int} : one a < one b ↔ a < b := by unfold one; omega
theorem one_beq (a b : Int) : (one a == one b) = (a == b) := by
  by_cases h : a = b
  · subst h; rw [beq_self_eq_true, beq_self_eq_true]
  · have : one a ≠ one b := fun e => h (one_inj.1 e)
    rw [beq_eq_false_iff_ne.2 this, beq_eq_false_iff_ne.2 h]

def Gr.other (G : Gr) : Gr := G.map fun p => (one p.1, p.2.map one)
theorem other_waits (G : Gr) : G.other.waits = G.waits.map one := by simp [Gr.other, Gr.waits]
theorem other_of (G : Gr) (x : Int) : G.other.of (one x) = (G.of x).map one := by
  unfold Gr.of Gr.other mget
  simp only [List.find?_map, Function.comp_def, one_beq]
  cases G.find? (fun p => p.1 == x) <;> rfl
theorem other_mdel (G : Gr) (x : Int) : mdel G.other (one x) = Gr.other (mdel G x) := by
  unfold mdel Gr.other
  rw [List.filter_map]
  simp only [Function.comp_def, bne, one_beq]
theorem other_mins (q : Int × List Int) (G : Gr) : mins (one q.1, q.2.map one) G.other = Gr.other (mins q G) := by
  unfold Gr.other
  induction G with
  | nil => rfl
  | cons p G ih =>
    simp only [List.map_cons, mins, one_lt]
    split
    · rfl
    · simp [ih]
theorem other_mput (G : Gr) (x : Int) (l : List Int) : mput G.other (one x) (l.map one) = Gr.other (mput G x l) := by
  unfold mput
  rw [other_mdel]
  exact other_mins (x, l) (mdel G x)
theorem other_isort (l : List Int) : isort (l.map one) = (isort l).map one := by
  unfold isort
  refine (List.map_mergeSort (r := fun x y => decide (x ≤ y)) (s := fun x y => decide (x ≤ y)) (f := one) (l := l) ?_).symm
  intro a _ b _
  have : one a ≤ one b ↔ a ≤ b := by unfold one; omega
  simp [this]
theorem other_compact (l : List Int) : Lib.compact (l.map one) = (Lib.compact l).map one := by
  unfold Lib.compact Lib.compactUpTo
  rw [List.length_map, List.map_map]
  have hk : ∀ j ∈ List.range l.length, Lib.keeps (l.map one).toArray j = Lib.keeps l.toArray j := by
    intro j hj
    have hj' : j < l.length := List.mem_range.1 hj
    unfold Lib.keeps
    have e1 : (l.map one).toArray[j]! = one (l.toArray[j]!) := by simp [hj']
    have e2 : (l.map one).toArray[j - 1]! = one (l.toArray[j - 1]!) := by simp [show j - 1 < l.length by omega]
    rw [e1, e2]
    have : one (l.toArray[j]!) ≠ one (l.toArray[j - 1]!) ↔ l.toArray[j]! ≠ l.toArray[j - 1]! := not_congr one_inj
    simp only [this]
  rw [List.filter_congr hk]
  refine List.map_congr_left fun j hj => ?_
  have hj' : j < l.length := List.mem_range.1 (List.mem_filter.1 hj).1
  simp [hj']
theorem other_set (G : Gr) (x : Int) (l : List Int) : G.other.set (one x) (l.map one) = Gr.other (G.set x l) := by
  unfold Gr.set
  rw [other_isort, other_compact]
  by_cases h : Lib.compact (isort l) = []
  · rw [if_pos h, if_pos (by rw [h]; rfl), other_mdel]
  · rw [if_neg h, if_neg (by simpa using h), other_mput]
theorem other_drop (x : Int) (G : Gr) (y : Int) : Gr.drop (one x) G.other (one y) = Gr.other (Gr.drop x G y) := by
  unfold Gr.drop
  rw [other_of]
  have : ((G.of y).map one).filter (fun z => !decide (z = one x)) = ((G.of y).filter fun z => !decide (z = x)).map one := by
    rw [List.filter_map]
    simp only [Function.comp_def, one_inj]
  rw [this, other_set]
theorem other_fold (x : Int) (l : List Int) : ∀ G : Gr, (l.map one).foldl (Gr.drop (one x)) G.other = Gr.other (l.foldl (Gr.drop x) G) := by
  induction l with
  | nil => intro G; rfl
  | cons y l ih => intro G; simp only [List.map_cons, List.foldl_cons, other_drop, ih]
theorem other_remove (G : Gr) (x : Int) : G.other.remove (one x) = Gr.other (G.remove x) := by
  unfold Gr.remove
  rw [other_mdel, other_waits, other_fold]
end Go.Proofs.YtegcnimekfanaaaGreat
