/-
  The heap's steps under a map that keeps the order.
-/
import Derived.Test.YtegcnimekfanaaaGreatPlainI
namespace Go.Proofs.YtegcnimekfanaaaGreat

inductive Pairs {α β : Type} (rel : α → β → Prop) : List α → List β → Prop
  | nil : Pairs rel [] []
  | cons {a : α} {b : β} {l : List α} {m : List β} (h : rel a b) (t : Pairs rel l m) : Pairs rel (a :: l) (b :: m)
section
variable {α β : Type} {lt : α → α → Bool} {lt' : β → β → Bool} {R : List α} {S : List β}
/-- Two rows, place for place, as the one order sees the one and the other order the other. -/
def Alike (lt : α → α → Bool) (lt' : β → β → Bool) (rel : α → β → Prop) : Prop := ∀ a b a' b', rel a a' → rel b b' → lt a b = lt' a' b'
variable {rel : α → β → Prop}

theorem pair_get (h : Pairs rel R S) (i : Nat) : (R[i]? = none ∧ S[i]? = none) ∨ ∃ a b, R[i]? = some a ∧ S[i]? = some b ∧ rel a b := by
  induction h generalizing i with
  | nil => simp
  | cons h1 _ ih =>
    cases i with
    | zero => exact .inr ⟨_, _, rfl, rfl, h1⟩
    | succ i => simpa using ih i
theorem pair_length (h : Pairs rel R S) : R.length = S.length := by
  induction h with
  | nil => rfl
  | cons _ _ ih => simp [ih]
theorem pair_set (h : Pairs rel R S) (i : Nat) {a : α} {b : β} (hab : rel a b) : Pairs rel (R.set i a) (S.set i b) := by
  induction h generalizing i with
  | nil => exact .nil
  | cons h1 h2 ih =>
    cases i with
    | zero => exact .cons hab h2
    | succ i => exact .cons h1 (ih i)
theorem pair_swp (h : Pairs rel R S) (i j : Nat) : Pairs rel (swp R i j) (swp S i j) := by
  unfold swp
  rcases pair_get h i with ⟨h1, h2⟩ | ⟨a, b, h1, h2, h3⟩
  · rw [h1, h2]; exact h
  · rcases pair_get h j with ⟨k1, k2⟩ | ⟨a', b', k1, k2, k3⟩
    · rw [h1, h2, k1, k2]; exact h
    · rw [h1, h2, k1, k2]
      exact pair_set (pair_set h i k3) j h3
theorem pair_less (hl : Alike lt lt' rel) (h : Pairs rel R S) (i j : Nat) : hless lt R i j = hless lt' S i j := by
  unfold hless
  rcases pair_get h i with ⟨h1, h2⟩ | ⟨a, b, h1, h2, h3⟩
  · rw [h1, h2]
  · rcases pair_get h j with ⟨k1, k2⟩ | ⟨a', b', k1, k2, k3⟩
    · rw [h1, h2, k1, k2]
    · rw [h1, h2, k1, k2]
      exact hl _ _ _ _ h3 k3
theorem pair_hup (hl : Alike lt lt' rel) : ∀ (k : Nat) {R : List α} {S : List β} (j : Nat), Pairs rel R S → Pairs rel (hup lt k R j) (hup lt' k S j)
  | 0, _, _, _, h => h
  | k + 1, R, S, j, h => by
    rw [hup, hup, pair_less hl h]
    split
    · exact h
    · split
      · exact pair_hup hl k _ (pair_swp h _ _)
      · exact h
theorem pair_hdown (hl : Alike lt lt' rel) : ∀ (k : Nat) {R : List α} {S : List β} (i n : Nat), Pairs rel R S → Pairs rel (hdown lt k R i n).1 (hdown lt' k S i n).1 ∧ (hdown lt k R i n).2 = (hdown lt' k S i n).2
  | 0, _, _, _, _, h => ⟨h, rfl⟩
  | k + 1, R, S, i, n, h => by
    rw [hdown, hdown]
    simp only [pair_less hl h]
    split
    · exact ⟨h, rfl⟩
    · generalize (if 2 * i + 2 < n ∧ hless lt' S (2 * i + 2) (2 * i + 1) = true then 2 * i + 2 else 2 * i + 1) = j
      split
      · exact pair_hdown hl k _ _ (pair_swp h _ _)
      · exact ⟨h, rfl⟩
theorem pair_hmend (hl : Alike lt lt' rel) (h : Pairs rel R S) (i n : Nat) : Pairs rel (hmend lt R i n) (hmend lt' S i n) := by
  obtain ⟨h1, h2⟩ := pair_hdown hl R.length i n h
  unfold hmend
  rw [← pair_length h, h2]
  split
  · exact h1
  · exact pair_hup hl _ _ h1
theorem pair_hfix (hl : Alike lt lt' rel) (h : Pairs rel R S) (i : Nat) : Pairs rel (hfix lt R i) (hfix lt' S i) := by
  unfold hfix; rw [← pair_length h]; exact pair_hmend hl h _ _
theorem pair_app (h : Pairs rel R S) {a : α} {b : β} (hab : rel a b) : Pairs rel (R ++ [a]) (S ++ [b]) := by
  induction h with
  | nil => exact .cons hab .nil
  | cons h1 _ ih => exact .cons h1 ih
theorem pair_dropLast (h : Pairs rel R S) : Pairs rel R.dropLast S.dropLast := by
  induction h with
  | nil => exact .nil
  | cons h1 h2 ih =>
    cases h2 with
    | nil => exact .nil
    | cons h3 h4 => exact .cons h1 ih
theorem pair_hpush (hl : Alike lt lt' rel) (h : Pairs rel R S) {a : α} {b : β} (hab : rel a b) : Pairs rel (hpush lt R a) (hpush lt' S b) := by
  unfold hpush; rw [← pair_length h]; exact pair_hup hl _ _ (pair_app h hab)
theorem pair_hrem (hl : Alike lt lt' rel) (h : Pairs rel R S) (i : Nat) : Pairs rel (hrem lt R i) (hrem lt' S i) := by
  unfold hrem; rw [← pair_length h]
  split
  · exact pair_dropLast h
  · exact pair_dropLast (pair_hmend hl (pair_swp h _ _) _ _)
end

/-- One alarm, and its other one: so much later, by the other number. -/
def Later (late : Int) (x y : En) : Prop := y.tick = x.tick + late ∧ y.id = one x.id
theorem later_alike (late : Int) : Alike En.lt En.lt (Later late) := by
  intro a b a' b' ⟨h1, h2⟩ ⟨h3, h4⟩
  unfold En.lt
  rw [h1, h2, h3, h4]
  by_cases h : a.tick = b.tick
  · rw [if_pos h, if_pos (by rw [h])]
    simp only [one_lt]
  · rw [if_neg h, if_neg (by omega)]
    have : a.tick < b.tick ↔ a.tick + late < b.tick + late := by omega
    simp only [this]
theorem pair_hdue (late : Int) : ∀ (k : Nat) {R S : List En} (now : Int), Pairs (Later late) R S → (hdue k S (now + late)).1 = (hdue k R now).1.map one ∧ Pairs (Later late) (hdue k R now).2 (hdue k S (now + late)).2
  | 0, _, _, _, h => ⟨rfl, h⟩
  | k + 1, R, S, now, h => by
    cases h with
    | nil => exact ⟨rfl, .nil⟩
    | cons h1 h2 =>
      rename_i a b l m
      have ih := pair_hdue late k now (pair_hrem (later_alike late) (.cons h1 h2) 0)
      rw [hdue, hdue]
      by_cases ht : a.tick ≤ now
      · have ht' : b.tick ≤ now + late := by rw [h1.1]; omega
        rw [if_pos ht, if_pos ht']
        refine ⟨?_, ih.2⟩
        simp only [List.map_cons, h1.2, ih.1]
      · have ht' : ¬ b.tick ≤ now + late := by rw [h1.1]; omega
        rw [if_neg ht, if_neg ht']
        exact ⟨rfl, .cons h1 h2⟩

theorem pair_ids {late : Int} {R S : List En} (h : Pairs (Later late) R S) (id : Int) : (∀ x ∈ R, x.id ≠ id) ↔ ∀ y ∈ S, y.id ≠ one id := by
  induction h with
  | nil => simp
  | cons h1 _ ih =>
    simp only [List.mem_cons, forall_eq_or_imp, ih, h1.2, ne_eq, one_inj]
theorem pair_SetTo {late : Int} {R S R' S' : List En} {id t : Int} (h : Pairs (Later late) R S) (hinj : ∀ (i j : Nat) (x y : En), S[i]? = some x → S[j]? = some y → x.id = y.id → i = j)
    (h1 : SetTo R id t R') (h2 : SetTo S (one id) (t + late) S') : Pairs (Later late) R' S' := by
  rcases h1 with ⟨i, x, hx, hxi, rfl⟩ | ⟨hno, b, rfl⟩
  · rcases pair_get h i with ⟨h3, -⟩ | ⟨a, c, h3, h4, h5⟩
    · rw [hx] at h3; cases h3
    · rw [hx] at h3; cases h3
      rcases h2 with ⟨j, y, hy, hyi, rfl⟩ | ⟨hno, -⟩
      · obtain rfl : j = i := hinj j i y c hy h4 (by rw [hyi, h5.2, hxi])
        exact pair_hfix (later_alike late) (pair_set h j ⟨rfl, rfl⟩) j
      · exact absurd (by rw [h5.2, hxi]) (hno c (List.mem_of_getElem? h4))
  · rcases h2 with ⟨j, y, hy, hyi, rfl⟩ | ⟨hno', b', rfl⟩
    · exact absurd hyi ((pair_ids h id).1 hno y (List.mem_of_getElem? hy))
    · exact pair_hpush (later_alike late) h ⟨rfl, rfl⟩
end Go.Proofs.YtegcnimekfanaaaGreat
