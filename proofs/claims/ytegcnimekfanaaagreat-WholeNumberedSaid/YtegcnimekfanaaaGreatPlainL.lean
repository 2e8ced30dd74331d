/-
  WholeNumbered, the plain law of the graph: how large it grows, and what a circle's length is.
-/
import Derived.Test.YtegcnimekfanaaaGreatPlainI
namespace Go.Proofs.YtegcnimekfanaaaGreat

def Near (z : Int) : Prop := -1099511627776 ≤ z ∧ z ≤ 1099511627776
theorem Near.i64 {z : Int} (h : Near z) : I64 z := by unfold Near at h; unfold I64; omega
theorem Near.one {z : Int} (h : Near z) : I64 (one z) := by unfold Near at h; unfold I64 Go.Proofs.YtegcnimekfanaaaGreat.one; omega

structure Gd (G : Gr) (n : Nat) : Prop where
  len : G.length ≤ n
  row : ∀ p ∈ G, p.2.length ≤ 20 ∧ Near p.1 ∧ ∀ y ∈ p.2, Near y

theorem mem_compact {l : List Int} {y : Int} (h : y ∈ Lib.compact l) : y ∈ l := by
  unfold Lib.compact Lib.compactUpTo at h
  obtain ⟨j, hj, rfl⟩ := List.mem_map.1 h
  have hj' : j < l.length := List.mem_range.1 (List.mem_filter.1 hj).1
  simp [hj']
theorem mem_isort {l : List Int} {y : Int} : y ∈ isort l ↔ y ∈ l := by unfold isort; exact List.mem_mergeSort
theorem compact_isort_len (l : List Int) : (Lib.compact (isort l)).length ≤ l.length := by
  have := Lib.compact_length_le (isort l)
  rwa [isort_length] at this
theorem mdel_lt {G : Gr} {x : Int} (h : x ∈ G.waits) : (mdel G x).length + 1 ≤ G.length := by
  unfold mdel
  obtain ⟨p, hp, rfl⟩ := List.mem_map.1 h
  have : (G.filter fun q => q.1 != p.1).length < G.length := List.length_filter_lt_length_iff_exists.2 ⟨p, hp, by simp⟩
  omega
theorem set_mem {G : Gr} {x : Int} {l : List Int} {p : Int × List Int} (h : p ∈ G.set x l) : p ∈ G ∨ p = (x, Lib.compact (isort l)) := by
  unfold Gr.set at h
  split at h
  · exact .inl (mem_mdel h).1
  · rcases mem_mput h with h | h
    · exact .inr h
    · exact .inl h.1
theorem set_len (G : Gr) (x : Int) (l : List Int) : (G.set x l).length ≤ G.length + 1 := by
  unfold Gr.set
  have := mdel_length G x
  split
  · omega
  · unfold mput; rw [mins_length]; omega
theorem set_len_in {G : Gr} {x : Int} (l : List Int) (h : x ∈ G.waits) : (G.set x l).length ≤ G.length := by
  have := mdel_lt h
  unfold Gr.set
  split
  · omega
  · unfold mput; rw [mins_length]; omega
theorem mem_mins_of {α : Type} {x q : Int × α} {G : List (Int × α)} (h : q ∈ G) : q ∈ mins x G := by
  induction G with
  | nil => cases h
  | cons r G ih =>
    simp only [mins]
    split
    · exact List.mem_cons_of_mem _ h
    · rcases List.mem_cons.1 h with rfl | h
      · simp
      · exact List.mem_cons_of_mem _ (ih h)
theorem set_keeps {G : Gr} {x y : Int} (l : List Int) (h : y ∈ G.waits) (hne : y ≠ x) : y ∈ (G.set x l).waits := by
  obtain ⟨p, hp, rfl⟩ := List.mem_map.1 h
  have hd : p ∈ mdel G x := by unfold mdel; exact List.mem_filter.2 ⟨hp, by simpa using hne⟩
  unfold Gr.set
  split
  · exact List.mem_map.2 ⟨p, hd, rfl⟩
  · exact List.mem_map.2 ⟨p, mem_mins_of hd, rfl⟩
theorem Gd.mono {G : Gr} {n m : Nat} (h : Gd G n) (hm : n ≤ m) : Gd G m := ⟨Nat.le_trans h.len hm, h.row⟩
theorem Gd.nil : Gd [] 0 := ⟨Nat.le_refl _, by simp⟩
theorem Gd.ofLen {G : Gr} {n : Nat} (h : Gd G n) (x : Int) : (G.of x).length ≤ 20 := of_len (fun p hp => (h.row p hp).1) x
theorem Gd.ofNear {G : Gr} {n : Nat} (h : Gd G n) (x : Int) : ∀ y ∈ G.of x, Near y := fun y hy => by
  obtain ⟨p, hp, hy'⟩ := of_mem hy
  exact (h.row p hp).2.2 y hy'
theorem Gd.waitsNear {G : Gr} {n : Nat} (h : Gd G n) : ∀ y ∈ G.waits, Near y := fun y hy => by
  obtain ⟨p, hp, rfl⟩ := List.mem_map.1 hy
  exact (h.row p hp).2.1
theorem Gd.setRow {G : Gr} {x : Int} {l : List Int} (h : ∀ p ∈ G, p.2.length ≤ 20 ∧ Near p.1 ∧ ∀ y ∈ p.2, Near y) (hx : Near x) (hl : l.length ≤ 20) (hy : ∀ y ∈ l, Near y) :
    ∀ p ∈ G.set x l, p.2.length ≤ 20 ∧ Near p.1 ∧ ∀ y ∈ p.2, Near y := fun p hp => by
  rcases set_mem hp with hp | rfl
  · exact h p hp
  · exact ⟨Nat.le_trans (compact_isort_len l) hl, hx, fun y h => hy y (mem_isort.1 (mem_compact h))⟩
theorem Gd.set {G : Gr} {n : Nat} (h : Gd G n) {x : Int} {l : List Int} (hx : Near x) (hl : l.length ≤ 20) (hy : ∀ y ∈ l, Near y) : Gd (G.set x l) (n + 1) :=
  ⟨Nat.le_trans (set_len G x l) (Nat.succ_le_succ h.len), Gd.setRow h.row hx hl hy⟩
theorem Gd.del {G : Gr} {n : Nat} (h : Gd G n) (x : Int) : Gd (mdel G x) n := ⟨Nat.le_trans (mdel_length G x) h.len, fun p hp => h.row p (mem_mdel hp).1⟩
theorem fold_good (x : Int) : ∀ (ys : List Int) (G : Gr) (n : Nat), Gd G n → ys.Nodup → (∀ y ∈ ys, y ∈ G.waits) → Gd (ys.foldl (Gr.drop x) G) n
  | [], _, _, h, _, _ => h
  | y :: ys, G, n, h, hn, hy => by
    obtain ⟨hny, hn⟩ := List.nodup_cons.1 hn
    have hyw := hy y (by simp)
    refine fold_good x ys (Gr.drop x G y) n ⟨Nat.le_trans (set_len_in _ hyw) h.len, Gd.setRow h.row (h.waitsNear y hyw) ?_ ?_⟩ hn ?_
    · exact Nat.le_trans (List.length_filter_le _ _) (h.ofLen y)
    · exact fun z hz => h.ofNear y z (List.mem_filter.1 hz).1
    · intro z hz
      exact set_keeps _ (hy z (by simp [hz])) (fun e => hny (e ▸ hz))
theorem Gd.removeTo {G : Gr} {n : Nat} (h : Gd G n) (hr : G.waits.Pairwise (· < ·)) (x : Int) (k : Nat) : Gd (((Gr.waits (mdel G x)).take k).foldl (Gr.drop x) (mdel G x)) n := by
  have hnd : (Gr.waits (mdel G x)).Nodup := by
    have : (Gr.waits (mdel G x)).Sublist G.waits := (List.filter_sublist (l := G)).map _
    exact (hr.sublist this).imp fun {a b} hab => by omega
  exact fold_good x _ _ n (h.del x) (hnd.sublist (List.take_sublist _ _)) fun y hy => List.mem_of_mem_take hy
theorem Gd.remove {G : Gr} {n : Nat} (h : Gd G n) (hr : G.waits.Pairwise (· < ·)) (x : Int) : Gd (G.remove x) n := by
  have := h.removeTo hr x (Gr.waits (mdel G x)).length
  rwa [List.take_length] at this

theorem srch_near (G : Gr) (hG : ∀ x, ∀ y ∈ G.of x, Near y) : ∀ (k : Nat) (st : List (Int × Nat)) (d : Int → Bool) (l : List Int) (d' : Int → Bool), (∀ q ∈ st, q.2 ≤ (G.of q.1).length ∧ Near q.1) → G.srch k st d = some (l, d') → l.length ≤ st.length + k ∧ ∀ y ∈ l, Near y
  | k, [], d, l, d', _, h => by
    have : l = [] := by cases k <;> simp [Gr.srch] at h <;> exact h.1
    subst this; simp
  | 0, _ :: _, _, _, _, _, h => by simp [Gr.srch] at h
  | k + 1, (x, n) :: r, d, l, d', hq, h => by
    rw [Gr.srch] at h
    have hr : ∀ q ∈ r, q.2 ≤ (G.of q.1).length ∧ Near q.1 := fun q hq' => hq q (by simp [hq'])
    obtain ⟨hx1, hx2⟩ := hq (x, n) (by simp)
    by_cases hn : n = (G.of x).length
    · rw [if_pos hn] at h
      obtain ⟨h1, h2⟩ := srch_near G hG k r _ l d' hr h
      exact ⟨by simp; omega, h2⟩
    · rw [if_neg hn] at h
      have hlt : n < (G.of x).length := by simp at hx1; omega
      have hbump : ∀ q ∈ (x, n + 1) :: r, q.2 ≤ (G.of q.1).length ∧ Near q.1 := by
        intro q hq'
        rcases List.mem_cons.1 hq' with rfl | hq'
        · exact ⟨hlt, hx2⟩
        · exact hr q hq'
      by_cases hi : 0 ≤ Lib.idxOf (((x, n) :: r).map (·.1)).reverse ((G.of x).getD n 0)
      · rw [if_pos hi] at h
        simp only [Option.some.injEq, Prod.mk.injEq] at h
        obtain ⟨rfl, rfl⟩ := h
        refine ⟨by simp; omega, fun y hy => ?_⟩
        have hy1 := List.mem_reverse.1 (List.mem_of_mem_drop hy)
        obtain ⟨q, hq', rfl⟩ := List.mem_map.1 hy1
        exact (hq q hq').2
      · rw [if_neg hi] at h
        by_cases hd : d ((G.of x).getD n 0) = true
        · rw [if_pos hd] at h
          obtain ⟨h1, h2⟩ := srch_near G hG k _ _ l d' hbump h
          exact ⟨by simp at h1 ⊢; omega, h2⟩
        · rw [if_neg hd] at h
          have hy : Near ((G.of x).getD n 0) := by
            refine hG x _ ?_
            rw [List.getD_eq_getElem?_getD, List.getElem?_eq_getElem hlt, Option.getD_some]
            exact List.getElem_mem hlt
          obtain ⟨h1, h2⟩ := srch_near G hG k _ _ l d' (by
            intro q hq'
            rcases List.mem_cons.1 hq' with rfl | hq'
            · exact ⟨Nat.zero_le _, hy⟩
            · exact hbump q hq') h
          exact ⟨by simp at h1 ⊢; omega, h2⟩
theorem cyc_near (G : Gr) (K : Nat) (hG : ∀ x, ∀ y ∈ G.of x, Near y) : ∀ (xs : List Int) (d : Int → Bool) (l : List Int), (∀ x ∈ xs, Near x) → G.cyc K xs d = some l → l.length ≤ K + 1 ∧ ∀ y ∈ l, Near y
  | [], d, l, _, h => by
    simp only [Gr.cyc, Option.some.injEq] at h
    subst h; simp
  | x :: xs, d, l, hx, h => by
    rw [Gr.cyc] at h
    have hxs : ∀ y ∈ xs, Near y := fun y hy => hx y (by simp [hy])
    by_cases hd : d x = true
    · rw [if_pos hd] at h
      exact cyc_near G K hG xs d l hxs h
    · rw [if_neg hd] at h
      cases hs : G.srch K [(x, 0)] d with
      | none => rw [hs] at h; cases h
      | some o =>
        obtain ⟨l1, d1⟩ := o
        rw [hs] at h
        simp only at h
        split at h
        · exact cyc_near G K hG xs d1 l hxs h
        · simp only [Option.some.injEq] at h
          subst h
          have := srch_near G hG K [(x, 0)] d l1 d1 (by simp; exact hx x (by simp)) hs
          exact ⟨by have := this.1; simp at this; omega, this.2⟩

/-- All that a graph so small has to say of its circles, and its other one too. -/
theorem Gd.circle {G : Gr} (h : Gd G 60) : ∃ res, G.cyc 4000 G.waits (fun _ => false) = some res ∧ G.other.cyc 4000 G.other.waits (fun _ => false) = some (res.map one) ∧ res.length ≤ 4001 ∧ ∀ y ∈ res, Near y := by
  obtain ⟨res, hr⟩ := cyc_ends G 4000 (from_ends G 60 20 4000 h.len (fun p hp => (h.row p hp).1) (by decide)) G.waits (fun _ => false)
  have h2 := other_cyc G 4000 G.waits (fun _ => false) (fun _ => false) res (fun _ => rfl) hr
  rw [← other_waits] at h2
  have h3 := cyc_near G 4000 h.ofNear G.waits _ res h.waitsNear hr
  exact ⟨res, hr, h2, by omega, h3.2⟩
end Go.Proofs.YtegcnimekfanaaaGreat
