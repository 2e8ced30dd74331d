/-
  Package commute, walked: Possible, rules, Conflict.
-/
import Derived.Test.YtegcnimekfanaaaGreatStepD
import Derived.Test.YtegcnimekfanaaaGreatMaps
namespace Go.Proofs.YtegcnimekfanaaaGreat
open Go.RowKit

theorem ints_one {w : World} {b c : Nat} {x : Int} {T : TypeId} {fr : Nat × Nat} (h : w.heap[b]? = some (.cells #[.int .i64 x] T fr)) : IntsAt w (.slice (some ⟨b, 0, none⟩) 1 c) (some b) [x] :=
  ⟨_, _, rfl, .inr ⟨b, 0, rfl, rfl, fun j hj => by
    match j, hj with
    | 0, _ => exact cellOf h rfl⟩⟩
theorem ints_two {w : World} {b c : Nat} {x y : Int} {T : TypeId} {fr : Nat × Nat} (h : w.heap[b]? = some (.cells #[.int .i64 x, .int .i64 y] T fr)) : IntsAt w (.slice (some ⟨b, 0, none⟩) 2 c) (some b) [x, y] :=
  ⟨_, _, rfl, .inr ⟨b, 0, rfl, rfl, fun j hj => by
    match j, hj with
    | 0, _ => exact cellOf h rfl
    | 1, _ => exact cellOf h rfl⟩⟩

def Stp.possible (s : Stp) : Bool :=
  if s.c.op == 1 then s.r.code == 1 && s.r.n == 0
  else if s.c.op == 4 then s.r.code == 1 && s.r.text.toList.isEmpty
  else if s.c.op == 7 then s.r.code == 1 && s.r.text.toList.isEmpty && decide (s.r.n ≥ 0)
  else if s.c.op == 13 || s.c.op == 15 || s.c.op == 17 then (s.r.code == 1 && s.r.n == 0) || s.r.is 2
  else if s.c.op == 6 || s.c.op == 8 || s.c.op == 9 || s.c.op == 10 || s.c.op == 11 || s.c.op == 12 then s.r.is 1 || s.r.is 2
  else s.r.is 1

set_option maxRecDepth 8000 in
set_option maxHeartbeats 1000000 in
theorem possible_a (s : Stp) (w : World) (h : s.c.op = 1 ∨ s.c.op = 4 ∨ s.c.op = 7) : Calls Tryz.prog 45 #[s.v] w fun e w' => e = .returned (.bool s.possible) ∧ Ext [] w w' := by
  have cp := commute_plain s.r
  obtain ⟨⟨xo, xa, xb, xn⟩, ⟨xc, xt, xm⟩⟩ := s
  simp only [Stp.v, Res.v] at cp h ⊢
  rcases h with rfl | rfl | rfl
  all_goals
    go_enter Tryz.func45, Tryz.ntmps45
    go_wp2
    all_goals
      go_ret
      refine ⟨?_, ((Ext.refl [] w).alloc _).alloc _⟩
      simp [Stp.possible, *]
set_option maxRecDepth 8000 in
set_option maxHeartbeats 1000000 in
theorem possible_b (s : Stp) (w : World) (h : s.c.op = 13 ∨ s.c.op = 15 ∨ s.c.op = 17) : Calls Tryz.prog 45 #[s.v] w fun e w' => e = .returned (.bool s.possible) ∧ Ext [] w w' := by
  have cp := commute_plain s.r
  obtain ⟨⟨xo, xa, xb, xn⟩, ⟨xc, xt, xm⟩⟩ := s
  simp only [Stp.v, Res.v] at cp h ⊢
  by_cases h1 : xc = 1
  · by_cases h0 : xm = 0
    · subst h1 h0
      clear cp
      rcases h with rfl | rfl | rfl
      all_goals
        go_enter Tryz.func45, Tryz.ntmps45
        go_wp2
        go_ret
        refine ⟨?_, ((Ext.refl [] w).alloc _).alloc _⟩
        simp [Stp.possible]
    · replace h0 : (xm == 0) = false := by simpa using h0
      subst h1
      rcases h with rfl | rfl | rfl
      all_goals
        go_enter Tryz.func45, Tryz.ntmps45
        go_wp2_with fail
        with_reducible refine (cp _ _ _ [2] (ints_one (block_alloc_new3 w _ _ _)) (by decide)).mono ?_
        rintro e w1 ⟨rfl, hE⟩
        go_wp2
        go_ret
        refine ⟨?_, ((((Ext.refl [] w).alloc _).alloc _).alloc _).nil_of hE⟩
        simp [Stp.possible, h0]
  · replace h1 : (xc == 1) = false := by simpa using h1
    rcases h with rfl | rfl | rfl
    all_goals
      go_enter Tryz.func45, Tryz.ntmps45
      go_wp2_with fail
      with_reducible refine (cp _ _ _ [2] (ints_one (block_alloc_new3 w _ _ _)) (by decide)).mono ?_
      rintro e w1 ⟨rfl, hE⟩
      go_wp2
      go_ret
      refine ⟨?_, ((((Ext.refl [] w).alloc _).alloc _).alloc _).nil_of hE⟩
      simp [Stp.possible, h1]
set_option maxRecDepth 8000 in
set_option maxHeartbeats 1000000 in
theorem possible_c (s : Stp) (w : World) (h : s.c.op = 6 ∨ s.c.op = 8 ∨ s.c.op = 9 ∨ s.c.op = 10 ∨ s.c.op = 11 ∨ s.c.op = 12) : Calls Tryz.prog 45 #[s.v] w fun e w' => e = .returned (.bool s.possible) ∧ Ext [] w w' := by
  have cp := commute_plain s.r
  obtain ⟨⟨xo, xa, xb, xn⟩, ⟨xc, xt, xm⟩⟩ := s
  simp only [Stp.v, Res.v] at cp h ⊢
  rcases h with rfl | rfl | rfl | rfl | rfl | rfl
  all_goals
    go_enter Tryz.func45, Tryz.ntmps45
    go_wp2_with fail
    with_reducible refine (cp _ _ _ [1, 2] (ints_two (block_alloc_new3 w _ _ _)) (by decide)).mono ?_
    rintro e w1 ⟨rfl, hE⟩
    go_wp2
    go_ret
    refine ⟨?_, ((((Ext.refl [] w).alloc _).alloc _).alloc _).nil_of hE⟩
    simp [Stp.possible]
set_option maxRecDepth 8000 in
set_option maxHeartbeats 1000000 in
theorem commute_Possible (s : Stp) (w : World) : Calls Tryz.prog 45 #[s.v] w fun e w' => e = .returned (.bool s.possible) ∧ Ext [] w w' := by
  by_cases hA : s.c.op = 1 ∨ s.c.op = 4 ∨ s.c.op = 7
  · exact possible_a s w hA
  by_cases hD : s.c.op = 13 ∨ s.c.op = 15 ∨ s.c.op = 17
  · exact possible_b s w hD
  by_cases hP : s.c.op = 6 ∨ s.c.op = 8 ∨ s.c.op = 9 ∨ s.c.op = 10 ∨ s.c.op = 11 ∨ s.c.op = 12
  · exact possible_c s w hP
  have cp := commute_plain s.r
  obtain ⟨⟨xo, xa, xb, xn⟩, ⟨xc, xt, xm⟩⟩ := s
  simp only [Stp.v, Res.v] at cp hA hD hP ⊢
  have q1 : (xo == 1) = false := by rw [beq_eq_false_iff_ne]; omega
  have q4 : (xo == 4) = false := by rw [beq_eq_false_iff_ne]; omega
  have q7 : (xo == 7) = false := by rw [beq_eq_false_iff_ne]; omega
  have q13 : (xo == 13) = false := by rw [beq_eq_false_iff_ne]; omega
  have q15 : (xo == 15) = false := by rw [beq_eq_false_iff_ne]; omega
  have q17 : (xo == 17) = false := by rw [beq_eq_false_iff_ne]; omega
  have q6 : (xo == 6) = false := by rw [beq_eq_false_iff_ne]; omega
  have q8 : (xo == 8) = false := by rw [beq_eq_false_iff_ne]; omega
  have q9 : (xo == 9) = false := by rw [beq_eq_false_iff_ne]; omega
  have q10 : (xo == 10) = false := by rw [beq_eq_false_iff_ne]; omega
  have q11 : (xo == 11) = false := by rw [beq_eq_false_iff_ne]; omega
  have q12 : (xo == 12) = false := by rw [beq_eq_false_iff_ne]; omega
  clear hA hD hP
  go_enter Tryz.func45, Tryz.ntmps45
  go_wp2_with fail
  with_reducible refine (cp _ _ _ [1] (ints_one (block_alloc_new3 w _ _ _)) (by decide)).mono ?_
  rintro e w1 ⟨rfl, hE⟩
  go_wp2
  go_ret
  refine ⟨?_, ((((Ext.refl [] w).alloc _).alloc _).alloc _).nil_of hE⟩
  simp [Stp.possible, *]
end Go.Proofs.YtegcnimekfanaaaGreat
