/-
  Package commute, walked: member, and what one step is.
-/
import Derived.Test.YtegcnimekfanaaaGreatStepA
namespace Go.Proofs.YtegcnimekfanaaaGreat
open Go.RowKit

set_option maxRecDepth 8000 in
set_option maxHeartbeats 800000 in
theorem commute_member (x y : Stp) (w : World) : Calls Tryz.prog 137 #[x.v, y.v] w fun e w' => e = .returned (.bool (Rule.member x y)) ∧ Ext [] w w' := by
  have cix := fun w => commute_inside x w
  have ciy := fun w => commute_inside y w
  have ccx := fun w => method_Changes x.c x.r w
  have ccy := fun w => method_Changes y.c y.r w
  have hm : Rule.member x y = (x.c.a.toList == y.c.a.toList && (Rule.inside x == Rule.inside y && (Rule.changes x.c x.r || Rule.changes y.c y.r))) := rfl
  generalize Rule.inside x = ix at *
  generalize Rule.inside y = iy at *
  generalize Rule.changes x.c x.r = dx at *
  generalize Rule.changes y.c y.r = dy at *
  generalize Rule.member x y = rr at *
  replace hm := hid hm
  obtain ⟨⟨xo, xa, xb, xn⟩, ⟨xc, xt, xm⟩⟩ := x
  obtain ⟨⟨yo, ya, yb, yn⟩, ⟨yc, yt, ym⟩⟩ := y
  simp only [Stp.v, Cal.v, Res.v] at cix ciy ccx ccy ⊢
  obtain ⟨ea, hea⟩ : ∃ ea, (xa.toList == ya.toList) = ea := ⟨_, rfl⟩
  obtain ⟨bi, hbi⟩ : ∃ bi, (ix == iy) = bi := ⟨_, rfl⟩
  go_enter Tryz.func137, Tryz.ntmps137
  go_wp2_with fail
  have hE0 := ((Ext.refl [] w).alloc (.cells #[.int .i64 xo, .string xa, .string xb, .int .i64 xn, .int .i64 xc, .string xt, .int .i64 xm] 92)).alloc (.cells #[.int .i64 yo, .string ya, .string yb, .int .i64 yn, .int .i64 yc, .string yt, .int .i64 ym] 92)
  refine wp_region_plan (Ext [] _) [(0, true), (1, true), (2, true), (3, true), (4, true), (5, true), (6, true), (7, true), (8, true), (10, true), (9, false), (11, false), (12, true), (13, true), (14, true), (15, true), (16, true), (17, true), (18, true), (19, false), (20, true), (21, true), (22, true), (23, true), (24, true), (25, false), (26, true), (27, true), (28, true)] (by kernel_rfl) (by kernel_rfl) (fun _ _ _ _ _ h => h) (Ext.self_drew _) (fun hHeld => ?_)
  simp only [planOps, List.map_cons, List.map_nil, List.getElem?_toArray, List.getElem?_cons_succ, List.getElem?_cons_zero, Option.getD_some]
  cases ea
  · repeat (first | (refine plan_skip (by rfl) ?_; simp only [Act.put, List.setIfInBounds_toArray, List.set_cons_zero, List.set_cons_succ]) | (refine plan_take (v := ?_) (by rfl) ?_ ?_; rotate_left; (· (intro w hSw; replace hSw := hSw.old.1; go_simp; try with_reducible rfl)); simp only [Act.put, List.setIfInBounds_toArray, List.set_cons_zero, List.set_cons_succ]))
    refine plan_end ?_
    go_wp2
    go_ret
    refine ⟨?_, hE0.nil_of hHeld⟩
    rw [hm.out]
    simp [hea]
  repeat (first | (refine plan_skip (by rfl) ?_; simp only [Act.put, List.setIfInBounds_toArray, List.set_cons_zero, List.set_cons_succ]) | (refine plan_take (v := ?_) (by rfl) ?_ ?_; rotate_left; (· (intro w hSw; replace hSw := hSw.old.1; go_simp; try with_reducible rfl)); simp only [Act.put, List.setIfInBounds_toArray, List.set_cons_zero, List.set_cons_succ]))
  refine plan_call (by rfl) (fun K hK => ?_)
  go_simp
  refine (cix _).mono ?_
  rintro e w1 ⟨rfl, hw1⟩
  go_simp
  refine hK.out _ _ (hHeld.nil_of hw1) (fun hHeld => ?_)
  clear hK K
  try simp only [Act.put, List.setIfInBounds_toArray, List.set_cons_zero, List.set_cons_succ]
  repeat (first | (refine plan_skip (by rfl) ?_; simp only [Act.put, List.setIfInBounds_toArray, List.set_cons_zero, List.set_cons_succ]) | (refine plan_take (v := ?_) (by rfl) ?_ ?_; rotate_left; (· (intro w hSw; replace hSw := hSw.old.1; go_simp; try with_reducible rfl)); simp only [Act.put, List.setIfInBounds_toArray, List.set_cons_zero, List.set_cons_succ]))
  refine plan_call (by rfl) (fun K hK => ?_)
  go_simp
  refine (ciy _).mono ?_
  rintro e w2 ⟨rfl, hw2⟩
  go_simp
  refine hK.out _ _ (hHeld.nil_of hw2) (fun hHeld => ?_)
  clear hK K
  try simp only [Act.put, List.setIfInBounds_toArray, List.set_cons_zero, List.set_cons_succ]
  cases bi
  · repeat (first | (refine plan_skip (by rfl) ?_; simp only [Act.put, List.setIfInBounds_toArray, List.set_cons_zero, List.set_cons_succ]) | (refine plan_take (v := ?_) (by rfl) ?_ ?_; rotate_left; (· (intro w hSw; replace hSw := hSw.old.1; go_simp; try with_reducible rfl)); simp only [Act.put, List.setIfInBounds_toArray, List.set_cons_zero, List.set_cons_succ]))
    refine plan_end ?_
    go_wp2
    go_ret
    refine ⟨?_, hE0.nil_of hHeld⟩
    rw [hm.out]
    simp [hea, hbi]
  repeat (first | (refine plan_skip (by rfl) ?_; simp only [Act.put, List.setIfInBounds_toArray, List.set_cons_zero, List.set_cons_succ]) | (refine plan_take (v := ?_) (by rfl) ?_ ?_; rotate_left; (· (intro w hSw; replace hSw := hSw.old.1; go_simp; try with_reducible rfl)); simp only [Act.put, List.setIfInBounds_toArray, List.set_cons_zero, List.set_cons_succ]))
  refine plan_call (by rfl) (fun K hK => ?_)
  go_simp
  refine (ccx _).mono ?_
  rintro e w3 ⟨rfl, hw3⟩
  go_simp
  refine hK.out _ _ (hHeld.nil_of hw3) (fun hHeld => ?_)
  clear hK K
  try simp only [Act.put, List.setIfInBounds_toArray, List.set_cons_zero, List.set_cons_succ]
  cases dx
  · repeat (first | (refine plan_skip (by rfl) ?_; simp only [Act.put, List.setIfInBounds_toArray, List.set_cons_zero, List.set_cons_succ]) | (refine plan_take (v := ?_) (by rfl) ?_ ?_; rotate_left; (· (intro w hSw; replace hSw := hSw.old.1; go_simp; try with_reducible rfl)); simp only [Act.put, List.setIfInBounds_toArray, List.set_cons_zero, List.set_cons_succ]))
    refine plan_call (by rfl) (fun K hK => ?_)
    go_simp
    refine (ccy _).mono ?_
    rintro e w4 ⟨rfl, hw4⟩
    go_simp
    refine hK.out _ _ (hHeld.nil_of hw4) (fun hHeld => ?_)
    clear hK K
    try simp only [Act.put, List.setIfInBounds_toArray, List.set_cons_zero, List.set_cons_succ]
    repeat (first | (refine plan_skip (by rfl) ?_; simp only [Act.put, List.setIfInBounds_toArray, List.set_cons_zero, List.set_cons_succ]) | (refine plan_take (v := ?_) (by rfl) ?_ ?_; rotate_left; (· (intro w hSw; replace hSw := hSw.old.1; go_simp; try with_reducible rfl)); simp only [Act.put, List.setIfInBounds_toArray, List.set_cons_zero, List.set_cons_succ]))
    refine plan_end ?_
    go_wp2
    go_ret
    refine ⟨?_, hE0.nil_of hHeld⟩
    rw [hm.out]
    simp [hea, hbi]
  · repeat (first | (refine plan_skip (by rfl) ?_; simp only [Act.put, List.setIfInBounds_toArray, List.set_cons_zero, List.set_cons_succ]) | (refine plan_take (v := ?_) (by rfl) ?_ ?_; rotate_left; (· (intro w hSw; replace hSw := hSw.old.1; go_simp; try with_reducible rfl)); simp only [Act.put, List.setIfInBounds_toArray, List.set_cons_zero, List.set_cons_succ]))
    refine plan_end ?_
    go_wp2
    go_ret
    refine ⟨?_, hE0.nil_of hHeld⟩
    rw [hm.out]
    simp [hea, hbi]
end Go.Proofs.YtegcnimekfanaaaGreat
