/-
  Package commute, walked: rules, Conflict.
-/
import Derived.Test.YtegcnimekfanaaaGreatStepE
namespace Go.Proofs.YtegcnimekfanaaaGreat
open Go.RowKit

def ruleTab : List (Int × Value) := [(1, .func (.func 134) #[] #[]), (2, .func (.func 135) #[] #[]), (3, .func (.func 136) #[] #[]), (4, .func (.func 137) #[] #[]), (5, .func (.func 137) #[] #[]), (6, .func (.func 138) #[] #[]), (7, .func (.func 139) #[] #[])]
set_option maxRecDepth 8000 in
theorem commute_rules (w : World) : Calls Tryz.prog 96 #[] w fun e w' => ∃ mb, e = .returned (.map (some mb)) ∧ MapAt w' mb ruleTab ∧ Ext [] w w' := by
  have hmm := @run_makeMap Tryz.prog
  obtain ⟨w1, r1, m1, e1, -⟩ := (MapAt.made w).update (t := 188) Tryz.underlying188 (by simp [maxLen]) (k := 1) (by unfold I64; omega) (.func (.func 134) #[] #[])
  simp [mput, mins, mdel] at m1
  obtain ⟨w2, r2, m2, e2, -⟩ := m1.update (t := 188) Tryz.underlying188 (by simp [maxLen]) (k := 2) (by unfold I64; omega) (.func (.func 135) #[] #[])
  clear m1
  simp [mput, mins, mdel] at m2
  obtain ⟨w3, r3, m3, e3, -⟩ := m2.update (t := 188) Tryz.underlying188 (by simp [maxLen]) (k := 3) (by unfold I64; omega) (.func (.func 136) #[] #[])
  clear m2
  simp [mput, mins, mdel] at m3
  obtain ⟨w4, r4, m4, e4, -⟩ := m3.update (t := 188) Tryz.underlying188 (by simp [maxLen]) (k := 4) (by unfold I64; omega) (.func (.func 137) #[] #[])
  clear m3
  simp [mput, mins, mdel] at m4
  obtain ⟨w5, r5, m5, e5, -⟩ := m4.update (t := 188) Tryz.underlying188 (by simp [maxLen]) (k := 5) (by unfold I64; omega) (.func (.func 137) #[] #[])
  clear m4
  simp [mput, mins, mdel] at m5
  obtain ⟨w6, r6, m6, e6, -⟩ := m5.update (t := 188) Tryz.underlying188 (by simp [maxLen]) (k := 6) (by unfold I64; omega) (.func (.func 138) #[] #[])
  clear m5
  simp [mput, mins, mdel] at m6
  obtain ⟨w7, r7, m7, e7, -⟩ := m6.update (t := 188) Tryz.underlying188 (by simp [maxLen]) (k := 7) (by unfold I64; omega) (.func (.func 139) #[] #[])
  clear m6
  simp [mput, mins, mdel] at m7
  have hE : Ext [] w w7 := (((((((((Ext.refl [] w).alloc (.map #[] 0)).trans e1 (by simp)).trans e2 (by simp)).trans e3 (by simp)).trans e4 (by simp)).trans e5 (by simp)).trans e6 (by simp)).trans e7 (by simp))
  replace m7 := hid m7
  clear e1 e2 e3 e4 e5 e6 e7
  go_enter Tryz.func96, Tryz.ntmps96
  go_wp2
  go_ret
  exact ⟨_, rfl, m7.out, hE⟩

def Rule.of (k : Int) (x y : Stp) : Bool :=
  if k = 1 then Rule.register x y else if k = 2 then Rule.counter x y else if k = 3 then Rule.account x y else if k = 4 then Rule.member x y else if k = 5 then Rule.member x y else if k = 6 then Rule.queue x y else Rule.semi x y
theorem rule_at (k : Int) (h : 1 ≤ k ∧ k ≤ 7) : ∃ f, (mget ruleTab k).getD .nilFunc = .func (.func f) #[] #[] ∧ (∀ args w, (callFunc f args).run Tryz.prog w = .ok (.enter f args) w) ∧
    ∀ x y w, Calls Tryz.prog f #[x.v, y.v] w fun e w' => e = .returned (.bool (Rule.of k x y)) ∧ Ext [] w w' := by
  have ho : k = 1 ∨ k = 2 ∨ k = 3 ∨ k = 4 ∨ k = 5 ∨ k = 6 ∨ k = 7 := by omega
  rcases ho with rfl | rfl | rfl | rfl | rfl | rfl | rfl
  · exact ⟨134, rfl, enters_of Tryz.func134 (by kernel_rfl) rfl, commute_register⟩
  · exact ⟨135, rfl, enters_of Tryz.func135 (by kernel_rfl) rfl, commute_counter⟩
  · exact ⟨136, rfl, enters_of Tryz.func136 (by kernel_rfl) rfl, commute_account⟩
  · exact ⟨137, rfl, enters_of Tryz.func137 (by kernel_rfl) rfl, commute_member⟩
  · exact ⟨137, rfl, enters_of Tryz.func137 (by kernel_rfl) rfl, commute_member⟩
  · exact ⟨138, rfl, enters_of Tryz.func138 (by kernel_rfl) rfl, commute_queue⟩
  · exact ⟨139, rfl, enters_of Tryz.func139 (by kernel_rfl) rfl, commute_semi⟩
theorem shapes_kind : ∀ k : Nat, k < 17 → 1 ≤ (shapeTab.getD k Shp.none).kind ∧ (shapeTab.getD k Shp.none).kind ≤ 7 := by decide
theorem kindOf_cases (op : Int) : kindOf op = 0 ∨ 1 ≤ kindOf op ∧ kindOf op ≤ 7 := by
  unfold kindOf shapeOf
  split
  · exact .inr (shapes_kind _ (by omega))
  · exact .inl rfl

def conflictOf (x y : Stp) : Bool := decide (kindOf x.c.op ≠ 0) && (kindOf x.c.op == kindOf y.c.op && (x.possible && (y.possible && Rule.of (kindOf x.c.op) x y)))
def conflict (x y : Stp) : Bool := if x.c.op > y.c.op then conflictOf y x else conflictOf x y
theorem zero187 (w : World) : (zeroValue 187).run Tryz.prog w = .ok .nilFunc w := Tryz.zeroValue187 w

set_option maxRecDepth 8000 in
set_option maxHeartbeats 1000000 in
theorem commute_Conflict (x y : Stp) (w : World) : Calls Tryz.prog 48 #[x.v, y.v] w fun e w' => e = .returned (.bool (conflict x y)) ∧ Ext [] w w' := by
  obtain ⟨⟨xo, xa, xb, xn⟩, ⟨xc, xt, xm⟩⟩ := x
  obtain ⟨⟨yo, ya, yb, yn⟩, ⟨yc, yt, ym⟩⟩ := y
  simp only [Stp.v]
  have fn0 : ∀ w, (binOp .neq 187 .nilFunc .nilFunc).run Tryz.prog w = .ok (.bool false) w := fun _ => by kernel_rfl
  have fn1 : ∀ f w, (binOp .neq 187 (.func (.func f) #[] #[]) .nilFunc).run Tryz.prog w = .ok (.bool true) w := fun _ _ => by kernel_rfl
  have hcx : conflict ⟨⟨xo, xa, xb, xn⟩, ⟨xc, xt, xm⟩⟩ ⟨⟨yo, ya, yb, yn⟩, ⟨yc, yt, ym⟩⟩ = (if xo > yo then conflictOf ⟨⟨yo, ya, yb, yn⟩, ⟨yc, yt, ym⟩⟩ ⟨⟨xo, xa, xb, xn⟩, ⟨xc, xt, xm⟩⟩ else conflictOf ⟨⟨xo, xa, xb, xn⟩, ⟨xc, xt, xm⟩⟩ ⟨⟨yo, ya, yb, yn⟩, ⟨yc, yt, ym⟩⟩) := rfl
  generalize conflict ⟨⟨xo, xa, xb, xn⟩, ⟨xc, xt, xm⟩⟩ ⟨⟨yo, ya, yb, yn⟩, ⟨yc, yt, ym⟩⟩ = rr at *
  by_cases hlt : yo < xo
  · have hc := hcx
    rw [if_pos hlt] at hc
    replace hc := hid hc
    clear hcx
    go_enter Tryz.func48, Tryz.ntmps48
    go_wp2_with fail
    have hE0 : Ext [] w _ := ((Ext.refl [] w).alloc (.cells #[.int .i64 yo, .string ya, .string yb, .int .i64 yn, .int .i64 yc, .string yt, .int .i64 ym] 92)).alloc (.cells #[.int .i64 xo, .string xa, .string xb, .int .i64 xn, .int .i64 xc, .string xt, .int .i64 xm] 92)
    have c0 := fun k v h => cellOf (k := k) (v := v) (block_alloc_old (.cells #[.int .i64 xo, .string xa, .string xb, .int .i64 xn, .int .i64 xc, .string xt, .int .i64 xm] 92) (block_alloc_new w (.cells #[.int .i64 yo, .string ya, .string yb, .int .i64 yn, .int .i64 yc, .string yt, .int .i64 ym] 92))) h
    have c1 := fun k v h => cellOf (k := k) (v := v) (block_alloc_new2 w (.cells #[.int .i64 yo, .string ya, .string yb, .int .i64 yn, .int .i64 yc, .string yt, .int .i64 ym] 92) (.cells #[.int .i64 xo, .string xa, .string xb, .int .i64 xn, .int .i64 xc, .string xt, .int .i64 xm] 92)) h
    have hsz : w.heap.size + 1 < ((w.alloc (.cells #[.int .i64 yo, .string ya, .string yb, .int .i64 yn, .int .i64 yc, .string yt, .int .i64 ym] 92)).alloc (.cells #[.int .i64 xo, .string xa, .string xb, .int .i64 xn, .int .i64 xc, .string xt, .int .i64 xm] 92)).heap.size := by simp
    have a0 := c0 0 (.int .i64 yo) rfl
    have b0 := c1 0 (.int .i64 xo) rfl
    have a1 := c0 1 (.string ya) rfl
    have b1 := c1 1 (.string xa) rfl
    have a2 := c0 2 (.string yb) rfl
    have b2 := c1 2 (.string xb) rfl
    have a3 := c0 3 (.int .i64 yn) rfl
    have b3 := c1 3 (.int .i64 xn) rfl
    have a4 := c0 4 (.int .i64 yc) rfl
    have b4 := c1 4 (.int .i64 xc) rfl
    have a5 := c0 5 (.string yt) rfl
    have b5 := c1 5 (.string xt) rfl
    have a6 := c0 6 (.int .i64 ym) rfl
    have b6 := c1 6 (.int .i64 xm) rfl
    clear c0 c1
    generalize hW : (w.alloc (.cells #[.int .i64 yo, .string ya, .string yb, .int .i64 yn, .int .i64 yc, .string yt, .int .i64 ym] 92)).alloc (.cells #[.int .i64 xo, .string xa, .string xb, .int .i64 xn, .int .i64 xc, .string xt, .int .i64 xm] 92) = W at *
    clear hW
    have hsz0 : w.heap.size < W.heap.size := by omega
    refine wp_region_plan (Ext [] _) [(1, true), (2, true), (3, true), (0, false), (4, false), (5, false), (6, true)] (by kernel_rfl) (by kernel_rfl) (fun _ _ _ _ _ h => h) (Ext.self_drew _) (fun hHeld => ?_)
    simp only [planOps, List.map_cons, List.map_nil, List.getElem?_toArray, List.getElem?_cons_succ, List.getElem?_cons_zero, Option.getD_some]
    repeat (first | (refine plan_skip (by rfl) ?_; simp only [Act.put, List.setIfInBounds_toArray, List.set_cons_zero, List.set_cons_succ]) | (refine plan_take (v := ?_) (by rfl) ?_ ?_; rotate_left; (· (intro w hSw; replace hSw := hSw.old.1; go_simp; try with_reducible rfl)); simp only [Act.put, List.setIfInBounds_toArray, List.set_cons_zero, List.set_cons_succ]))
    refine plan_call (by rfl) (fun K hK => ?_)
    go_simp
    with_reducible refine (commute_rules _).mono ?_
    rintro e w1 ⟨mb, rfl, hmap, hw1⟩
    go_simp
    refine hK.out _ _ (hHeld.nil_of hw1) (fun hHeld => ?_)
    clear hK K
    try simp only [Act.put, List.setIfInBounds_toArray, List.set_cons_zero, List.set_cons_succ]
    repeat (first | (refine plan_skip (by rfl) ?_; simp only [Act.put, List.setIfInBounds_toArray, List.set_cons_zero, List.set_cons_succ]) | (refine plan_take (v := ?_) (by rfl) ?_ ?_; rotate_left; (· (intro w hSw; replace hSw := hSw.old.1; go_simp; try with_reducible rfl)); simp only [Act.put, List.setIfInBounds_toArray, List.set_cons_zero, List.set_cons_succ]))
    refine plan_call (by rfl) (fun K hK => ?_)
    go_simp
    with_reducible refine (method_Kind yo _).mono ?_
    rintro e w2 ⟨rfl, hw2⟩
    go_simp
    refine hK.out _ _ (hHeld.nil_of hw2) (fun hHeld => ?_)
    clear hK K
    try simp only [Act.put, List.setIfInBounds_toArray, List.set_cons_zero, List.set_cons_succ]
    have hrun := (hmap.ext hw2 (by simp)).lookup Tryz.underlying188 zero187 (k := kindOf yo) (by have := kindOf_cases yo; unfold I64; omega)
    have hE2 := hE0.nil_of hHeld
    rcases kindOf_cases yo with hk | hk
    · rw [hk] at hrun
      have hz0 : (mget ruleTab 0).getD .nilFunc = .nilFunc := rfl
      rw [hz0] at hrun
      refine plan_call (by rfl) (fun K hK => ?_)
      go_simp
      refine hK.out _ _ (hHeld) (fun hHeld => ?_)
      clear hK K
      try simp only [Act.put, List.setIfInBounds_toArray, List.set_cons_zero, List.set_cons_succ]
      repeat (first | (refine plan_skip (by rfl) ?_; simp only [Act.put, List.setIfInBounds_toArray, List.set_cons_zero, List.set_cons_succ]) | (refine plan_take (v := ?_) (by rfl) ?_ ?_; rotate_left; (· (intro w hSw; replace hSw := hSw.old.1; go_simp; try with_reducible rfl)); simp only [Act.put, List.setIfInBounds_toArray, List.set_cons_zero, List.set_cons_succ]))
      refine plan_end ?_
      go_wp2_with fail
      refine wp_region_plan (Ext [] W) [(0, true), (1, true), (2, true), (3, true), (4, true), (5, true), (7, true), (8, true), (9, true), (6, false), (10, false), (11, true), (12, true), (13, true), (14, true), (15, false), (16, true), (17, true), (18, true), (19, false), (20, true), (21, true), (22, true), (23, true), (24, true), (25, false), (26, true), (27, true)] (by kernel_rfl) (by kernel_rfl) (fun _ _ _ _ _ h => h) (hHeld.drew) (fun hHeld => ?_)
      simp only [planOps, List.map_cons, List.map_nil, List.getElem?_toArray, List.getElem?_cons_succ, List.getElem?_cons_zero, Option.getD_some]
      repeat (first | (refine plan_skip (by rfl) ?_; simp only [Act.put, List.setIfInBounds_toArray, List.set_cons_zero, List.set_cons_succ]) | (refine plan_take (v := ?_) (by rfl) ?_ ?_; rotate_left; (· (intro w hSw; replace hSw := hSw.old.1; go_simp; try with_reducible rfl)); simp only [Act.put, List.setIfInBounds_toArray, List.set_cons_zero, List.set_cons_succ]))
      refine plan_end ?_
      go_wp2
      go_ret
      refine ⟨?_, hE0.nil_of hHeld⟩
      rw [hc.out]
      simp [conflictOf, hk]
    · obtain ⟨f, hf, eg, hcall⟩ := rule_at _ hk
      rw [hf] at hrun
      have hne : kindOf yo ≠ 0 := by omega
      replace hne := hid hne
      clear hf hk
      refine plan_call (by rfl) (fun K hK => ?_)
      go_simp
      refine hK.out _ _ (hHeld) (fun hHeld => ?_)
      clear hK K
      try simp only [Act.put, List.setIfInBounds_toArray, List.set_cons_zero, List.set_cons_succ]
      repeat (first | (refine plan_skip (by rfl) ?_; simp only [Act.put, List.setIfInBounds_toArray, List.set_cons_zero, List.set_cons_succ]) | (refine plan_take (v := ?_) (by rfl) ?_ ?_; rotate_left; (· (intro w hSw; replace hSw := hSw.old.1; go_simp; try with_reducible rfl)); simp only [Act.put, List.setIfInBounds_toArray, List.set_cons_zero, List.set_cons_succ]))
      refine plan_end ?_
      go_wp2_with fail
      refine wp_region_plan (Ext [] W) [(0, true), (1, true), (2, true), (3, true), (4, true), (5, true), (7, true), (8, true), (9, true), (6, false), (10, false), (11, true), (12, true), (13, true), (14, true), (15, false), (16, true), (17, true), (18, true), (19, false), (20, true), (21, true), (22, true), (23, true), (24, true), (25, false), (26, true), (27, true)] (by kernel_rfl) (by kernel_rfl) (fun _ _ _ _ _ h => h) (hHeld.drew) (fun hHeld => ?_)
      simp only [planOps, List.map_cons, List.map_nil, List.getElem?_toArray, List.getElem?_cons_succ, List.getElem?_cons_zero, Option.getD_some]
      repeat (first | (refine plan_skip (by rfl) ?_; simp only [Act.put, List.setIfInBounds_toArray, List.set_cons_zero, List.set_cons_succ]) | (refine plan_take (v := ?_) (by rfl) ?_ ?_; rotate_left; (· (intro w hSw; replace hSw := hSw.old.1; go_simp; try with_reducible rfl)); simp only [Act.put, List.setIfInBounds_toArray, List.set_cons_zero, List.set_cons_succ]))
      obtain ⟨bk, hbk⟩ : ∃ bk, (kindOf yo == kindOf xo) = bk := ⟨_, rfl⟩
      refine plan_call (by rfl) (fun K hK => ?_)
      go_simp
      with_reducible refine (method_Kind yo _).mono ?_
      rintro e w3 ⟨rfl, hw3⟩
      go_simp
      refine hK.out _ _ (hHeld.nil_of hw3) (fun hHeld => ?_)
      clear hK K
      try simp only [Act.put, List.setIfInBounds_toArray, List.set_cons_zero, List.set_cons_succ]
      repeat (first | (refine plan_skip (by rfl) ?_; simp only [Act.put, List.setIfInBounds_toArray, List.set_cons_zero, List.set_cons_succ]) | (refine plan_take (v := ?_) (by rfl) ?_ ?_; rotate_left; (· (intro w hSw; replace hSw := hSw.old.1; go_simp; try with_reducible rfl)); simp only [Act.put, List.setIfInBounds_toArray, List.set_cons_zero, List.set_cons_succ]))
      refine plan_call (by rfl) (fun K hK => ?_)
      go_simp
      with_reducible refine (method_Kind xo _).mono ?_
      rintro e w4 ⟨rfl, hw4⟩
      go_simp
      refine hK.out _ _ (hHeld.nil_of hw4) (fun hHeld => ?_)
      clear hK K
      try simp only [Act.put, List.setIfInBounds_toArray, List.set_cons_zero, List.set_cons_succ]
      cases bk
      · repeat (first | (refine plan_skip (by rfl) ?_; simp only [Act.put, List.setIfInBounds_toArray, List.set_cons_zero, List.set_cons_succ]) | (refine plan_take (v := ?_) (by rfl) ?_ ?_; rotate_left; (· (intro w hSw; replace hSw := hSw.old.1; go_simp; try with_reducible rfl)); simp only [Act.put, List.setIfInBounds_toArray, List.set_cons_zero, List.set_cons_succ]))
        refine plan_end ?_
        go_wp2
        go_ret
        refine ⟨?_, hE0.nil_of hHeld⟩
        rw [hc.out]
        simp [conflictOf, hne.out, hbk]
      repeat (first | (refine plan_skip (by rfl) ?_; simp only [Act.put, List.setIfInBounds_toArray, List.set_cons_zero, List.set_cons_succ]) | (refine plan_take (v := ?_) (by rfl) ?_ ?_; rotate_left; (· (intro w hSw; replace hSw := hSw.old.1; go_simp; try with_reducible rfl)); simp only [Act.put, List.setIfInBounds_toArray, List.set_cons_zero, List.set_cons_succ]))
      have cpa := commute_Possible ⟨⟨yo, ya, yb, yn⟩, ⟨yc, yt, ym⟩⟩
      have cpb := commute_Possible ⟨⟨xo, xa, xb, xn⟩, ⟨xc, xt, xm⟩⟩
      have crl := hcall ⟨⟨yo, ya, yb, yn⟩, ⟨yc, yt, ym⟩⟩ ⟨⟨xo, xa, xb, xn⟩, ⟨xc, xt, xm⟩⟩
      simp only [Stp.v] at cpa cpb crl
      clear hcall
      obtain ⟨pa, hpa⟩ : ∃ pa, Stp.possible ⟨⟨yo, ya, yb, yn⟩, ⟨yc, yt, ym⟩⟩ = pa := ⟨_, rfl⟩
      obtain ⟨pb, hpb⟩ : ∃ pb, Stp.possible ⟨⟨xo, xa, xb, xn⟩, ⟨xc, xt, xm⟩⟩ = pb := ⟨_, rfl⟩
      obtain ⟨ro, hro⟩ : ∃ ro, Rule.of (kindOf yo) ⟨⟨yo, ya, yb, yn⟩, ⟨yc, yt, ym⟩⟩ ⟨⟨xo, xa, xb, xn⟩, ⟨xc, xt, xm⟩⟩ = ro := ⟨_, rfl⟩
      rw [hpa] at cpa
      rw [hpb] at cpb
      simp only [hro] at crl
      replace hpa := hid hpa
      replace hpb := hid hpb
      replace hro := hid hro
      refine plan_call (by rfl) (fun K hK => ?_)
      go_simp
      with_reducible refine (cpa _).mono ?_
      rintro e w5 ⟨rfl, hw5⟩
      go_simp
      refine hK.out _ _ (hHeld.nil_of hw5) (fun hHeld => ?_)
      clear hK K
      try simp only [Act.put, List.setIfInBounds_toArray, List.set_cons_zero, List.set_cons_succ]
      cases pa
      · repeat (first | (refine plan_skip (by rfl) ?_; simp only [Act.put, List.setIfInBounds_toArray, List.set_cons_zero, List.set_cons_succ]) | (refine plan_take (v := ?_) (by rfl) ?_ ?_; rotate_left; (· (intro w hSw; replace hSw := hSw.old.1; go_simp; try with_reducible rfl)); simp only [Act.put, List.setIfInBounds_toArray, List.set_cons_zero, List.set_cons_succ]))
        refine plan_end ?_
        go_wp2
        go_ret
        refine ⟨?_, hE0.nil_of hHeld⟩
        rw [hc.out]
        simp [conflictOf, hne.out, hbk, hpa.out]
      repeat (first | (refine plan_skip (by rfl) ?_; simp only [Act.put, List.setIfInBounds_toArray, List.set_cons_zero, List.set_cons_succ]) | (refine plan_take (v := ?_) (by rfl) ?_ ?_; rotate_left; (· (intro w hSw; replace hSw := hSw.old.1; go_simp; try with_reducible rfl)); simp only [Act.put, List.setIfInBounds_toArray, List.set_cons_zero, List.set_cons_succ]))
      refine plan_call (by rfl) (fun K hK => ?_)
      go_simp
      with_reducible refine (cpb _).mono ?_
      rintro e w6 ⟨rfl, hw6⟩
      go_simp
      refine hK.out _ _ (hHeld.nil_of hw6) (fun hHeld => ?_)
      clear hK K
      try simp only [Act.put, List.setIfInBounds_toArray, List.set_cons_zero, List.set_cons_succ]
      cases pb
      · repeat (first | (refine plan_skip (by rfl) ?_; simp only [Act.put, List.setIfInBounds_toArray, List.set_cons_zero, List.set_cons_succ]) | (refine plan_take (v := ?_) (by rfl) ?_ ?_; rotate_left; (· (intro w hSw; replace hSw := hSw.old.1; go_simp; try with_reducible rfl)); simp only [Act.put, List.setIfInBounds_toArray, List.set_cons_zero, List.set_cons_succ]))
        refine plan_end ?_
        go_wp2
        go_ret
        refine ⟨?_, hE0.nil_of hHeld⟩
        rw [hc.out]
        simp [conflictOf, hne.out, hbk, hpa.out, hpb.out]
      repeat (first | (refine plan_skip (by rfl) ?_; simp only [Act.put, List.setIfInBounds_toArray, List.set_cons_zero, List.set_cons_succ]) | (refine plan_take (v := ?_) (by rfl) ?_ ?_; rotate_left; (· (intro w hSw; replace hSw := hSw.old.1; go_simp; try with_reducible rfl)); simp only [Act.put, List.setIfInBounds_toArray, List.set_cons_zero, List.set_cons_succ]))
      refine plan_call (by rfl) (fun K hK => ?_)
      go_simp
      with_reducible refine (crl _).mono ?_
      rintro e w7 ⟨rfl, hw7⟩
      go_simp
      refine hK.out _ _ (hHeld.nil_of hw7) (fun hHeld => ?_)
      clear hK K
      try simp only [Act.put, List.setIfInBounds_toArray, List.set_cons_zero, List.set_cons_succ]
      repeat (first | (refine plan_skip (by rfl) ?_; simp only [Act.put, List.setIfInBounds_toArray, List.set_cons_zero, List.set_cons_succ]) | (refine plan_take (v := ?_) (by rfl) ?_ ?_; rotate_left; (· (intro w hSw; replace hSw := hSw.old.1; go_simp; try with_reducible rfl)); simp only [Act.put, List.setIfInBounds_toArray, List.set_cons_zero, List.set_cons_succ]))
      refine plan_end ?_
      go_wp2
      go_ret
      refine ⟨?_, hE0.nil_of hHeld⟩
      rw [hc.out]
      simp [conflictOf, hne.out, hbk, hpa.out, hpb.out, hro.out]
  · have hc := hcx
    rw [if_neg hlt] at hc
    replace hc := hid hc
    clear hcx
    go_enter Tryz.func48, Tryz.ntmps48
    go_wp2_with fail
    have hE0 : Ext [] w _ := ((Ext.refl [] w).alloc (.cells #[.int .i64 xo, .string xa, .string xb, .int .i64 xn, .int .i64 xc, .string xt, .int .i64 xm] 92)).alloc (.cells #[.int .i64 yo, .string ya, .string yb, .int .i64 yn, .int .i64 yc, .string yt, .int .i64 ym] 92)
    have c0 := fun k v h => cellOf (k := k) (v := v) (block_alloc_old (.cells #[.int .i64 yo, .string ya, .string yb, .int .i64 yn, .int .i64 yc, .string yt, .int .i64 ym] 92) (block_alloc_new w (.cells #[.int .i64 xo, .string xa, .string xb, .int .i64 xn, .int .i64 xc, .string xt, .int .i64 xm] 92))) h
    have c1 := fun k v h => cellOf (k := k) (v := v) (block_alloc_new2 w (.cells #[.int .i64 xo, .string xa, .string xb, .int .i64 xn, .int .i64 xc, .string xt, .int .i64 xm] 92) (.cells #[.int .i64 yo, .string ya, .string yb, .int .i64 yn, .int .i64 yc, .string yt, .int .i64 ym] 92)) h
    have hsz : w.heap.size + 1 < ((w.alloc (.cells #[.int .i64 xo, .string xa, .string xb, .int .i64 xn, .int .i64 xc, .string xt, .int .i64 xm] 92)).alloc (.cells #[.int .i64 yo, .string ya, .string yb, .int .i64 yn, .int .i64 yc, .string yt, .int .i64 ym] 92)).heap.size := by simp
    have a0 := c0 0 (.int .i64 xo) rfl
    have b0 := c1 0 (.int .i64 yo) rfl
    have a1 := c0 1 (.string xa) rfl
    have b1 := c1 1 (.string ya) rfl
    have a2 := c0 2 (.string xb) rfl
    have b2 := c1 2 (.string yb) rfl
    have a3 := c0 3 (.int .i64 xn) rfl
    have b3 := c1 3 (.int .i64 yn) rfl
    have a4 := c0 4 (.int .i64 xc) rfl
    have b4 := c1 4 (.int .i64 yc) rfl
    have a5 := c0 5 (.string xt) rfl
    have b5 := c1 5 (.string yt) rfl
    have a6 := c0 6 (.int .i64 xm) rfl
    have b6 := c1 6 (.int .i64 ym) rfl
    clear c0 c1
    generalize hW : (w.alloc (.cells #[.int .i64 xo, .string xa, .string xb, .int .i64 xn, .int .i64 xc, .string xt, .int .i64 xm] 92)).alloc (.cells #[.int .i64 yo, .string ya, .string yb, .int .i64 yn, .int .i64 yc, .string yt, .int .i64 ym] 92) = W at *
    clear hW
    have hsz0 : w.heap.size < W.heap.size := by omega
    refine wp_region_plan (Ext [] _) [(1, true), (2, true), (3, true), (0, false), (4, false), (5, false), (6, true)] (by kernel_rfl) (by kernel_rfl) (fun _ _ _ _ _ h => h) (Ext.self_drew _) (fun hHeld => ?_)
    simp only [planOps, List.map_cons, List.map_nil, List.getElem?_toArray, List.getElem?_cons_succ, List.getElem?_cons_zero, Option.getD_some]
    repeat (first | (refine plan_skip (by rfl) ?_; simp only [Act.put, List.setIfInBounds_toArray, List.set_cons_zero, List.set_cons_succ]) | (refine plan_take (v := ?_) (by rfl) ?_ ?_; rotate_left; (· (intro w hSw; replace hSw := hSw.old.1; go_simp; try with_reducible rfl)); simp only [Act.put, List.setIfInBounds_toArray, List.set_cons_zero, List.set_cons_succ]))
    refine plan_call (by rfl) (fun K hK => ?_)
    go_simp
    with_reducible refine (commute_rules _).mono ?_
    rintro e w1 ⟨mb, rfl, hmap, hw1⟩
    go_simp
    refine hK.out _ _ (hHeld.nil_of hw1) (fun hHeld => ?_)
    clear hK K
    try simp only [Act.put, List.setIfInBounds_toArray, List.set_cons_zero, List.set_cons_succ]
    repeat (first | (refine plan_skip (by rfl) ?_; simp only [Act.put, List.setIfInBounds_toArray, List.set_cons_zero, List.set_cons_succ]) | (refine plan_take (v := ?_) (by rfl) ?_ ?_; rotate_left; (· (intro w hSw; replace hSw := hSw.old.1; go_simp; try with_reducible rfl)); simp only [Act.put, List.setIfInBounds_toArray, List.set_cons_zero, List.set_cons_succ]))
    refine plan_call (by rfl) (fun K hK => ?_)
    go_simp
    with_reducible refine (method_Kind xo _).mono ?_
    rintro e w2 ⟨rfl, hw2⟩
    go_simp
    refine hK.out _ _ (hHeld.nil_of hw2) (fun hHeld => ?_)
    clear hK K
    try simp only [Act.put, List.setIfInBounds_toArray, List.set_cons_zero, List.set_cons_succ]
    have hrun := (hmap.ext hw2 (by simp)).lookup Tryz.underlying188 zero187 (k := kindOf xo) (by have := kindOf_cases xo; unfold I64; omega)
    have hE2 := hE0.nil_of hHeld
    rcases kindOf_cases xo with hk | hk
    · rw [hk] at hrun
      have hz0 : (mget ruleTab 0).getD .nilFunc = .nilFunc := rfl
      rw [hz0] at hrun
      refine plan_call (by rfl) (fun K hK => ?_)
      go_simp
      refine hK.out _ _ (hHeld) (fun hHeld => ?_)
      clear hK K
      try simp only [Act.put, List.setIfInBounds_toArray, List.set_cons_zero, List.set_cons_succ]
      repeat (first | (refine plan_skip (by rfl) ?_; simp only [Act.put, List.setIfInBounds_toArray, List.set_cons_zero, List.set_cons_succ]) | (refine plan_take (v := ?_) (by rfl) ?_ ?_; rotate_left; (· (intro w hSw; replace hSw := hSw.old.1; go_simp; try with_reducible rfl)); simp only [Act.put, List.setIfInBounds_toArray, List.set_cons_zero, List.set_cons_succ]))
      refine plan_end ?_
      go_wp2_with fail
      refine wp_region_plan (Ext [] W) [(0, true), (1, true), (2, true), (3, true), (4, true), (5, true), (7, true), (8, true), (9, true), (6, false), (10, false), (11, true), (12, true), (13, true), (14, true), (15, false), (16, true), (17, true), (18, true), (19, false), (20, true), (21, true), (22, true), (23, true), (24, true), (25, false), (26, true), (27, true)] (by kernel_rfl) (by kernel_rfl) (fun _ _ _ _ _ h => h) (hHeld.drew) (fun hHeld => ?_)
      simp only [planOps, List.map_cons, List.map_nil, List.getElem?_toArray, List.getElem?_cons_succ, List.getElem?_cons_zero, Option.getD_some]
      repeat (first | (refine plan_skip (by rfl) ?_; simp only [Act.put, List.setIfInBounds_toArray, List.set_cons_zero, List.set_cons_succ]) | (refine plan_take (v := ?_) (by rfl) ?_ ?_; rotate_left; (· (intro w hSw; replace hSw := hSw.old.1; go_simp; try with_reducible rfl)); simp only [Act.put, List.setIfInBounds_toArray, List.set_cons_zero, List.set_cons_succ]))
      refine plan_end ?_
      go_wp2
      go_ret
      refine ⟨?_, hE0.nil_of hHeld⟩
      rw [hc.out]
      simp [conflictOf, hk]
    · obtain ⟨f, hf, eg, hcall⟩ := rule_at _ hk
      rw [hf] at hrun
      have hne : kindOf xo ≠ 0 := by omega
      replace hne := hid hne
      clear hf hk
      refine plan_call (by rfl) (fun K hK => ?_)
      go_simp
      refine hK.out _ _ (hHeld) (fun hHeld => ?_)
      clear hK K
      try simp only [Act.put, List.setIfInBounds_toArray, List.set_cons_zero, List.set_cons_succ]
      repeat (first | (refine plan_skip (by rfl) ?_; simp only [Act.put, List.setIfInBounds_toArray, List.set_cons_zero, List.set_cons_succ]) | (refine plan_take (v := ?_) (by rfl) ?_ ?_; rotate_left; (· (intro w hSw; replace hSw := hSw.old.1; go_simp; try with_reducible rfl)); simp only [Act.put, List.setIfInBounds_toArray, List.set_cons_zero, List.set_cons_succ]))
      refine plan_end ?_
      go_wp2_with fail
      refine wp_region_plan (Ext [] W) [(0, true), (1, true), (2, true), (3, true), (4, true), (5, true), (7, true), (8, true), (9, true), (6, false), (10, false), (11, true), (12, true), (13, true), (14, true), (15, false), (16, true), (17, true), (18, true), (19, false), (20, true), (21, true), (22, true), (23, true), (24, true), (25, false), (26, true), (27, true)] (by kernel_rfl) (by kernel_rfl) (fun _ _ _ _ _ h => h) (hHeld.drew) (fun hHeld => ?_)
      simp only [planOps, List.map_cons, List.map_nil, List.getElem?_toArray, List.getElem?_cons_succ, List.getElem?_cons_zero, Option.getD_some]
      repeat (first | (refine plan_skip (by rfl) ?_; simp only [Act.put, List.setIfInBounds_toArray, List.set_cons_zero, List.set_cons_succ]) | (refine plan_take (v := ?_) (by rfl) ?_ ?_; rotate_left; (· (intro w hSw; replace hSw := hSw.old.1; go_simp; try with_reducible rfl)); simp only [Act.put, List.setIfInBounds_toArray, List.set_cons_zero, List.set_cons_succ]))
      obtain ⟨bk, hbk⟩ : ∃ bk, (kindOf xo == kindOf yo) = bk := ⟨_, rfl⟩
      refine plan_call (by rfl) (fun K hK => ?_)
      go_simp
      with_reducible refine (method_Kind xo _).mono ?_
      rintro e w3 ⟨rfl, hw3⟩
      go_simp
      refine hK.out _ _ (hHeld.nil_of hw3) (fun hHeld => ?_)
      clear hK K
      try simp only [Act.put, List.setIfInBounds_toArray, List.set_cons_zero, List.set_cons_succ]
      repeat (first | (refine plan_skip (by rfl) ?_; simp only [Act.put, List.setIfInBounds_toArray, List.set_cons_zero, List.set_cons_succ]) | (refine plan_take (v := ?_) (by rfl) ?_ ?_; rotate_left; (· (intro w hSw; replace hSw := hSw.old.1; go_simp; try with_reducible rfl)); simp only [Act.put, List.setIfInBounds_toArray, List.set_cons_zero, List.set_cons_succ]))
      refine plan_call (by rfl) (fun K hK => ?_)
      go_simp
      with_reducible refine (method_Kind yo _).mono ?_
      rintro e w4 ⟨rfl, hw4⟩
      go_simp
      refine hK.out _ _ (hHeld.nil_of hw4) (fun hHeld => ?_)
      clear hK K
      try simp only [Act.put, List.setIfInBounds_toArray, List.set_cons_zero, List.set_cons_succ]
      cases bk
      · repeat (first | (refine plan_skip (by rfl) ?_; simp only [Act.put, List.setIfInBounds_toArray, List.set_cons_zero, List.set_cons_succ]) | (refine plan_take (v := ?_) (by rfl) ?_ ?_; rotate_left; (· (intro w hSw; replace hSw := hSw.old.1; go_simp; try with_reducible rfl)); simp only [Act.put, List.setIfInBounds_toArray, List.set_cons_zero, List.set_cons_succ]))
        refine plan_end ?_
        go_wp2
        go_ret
        refine ⟨?_, hE0.nil_of hHeld⟩
        rw [hc.out]
        simp [conflictOf, hne.out, hbk]
      repeat (first | (refine plan_skip (by rfl) ?_; simp only [Act.put, List.setIfInBounds_toArray, List.set_cons_zero, List.set_cons_succ]) | (refine plan_take (v := ?_) (by rfl) ?_ ?_; rotate_left; (· (intro w hSw; replace hSw := hSw.old.1; go_simp; try with_reducible rfl)); simp only [Act.put, List.setIfInBounds_toArray, List.set_cons_zero, List.set_cons_succ]))
      have cpa := commute_Possible ⟨⟨xo, xa, xb, xn⟩, ⟨xc, xt, xm⟩⟩
      have cpb := commute_Possible ⟨⟨yo, ya, yb, yn⟩, ⟨yc, yt, ym⟩⟩
      have crl := hcall ⟨⟨xo, xa, xb, xn⟩, ⟨xc, xt, xm⟩⟩ ⟨⟨yo, ya, yb, yn⟩, ⟨yc, yt, ym⟩⟩
      simp only [Stp.v] at cpa cpb crl
      clear hcall
      obtain ⟨pa, hpa⟩ : ∃ pa, Stp.possible ⟨⟨xo, xa, xb, xn⟩, ⟨xc, xt, xm⟩⟩ = pa := ⟨_, rfl⟩
      obtain ⟨pb, hpb⟩ : ∃ pb, Stp.possible ⟨⟨yo, ya, yb, yn⟩, ⟨yc, yt, ym⟩⟩ = pb := ⟨_, rfl⟩
      obtain ⟨ro, hro⟩ : ∃ ro, Rule.of (kindOf xo) ⟨⟨xo, xa, xb, xn⟩, ⟨xc, xt, xm⟩⟩ ⟨⟨yo, ya, yb, yn⟩, ⟨yc, yt, ym⟩⟩ = ro := ⟨_, rfl⟩
      rw [hpa] at cpa
      rw [hpb] at cpb
      simp only [hro] at crl
      replace hpa := hid hpa
      replace hpb := hid hpb
      replace hro := hid hro
      refine plan_call (by rfl) (fun K hK => ?_)
      go_simp
      with_reducible refine (cpa _).mono ?_
      rintro e w5 ⟨rfl, hw5⟩
      go_simp
      refine hK.out _ _ (hHeld.nil_of hw5) (fun hHeld => ?_)
      clear hK K
      try simp only [Act.put, List.setIfInBounds_toArray, List.set_cons_zero, List.set_cons_succ]
      cases pa
      · repeat (first | (refine plan_skip (by rfl) ?_; simp only [Act.put, List.setIfInBounds_toArray, List.set_cons_zero, List.set_cons_succ]) | (refine plan_take (v := ?_) (by rfl) ?_ ?_; rotate_left; (· (intro w hSw; replace hSw := hSw.old.1; go_simp; try with_reducible rfl)); simp only [Act.put, List.setIfInBounds_toArray, List.set_cons_zero, List.set_cons_succ]))
        refine plan_end ?_
        go_wp2
        go_ret
        refine ⟨?_, hE0.nil_of hHeld⟩
        rw [hc.out]
        simp [conflictOf, hne.out, hbk, hpa.out]
      repeat (first | (refine plan_skip (by rfl) ?_; simp only [Act.put, List.setIfInBounds_toArray, List.set_cons_zero, List.set_cons_succ]) | (refine plan_take (v := ?_) (by rfl) ?_ ?_; rotate_left; (· (intro w hSw; replace hSw := hSw.old.1; go_simp; try with_reducible rfl)); simp only [Act.put, List.setIfInBounds_toArray, List.set_cons_zero, List.set_cons_succ]))
      refine plan_call (by rfl) (fun K hK => ?_)
      go_simp
      with_reducible refine (cpb _).mono ?_
      rintro e w6 ⟨rfl, hw6⟩
      go_simp
      refine hK.out _ _ (hHeld.nil_of hw6) (fun hHeld => ?_)
      clear hK K
      try simp only [Act.put, List.setIfInBounds_toArray, List.set_cons_zero, List.set_cons_succ]
      cases pb
      · repeat (first | (refine plan_skip (by rfl) ?_; simp only [Act.put, List.setIfInBounds_toArray, List.set_cons_zero, List.set_cons_succ]) | (refine plan_take (v := ?_) (by rfl) ?_ ?_; rotate_left; (· (intro w hSw; replace hSw := hSw.old.1; go_simp; try with_reducible rfl)); simp only [Act.put, List.setIfInBounds_toArray, List.set_cons_zero, List.set_cons_succ]))
        refine plan_end ?_
        go_wp2
        go_ret
        refine ⟨?_, hE0.nil_of hHeld⟩
        rw [hc.out]
        simp [conflictOf, hne.out, hbk, hpa.out, hpb.out]
      repeat (first | (refine plan_skip (by rfl) ?_; simp only [Act.put, List.setIfInBounds_toArray, List.set_cons_zero, List.set_cons_succ]) | (refine plan_take (v := ?_) (by rfl) ?_ ?_; rotate_left; (· (intro w hSw; replace hSw := hSw.old.1; go_simp; try with_reducible rfl)); simp only [Act.put, List.setIfInBounds_toArray, List.set_cons_zero, List.set_cons_succ]))
      refine plan_call (by rfl) (fun K hK => ?_)
      go_simp
      with_reducible refine (crl _).mono ?_
      rintro e w7 ⟨rfl, hw7⟩
      go_simp
      refine hK.out _ _ (hHeld.nil_of hw7) (fun hHeld => ?_)
      clear hK K
      try simp only [Act.put, List.setIfInBounds_toArray, List.set_cons_zero, List.set_cons_succ]
      repeat (first | (refine plan_skip (by rfl) ?_; simp only [Act.put, List.setIfInBounds_toArray, List.set_cons_zero, List.set_cons_succ]) | (refine plan_take (v := ?_) (by rfl) ?_ ?_; rotate_left; (· (intro w hSw; replace hSw := hSw.old.1; go_simp; try with_reducible rfl)); simp only [Act.put, List.setIfInBounds_toArray, List.set_cons_zero, List.set_cons_succ]))
      refine plan_end ?_
      go_wp2
      go_ret
      refine ⟨?_, hE0.nil_of hHeld⟩
      rw [hc.out]
      simp [conflictOf, hne.out, hbk, hpa.out, hpb.out, hro.out]
end Go.Proofs.YtegcnimekfanaaaGreat
