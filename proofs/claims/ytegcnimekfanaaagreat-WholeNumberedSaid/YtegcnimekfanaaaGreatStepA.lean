/-
  Steps as values; the rules of package commute, walked.
-/
import Derived.Test.YtegcnimekfanaaaGreatProg
import Derived.Test.YtegcnimekfanaaaGreatBase
import Derived.Test.YtegcnimekfanaaaGreatPlan
namespace Go.Proofs.YtegcnimekfanaaaGreat
open Go.RowKit

structure Cal where
  op : Int
  a : ByteArray
  b : ByteArray
  n : Int
structure Res where
  code : Int
  text : ByteArray
  n : Int
structure Stp where
  c : Cal
  r : Res
@[reducible] def Cal.v (c : Cal) : Value := .agg #[.int .i64 c.op, .string c.a, .string c.b, .int .i64 c.n]
@[reducible] def Res.v (r : Res) : Value := .agg #[.int .i64 r.code, .string r.text, .int .i64 r.n]
@[reducible] def Stp.v (s : Stp) : Value := .agg #[.int .i64 s.c.op, .string s.c.a, .string s.c.b, .int .i64 s.c.n, .int .i64 s.r.code, .string s.r.text, .int .i64 s.r.n]

def Rule.counter (x y : Stp) : Bool := x.c.op == 3 && y.c.op == 4 && x.c.n != 0
def Rule.register (x y : Stp) : Bool := if y.c.op == 1 then false else if x.c.op == 1 then !(x.r.text.toList == y.c.a.toList) else !(x.c.a.toList == y.c.a.toList)
def Rule.paid (z : Stp) : Bool := z.c.op == 6 && z.r.code == 1
def Rule.account (x y : Stp) : Bool :=
  if x.c.op == 5 then y.c.op == 7 || (y.c.op == 6 && !Rule.paid y) else if Rule.paid x && y.c.op == 7 then decide (y.r.n ≥ x.c.n) else Rule.paid x && Rule.paid y
def Rule.inside (x : Stp) : Bool := if x.c.op == 8 || x.c.op == 11 then x.r.code == 2 else x.r.code == 1
def Rule.changes (c : Cal) (r : Res) : Bool :=
  if c.op == 2 || c.op == 5 || c.op == 14 || c.op == 16 then true else if c.op == 3 then c.n != 0
  else if c.op == 6 || c.op == 8 || c.op == 9 || c.op == 11 || c.op == 12 || c.op == 15 || c.op == 17 then r.code == 1 else false
def Rule.member (x y : Stp) : Bool := x.c.a.toList == y.c.a.toList && (Rule.inside x == Rule.inside y && (Rule.changes x.c x.r || Rule.changes y.c y.r))
def Res.same (a b : Res) : Bool := a.code == b.code && a.text.toList == b.text.toList && a.n == b.n
def Rule.queue (x y : Stp) : Bool := if x.c.op == 15 then x.r.code == 1 && x.r.same y.r else if y.c.op == 14 then !(x.c.a.toList == y.c.a.toList) else y.r.code == 2
def Rule.semi (x y : Stp) : Bool := if x.c.op == 17 then x.r.code == 1 && x.r.same y.r else if y.c.op == 16 then false else y.r.code == 2

set_option maxRecDepth 8000 in
theorem commute_register (x y : Stp) (w : World) : Calls Tryz.prog 134 #[x.v, y.v] w fun e w' => e = .returned (.bool (Rule.register x y)) ∧ Ext [] w w' := by
  obtain ⟨⟨xo, xa, xb, xn⟩, ⟨xc, xt, xm⟩⟩ := x
  obtain ⟨⟨yo, ya, yb, yn⟩, ⟨yc, yt, ym⟩⟩ := y
  simp only [Stp.v]
  go_enter Tryz.func134, Tryz.ntmps134
  go_wp2
  all_goals
    go_ret
    refine ⟨?_, ((Ext.refl [] w).alloc _).alloc _⟩
    simp [Rule.register, *]
set_option maxRecDepth 8000 in
theorem commute_counter (x y : Stp) (w : World) : Calls Tryz.prog 135 #[x.v, y.v] w fun e w' => e = .returned (.bool (Rule.counter x y)) ∧ Ext [] w w' := by
  obtain ⟨⟨xo, xa, xb, xn⟩, ⟨xc, xt, xm⟩⟩ := x
  obtain ⟨⟨yo, ya, yb, yn⟩, ⟨yc, yt, ym⟩⟩ := y
  simp only [Stp.v]
  go_enter Tryz.func135, Tryz.ntmps135
  go_wp2
  all_goals
    go_ret
    refine ⟨?_, ((Ext.refl [] w).alloc _).alloc _⟩
    simp [Rule.counter, *]
set_option maxRecDepth 8000 in
theorem commute_paid (x : Stp) (w : World) : Calls Tryz.prog 178 #[x.v] w fun e w' => e = .returned (.bool (Rule.paid x)) ∧ Ext [] w w' := by
  obtain ⟨⟨xo, xa, xb, xn⟩, ⟨xc, xt, xm⟩⟩ := x
  simp only [Stp.v]
  go_enter Tryz.func178, Tryz.ntmps178
  go_wp2
  all_goals
    go_ret
    refine ⟨?_, (Ext.refl [] w).alloc _⟩
    simp [Rule.paid, *]
set_option maxRecDepth 8000 in
theorem commute_inside (x : Stp) (w : World) : Calls Tryz.prog 179 #[x.v] w fun e w' => e = .returned (.bool (Rule.inside x)) ∧ Ext [] w w' := by
  obtain ⟨⟨xo, xa, xb, xn⟩, ⟨xc, xt, xm⟩⟩ := x
  simp only [Stp.v]
  go_enter Tryz.func179, Tryz.ntmps179
  go_wp2
  all_goals
    go_ret
    refine ⟨?_, (Ext.refl [] w).alloc _⟩
    simp [Rule.inside, *]
set_option maxRecDepth 8000 in
theorem method_Changes (c : Cal) (r : Res) (w : World) : Calls Tryz.prog 180 #[c.v, r.v] w fun e w' => e = .returned (.bool (Rule.changes c r)) ∧ Ext [] w w' := by
  obtain ⟨xo, xa, xb, xn⟩ := c
  obtain ⟨xc, xt, xm⟩ := r
  simp only [Cal.v, Res.v]
  go_enter Tryz.func180, Tryz.ntmps180
  go_wp2
  all_goals
    go_ret
    refine ⟨?_, ((Ext.refl [] w).alloc _).alloc _⟩
    simp [Rule.changes, *]
set_option maxRecDepth 8000 in
theorem commute_queue (x y : Stp) (w : World) : Calls Tryz.prog 138 #[x.v, y.v] w fun e w' => e = .returned (.bool (Rule.queue x y)) ∧ Ext [] w w' := by
  obtain ⟨⟨xo, xa, xb, xn⟩, ⟨xc, xt, xm⟩⟩ := x
  obtain ⟨⟨yo, ya, yb, yn⟩, ⟨yc, yt, ym⟩⟩ := y
  simp only [Stp.v]
  go_enter Tryz.func138, Tryz.ntmps138
  go_wp2
  all_goals
    go_ret
    refine ⟨?_, ((Ext.refl [] w).alloc _).alloc _⟩
    simp [Rule.queue, Res.same, *]
set_option maxRecDepth 8000 in
theorem commute_semi (x y : Stp) (w : World) : Calls Tryz.prog 139 #[x.v, y.v] w fun e w' => e = .returned (.bool (Rule.semi x y)) ∧ Ext [] w w' := by
  obtain ⟨⟨xo, xa, xb, xn⟩, ⟨xc, xt, xm⟩⟩ := x
  obtain ⟨⟨yo, ya, yb, yn⟩, ⟨yc, yt, ym⟩⟩ := y
  simp only [Stp.v]
  go_enter Tryz.func139, Tryz.ntmps139
  go_wp2
  all_goals
    go_ret
    refine ⟨?_, ((Ext.refl [] w).alloc _).alloc _⟩
    simp [Rule.semi, Res.same, *]
set_option maxRecDepth 8000 in
set_option maxHeartbeats 800000 in
theorem commute_account (x y : Stp) (w : World) : Calls Tryz.prog 136 #[x.v, y.v] w fun e w' => e = .returned (.bool (Rule.account x y)) ∧ Ext [] w w' := by
  have cx := fun w => commute_paid x w
  have cy := fun w => commute_paid y w
  have hacc : Rule.account x y = if x.c.op == 5 then y.c.op == 7 || (y.c.op == 6 && !Rule.paid y) else if Rule.paid x && y.c.op == 7 then decide (y.r.n ≥ x.c.n) else Rule.paid x && Rule.paid y := rfl
  generalize Rule.paid x = px at *
  generalize Rule.paid y = py at *
  generalize Rule.account x y = rr at *
  replace hacc := hid hacc
  obtain ⟨⟨xo, xa, xb, xn⟩, ⟨xc, xt, xm⟩⟩ := x
  obtain ⟨⟨yo, ya, yb, yn⟩, ⟨yc, yt, ym⟩⟩ := y
  simp only [Stp.v] at cx cy ⊢
  by_cases h5 : (xo == 5) = true
  · by_cases h6 : (yo == 6) = true
    · have h7 : (yo == 7) = false := by simp at h6 ⊢; omega
      go_enter Tryz.func136, Tryz.ntmps136
      go_wp2_with fail
      refine (cy _).mono ?_
      rintro e w1 ⟨rfl, hE⟩
      go_wp2
      go_ret
      refine ⟨?_, (((Ext.refl [] w).alloc _).alloc _).nil_of hE⟩
      rw [hacc.out]
      simp [h5, h6, h7]
    · replace h6 := Bool.eq_false_iff.2 h6
      go_enter Tryz.func136, Tryz.ntmps136
      go_wp2
      all_goals
        go_ret
        refine ⟨?_, ((Ext.refl [] w).alloc _).alloc _⟩
        rw [hacc.out]
        simp [*]
  · replace h5 := Bool.eq_false_iff.2 h5
    go_enter Tryz.func136, Tryz.ntmps136
    go_wp2_with fail
    refine (cx _).mono ?_
    rintro e w1 ⟨rfl, hE⟩
    obtain ⟨hoc, hof⟩ := hE.old
    cases px
    · go_wp2_with fail
      refine (cx _).mono ?_
      rintro e w2 ⟨rfl, hE2⟩
      go_wp2
      go_ret
      refine ⟨?_, ((((Ext.refl [] w).alloc _).alloc _).nil_of hE).nil_of hE2⟩
      rw [hacc.out]
      simp [h5]
    · by_cases h7 : (yo == 7) = true
      · go_wp2
        go_ret
        refine ⟨?_, (((Ext.refl [] w).alloc _).alloc _).nil_of hE⟩
        rw [hacc.out]
        simp [h5, h7]
      · replace h7 := Bool.eq_false_iff.2 h7
        go_wp2_with fail
        refine (cx _).mono ?_
        rintro e w2 ⟨rfl, hE2⟩
        obtain ⟨hoc2, hof2⟩ := hE2.old
        have hz := hE.size
        simp only [World.size_alloc] at hz
        have hz1 : w.heap.size + 1 < w1.heap.size := by omega
        have hz0 : w.heap.size < w1.heap.size := by omega
        clear hz
        go_wp2_with fail
        refine (cy _).mono ?_
        rintro e w3 ⟨rfl, hE3⟩
        go_wp2
        go_ret
        refine ⟨?_, (((((Ext.refl [] w).alloc _).alloc _).nil_of hE).nil_of hE2).nil_of hE3⟩
        rw [hacc.out]
        simp [h5, h7]
end Go.Proofs.YtegcnimekfanaaaGreat
