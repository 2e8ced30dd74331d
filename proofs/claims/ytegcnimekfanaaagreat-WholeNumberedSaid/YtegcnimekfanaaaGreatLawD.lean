/-
  WholeNumbered: two clocks, the one so much later, in memory; what each call makes of them.
-/
import Derived.Test.YtegcnimekfanaaaGreatLawB
namespace Go.Proofs.YtegcnimekfanaaaGreat
open Go.RowKit

theorem SetTo.mem {R R' : List En} {id t : Int} (h : SetTo R id t R') : R'.length ≤ R.length + 1 ∧ ∀ x ∈ R', x ∈ R ∨ (x.id = id ∧ x.tick = t) := by
  rcases h with ⟨i, x, hx, hxi, rfl⟩ | ⟨-, b, rfl⟩
  · have hp := hfix_perm En.lt (R.set i ⟨t, id, x.b⟩) i
    refine ⟨by rw [hp.length_eq, List.length_set]; omega, fun y hy => ?_⟩
    rcases List.mem_or_eq_of_mem_set (hp.mem_iff.1 hy) with h | rfl
    · exact .inl h
    · exact .inr ⟨rfl, rfl⟩
  · have hp := hpush_perm En.lt R ⟨t, id, b⟩
    refine ⟨by rw [hp.length_eq]; simp, fun y hy => ?_⟩
    rcases List.mem_append.1 (hp.mem_iff.1 hy) with h | h
    · exact .inl h
    · obtain rfl : y = ⟨t, id, b⟩ := by simpa using h
      exact .inr ⟨rfl, rfl⟩
theorem hrem_sub {R : List En} {i : Nat} {x : En} (hx : R[i]? = some x) : ∀ y ∈ hrem En.lt R i, y ∈ R := fun y hy => by
  have hp := hrem_perm En.lt R i x hx
  exact hp.mem_iff.1 (List.mem_append.2 (.inl hy))
theorem hdue_mem (now : Int) : ∀ (k : Nat) (R : List En), (∀ x ∈ (hdue k R now).2, x ∈ R) ∧ (∀ y ∈ (hdue k R now).1, ∃ x ∈ R, x.id = y) ∧ (hdue k R now).1.length ≤ k ∧ (hdue k R now).2.length ≤ R.length
  | 0, R => ⟨fun _ h => h, by simp [hdue], by simp [hdue], Nat.le_refl _⟩
  | k + 1, [] => by simp [hdue]
  | k + 1, x :: R => by
    rw [hdue]
    have hsub := hrem_sub (R := x :: R) (i := 0) (x := x) rfl
    have hlen := hrem_length En.lt (x :: R) 0
    obtain ⟨h1, h2, h3, h4⟩ := hdue_mem now k (hrem En.lt (x :: R) 0)
    split
    · refine ⟨fun y hy => hsub y (h1 y hy), fun y hy => ?_, by simp; omega, by simp at hlen h4 ⊢; omega⟩
      rcases List.mem_cons.1 hy with rfl | hy
      · exact ⟨x, by simp, rfl⟩
      · obtain ⟨z, hz, rfl⟩ := h2 y hy
        exact ⟨z, hsub z hz, rfl⟩
    · exact ⟨fun y hy => hy, by simp, by simp, Nat.le_refl _⟩
theorem pair_mem {late : Int} {R S : List En} (h : Pairs (Later late) R S) {x : En} (hx : x ∈ R) : ∃ y ∈ S, Later late x y := by
  induction h with
  | nil => cases hx
  | cons h1 _ ih =>
    rcases List.mem_cons.1 hx with rfl | hx
    · exact ⟨_, by simp, h1⟩
    · obtain ⟨y, hy, h⟩ := ih hx
      exact ⟨y, by simp [hy], h⟩
theorem pair_mem' {late : Int} {R S : List En} (h : Pairs (Later late) R S) {y : En} (hy : y ∈ S) : ∃ x ∈ R, Later late x y := by
  induction h with
  | nil => cases hy
  | cons h1 _ ih =>
    rcases List.mem_cons.1 hy with rfl | hy
    · exact ⟨_, by simp, h1⟩
    · obtain ⟨x, hx, h⟩ := ih hy
      exact ⟨x, by simp [hx], h⟩

structure Cks (w : World) (cp dp : Nat) (F F2 : List Nat) (R S : List En) (late : Int) (B0 n : Nat) : Prop where
  c : ClockAt w cp F R
  d : ClockAt w dp F2 S
  pair : Pairs (Later late) R S
  len : R.length ≤ n
  good : ∀ x ∈ R, Near x.id ∧ 0 ≤ x.tick ∧ x.tick + late ≤ 1099511627776
  f : ∀ x ∈ F, B0 ≤ x ∧ x < w.heap.size
  f2 : ∀ x ∈ F2, B0 ≤ x ∧ x < w.heap.size
  apart : ∀ x ∈ F, x ∉ F2
theorem Cks.ext0 {w w' : World} {cp dp : Nat} {F F2 : List Nat} {R S : List En} {late : Int} {B0 n : Nat} (h : Cks w cp dp F F2 R S late B0 n) (he : Ext [] w w') : Cks w' cp dp F F2 R S late B0 n :=
  ⟨h.c.ext he (by simp), h.d.ext he (by simp), h.pair, h.len, h.good, fun x hx => ⟨(h.f x hx).1, Nat.lt_of_lt_of_le (h.f x hx).2 he.size⟩, fun x hx => ⟨(h.f2 x hx).1, Nat.lt_of_lt_of_le (h.f2 x hx).2 he.size⟩, h.apart⟩
theorem Cks.mono {w : World} {cp dp : Nat} {F F2 : List Nat} {R S : List En} {late : Int} {B0 n m : Nat} (h : Cks w cp dp F F2 R S late B0 n) (hm : n ≤ m) : Cks w cp dp F F2 R S late B0 m := { h with len := Nat.le_trans h.len hm }
theorem Cks.slen {w : World} {cp dp : Nat} {F F2 : List Nat} {R S : List En} {late : Int} {B0 n : Nat} (h : Cks w cp dp F F2 R S late B0 n) : S.length = R.length := (pair_length h.pair).symm
theorem Cks.sgood {w : World} {cp dp : Nat} {F F2 : List Nat} {R S : List En} {late : Int} {B0 n : Nat} (h : Cks w cp dp F F2 R S late B0 n) : ∀ y ∈ S, I64 y.id := fun y hy => by
  obtain ⟨x, hx, h1, h2⟩ := pair_mem' h.pair hy
  rw [h2]; exact (h.good x hx).1.one
theorem Cks.d1 {w wa : World} {cp dp : Nat} {F F2 : List Nat} {R S : List En} {late : Int} {B0 n : Nat} (h : Cks w cp dp F F2 R S late B0 n) (he : Ext F w wa) : ClockAt wa dp F2 S :=
  h.d.ext he fun b hb hf => h.apart b hf hb

theorem Cks.set {w wa wb : World} {cp dp : Nat} {F F2 F' F2' : List Nat} {R S R' S' : List En} {late : Int} {B0 n : Nat} {id t : Int} (h : Cks w cp dp F F2 R S late B0 n) (hB : B0 ≤ w.heap.size) (hid : Near id) (ht : 0 ≤ t) (htl : t + late ≤ 1099511627776)
    (c1 : ClockAt wa cp F' R') (s1 : SetTo R id t R') (e1 : Ext F w wa) (f1 : ∀ x ∈ F', x ∈ F ∨ w.heap.size ≤ x)
    (c2 : ClockAt wb dp F2' S') (s2 : SetTo S (one id) (t + late) S') (e2 : Ext F2 wa wb) (f2 : ∀ x ∈ F2', x ∈ F2 ∨ wa.heap.size ≤ x) :
    ∃ G G2, Cks wb cp dp G G2 R' S' late B0 (n + 1) := by
  have hd := h.d1 e1
  have hin : ∀ x ∈ F'.filter (· < wa.heap.size), (x ∈ F ∨ w.heap.size ≤ x) ∧ x < wa.heap.size := fun x hx => ⟨f1 x (List.mem_filter.1 hx).1, by simpa using (List.mem_filter.1 hx).2⟩
  have hin2 : ∀ x ∈ F2'.filter (· < wb.heap.size), (x ∈ F2 ∨ wa.heap.size ≤ x) ∧ x < wb.heap.size := fun x hx => ⟨f2 x (List.mem_filter.1 hx).1, by simpa using (List.mem_filter.1 hx).2⟩
  have hs1 := e1.size
  have hs2 := e2.size
  refine ⟨F'.filter (· < wa.heap.size), F2'.filter (· < wb.heap.size), c1.trim.ext e2 (fun b hb hb2 => ?_), c2.trim, pair_SetTo h.pair (fun i j x y hi hj he => hd.inj hi hj he) s1 s2, by have := s1.mem.1; have := h.len; omega, fun x hx => ?_, fun x hx => ?_, fun x hx => ?_, fun x hx hx2 => ?_⟩
  · rcases (hin b hb).1 with h1 | h1
    · exact h.apart b h1 hb2
    · have := (h.f2 b hb2).2; omega
  · rcases s1.mem.2 x hx with h1 | ⟨h1, h2⟩
    · exact h.good x h1
    · rw [h1, h2]; exact ⟨hid, ht, htl⟩
  · obtain ⟨h1, h2⟩ := hin x hx
    refine ⟨?_, by omega⟩
    rcases h1 with h1 | h1
    · exact (h.f x h1).1
    · omega
  · obtain ⟨h1, h2⟩ := hin2 x hx
    refine ⟨?_, h2⟩
    rcases h1 with h1 | h1
    · exact (h.f2 x h1).1
    · omega
  · obtain ⟨h1, h2⟩ := hin x hx
    obtain ⟨h3, h4⟩ := hin2 x hx2
    rcases h3 with h3 | h3
    · rcases h1 with h1 | h1
      · exact h.apart x h1 h3
      · have := (h.f2 x h3).2; omega
    · omega

/-- What Cancel says and makes. -/
def CancelTo (w w' : World) (cp : Nat) (F : List Nat) (R : List En) (id : Int) (r : Bool) : Prop :=
  (∃ (i : Nat) (x : En), R[i]? = some x ∧ x.id = id ∧ r = true ∧ ClockAt w' cp F (hrem En.lt R i) ∧ Ext F w w') ∨ ((∀ x ∈ R, x.id ≠ id) ∧ r = false ∧ w = w')
theorem clock_CancelTo (w : World) (cp : Nat) (F : List Nat) (R : List En) (id : Int) (h : ClockAt w cp F R) (hi : I64 id) (hn : R.length ≤ 1000000) :
    Calls Tryz.prog 22 #[.pointer (some ⟨cp, 0, none⟩), .int .i64 id] w fun e w' => ∃ r, e = .returned (.bool r) ∧ CancelTo w w' cp F R id r :=
  (clock_Cancel w cp F R id h hi hn).mono fun e w' h => by
    rcases h with ⟨i, x, h1, h2, h3, h4, h5⟩ | ⟨h1, h2, h3⟩
    · exact ⟨true, h3, .inl ⟨i, x, h1, h2, rfl, h4, h5⟩⟩
    · exact ⟨false, h2, .inr ⟨h1, rfl, h3⟩⟩
theorem CancelTo.ext {w w' : World} {cp : Nat} {F : List Nat} {R : List En} {id : Int} {r : Bool} (h : CancelTo w w' cp F R id r) : Ext F w w' := by
  rcases h with ⟨_, _, _, _, _, _, h⟩ | ⟨_, _, rfl⟩
  · exact h
  · exact Ext.refl _ _
theorem Cks.cancel {w wa wb : World} {cp dp : Nat} {F F2 : List Nat} {R S : List En} {late : Int} {B0 n : Nat} {id : Int} {r q : Bool} (h : Cks w cp dp F F2 R S late B0 n)
    (h1 : CancelTo w wa cp F R id r) (h2 : CancelTo wa wb dp F2 S (one id) q) : r = q ∧ ∃ R' S', Cks wb cp dp F F2 R' S' late B0 n := by
  have e1 := h1.ext
  have e2 := h2.ext
  have hd := h.d1 e1
  have hs1 := e1.size
  have hs2 := e2.size
  have hf : ∀ x ∈ F, B0 ≤ x ∧ x < wb.heap.size := fun x hx => by have := h.f x hx; omega
  have hf2 : ∀ x ∈ F2, B0 ≤ x ∧ x < wb.heap.size := fun x hx => by have := h.f2 x hx; omega
  rcases h1 with ⟨i, x, hx, hxi, rfl, hc, -⟩ | ⟨hno, rfl, rfl⟩
  · rcases pair_get h.pair i with ⟨h3, -⟩ | ⟨a, c, h3, h4, h5⟩
    · rw [hx] at h3; cases h3
    · rw [hx] at h3; cases h3
      rcases h2 with ⟨j, y, hy, hyi, rfl, hc2, -⟩ | ⟨hno, -, -⟩
      · obtain rfl : j = i := hd.inj hy h4 (by rw [hyi, h5.2, hxi])
        refine ⟨rfl, _, _, hc.ext e2 (fun b hb hb2 => h.apart b hb hb2), hc2, pair_hrem (later_alike late) h.pair j, ?_, fun y hy => h.good y (hrem_sub hx y hy), hf, hf2, h.apart⟩
        have := hrem_length En.lt R j
        have := h.len
        omega
      · exact absurd (by rw [h5.2, hxi]) (hno c (List.mem_of_getElem? h4))
  · rcases h2 with ⟨j, y, hy, hyi, -, -, -⟩ | ⟨-, rfl, rfl⟩
    · exact absurd hyi ((pair_ids h.pair id).1 hno y (List.mem_of_getElem? hy))
    · exact ⟨rfl, R, S, h⟩
theorem Cks.due {w wa wb wc : World} {cp dp : Nat} {F F2 : List Nat} {R S : List En} {late : Int} {B0 n : Nat} {t : Int} (h : Cks w cp dp F F2 R S late B0 n)
    (c1 : ClockAt wa cp F (hdue R.length R t).2) (e1 : Ext F w wa) (eb : Ext [] wa wb) (c2 : ClockAt wc dp F2 (hdue S.length S (t + late)).2) (e2 : Ext F2 wb wc) :
    (hdue S.length S (t + late)).1 = (hdue R.length R t).1.map one ∧ Cks wc cp dp F F2 (hdue R.length R t).2 (hdue S.length S (t + late)).2 late B0 n := by
  rw [h.slen] at c2 ⊢
  obtain ⟨p1, p2⟩ := pair_hdue late R.length t h.pair
  obtain ⟨m1, m2, m3, m4⟩ := hdue_mem t R.length R
  have hs1 := e1.size
  have hs2 := eb.size
  have hs3 := e2.size
  refine ⟨p1, (c1.ext eb (by simp)).ext e2 (fun b hb hb2 => h.apart b hb hb2), c2, p2, Nat.le_trans m4 h.len, fun x hx => h.good x (m1 x hx), fun x hx => ?_, fun x hx => ?_, h.apart⟩
  · have := h.f x hx; omega
  · have := h.f2 x hx; omega

/-- The next alarm of both. -/
theorem Cks.next {w : World} {cp dp : Nat} {F F2 : List Nat} {R S : List En} {late : Int} {B0 n : Nat} (h : Cks w cp dp F F2 R S late B0 n) :
    (nextOf R = .tuple #[.int .i64 0, .int .i64 0, .bool false] ∧ nextOf S = .tuple #[.int .i64 0, .int .i64 0, .bool false]) ∨
    ∃ id t, Near id ∧ 0 ≤ t ∧ t + late ≤ 1099511627776 ∧ nextOf R = .tuple #[.int .i64 id, .int .i64 t, .bool true] ∧ nextOf S = .tuple #[.int .i64 (one id), .int .i64 (t + late), .bool true] := by
  have hp := h.pair
  have hg := h.good
  cases hp with
  | nil => exact .inl ⟨rfl, rfl⟩
  | @cons a b l m h1 _ =>
    obtain ⟨g1, g2, g3⟩ := hg a (by simp)
    refine .inr ⟨a.id, a.tick, g1, g2, g3, rfl, ?_⟩
    simp only [nextOf, h1.1, h1.2]

/-- What At says: by the one clock and by the other. -/
def AtOf (R : List En) (id : Int) (e : Ending) : Prop := (∃ x ∈ R, x.id = id ∧ e = .returned (.tuple #[.int .i64 x.tick, .bool true])) ∨ ((∀ x ∈ R, x.id ≠ id) ∧ e = .returned (.tuple #[.int .i64 0, .bool false]))
theorem Cks.at {w : World} {cp dp : Nat} {F F2 : List Nat} {R S : List En} {late : Int} {B0 n : Nat} (h : Cks w cp dp F F2 R S late B0 n) (id : Int) {e e' : Ending} (h1 : AtOf R id e) (h2 : AtOf S (one id) e') :
    (e = .returned (.tuple #[.int .i64 0, .bool false]) ∧ e' = .returned (.tuple #[.int .i64 0, .bool false])) ∨
    ∃ t, 0 ≤ t ∧ t + late ≤ 1099511627776 ∧ e = .returned (.tuple #[.int .i64 t, .bool true]) ∧ e' = .returned (.tuple #[.int .i64 (t + late), .bool true]) := by
  rcases h1 with ⟨x, hx, hxi, rfl⟩ | ⟨hno, rfl⟩
  · obtain ⟨y, hy, hl1, hl2⟩ := pair_mem h.pair hx
    rcases h2 with ⟨z, hz, hzi, rfl⟩ | ⟨hno, -⟩
    · obtain ⟨i, hi, rfl⟩ := List.mem_iff_getElem.1 hy
      obtain ⟨j, hj, rfl⟩ := List.mem_iff_getElem.1 hz
      obtain rfl : j = i := h.d.inj (List.getElem?_eq_getElem hj) (List.getElem?_eq_getElem hi) (by rw [hzi, hl2, hxi])
      obtain ⟨-, g2, g3⟩ := h.good x hx
      exact .inr ⟨x.tick, g2, g3, rfl, by rw [hl1]⟩
    · exact absurd (by rw [hl2, hxi]) (hno y hy)
  · rcases h2 with ⟨z, hz, hzi, -⟩ | ⟨-, rfl⟩
    · exact absurd hzi ((pair_ids h.pair id).1 hno z hz)
    · exact .inl ⟨rfl, rfl⟩
theorem Cks.ats {w : World} {cp dp : Nat} {F F2 : List Nat} {R S : List En} {late : Int} {B0 n : Nat} (h : Cks w cp dp F F2 R S late B0 n) (id : Int) :
    ((∀ e, AtOf R id e → e = .returned (.tuple #[.int .i64 0, .bool false])) ∧ ∀ e, AtOf S (one id) e → e = .returned (.tuple #[.int .i64 0, .bool false])) ∨
    ∃ t, 0 ≤ t ∧ t + late ≤ 1099511627776 ∧ (∀ e, AtOf R id e → e = .returned (.tuple #[.int .i64 t, .bool true])) ∧ ∀ e, AtOf S (one id) e → e = .returned (.tuple #[.int .i64 (t + late), .bool true]) := by
  by_cases hx : ∃ x ∈ R, x.id = id
  · obtain ⟨x, hx, hxi⟩ := hx
    obtain ⟨-, g2, g3⟩ := h.good x hx
    have hA : AtOf R id (.returned (.tuple #[.int .i64 x.tick, .bool true])) := .inl ⟨x, hx, hxi, rfl⟩
    obtain ⟨y, hy, hl1, hl2⟩ := pair_mem h.pair hx
    have hB : AtOf S (one id) (.returned (.tuple #[.int .i64 (x.tick + late), .bool true])) := .inl ⟨y, hy, by rw [hl2, hxi], by rw [hl1]⟩
    refine .inr ⟨x.tick, g2, g3, fun e he => ?_, fun e he => ?_⟩
    · rcases h.at id he hB with ⟨-, h2⟩ | ⟨t, -, -, h1, h2⟩
      · simp at h2
      · simp only [Ending.returned.injEq, Value.tuple.injEq, Array.mk.injEq, List.cons.injEq, Value.int.injEq, true_and, and_true] at h2
        rw [h1]; have : t = x.tick := by omega
        rw [this]
    · rcases h.at id hA he with ⟨h1, -⟩ | ⟨t, -, -, h1, h2⟩
      · simp at h1
      · simp only [Ending.returned.injEq, Value.tuple.injEq, Array.mk.injEq, List.cons.injEq, Value.int.injEq, true_and, and_true] at h1
        rw [h2, h1]
  · have hno : ∀ x ∈ R, x.id ≠ id := fun x hx' he => hx ⟨x, hx', he⟩
    refine .inl ⟨fun e he => ?_, fun e he => ?_⟩
    · rcases he with ⟨x, hx', he, -⟩ | ⟨-, he⟩
      · exact absurd he (hno x hx')
      · exact he
    · rcases he with ⟨y, hy, he, -⟩ | ⟨-, he⟩
      · exact absurd he ((pair_ids h.pair id).1 hno y hy)
      · exact he
theorem Ext.of_drew {S : List Nat} {w w' : World} (h : Ext S w.drew w') : Ext S w w' := ⟨h.os, h.tape, h.output, h.size, h.same⟩

theorem Cks.start {w w4 w5 : World} {cp dp : Nat} {F0 F1 : List Nat} (late : Int) (hc : ClockAt w4 cp F0 []) (hd : ClockAt w5 dp F1 []) (e5 : Ext [] w4 w5) (hs : w.heap.size ≤ w4.heap.size) (h0 : ∀ x ∈ F0, w.heap.size ≤ x) (h1 : ∀ x ∈ F1, w4.heap.size ≤ x) :
    ∃ F F2, Cks w5 cp dp F F2 [] [] late w.heap.size 0 := by
  have hs5 := e5.size
  have a0 : ∀ x ∈ F0.filter (· < w4.heap.size), w.heap.size ≤ x ∧ x < w4.heap.size := fun x hx => ⟨h0 x (List.mem_filter.1 hx).1, by simpa using (List.mem_filter.1 hx).2⟩
  have a1 : ∀ x ∈ F1.filter (· < w5.heap.size), w4.heap.size ≤ x ∧ x < w5.heap.size := fun x hx => ⟨h1 x (List.mem_filter.1 hx).1, by simpa using (List.mem_filter.1 hx).2⟩
  refine ⟨F0.filter (· < w4.heap.size), F1.filter (· < w5.heap.size), hc.trim.ext e5 (by simp), hd.trim, .nil, Nat.le_refl _, by simp, fun x hx => ?_, fun x hx => ?_, fun x hx hx2 => ?_⟩
  · have := a0 x hx; omega
  · have := a1 x hx; omega
  · have := a0 x hx; have := a1 x hx2; omega

structure AlarmAt (w : World) (b off : Nat) (k id t : Int) : Prop where
  kind : w.cell? ⟨b, off, none⟩ = some (.int .i64 k)
  id : w.cell? ⟨b, off + 1, none⟩ = some (.int .i64 id)
  at' : w.cell? ⟨b, off + 2, none⟩ = some (.int .i64 t)
def AlarmsAt (w : World) (v : Value) : Prop :=
  ∃ a n c, v = .slice a n c ∧ n ≤ c ∧ c ≤ 9223372036854775807 ∧ ∀ j, j < n → ∃ b off k id t, a = some ⟨b, off, none⟩ ∧ AlarmAt w b (off + j * 3) k id t
end Go.Proofs.YtegcnimekfanaaaGreat
