/-
  Package wal, walked: Cost, Area.at, Area.Check, Open, Head, Next, Free, Force, Trim.
-/
import Derived.Test.YtegcnimekfanaaaGreatStampB
import Derived.Deep.QuietTactic
import Derived.BigQuiet
namespace Go.Proofs.YtegcnimekfanaaaGreat
open Go.RowKit

structure Lg where
  start : Nat
  len : Nat
  head : Nat
  next : Nat
def Lg.place (L : Lg) (st : Nat) : Nat := L.start + st % L.len
def Lg.free (L : Lg) : Nat := L.len - (L.next - L.head)
structure Lg.Ok (L : Lg) : Prop where
  start : L.start ≤ 65536
  len : 2 ≤ L.len
  len2 : L.len ≤ 65536
  pos : 1 ≤ L.next
  hn : L.head ≤ L.next
  nh : L.next ≤ L.head + L.len
  next : L.next ≤ 1099511000000
def LogAt (w : World) (l p : Nat) (L : Lg) : Prop :=
  w.heap[l]? = some (.cells #[.pointer (some ⟨p, 0, none⟩), .int .i64 L.start, .int .i64 L.len, .int .i64 L.head, .int .i64 L.next] 153 (0, 0))
def cost (n : Nat) : Nat := (max n 1 - 1) / 44 + 1

theorem below_dn {B : Nat} {a w : World} (h : Below B a w) (n : Nat) : Below B a (w.drewN n) := ⟨h.os, h.tape, h.output, h.size, h.block⟩
theorem wal_Cost (n : Nat) (w : World) (h : n ≤ 1000000000) : Calls Tryz.prog 79 #[.int .i64 n] w fun e w' => e = .returned (.int .i64 (cost n : Nat)) ∧ w = w' := by
  rcases Nat.eq_zero_or_pos n with rfl | h0
  · go_enter Tryz.func79, Tryz.ntmps79
    go_wp2
    go_ret
    exact ⟨rfl, rfl⟩
  · have hm : max (n : Int) 1 = n := by omega
    go_enter Tryz.func79, Tryz.ntmps79
    go_wp2
    go_ret
    exact ⟨ret_int (by unfold cost; omega), rfl⟩

theorem wal_at (L : Lg) (st : Nat) (w : World) (hL : L.Ok) (hst : st ≤ 2000000000000) :
    Calls Tryz.prog 81 #[.agg #[.int .i64 L.start, .int .i64 L.len], .int .i64 st] w fun e w' => e = .returned (.int .i64 (L.place st : Nat)) ∧ Below w.heap.size w w' := by
  obtain ⟨a, b, c, d0, d, e', f⟩ := hL
  go_enter Tryz.func81, Tryz.ntmps81
  go_wp2
  go_quiet (fail)
  go_wp2
  go_ret
  have h1 : (0 : Int) ≤ (st : Int) % (L.len : Int) := Int.emod_nonneg _ (by omega)
  have h2 : (st : Int) % (L.len : Int) < (L.len : Int) := Int.emod_lt_of_pos _ (by omega)
  exact ⟨ret_int (by simp [Lg.place]; unfold wrap64; omega), below_dn ((Below.refl _ _).alloc (Nat.le_refl _) _) _⟩

theorem wal_Head (w : World) (l p : Nat) (L : Lg) (h : LogAt w l p L) : Calls Tryz.prog 32 #[.pointer (some ⟨l, 0, none⟩)] w fun e w' => e = .returned (.int .i64 L.head) ∧ w = w' := by
  have h2 := cellOf (k := 3) h rfl
  go_enter Tryz.func32, Tryz.ntmps32
  go_wp2
  go_ret
  exact ⟨rfl, rfl⟩
theorem wal_Next (w : World) (l p : Nat) (L : Lg) (h : LogAt w l p L) : Calls Tryz.prog 33 #[.pointer (some ⟨l, 0, none⟩)] w fun e w' => e = .returned (.int .i64 L.next) ∧ w = w' := by
  have h2 := cellOf (k := 4) h rfl
  go_enter Tryz.func33, Tryz.ntmps33
  go_wp2
  go_ret
  exact ⟨rfl, rfl⟩
theorem wal_Free (w : World) (l p : Nat) (L : Lg) (h : LogAt w l p L) (hL : L.Ok) : Calls Tryz.prog 38 #[.pointer (some ⟨l, 0, none⟩)] w fun e w' => e = .returned (.int .i64 L.free) ∧ ∃ n, w' = w.drewN n := by
  have h2 := cellOf (k := 2) h rfl
  have h3 := cellOf (k := 3) h rfl
  have h4 := cellOf (k := 4) h rfl
  obtain ⟨a, b, c, d0, d, e', f⟩ := hL
  go_enter Tryz.func38, Tryz.ntmps38
  go_wp2
  go_quiet (fail)
  go_wp2
  go_ret
  exact ⟨ret_int (by simp only [Lg.free]; omega), _, rfl⟩

theorem wal_Force (w : World) (l p : Nat) (L : Lg) (F : List Nat) (D : Dev) (hl : LogAt w l p L) (h : DevAt w p F D) (hn : 0 < D.sectors.length) (_hn1 : D.sectors.length ≤ 65536) (hle : D.left ≤ 9223372036854775807)
    (hm : D.may = true) (hcl : D.cache.length ≤ 1000000) (hin : ∀ x ∈ D.cache, 0 ≤ x.1 ∧ x.1 < D.sectors.length) :
    Calls Tryz.prog 31 #[.pointer (some ⟨l, 0, none⟩)] w fun e w' => e = .returned (.int .i64 0) ∧ Goes w w' F (fun w F => DevAt w p F D.flush) := by
  have h0 := cellOf (k := 0) hl rfl
  go_enter Tryz.func31, Tryz.ntmps31
  go_wp2_with fail
  refine (dev_Flush_ok w p F D h hn hle hm hcl hin).mono ?_
  rintro e w' ⟨rfl, hg⟩
  go_wp2
  go_ret
  exact ⟨rfl, hg⟩

set_option maxHeartbeats 400000 in
theorem wal_Check (a b : Nat) (w : World) (p : Nat) (F : List Nat) (D : Dev) (h : DevAt w p F D) (hb : 2 ≤ b) (hab : a + b ≤ D.sectors.length) (hn1 : D.sectors.length ≤ 65536) :
    Calls Tryz.prog 78 #[.agg #[.int .i64 a, .int .i64 b], .pointer (some ⟨p, 0, none⟩)] w fun e w' => e = .returned (.int .i64 0) ∧ Below w.heap.size w w' := by
  have hz1 : decide ((b : Int) < 2) = false := by simp; omega
  have hz2 : decide ((a : Int) < 0) = false := by simp
  have hz3 : decide (D.sectors.length < b) = false := by simp; omega
  have hz4 : decide ((D.sectors.length : Int) - b < a) = false := by simp; omega
  go_enter Tryz.func78, Tryz.ntmps78
  go_wp2
  have hD := h.ext ((Ext.refl [] w).alloc (.cells #[.int .i64 a, .int .i64 b] 55)) (by simp)
  have hbx := block_alloc_new w (.cells #[.int .i64 a, .int .i64 b] 55)
  have hB := (Below.refl w.heap.size w).alloc (Nat.le_refl _) (.cells #[.int .i64 a, .int .i64 b] 55)
  generalize hW : w.alloc (.cells #[.int .i64 a, .int .i64 b] 55) = W at *
  generalize hN : w.heap.size = N at *
  have c0 := cellOf (k := 0) hbx rfl
  have c1 := cellOf (k := 1) hbx rfl
  go_quiet ((go_at_call 119; exact Calls.quiet_of_same ((dev_Len _ p F D (hD.ext ((Ext.refl [] _).drewN _) (by simp))).mono fun e w' h => ⟨h.1, h.2.symm⟩)))
  go_wp2
  go_ret
  rw [hN]
  exact ⟨rfl, below_dn hB _⟩

set_option maxHeartbeats 400000 in
theorem wal_Open (a b next : Nat) (w : World) (p : Nat) (F : List Nat) (D : Dev) (h : DevAt w p F D) (hb : 2 ≤ b) (hab : a + b ≤ D.sectors.length) (hn1 : D.sectors.length ≤ 65536) (h1 : 1 ≤ next) (h2 : next ≤ 1099511627776) :
    Calls Tryz.prog 28 #[.pointer (some ⟨p, 0, none⟩), .agg #[.int .i64 a, .int .i64 b], .int .i64 next] w
      fun e w' => ∃ l, e = .returned (.tuple #[.pointer (some ⟨l, 0, none⟩), .int .i64 0]) ∧ w.heap.size ≤ l ∧ LogAt w' l p ⟨a, b, next, next⟩ ∧ Below w.heap.size w w' := by
  have hz1 : decide ((next : Int) < 1) = false := by simp; omega
  have hz2 : decide ((1099511627776 : Int) < next) = false := by simp; omega
  go_enter Tryz.func28, Tryz.ntmps28
  go_wp2_with fail
  have hD := h.ext ((Ext.refl [] w).alloc (.cells #[.int .i64 a, .int .i64 b] 55)) (by simp)
  have hbx := block_alloc_new w (.cells #[.int .i64 a, .int .i64 b] 55)
  refine (wal_Check a b _ p F D hD hb hab hn1).mono ?_
  rintro e w1 ⟨rfl, hb1⟩
  have hx1 := (Ext.of_below hb1).block hbx (by simp)
  have c0 := cellOf (k := 0) hx1 rfl
  have c1 := cellOf (k := 1) hx1 rfl
  have hB := ((Below.refl w.heap.size w).alloc (Nat.le_refl _) (.cells #[.int .i64 a, .int .i64 b] 55)).trans (hb1.mono (by simp))
  have hsz : w.heap.size ≤ w1.heap.size := hB.size
  go_wp2
  go_ret2
  exact ⟨_, rfl, hsz, block_alloc_new _ _, hB.alloc hsz _⟩

set_option maxHeartbeats 400000 in
theorem wal_Trim (w : World) (l p : Nat) (L : Lg) (to : Nat) (h : LogAt w l p L) (h1 : L.head ≤ to) (h2 : to ≤ L.next) :
    Calls Tryz.prog 34 #[.pointer (some ⟨l, 0, none⟩), .int .i64 to] w fun e w' => e = .returned (.int .i64 0) ∧ Ext [l] w w' ∧ LogAt w' l p { L with head := to } := by
  have c3 := cellOf (k := 3) h rfl
  have c4 := cellOf (k := 4) h rfl
  have hf := freeOf (k := 3) h
  have hz1 : decide (to < L.head) = false := by simp; omega
  have hz2 : decide (L.next < to) = false := by simp; omega
  go_enter Tryz.func34, Tryz.ntmps34
  go_wp2
  go_ret
  exact ⟨rfl, (Ext.refl _ _).setCell (.inl (by simp)) _, block_setCell_same _ h⟩
end Go.Proofs.YtegcnimekfanaaaGreat
