/-
  WholeNumbered: how its arguments lie in memory; what the loops' contracts ask of a graph.
-/
import Derived.Test.YtegcnimekfanaaaGreatWakes
import Derived.Test.YtegcnimekfanaaaGreatPlainL
import Derived.Test.YtegcnimekfanaaaGreatPlainK
namespace Go.Proofs.YtegcnimekfanaaaGreat
open Go.RowKit

structure A17 where
  kind : Int
  x : Int
  on : List Int
structure ActAt (w : World) (b off : Nat) (a : A17) : Prop where
  kind : w.cell? ⟨b, off, none⟩ = some (.int .i64 a.kind)
  x : w.cell? ⟨b, off + 1, none⟩ = some (.int .i64 a.x)
  on : ∃ v bo, w.cell? ⟨b, off + 2, none⟩ = some v ∧ IntsAt w v bo a.on ∧ a.on.length ≤ 9223372036854775807
def ActsAt (w : World) (v : Value) : Prop :=
  ∃ a n c, v = .slice a n c ∧ n ≤ c ∧ c ≤ 9223372036854775807 ∧ ∀ j, j < n → ∃ b off x, a = some ⟨b, off, none⟩ ∧ ActAt w b (off + j * 3) x

set_option maxRecDepth 8000 in
theorem ints_Clone0 (a : Addr) (c : Nat) (w : World) : Calls Tryz.prog 14 #[.slice (some a) 0 c] w fun e w' => ∃ v', e = .returned v' ∧ IntRow w' w.heap.size v' [] ∧ Ext [] w w' := by
  have heq := fun (w : World) => Lib.run_eql_slice_nil (P := Tryz.prog) w 27 3 (some a) 0 c 0 0 Tryz.underlying27
  go_enter Tryz.func14, Tryz.ntmps14
  go_wp2_with (at_builtin; refine wl_append (v := .slice (some ⟨w.heap.size, 0, none⟩) 0 0) _ rfl (.tmp 5) (.tmp 6) 27 27 rfl ety27 rfl (n := 0) (xs := []) ?_ rfl (Src.ofSlice _ Tryz.underlying27 a 0 c [] rfl (by simp) (by simp)) ?_ ?_ ?_)
  case refine_1 => exact ⟨rfl, .inr ⟨w.heap.size, 0, #[], rfl, Nat.zero_le _, block_alloc_new w (.cells #[] 3), Nat.le_refl _, by simp [maxLen], rfl, rfl⟩⟩
  case refine_2 => simp [maxLen]
  case refine_3 => omega
  intro v' w' hr hg hn ho
  have hE : Ext [] w w' := ((Ext.refl [] w).alloc (.cells #[] 3)).grown hg (fun k hk => .inr (by
    have : w.heap.size = k := by simpa [Value.ownBlock] using hk
    omega))
  have hb : ∀ g, v'.ownBlock = some g → w.heap.size ≤ g := fun g hg' => by
    rcases ho with ho | ho
    · rw [hg'] at ho; have : g = w.heap.size := by simpa [Value.ownBlock] using ho
      omega
    · rw [hg'] at ho; have : g = w.heap.size + 1 := by simpa using ho
      omega
  have hrow : IntRow w' w.heap.size v' [] := by
    rcases hr.2 with ⟨h, -⟩ | ⟨g, cap, cur, h1, h2, h3, h4, h5, h6, h7⟩
    · exact absurd h hn
    · subst h1
      exact ⟨rfl, .inr ⟨g, cap, cur, rfl, hb g rfl, h3, h4, h5, h6, h7⟩⟩
  replace hrow := hid hrow
  clear hr hg hn ho hb
  go_wp2
  go_ret
  exact ⟨_, rfl, hrow.out, hE⟩
/-- slices.Clone of whatever ints, wherever an empty slice points. -/
theorem ints_Clone' {w : World} {v : Value} {bo : Option Nat} {xs : List Int} (h : IntsAt w v bo xs) (hbig : xs.length ≤ 1000000) :
    Calls Tryz.prog 14 #[v] w fun e w' => ∃ v', e = .returned v' ∧ IntRow w' w.heap.size v' xs ∧ Ext [] w w' := by
  have h0 := h
  obtain ⟨a, c, rfl, h⟩ := h
  by_cases hx : xs = []
  · subst hx
    cases a with
    | none => exact (ints_Clone h0 hbig (by simp)).mono fun e w' ⟨v', h1, h2, _, h3⟩ => ⟨v', h1, h2, h3⟩
    | some a => exact ints_Clone0 a c w
  · rcases h with ⟨h, -⟩ | ⟨b, off, rfl, -, -⟩
    · exact absurd h hx
    · exact (ints_Clone h0 hbig (by intro a n c h; cases h; exact ⟨_, _, rfl⟩)).mono fun e w' ⟨v', h1, h2, _, h3⟩ => ⟨v', h1, h2, h3⟩
theorem Near.le {z : Int} (h : Near z) : -1099511627776 ≤ z ∧ z ≤ 1099511627776 := h
theorem ints_Same {w : World} {v u : Value} {bo bu : Option Nat} {xs : List Int} (h : IntsAt w v bo xs) (k : IntsAt w u bu xs) (hbig : xs.length ≤ 9223372036854775807) : Calls Tryz.prog 16 #[v, u] w fun e w' => e = .returned (.bool true) ∧ ∃ q, w' = w.drewN q := by
  have := ints_Equal h k hbig hbig
  rwa [beq_self_eq_true] at this
theorem Gd.small {G : Gr} {n : Nat} (h : Gd G n) (hn : n ≤ 60) : G.small := ⟨by have := h.len; omega, fun p hp => by have := (h.row p hp).1; omega⟩
theorem Gd.short {G : Gr} {n : Nat} (h : Gd G n) (hn : n ≤ 60) : G.length < 1000000 := by have := h.len; omega
theorem other_small {G : Gr} (h : G.small) : G.other.small := ⟨by simpa [Gr.other] using h.1, fun p hp => by
  obtain ⟨q, hq, rfl⟩ := List.mem_map.1 hp
  simpa using h.2 q hq⟩
theorem other_length (G : Gr) : G.other.length = G.length := by simp [Gr.other]
theorem other_short {G : Gr} {n : Nat} (h : Gd G n) (hr : G.waits.Pairwise (· < ·)) (x : Int) (k : Nat) (hn : n ≤ 60) :
    Gr.small (((Gr.waits (mdel G.other (one x))).take k).foldl (Gr.drop (one x)) (mdel G.other (one x))) ∧ List.length (((Gr.waits (mdel G.other (one x))).take k).foldl (Gr.drop (one x)) (mdel G.other (one x))) < 1000000 := by
  have e : ((Gr.waits (mdel G.other (one x))).take k).foldl (Gr.drop (one x)) (mdel G.other (one x)) = Gr.other (((Gr.waits (mdel G x)).take k).foldl (Gr.drop x) (mdel G x)) := by
    rw [other_mdel, other_waits, ← List.map_take, other_fold]
  rw [e, other_length]
  exact ⟨other_small ((h.removeTo hr x k).small hn), (h.removeTo hr x k).short hn⟩
theorem other_waits_i64 {G : Gr} {n : Nat} (h : Gd G n) : ∀ y ∈ G.other.waits, I64 y := fun y hy => by
  rw [other_waits] at hy
  obtain ⟨z, hz, rfl⟩ := List.mem_map.1 hy
  exact (h.waitsNear z hz).one
theorem IntsAt.extm {S : List Nat} {w w' : World} {v : Value} {bo : Option Nat} {xs : List Int} (h : IntsAt w v bo xs) (he : Ext S w w') (hS : ∀ b ∈ S, ∃ es c, w.heap[b]? = some (.map es c)) : IntsAt w' v bo xs := by
  obtain ⟨a, c, rfl, h | ⟨b, off, rfl, rfl, h⟩⟩ := h
  · exact ⟨a, c, rfl, .inl h⟩
  · refine ⟨_, c, rfl, .inr ⟨b, off, rfl, rfl, fun j hj => ?_⟩⟩
    refine he.cell (h j hj) (fun hs => ?_)
    obtain ⟨es, c', hm⟩ := hS _ hs
    have := h j hj
    simp [World.cell?, hm] at this
theorem other_of_i64 {G : Gr} {n : Nat} (h : Gd G n) : ∀ z, ∀ y ∈ G.other.of z, I64 y := fun z y hy => by
  obtain ⟨p, hp, hy'⟩ := of_mem hy
  obtain ⟨q, hq, rfl⟩ := List.mem_map.1 hp
  obtain ⟨y', hy2, rfl⟩ := List.mem_map.1 hy'
  exact ((h.row q hq).2.2 y' hy2).one
theorem IntRow.formed {w : World} {base : Nat} {v : Value} {xs : List Int} (h : IntRow w base v xs) : ∀ a n c, v = .slice (some a) n c → ∃ b off, a = ⟨b, off, none⟩ := fun a n c e => by
  rcases h.split with ⟨rfl, -⟩ | ⟨g, cap, cur, rfl, -⟩
  · cases e
  · cases e; exact ⟨_, _, rfl⟩

theorem foldl_max_mem (l : List Int) : ∀ a : Int, l.foldl max a = a ∨ l.foldl max a ∈ l := by
  induction l with
  | nil => intro a; exact .inl rfl
  | cons x l ih =>
    intro a
    rw [List.foldl_cons]
    rcases ih (max a x) with h | h
    · rw [h]
      rcases Int.le_total a x with hx | hx
      · right; rw [Int.max_eq_right hx]; simp
      · left; exact Int.max_eq_left hx
    · right; exact List.mem_cons_of_mem _ h
theorem maxOf_mem {l : List Int} (h : l ≠ []) : Lib.maxOf l ∈ l := by
  unfold Lib.maxOf
  cases l with
  | nil => exact absurd rfl h
  | cons x l =>
    rcases foldl_max_mem (x :: l) x with h | h
    · show (x :: l).foldl max x ∈ x :: l
      rw [h]; simp
    · exact h
end Go.Proofs.YtegcnimekfanaaaGreat
