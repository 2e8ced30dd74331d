/-
  alarm.Clock in memory; New, Len, At, Next.
-/
import Derived.Test.YtegcnimekfanaaaGreatHeapD
import Derived.Test.YtegcnimekfanaaaGreatSearch
namespace Go.Proofs.YtegcnimekfanaaaGreat
open Go.RowKit

theorem swp_perm {α : Type} (R : List α) (i j : Nat) : (swp R i j).Perm R := by
  unfold swp
  split
  · rename_i x y hx hy
    obtain ⟨hi, rfl⟩ := List.getElem?_eq_some_iff.1 hx
    obtain ⟨hj, rfl⟩ := List.getElem?_eq_some_iff.1 hy
    exact List.set_set_perm hi hj
  · exact .refl _
section
variable {α : Type} (lt : α → α → Bool)
theorem hup_perm : ∀ (k : Nat) (R : List α) (j : Nat), (hup lt k R j).Perm R
  | 0, _, _ => .refl _
  | k + 1, R, j => by
    rw [hup]
    split
    · exact .refl _
    · split
      · exact (hup_perm k _ _).trans (swp_perm _ _ _)
      · exact .refl _
theorem hdown_perm : ∀ (k : Nat) (R : List α) (i n : Nat), (hdown lt k R i n).1.Perm R
  | 0, _, _, _ => .refl _
  | k + 1, R, i, n => by
    rw [hdown]
    split
    · exact .refl _
    · generalize (if 2 * i + 2 < n ∧ hless lt R (2 * i + 2) (2 * i + 1) = true then 2 * i + 2 else 2 * i + 1) = j
      split
      · exact (hdown_perm k _ _ _).trans (swp_perm _ _ _)
      · exact .refl _
theorem hmend_perm (R : List α) (i n : Nat) : (hmend lt R i n).Perm R := by
  unfold hmend; split
  · exact hdown_perm _ _ _ _ _
  · exact (hup_perm _ _ _ _).trans (hdown_perm _ _ _ _ _)
end

abbrev ep (x : En) : Value := .pointer (some ⟨x.b, 0, none⟩)
/-- A clock in memory: its heap, and its map: each alarm by its number. -/
def ClockAt (w : World) (cp : Nat) (F : List Nat) (R : List En) : Prop :=
  ∃ mb F0 L, HeapAt w cp F0 (.map (some mb)) R ∧ mb ∉ F0 ∧ (∀ x ∈ F0, x ∈ F) ∧ mb ∈ F ∧ MapAt w mb L ∧ L.length = R.length ∧ (∀ x ∈ R, mget L x.id = some (ep x)) ∧ ∀ k v, mget L k = some v → ∃ x ∈ R, x.id = k ∧ v = ep x

theorem ClockAt.ext {S F : List Nat} {w w' : World} {cp : Nat} {R : List En} (h : ClockAt w cp F R) (he : Ext S w w') (hS : ∀ b ∈ F, b ∉ S) : ClockAt w' cp F R := by
  obtain ⟨mb, F0, L, h1, hn, hs, h2, h3, h4⟩ := h
  exact ⟨mb, F0, L, h1.ext he (fun b hb => hS b (hs b hb)), hn, hs, h2, h3.ext he (hS _ h2), h4⟩

theorem clock_New (w : World) : Calls Tryz.prog 20 #[] w fun e w' => ∃ cp F, e = .returned (.pointer (some ⟨cp, 0, none⟩)) ∧ ClockAt w' cp F [] ∧ Ext [] w w' ∧ ∀ x ∈ F, w.heap.size ≤ x := by
  have hmm := @run_makeMap Tryz.prog
  go_enter Tryz.func20, Tryz.ntmps20
  go_wp2
  go_ret
  refine ⟨_, [w.heap.size + 1, w.heap.size], rfl, ⟨w.heap.size, [w.heap.size + 1], [], ⟨.slice none 0 0, block_alloc_new2 _ _ _, World.ownsRow_nil _ _ _ _, by simp, by simp, by simp, by simp [Value.ownBlock], by simp⟩, by simp, by simp, by simp, (MapAt.made w).ext ((Ext.refl [] _).alloc _) (by simp), rfl, by simp, by simp [mget]⟩, ((Ext.refl [] w).alloc _).alloc _, by simp⟩

theorem ClockAt.cells {w : World} {cp : Nat} {F : List Nat} {R : List En} (h : ClockAt w cp F R) : ∃ a c mb, w.heap[cp]? = some (.cells #[.slice a R.length c, .map (some mb)] 140 (0, 0)) := by
  obtain ⟨mb, F0, L, ⟨v, h1, h2, -⟩, -⟩ := h
  obtain ⟨a, c, rfl⟩ := slice_form h2
  exact ⟨a, c, mb, h1⟩

theorem zero141 (w : World) : (zeroValue 141).run Tryz.prog w = .ok (.pointer none) w := Tryz.zeroValue141 w

/-- What a look-up by a number gives. -/
theorem ClockAt.look {w : World} {cp : Nat} {F : List Nat} {R : List En} (h : ClockAt w cp F R) {id : Int} (hid' : I64 id) :
    ∃ a c mb, w.heap[cp]? = some (.cells #[.slice a R.length c, .map (some mb)] 140 (0, 0)) ∧
      ((∃ (i : Nat) (x : En), R[i]? = some x ∧ x.id = id ∧ w.heap[x.b]? = some (.cells #[.int .i64 x.tick, .int .i64 x.id, .int .i64 (i : Int)] 143 (0, 0)) ∧ (Instr.lookup 136 (.map (some mb)) (.int .i64 id) false).run Tryz.prog w = .ok (ep x) w) ∨
       ((∀ x ∈ R, x.id ≠ id) ∧ (Instr.lookup 136 (.map (some mb)) (.int .i64 id) false).run Tryz.prog w = .ok (.pointer none) w)) := by
  obtain ⟨mb, F0, L, ⟨v, h1, h2, h3, h4, h5, h6, h7⟩, -, -, hmF, hm, hl, k1, k2⟩ := h
  obtain ⟨a, c, rfl⟩ := slice_form h2
  refine ⟨a, c, mb, h1, ?_⟩
  have hr := hm.lookup Tryz.underlying136 zero141 hid'
  cases hg : mget L id with
  | none =>
    refine .inr ⟨fun x hx e => ?_, by rw [hr, hg]; rfl⟩
    have := k1 x hx
    rw [e, hg] at this
    cases this
  | some v =>
    obtain ⟨x, hx, hxi, rfl⟩ := k2 id v hg
    obtain ⟨i, hi, hix⟩ := List.mem_iff_getElem.1 hx
    have hi' : R[i]? = some x := by rw [List.getElem?_eq_getElem hi, hix]
    exact .inl ⟨i, x, hi', hxi, h3 i x hi', by rw [hr, hg]; rfl⟩

theorem clock_At (w : World) (cp : Nat) (F : List Nat) (R : List En) (id : Int) (h : ClockAt w cp F R) (hi : I64 id) :
    Calls Tryz.prog 25 #[.pointer (some ⟨cp, 0, none⟩), .int .i64 id] w fun e w' => w = w' ∧ ((∃ x ∈ R, x.id = id ∧ e = .returned (.tuple #[.int .i64 x.tick, .bool true])) ∨ ((∀ x ∈ R, x.id ≠ id) ∧ e = .returned (.tuple #[.int .i64 0, .bool false]))) := by
  obtain ⟨a, c, mb, h1, hx⟩ := h.look hi
  have c1 := cellOf (k := 1) h1 rfl
  rcases hx with ⟨i, x, hxi, hxd, hb, hr⟩ | ⟨hno, hr⟩
  · have x0 := cellOf (k := 0) hb rfl
    have hxm := hid (List.mem_of_getElem? hxi)
    replace hxd := hid hxd
    clear hxi hb h1 h
    go_enter Tryz.func25, Tryz.ntmps25
    go_wp2
    go_ret2
    exact ⟨rfl, .inl ⟨x, hxm.out, hxd.out, rfl⟩⟩
  · replace hno := hid hno
    go_enter Tryz.func25, Tryz.ntmps25
    go_wp2
    go_ret2
    exact ⟨rfl, .inr ⟨hno.out, rfl⟩⟩

theorem clock_Len (w : World) (cp : Nat) (F : List Nat) (R : List En) (h : ClockAt w cp F R) :
    Calls Tryz.prog 26 #[.pointer (some ⟨cp, 0, none⟩)] w fun e w' => w = w' ∧ e = .returned (.int .i64 (R.length : Int)) := by
  obtain ⟨mb, F0, L, ⟨v, h1, -⟩, -, -, -, hm, hl, -⟩ := h
  have c1 := cellOf (k := 1) h1 rfl
  have hr := hm.own.len (t := 136) Tryz.underlying136 3
  rw [mapD_size, hl] at hr
  go_enter Tryz.func26, Tryz.ntmps26
  go_wp2
  go_ret
  exact ⟨rfl, rfl⟩

def nextOf : List En → Value
  | [] => .tuple #[.int .i64 0, .int .i64 0, .bool false]
  | x :: _ => .tuple #[.int .i64 x.id, .int .i64 x.tick, .bool true]
theorem clock_Next (w : World) (cp : Nat) (F : List Nat) (R : List En) (h : ClockAt w cp F R) (hn : R.length ≤ 1000000) :
    Calls Tryz.prog 24 #[.pointer (some ⟨cp, 0, none⟩)] w fun e w' => Ext [] w w' ∧ e = .returned (nextOf R) := by
  obtain ⟨mb, F0, L, ⟨v, h1, h2, h3, -⟩, -⟩ := h
  cases R with
  | nil =>
    obtain ⟨a, c, rfl⟩ := slice_form h2
    have c0 := cellOf (k := 0) h1 rfl
    go_enter Tryz.func24, Tryz.ntmps24
    go_wp2
    refine bodyPost_ret (v := .tuple #[.int .i64 0, .int .i64 0, .bool false]) (by simp [results, Tryz.results24, go_sem]) rfl ⟨Ext.refl _ _, rfl⟩
  | cons x R =>
    obtain ⟨g, c, rfl⟩ := slice_some h2 (by simp)
    have c0 := cellOf (k := 0) h1 rfl
    have cx := (ownsRow_cell h2 (i := 0) (u := ep x) rfl).1
    have hb := h3 0 x rfl
    have x0 := cellOf (k := 0) hb rfl
    have x1 := cellOf (k := 1) hb rfl
    obtain ⟨n, hnn⟩ : ∃ n, (x :: R).length = n + 1 := ⟨R.length, rfl⟩
    rw [hnn] at c0 hn
    clear h1 h2 h3 hb
    go_enter Tryz.func24, Tryz.ntmps24
    go_wp2_with fail
    go_quiet (go_simp)
    go_wp2
    refine bodyPost_ret (v := .tuple #[.int .i64 x.id, .int .i64 x.tick, .bool true]) (by simp [results, Tryz.results24, go_sem]) rfl ⟨(Ext.refl _ _).drewN _, rfl⟩
end Go.Proofs.YtegcnimekfanaaaGreat
