import Derived.Test.YtegcnimekfanaaaGreatGraphC
import Derived.ChangeKeysEq
import Derived.Deep.DeepCutAuto
namespace Go.Proofs.YtegcnimekfanaaaGreat
open Go.RowKit
theorem load138 {cp : Nat} {v : Value} {w : World} (hc : w.cell? ⟨cp, 0, none⟩ = some v) : (loadVar 138 ⟨cp, 0, none⟩).run Tryz.prog w = .ok v w := by
  simp [go_sem, hc]
theorem hck (a : Addr) (s : String) (w : World) : (Builtin.ssaWrapNilChk_ #[145] 145 #[.pointer (some a), strVal "", strVal s]).run Tryz.prog w = .ok (.pointer (some a)) w := by kernel_rfl
set_option maxRecDepth 20000 in
theorem recv (cp : Nat) (v : Value) (s : String) (w : World)  (hc : w.cell? ⟨cp, 0, none⟩ = some v) : (receiverAt 145 (.val (.pointer (some ⟨cp, 0, none⟩))) false (some s)).run Tryz.prog w = .ok v w := by
  unfold receiverAt
  rw [Sem.run_bind, run_underlying Tryz.underlying145]
  simp only [Result.andThen_ok, Place.get, Sem.run_bind, Sem.run_pure]
  rw [hck]
  exact load138 hc
theorem m145 (name : String) (f : FuncId) (b : Bool) (h : ((Tryz.prog.info? 145).bind fun i => (i.methods.find? (·.name == name)).map fun m => (m.path.toList, m.func)) = some ([], some (f, b))) :
    ∃ i m, Tryz.prog.info? 145 = some i ∧ i.methods.find? (·.name == name) = some m ∧ m.path.toList = [] ∧ m.func = some (f, b) := by
  cases hi : Tryz.prog.info? 145 with
  | none => rw [hi] at h; cases h
  | some i =>
    rw [hi] at h
    simp only [Option.bind_some] at h
    cases hm : i.methods.find? (·.name == name) with
    | none => rw [hm] at h; cases h
    | some m =>
      rw [hm] at h
      simp only [Option.map_some, Option.some.injEq, Prod.mk.injEq] at h
      exact ⟨i, m, rfl, hm, h.1, h.2⟩
theorem meth (name : String) (f : FuncId) (cp : Nat) (v : Value) (w : World) (n : Nat) (hc : w.cell? ⟨cp, 0, none⟩ = some v)
    (h : ((Tryz.prog.info? 145).bind fun i => (i.methods.find? (·.name == name)).map fun m => (m.path.toList, m.func)) = some ([], some (f, false))) :
    (method (n + 1) 145 (.pointer (some ⟨cp, 0, none⟩)) name).run Tryz.prog w = .ok (f, v) w := by
  obtain ⟨i, m, hi, hm, hp, hf⟩ := m145 name f false h
  have hp2 : m.path.isEmpty = true := by simpa [Array.isEmpty] using congrArg List.length hp
  unfold method
  rw [Sem.run_bind, Go.run_typeInfo w hi]
  simp only [Result.andThen_ok, hm, hp, follow, Sem.run_bind, Sem.run_pure, hf, hp2, if_true]
  rw [recv cp v _ w hc]
  rfl
theorem meth_len (cp : Nat) (v : Value) (w : World) (hc : w.cell? ⟨cp, 0, none⟩ = some v) : (method 429 145 (.pointer (some ⟨cp, 0, none⟩)) "Len").run Tryz.prog w = .ok (245, v) w := meth "Len" 245 cp v w 428 hc (by kernel_rfl)
theorem meth_less (cp : Nat) (v : Value) (w : World) (hc : w.cell? ⟨cp, 0, none⟩ = some v) : (method 429 145 (.pointer (some ⟨cp, 0, none⟩)) "Less").run Tryz.prog w = .ok (246, v) w := meth "Less" 246 cp v w 428 hc (by kernel_rfl)
theorem meth_swap (cp : Nat) (v : Value) (w : World) (hc : w.cell? ⟨cp, 0, none⟩ = some v) : (method 429 145 (.pointer (some ⟨cp, 0, none⟩)) "Swap").run Tryz.prog w = .ok (247, v) w := meth "Swap" 247 cp v w 428 hc (by kernel_rfl)
theorem meth_pop (a : Addr) (w : World) : (method 429 145 (.pointer (some a)) "Pop").run Tryz.prog w = .ok (248, .pointer (some a)) w := by kernel_rfl
theorem meth_push (a : Addr) (w : World) : (method 429 145 (.pointer (some a)) "Push").run Tryz.prog w = .ok (249, .pointer (some a)) w := by kernel_rfl

/-- An alarm: when, whose, the block of its cell. -/
structure En where
  tick : Int
  id : Int
  b : Nat
def En.lt (x y : En) : Bool := if x.tick = y.tick then decide (x.id < y.id) else decide (x.tick < y.tick)
def eptrs (R : List En) : List Value := R.map fun x => .pointer (some ⟨x.b, 0, none⟩)
theorem eptrs_length (R : List En) : (eptrs R).length = R.length := by simp [eptrs]
def swp {α : Type} (R : List α) (i j : Nat) : List α := match R[i]?, R[j]? with
  | some x, some y => (R.set i y).set j x
  | _, _ => R
theorem swp_length {α : Type} (R : List α) (i j : Nat) : (swp R i j).length = R.length := by
  unfold swp; split <;> simp

/-- A clock's heap in memory: its cell (the second part: the map), the row, the alarms, each with its place; F: at least all their blocks. -/
def HeapAt (w : World) (cp : Nat) (F : List Nat) (mv : Value) (R : List En) : Prop :=
  ∃ v, w.heap[cp]? = some (.cells #[v, mv] 140 (0, 0)) ∧ w.ownsRow 0 141 1 v R.length (eptrs R) ∧ (∀ (i : Nat) (x : En), R[i]? = some x → w.heap[x.b]? = some (.cells #[.int .i64 x.tick, .int .i64 x.id, .int .i64 (i : Int)] 143 (0, 0))) ∧
    (R.map (·.b)).Nodup ∧ cp ∈ F ∧ (∀ g, v.ownBlock = some g → g ∈ F) ∧ ∀ x ∈ R, x.b ∈ F

theorem HeapAt.ext {S F : List Nat} {w w' : World} {cp : Nat} {mv : Value} {R : List En} (h : HeapAt w cp F mv R) (he : Ext S w w') (hS : ∀ b ∈ F, b ∉ S) : HeapAt w' cp F mv R := by
  obtain ⟨v, h1, h2, h3, h4, h5, h6, h7⟩ := h
  exact ⟨v, he.block h1 (hS _ h5), he.row h2 (fun g hg => hS _ (h6 g hg)), fun i x hx => he.block (h3 i x hx) (hS _ (h7 x (List.mem_of_getElem? hx))), h4, h5, h6, h7⟩
theorem HeapAt.ext0 {F : List Nat} {w w' : World} {cp : Nat} {mv : Value} {R : List En} (h : HeapAt w cp F mv R) (he : Ext [] w w') : HeapAt w' cp F mv R := h.ext he (by simp)

theorem row_Len (w : World) (a : Option Addr) (n c : Nat) : Calls Tryz.prog 245 #[.slice a n c] w fun e w' => e = .returned (.int .i64 (n : Int)) ∧ w = w' := by
  go_enter Tryz.func245, Tryz.ntmps245
  go_wp2
  go_ret
  exact ⟨rfl, rfl⟩

theorem row_Less (w : World) (cp : Nat) (F : List Nat) (mv : Value) (R : List En) (v : Value) (hc : w.cell? ⟨cp, 0, none⟩ = some v) (h : HeapAt w cp F mv R) (i j : Nat) (x y : En) (hi : R[i]? = some x) (hj : R[j]? = some y) (hn : R.length ≤ 1000000) :
    Calls Tryz.prog 246 #[v, .int .i64 (i : Int), .int .i64 (j : Int)] w fun e w' => e = .returned (.bool (x.lt y)) ∧ ∃ q, w' = w.drewN q := by
  obtain ⟨v', h1, h2, h3, -, -, -, -⟩ := h
  obtain rfl : v' = v := by have := cellOf (k := 0) h1 rfl; rw [hc] at this; exact (Option.some.inj this).symm
  have hil := (List.getElem?_eq_some_iff.1 hi).1
  have hjl := (List.getElem?_eq_some_iff.1 hj).1
  obtain ⟨g, c, rfl⟩ := slice_some h2 (by omega)
  have ci := (ownsRow_cell h2 (i := i) (u := .pointer (some ⟨x.b, 0, none⟩)) (by simp [eptrs, hi])).1
  have cj := (ownsRow_cell h2 (i := j) (u := .pointer (some ⟨y.b, 0, none⟩)) (by simp [eptrs, hj])).1
  have x0 := cellOf (k := 0) (h3 i x hi) rfl
  have x1 := cellOf (k := 1) (h3 i x hi) rfl
  have y0 := cellOf (k := 0) (h3 j y hj) rfl
  have y1 := cellOf (k := 1) (h3 j y hj) rfl
  have e : x.lt y = if x.tick = y.tick then decide (x.id < y.id) else decide (x.tick < y.tick) := rfl
  obtain ⟨xt, xi, xb⟩ := x
  obtain ⟨yt, yi, yb⟩ := y
  simp only at ci cj x0 x1 y0 y1 e
  obtain ⟨n, hnn⟩ : ∃ n, R.length = n := ⟨_, rfl⟩
  rw [hnn] at hil hjl hn ⊢
  clear h1 h2 h3 hi hj hc hnn
  by_cases ht : xt = yt
  · rw [if_pos ht] at e
    rw [e]
    subst ht
    clear e
    go_enter Tryz.func246, Tryz.ntmps246
    go_wp2_with fail
    go_quiet (go_simp)
    go_wp2_with fail
    go_quiet (go_simp)
    go_wp2
    go_ret
    exact ⟨rfl, _, World.drewN_drewN _ _ _⟩
  · rw [if_neg ht] at e
    rw [e]
    clear e
    go_enter Tryz.func246, Tryz.ntmps246
    go_wp2_with fail
    go_quiet (go_simp)
    go_wp2_with fail
    go_quiet (go_simp)
    go_wp2
    go_ret
    exact ⟨rfl, _, World.drewN_drewN _ _ _⟩

theorem nodup_ne {α β : Type} {f : α → β} {l : List α} (h : (l.map f).Nodup) {i j : Nat} {x y : α} (hi : l[i]? = some x) (hj : l[j]? = some y) (hij : i ≠ j) : f x ≠ f y := by
  have hil := (List.getElem?_eq_some_iff.1 hi)
  have hjl := (List.getElem?_eq_some_iff.1 hj)
  obtain ⟨h1, rfl⟩ := hil
  obtain ⟨h2, rfl⟩ := hjl
  have hp := List.pairwise_iff_getElem.1 h
  rcases Nat.lt_or_gt_of_ne hij with hlt | hlt
  · have := hp i j (by simpa using h1) (by simpa using h2) hlt
    simpa using this
  · have := hp j i (by simpa using h2) (by simpa using h1) hlt
    simpa using Ne.symm this

set_option maxRecDepth 4000 in
theorem row_Swap (w : World) (cp : Nat) (F : List Nat) (mv : Value) (R : List En) (v : Value) (hc : w.cell? ⟨cp, 0, none⟩ = some v) (h : HeapAt w cp F mv R) (i j : Nat) (hi : i < R.length) (hj : j < R.length) (hij : i ≠ j) (hn : R.length ≤ 1000000) :
    Calls Tryz.prog 247 #[v, .int .i64 (i : Int), .int .i64 (j : Int)] w fun e w' => e = .returned (.tuple #[]) ∧ HeapAt w' cp F mv (swp R i j) ∧ Ext F w w' := by
  obtain ⟨v', h1, h2, h3, h4, h5, h6, h7⟩ := h
  obtain rfl : v' = v := by have := cellOf (k := 0) h1 rfl; rw [hc] at this; exact (Option.some.inj this).symm
  obtain ⟨g, c, rfl⟩ := slice_some h2 (by omega)
  obtain ⟨x, hx⟩ : ∃ x, R[i]? = some x := ⟨_, List.getElem?_eq_getElem hi⟩
  obtain ⟨y, hy⟩ : ∃ y, R[j]? = some y := ⟨_, List.getElem?_eq_getElem hj⟩
  have ci := ownsRow_cell h2 (i := i) (u := .pointer (some ⟨x.b, 0, none⟩)) (by simp [eptrs, hx])
  have cj := ownsRow_cell h2 (i := j) (u := .pointer (some ⟨y.b, 0, none⟩)) (by simp [eptrs, hy])
  have bx := h3 i x hx
  have bby := h3 j y hy
  have hxy : x.b ≠ y.b := nodup_ne (f := (·.b)) h4 hx hy hij
  have hgx : g ≠ x.b := fun e => row_not h2 bx (by simp) (by rw [← e]; rfl)
  have hgy : g ≠ y.b := fun e => row_not h2 bby (by simp) (by rw [← e]; rfl)
  have hgc : g ≠ cp := fun e => row_not h2 h1 (by simp) (by rw [← e]; rfl)
  have hcx : cp ≠ x.b := by rintro rfl; rw [h1] at bx; simp at bx
  have hcy : cp ≠ y.b := by rintro rfl; rw [h1] at bby; simp at bby
  have hswp : swp R i j = (R.set i y).set j x := by simp [swp, hx, hy]
  have hgF := h6 g rfl
  have hxF := h7 x (List.mem_of_getElem? hx)
  have hyF := h7 y (List.mem_of_getElem? hy)
  -- the worlds ahead: the row's two cells, the two places
  have hpost : ∀ w1, (∃ q, w1 = ((((w.drewN q).setCell ⟨g, i, none⟩ (.pointer (some ⟨y.b, 0, none⟩))).setCell ⟨g, j, none⟩ (.pointer (some ⟨x.b, 0, none⟩))).setCell ⟨y.b, 2, none⟩ (.int .i64 (i : Int))).setCell ⟨x.b, 2, none⟩ (.int .i64 (j : Int))) →
      HeapAt w1 cp F mv (swp R i j) ∧ Ext F w w1 := by
    rintro w1 ⟨q, rfl⟩
    have hE : Ext F w (((((w.drewN q).setCell ⟨g, i, none⟩ (.pointer (some ⟨y.b, 0, none⟩))).setCell ⟨g, j, none⟩ (.pointer (some ⟨x.b, 0, none⟩))).setCell ⟨y.b, 2, none⟩ (.int .i64 (i : Int))).setCell ⟨x.b, 2, none⟩ (.int .i64 (j : Int))) :=
      (((((Ext.refl F w).drewN q).setCell (.inl hgF) _).setCell (.inl hgF) _).setCell (.inl hyF) _).setCell (.inl hxF) _
    refine ⟨?_, hE⟩
    have hk : ∀ b, b ≠ g → b ≠ x.b → b ≠ y.b → (((((w.drewN q).setCell ⟨g, i, none⟩ (.pointer (some ⟨y.b, 0, none⟩))).setCell ⟨g, j, none⟩ (.pointer (some ⟨x.b, 0, none⟩))).setCell ⟨y.b, 2, none⟩ (.int .i64 (i : Int))).setCell ⟨x.b, 2, none⟩ (.int .i64 (j : Int))).heap[b]? = w.heap[b]? := by
      intro b hb1 hb2 hb3
      rw [Below.heap_setCell _ _ _ _ hb2, Below.heap_setCell _ _ _ _ hb3, Below.heap_setCell _ _ _ _ hb1, Below.heap_setCell _ _ _ _ hb1]
      rfl
    rw [hswp]
    refine ⟨.slice (some ⟨g, 0, none⟩) R.length c, (hk cp (Ne.symm hgc) hcx hcy).trans h1, ?_, ?_, ?_, h5, h6, ?_⟩
    · have r1 := ownsRow_set (i := i) (.pointer (some ⟨y.b, 0, none⟩)) (show (w.drewN q).ownsRow 0 141 1 _ _ _ from h2)
      have r2 := ownsRow_set (i := j) (.pointer (some ⟨x.b, 0, none⟩)) r1
      have e : ((eptrs R).set i (.pointer (some ⟨y.b, 0, none⟩))).set j (.pointer (some ⟨x.b, 0, none⟩)) = eptrs ((R.set i y).set j x) := by simp [eptrs, List.map_set]
      rw [e] at r2
      simp only [List.length_set]
      refine ownsRow_of_block r2 fun g' hg' => ?_
      obtain rfl : g = g' := by simpa [Value.ownBlock] using hg'
      rw [Below.heap_setCell _ _ _ _ hgx, Below.heap_setCell _ _ _ _ hgy]
    · intro k z hz
      rw [List.getElem?_set] at hz
      split at hz
      · rename_i hjk
        subst hjk
        simp only [List.length_set, hj, if_true, Option.some.injEq] at hz
        subst hz
        have b1 : (((w.drewN q).setCell ⟨g, i, none⟩ (.pointer (some ⟨y.b, 0, none⟩))).setCell ⟨g, j, none⟩ (.pointer (some ⟨x.b, 0, none⟩))).heap[x.b]? = some (.cells #[.int .i64 x.tick, .int .i64 x.id, .int .i64 (i : Int)] 143 (0, 0)) := by
          rw [Below.heap_setCell _ _ _ _ (Ne.symm hgx), Below.heap_setCell _ _ _ _ (Ne.symm hgx)]; exact bx
        exact block_setCell_same (k := 2) _ (block_setCell_other _ b1 (by simpa using hxy))
      · rename_i hjk
        rw [List.getElem?_set] at hz
        split at hz
        · rename_i hik
          subst hik
          simp only [Option.some.injEq] at hz
          subst hz
          have b1 : (((w.drewN q).setCell ⟨g, i, none⟩ (.pointer (some ⟨y.b, 0, none⟩))).setCell ⟨g, j, none⟩ (.pointer (some ⟨x.b, 0, none⟩))).heap[y.b]? = some (.cells #[.int .i64 y.tick, .int .i64 y.id, .int .i64 (j : Int)] 143 (0, 0)) := by
            rw [Below.heap_setCell _ _ _ _ (Ne.symm hgy), Below.heap_setCell _ _ _ _ (Ne.symm hgy)]; exact bby
          exact block_setCell_other _ (block_setCell_same (k := 2) (.int .i64 (i : Int)) b1) (by simpa using Ne.symm hxy)
        · rename_i hik
          have hzb := h3 k z hz
          have hzx : z.b ≠ x.b := nodup_ne (f := (·.b)) h4 hz hx (Ne.symm hik)
          have hzy : z.b ≠ y.b := nodup_ne (f := (·.b)) h4 hz hy (Ne.symm hjk)
          have hzg : z.b ≠ g := fun e => row_not h2 hzb (by simp) (by rw [e]; rfl)
          exact (hk z.b hzg hzx hzy).trans hzb
    · have hp : ((R.set i y).set j x).Perm R := by
        have hxe := (List.getElem?_eq_some_iff.1 hx).2
        have hye := (List.getElem?_eq_some_iff.1 hy).2
        rw [← hxe, ← hye]
        exact List.set_set_perm hi hj
      exact (hp.map _).nodup_iff.2 h4
    · intro z hz
      rcases List.mem_or_eq_of_mem_set hz with hz | rfl
      · rcases List.mem_or_eq_of_mem_set hz with hz | rfl
        · exact h7 z hz
        · exact hyF
      · exact hxF
  replace hpost := hid hpost
  have hE1 : Ext [g] w ((w.drew.setCell ⟨g, i, none⟩ (.pointer (some ⟨y.b, 0, none⟩))).setCell ⟨g, j, none⟩ (.pointer (some ⟨x.b, 0, none⟩))) := (((Ext.refl _ w).drew).setCell (.inl (by simp)) _).setCell (.inl (by simp)) _
  have r1 := ownsRow_set (i := i) (.pointer (some ⟨y.b, 0, none⟩)) (show w.drew.ownsRow 0 141 1 _ _ _ from h2)
  have r2 := ownsRow_set (i := j) (.pointer (some ⟨x.b, 0, none⟩)) r1
  have di := (ownsRow_cell r2 (i := i) (u := .pointer (some ⟨y.b, 0, none⟩)) (by rw [List.getElem?_set_ne (Ne.symm hij)]; simp [eptrs, hi])).1
  have dj := (ownsRow_cell r2 (i := j) (u := .pointer (some ⟨x.b, 0, none⟩)) (by rw [List.getElem?_set_self (by simp [eptrs, hj])])).1
  have bx1 := hE1.block bx (by simpa using Ne.symm hgx)
  have by1 := hE1.block bby (by simpa using Ne.symm hgy)
  have ci1 := ci.1
  have ci2 := ci.2
  have cj1 := cj.1
  have cj2 := cj.2
  obtain ⟨n, hnn⟩ : ∃ n, R.length = n := ⟨_, rfl⟩
  rw [hnn] at hi hj hn ⊢
  obtain ⟨xt, xi, xb⟩ := x
  obtain ⟨yt, yi, yb⟩ := y
  simp only at ci1 cj1 di dj bx1 by1 hxy hgx hgy hpost
  clear h1 h2 h3 h4 h5 h6 h7 hx hy bx bby ci cj r1 r2 hE1 hswp hgF hxF hyF hnn hc hcx hcy hgc
  go_enter Tryz.func247, Tryz.ntmps247
  go_upto_region 0 with (fail)
  go_cut [] (fun wc => ((w.drew.setCell ⟨g, i, none⟩ (.pointer (some ⟨yb, 0, none⟩))).setCell ⟨g, j, none⟩ (.pointer (some ⟨xb, 0, none⟩))) = wc)
  case first =>
    go_region_law (fail)
    all_goals
      simp only [Exit.then]
      refine ‹∀ (a : Act) (w : World), Go.Met _ a w → _› _ _ ?_
      go_meet
      case rel => rfl
  case rest =>
  rw [hcut] at di dj bx1 by1
  replace hcut := hid hcut
  have y2 := cellOf (k := 2) by1 rfl
  have x2 := cellOf (k := 2) bx1 rfl
  have yf := freeOf (k := 2) by1
  have xf := freeOf (k := 2) bx1
  clear by1 bx1 ci1 ci2 cj1 cj2
  go_upto_region 1 with (fail)
  have e2 : ∀ w2, w2 = (wc.drew.setCell ⟨yb, 2, none⟩ (.int .i64 (i : Int))).setCell ⟨xb, 2, none⟩ (.int .i64 (j : Int)) → HeapAt w2 cp F mv (swp R i j) ∧ Ext F w w2 := by
    rintro w2 rfl
    refine hpost.out _ ⟨2, ?_⟩
    rw [← hcut.out]
    rfl
  replace e2 := hid e2
  go_region_law (fail)
  all_goals
    go_wp2
    go_end0
    exact ⟨rfl, e2.out _ rfl⟩
end Go.Proofs.YtegcnimekfanaaaGreat
