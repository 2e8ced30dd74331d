/-
  Package graph, walked: search.from.
-/
import Derived.Deep.LoopGhost
import Derived.Deep.DeepCutAuto
import Derived.Test.YtegcnimekfanaaaGreatDeviceC
import Derived.Test.YtegcnimekfanaaaGreatGraphB
namespace Go.Proofs.YtegcnimekfanaaaGreat
open Go.RowKit

theorem ownsRow_cap {w : World} {e : TypeId} {size g n cap : Nat} {xs : List Value} (h : w.ownsRow 0 e size (.slice (some ⟨g, 0, none⟩) n cap) n xs) : n ≤ cap := by
  rcases h.2 with ⟨h1, _⟩ | ⟨g1, cap1, cur, hv, _, _, h3, _⟩
  · cases h1
  · cases hv; exact h3

/-- A way through the graph, the last turn first; d: who leads nowhere. So many steps at most; the circle, or nothing; and who leads nowhere then. -/
def Gr.srch (G : Gr) : Nat → List (Int × Nat) → (Int → Bool) → Option (List Int × (Int → Bool))
  | _, [], d => some ([], d)
  | 0, _ :: _, _ => none
  | k + 1, (x, n) :: r, d =>
    if n = (G.of x).length then G.srch k r (fun z => z == x || d z)
    else
      if 0 ≤ Lib.idxOf (((x, n) :: r).map (·.1)).reverse ((G.of x).getD n 0) then some ((((x, n) :: r).map (·.1)).reverse.drop (Lib.idxOf (((x, n) :: r).map (·.1)).reverse ((G.of x).getD n 0)).toNat, d)
      else if d ((G.of x).getD n 0) then G.srch k ((x, n + 1) :: r) d
      else G.srch k (((G.of x).getD n 0, 0) :: (x, n + 1) :: r) d

/-- Who leads nowhere, in memory. -/
def DoneAt (w : World) (db N : Nat) (d : Int → Bool) : Prop :=
  ∃ L, MapAt w db L ∧ L.length ≤ N ∧ ∀ k, (mget L k).getD (.int .i64 0) = .int .i64 (if d k then 1 else 0)
theorem DoneAt.ext {S : List Nat} {w w' : World} {db N : Nat} {d : Int → Bool} (h : DoneAt w db N d) (he : Ext S w w') (hS : db ∉ S) : DoneAt w' db N d := by
  obtain ⟨L, h1, h2, h3⟩ := h
  exact ⟨L, h1.ext he hS, h2, h3⟩
theorem DoneAt.look {w : World} {db N : Nat} {d : Int → Bool} (h : DoneAt w db N d) {x : Int} (hx : I64 x) :
    (Instr.lookup 129 (.map (some db)) (.int .i64 x) false).run Tryz.prog w = .ok (.int .i64 (if d x then 1 else 0)) w := by
  obtain ⟨L, h1, h2, h3⟩ := h
  rw [h1.lookup Tryz.underlying129 (fun w => Tryz.zeroValue3 w) hx, h3]
theorem mget_mdel {α : Type} (L : List (Int × α)) (x k : Int) : mget (mdel L x) k = if k = x then none else mget L k := by
  unfold mget mdel
  rw [List.find?_filter]
  by_cases hk : k = x
  · subst hk
    simp only [if_true, Option.map_eq_none_iff, List.find?_eq_none]
    intro p _
    by_cases h : p.1 = k <;> simp [h]
  · simp only [hk, if_false]
    congr 2
    funext p
    by_cases h : p.1 = k
    · have : ¬ p.1 = x := by rw [h]; exact hk
      simp [h, hk]
    · simp [h]
theorem mget_mins {α : Type} (L : List (Int × α)) (q : Int × α) (k : Int) (hq : ∀ p ∈ L, p.1 ≠ q.1) : mget (mins q L) k = if k = q.1 then some q.2 else mget L k := by
  induction L with
  | nil =>
    by_cases h : k = q.1
    · simp [mget, mins, h]
    · have : (q.1 == k) = false := by simpa using Ne.symm h
      simp [mget, mins, h, this]
  | cons p L ih =>
    have ih := ih fun p hp => hq p (by simp [hp])
    simp only [mins]
    split
    · by_cases h : k = q.1
      · simp [mget, h]
      · have : (q.1 == k) = false := by simpa using Ne.symm h
        simp [mget, h, this]
    · by_cases hpk : p.1 = k
      · have : ¬ k = q.1 := by rw [← hpk]; exact hq p (by simp)
        simp [mget, hpk, this]
      · have h3 : (p.1 == k) = false := by simpa using hpk
        unfold mget at ih ⊢
        simp only [List.find?_cons, h3]
        exact ih
theorem mget_mput {α : Type} (L : List (Int × α)) (x : Int) (v : α) (k : Int) : mget (mput L x v) k = if k = x then some v else mget L k := by
  unfold mput
  rw [mget_mins _ _ _ (fun p hp => (mem_mdel hp).2), mget_mdel]
  split <;> rfl
theorem DoneAt.mark {w : World} {db N : Nat} {d : Int → Bool} (h : DoneAt w db N d) {x : Int} (hx : I64 x) (hN : N < 9223372036854775807) :
    ∃ w', (Instr.mapUpdate 129 (.map (some db)) (.int .i64 x) (.int .i64 1)).run Tryz.prog w = .ok () w' ∧ DoneAt w' db (N + 1) (fun z => z == x || d z) ∧ Ext [db] w w' := by
  obtain ⟨L, h1, h2, h3⟩ := h
  obtain ⟨w', hr, hm, hE, -⟩ := h1.update Tryz.underlying129 (by simp [maxLen]; omega) hx (.int .i64 1)
  refine ⟨w', hr, ⟨_, hm, ?_, fun k => ?_⟩, hE⟩
  · unfold mput
    rw [mins_length]
    have := mdel_length L x
    omega
  · rw [mget_mput]
    by_cases hk : k = x
    · simp [hk]
    · have : (k == x) = false := by simpa using hk
      simp [hk, h3 k]

theorem GraphAt.look {w : World} {p mb : Nat} {G : Gr} (h : GraphAt w p mb G) {x : Int} (hx : I64 x) :
    ∃ a c bo, (∀ w', Ext [] w w' → (Instr.lookup 121 (.map (some mb)) (.int .i64 x) false).run Tryz.prog w' = .ok (.slice a (G.of x).length c) w') ∧ IntsAt w (.slice a (G.of x).length c) bo (G.of x) := by
  obtain ⟨hp, val, bo, hm, hv⟩ := h
  have hr : ∀ w', Ext [] w w' → _ := fun w' he => (hm.ext he (by simp)).lookup Tryz.underlying121 zero27 hx
  have hc : ∃ a c bo', (mget (G.map fun x => (x.1, val x.1)) x).getD (.slice none 0 0) = .slice a (G.of x).length c ∧ IntsAt w (.slice a (G.of x).length c) bo' (G.of x) := by
    rw [mget_map G (fun x => val x.1) x]
    unfold Gr.of mget
    cases hf : G.find? fun p => p.1 == x with
    | none => exact ⟨_, _, none, rfl, ⟨none, 0, rfl, .inl ⟨rfl, rfl⟩⟩⟩
    | some q =>
      obtain ⟨h1, g, c, h2, h3⟩ := hv q (List.mem_of_find?_eq_some hf)
      refine ⟨some ⟨g, 0, none⟩, c, some (bo q.1), h2, ?_⟩
      rw [h2] at h3
      exact h3
  obtain ⟨a, c, bo', h1, h2⟩ := hc
  refine ⟨a, c, bo', fun w' he => ?_, h2⟩
  rw [hr w' he, h1]

def trns (l : List (Int × Nat)) : List Value := l.flatMap fun q => [.int .i64 q.1, .int .i64 (q.2 : Int)]
def izs (l : List Int) : List Value := l.map (.int .i64)
def way (st : List (Int × Nat)) : List Int := (st.map (·.1)).reverse
theorem e215 : ETy Tryz.prog 215 214 2 16 := ETy.of (z := .agg #[.int .i64 0, .int .i64 0]) Tryz.underlying215 (by kernel_rfl) rfl (by decide)

theorem trns_length (l : List (Int × Nat)) : (trns l).length = l.length * 2 := by
  unfold trns
  induction l with
  | nil => rfl
  | cons a l ih => simp only [List.flatMap_cons, List.length_append, List.length_cons, List.length_nil, ih]; omega
theorem trns_top (x : Int) (n : Nat) (r : List (Int × Nat)) : (trns ((x, n) :: r).reverse)[r.length * 2]? = some (.int .i64 x) ∧ (trns ((x, n) :: r).reverse)[r.length * 2 + 1]? = some (.int .i64 (n : Int)) := by
  have e : trns ((x, n) :: r).reverse = trns r.reverse ++ [.int .i64 x, .int .i64 (n : Int)] := by simp [trns]
  have hl : (trns r.reverse).length = r.length * 2 := by rw [trns_length]; simp
  rw [e]
  constructor
  · rw [List.getElem?_append_right (by omega), hl]; simp
  · rw [List.getElem?_append_right (by omega), hl, Nat.add_sub_cancel_left]; rfl

theorem way_cons (q : Int × Nat) (r : List (Int × Nat)) : way (q :: r) = way r ++ [q.1] := by simp [way]
theorem way_length (r : List (Int × Nat)) : (way r).length = r.length := by simp [way]
theorem izs_snoc (l : List Int) (y : Int) : izs (l ++ [y]) = izs l ++ [.int .i64 y] := by simp [izs]
theorem izs_length (l : List Int) : (izs l).length = l.length := by simp [izs]
theorem trns_cons (x : Int) (n : Nat) (r : List (Int × Nat)) : trns ((x, n) :: r).reverse = trns r.reverse ++ [.int .i64 x, .int .i64 (n : Int)] := by simp [trns]
/-- A row is cut to its first elements. -/
theorem ownsRow_less {w : World} {e : TypeId} {size g n m cap : Nat} {xs ys : List Value} (h : w.ownsRow 0 e size (.slice (some ⟨g, 0, none⟩) n cap) n (xs ++ ys)) (hm : xs.length = m * size) (hle : m ≤ n) :
    w.ownsRow 0 e size (.slice (some ⟨g, 0, none⟩) m cap) m xs := by
  rcases h.2 with ⟨h1, _⟩ | ⟨g1, cap1, cur, hv, h0, hb, h3, h4, h5, h6⟩
  · cases h1
  · cases hv
    refine ⟨hm, .inr ⟨g, cap, cur, rfl, h0, hb, by omega, h4, h5, ?_⟩⟩
    have h7 := congrArg (List.take (m * size)) h6
    rw [List.take_take, Nat.min_eq_left (Nat.mul_le_mul_right _ hle), List.take_left' hm] at h7
    exact h7

theorem ownsRow_set' {w : World} {e : TypeId} {size g cap n : Nat} {xs : List Value} {i : Nat} (u : Value) (h : w.ownsRow 0 e size (.slice (some ⟨g, 0, none⟩) n cap) n xs) :
    (w.setCell ⟨g, i, none⟩ u).ownsRow 0 e size (.slice (some ⟨g, 0, none⟩) n cap) n (xs.set i u) := by
  refine ⟨by simpa using h.1, ?_⟩
  rcases h.2 with ⟨h1, _⟩ | ⟨g1, cap1, cur, hv, h1, h2, h3, h4, h5, h6⟩
  · simp at h1
  · cases hv
    refine .inr ⟨g, cap, cur.setIfInBounds i u, rfl, h1, block_setCell_same u h2, h3, h4, by simpa using h5, ?_⟩
    rw [← h6, Array.toList_setIfInBounds]
    exact List.take_set
theorem trns_bump (x : Int) (n : Nat) (r : List (Int × Nat)) : (trns ((x, n) :: r).reverse).set (r.length * 2 + 1) (.int .i64 ((n : Int) + 1)) = trns ((x, n + 1) :: r).reverse := by
  rw [trns_cons, trns_cons]
  have hl : (trns r.reverse).length = r.length * 2 := by rw [trns_length]; simp
  rw [List.set_append_right _ _ (by omega), hl, Nat.add_sub_cancel_left]
  simp
theorem way_bump (x : Int) (n m : Nat) (r : List (Int × Nat)) : way ((x, n) :: r) = way ((x, m) :: r) := by simp [way]
theorem idxOf_spec (xs : List Int) (y : Int) : Lib.idxOf xs y = -1 ∨ ∃ k : Nat, k < xs.length ∧ Lib.idxOf xs y = k := by
  by_cases h : ∃ j, j < xs.length ∧ xs.getD j 0 = y
  · have hm : ∃ k, k < xs.length ∧ xs.getD k 0 = y ∧ ∀ j, j < k → xs.getD j 0 ≠ y := by
      obtain ⟨j, hj⟩ := h
      induction j using Nat.strongRecOn with
      | ind j ih =>
        by_cases h2 : ∃ i, i < j ∧ xs.getD i 0 = y
        · obtain ⟨i, hi, h3⟩ := h2
          exact ih i hi ⟨by omega, h3⟩
        · exact ⟨j, hj.1, hj.2, fun i hi h3 => h2 ⟨i, hi, h3⟩⟩
    obtain ⟨k, h1, h2, h3⟩ := hm
    exact .inr ⟨k, h1, by simpa [Lib.idxOf] using Lib.idxFrom_hit y xs k 0 h1 h2 h3⟩
  · exact .inl (by simpa [Lib.idxOf] using Lib.idxFrom_miss y xs 0 (fun j hj h2 => h ⟨j, hj, h2⟩))

/-- The search, in memory: its cell, the way, the stack, who leads nowhere. -/
def SrAt (w0 w : World) (sp gp db N : Nat) (sv : Value) (st : List (Int × Nat)) (d : Int → Bool) : Prop :=
  ∃ wv, w.heap[sp]? = some (.cells #[.pointer (some ⟨gp, 0, none⟩), wv, .map (some db)] 131 (0, 0)) ∧ w.ownsRow 0 3 1 wv st.length (izs (way st)) ∧ (∀ g, wv.ownBlock = some g → w0.heap.size ≤ g) ∧
    w.ownsRow 0 214 2 sv st.length (trns st.reverse) ∧ (∀ g, sv.ownBlock = some g → w0.heap.size ≤ g) ∧ DoneAt w db N d ∧ Ext [sp, db] w0 w

theorem row_not {w : World} {b : Nat} {o : Obj} {e : TypeId} {size : Nat} {v : Value} {n : Nat} {xs : List Value} (h : w.ownsRow 0 e size v n xs) (hb : w.heap[b]? = some o) (hne : ∀ cur, o ≠ .cells cur e (0, 0)) : v.ownBlock ≠ some b := by
  intro hg
  rcases h.2 with ⟨rfl, _⟩ | ⟨g1, cap, cur, rfl, _, h1, _⟩
  · simp [Value.ownBlock] at hg
  · simp [Value.ownBlock] at hg
    subst hg
    rw [hb] at h1
    exact hne _ (Option.some.inj h1)
theorem DoneAt.map {w : World} {db N : Nat} {d : Int → Bool} (h : DoneAt w db N d) : ∃ es c, w.heap[db]? = some (.map es c) := by
  obtain ⟨L, h, -⟩ := h
  exact h.map

set_option maxRecDepth 8000 in
set_option maxHeartbeats 1000000 in
theorem search_from (w0 w : World) (sp gp mb db N K : Nat) (wv : Value) (G : Gr) (x : Int) (d d' : Int → Bool) (res : List Int) (hG : ∀ w', Ext [sp, db] w0 w' → GraphAt w' gp mb G) (hs : G.small) (hE0 : Ext [sp, db] w0 w)
    (hsp : w.heap[sp]? = some (.cells #[.pointer (some ⟨gp, 0, none⟩), wv, .map (some db)] 131 (0, 0))) (hw : w.ownsRow 0 3 1 wv 0 (izs [])) (hw0 : ∀ g, wv.ownBlock = some g → w0.heap.size ≤ g)
    (hd : DoneAt w db N d) (hx : I64 x) (hI : ∀ z, ∀ y ∈ G.of z, I64 y) (hb : N + K ≤ 900000) (hr : G.srch K [(x, 0)] d = some (res, d')) :
    Calls Tryz.prog 71 #[.pointer (some ⟨sp, 0, none⟩), .int .i64 x] w fun e w' => ∃ v wv', e = .returned v ∧ IntRow w' w.heap.size v res ∧ (res ≠ [] → v ≠ .slice none 0 0) ∧ (res = [] → v = .slice none 0 0) ∧
      (res = [] → w'.heap[sp]? = some (.cells #[.pointer (some ⟨gp, 0, none⟩), wv', .map (some db)] 131 (0, 0)) ∧ w'.ownsRow 0 3 1 wv' 0 (izs []) ∧ (∀ g, wv'.ownBlock = some g → w0.heap.size ≤ g) ∧ DoneAt w' db (N + K) d') ∧ Ext [sp, db] w0 w' := by
  go_enter Tryz.func71, Tryz.ntmps71
  go_upto_region 2 with (fail)
  have hE1 := hE0.alloc (.cells #[.int .i64 x, .int .i64 0] 214)
  have hsp1 := block_alloc_old (.cells #[.int .i64 x, .int .i64 0] 214) hsp
  have hw1 := hw.alloc (.cells #[.int .i64 x, .int .i64 0] 214)
  have hd1 := hd.ext ((Ext.refl [] w).alloc (.cells #[.int .i64 x, .int .i64 0] 214)) (by simp)
  have hN := block_alloc_new w (.cells #[.int .i64 x, .int .i64 0] 214)
  have hEw := (Ext.refl [] w).alloc (.cells #[.int .i64 x, .int .i64 0] 214)
  have hsN : sp ≠ w.heap.size := by have := lt_of_block hsp; omega
  have hN0 : w0.heap.size ≤ w.heap.size := hE0.size
  generalize hw1e : w.alloc (.cells #[.int .i64 x, .int .i64 0] 214) = w1 at *
  obtain ⟨N1, hNN⟩ : ∃ N1, w.heap.size = N1 := ⟨_, rfl⟩
  rw [hNN] at hN hsN hN0 ⊢
  have c1 := cellOf (k := 1) hsp1 rfl
  have hNw1 : N1 < w1.heap.size := lt_of_block hN
  clear hw1e
  go_wp2_with (at_builtin; refine wl_append_some (v := wv) _ rfl (.tmp 17) (.tmp 19) 27 27 rfl ety27 rfl (hw1.alloc _) rfl (Src.one Tryz.underlying27 (block_alloc_new _ _) rfl) (by omega) ?_ ?_ ?_)
  case refine_1 => simp only [maxLen]; omega
  case refine_2 => omega
  intro g cap w2 hownA hextA hgA
  have hvs : wv.ownBlock ≠ some sp := row_not hw1 hsp1 (by simp)
  have hvN : wv.ownBlock ≠ some N1 := row_not hw1 hN (by simp)
  obtain ⟨es, cl, hdm⟩ := hd1.map
  have hvd : wv.ownBlock ≠ some db := row_not hw1 hdm (by simp)
  have hspA : w2.heap[sp]? = _ := hextA.block (block_alloc_old _ hsp1) (by simpa using hvs)
  have hNA : w2.heap[N1]? = _ := hextA.block (block_alloc_old _ hN) (by simpa using hvN)
  have hdA := (hd1.ext ((Ext.refl [] w1).alloc (.cells #[.int .i64 x] 3)) (by simp)).ext hextA (by simpa using hvd)
  have hgs : g ≠ sp := by
    rcases hgA with h | h
    · rintro rfl; exact hvs h
    · have := lt_of_block hsp1; omega
  have hgN : g ≠ N1 := by
    rcases hgA with h | h
    · rintro rfl; exact hvN h
    · omega
  have hg0 : w0.heap.size ≤ g := by
    rcases hgA with h | h
    · exact hw0 g h
    · have := hE1.size; omega
  have hE2 : Ext [sp, db] w0 w2 := (hE1.alloc (.cells #[.int .i64 x] 3)).trans hextA (by
    intro b hb hlt; have := hw0 b (by simpa using hb); simp; omega)
  have c1A := cellOf (k := 1) hspA rfl
  have f1A := freeOf (k := 1) hspA
  have hgd : g ≠ db := by
    rintro rfl
    obtain ⟨es', cl', h'⟩ := hdA.map
    rcases hownA.2 with ⟨h, _⟩ | ⟨g1, cap1, cur, h, _, h1, _⟩
    · cases h
    · cases h; rw [h'] at h1; cases h1
  have hws := hEw.size
  have hxs := hextA.size
  clear hextA hgA c1 hvs hvN hvd hsp1 hw1 hd1 hN hEw hE1 hE0 hsp hw hw0 hd
  go_wp2
  have hS : SrAt w0 (w2.setCell ⟨sp, 1, none⟩ (.slice (some ⟨g, 0, none⟩) 1 cap)) sp gp db N (.slice (some ⟨N1, 0, none⟩) 1 1) [(x, 0)] d := by
    refine ⟨.slice (some ⟨g, 0, none⟩) 1 cap, block_setCell_same _ hspA, ?_, ?_, ?_, ?_, ?_, ?_⟩
    · exact ownsRow_of_block hownA fun g' hg' => by
        obtain rfl : g = g' := by simpa [Value.ownBlock] using hg'
        exact Below.heap_setCell _ _ _ _ hgs
    · intro g' hg'
      obtain rfl : g = g' := by simpa [Value.ownBlock] using hg'
      exact hg0
    · refine ⟨rfl, .inr ⟨N1, 1, _, rfl, Nat.zero_le _, block_setCell_other _ hNA (Ne.symm hsN), by simp, by simp [maxLen], rfl, rfl⟩⟩
    · intro g' hg'
      obtain rfl : N1 = g' := by simpa [Value.ownBlock] using hg'
      exact hN0
    · refine hdA.ext (S := [sp]) ((Ext.refl _ _).setCell (.inl (by simp)) _) ?_
      rintro hm
      simp only [List.mem_singleton] at hm
      subst hm
      obtain ⟨es', cl', h'⟩ := hdA.map
      rw [hspA] at h'
      cases h'
    · exact hE2.setCell (.inl (by simp)) _
  have hsz : w.heap.size ≤ (w2.setCell ⟨sp, 1, none⟩ (.slice (some ⟨g, 0, none⟩) 1 cap)).heap.size := by simp [World.setCell]; simp at hxs; omega
  generalize hw3 : w2.setCell ⟨sp, 1, none⟩ (.slice (some ⟨g, 0, none⟩) 1 cap) = w3 at hS hsz
  clear hw3 hspA hownA hNA hdA hgs hgN hg0 hE2 c1A f1A hgd hxs hws hsN
  go_loopg [5] K (fun k s5 wr => ∃ st d1 M, SrAt w0 wr sp gp db M s5 st d1 ∧ M + k ≤ N + K ∧ st.length + k ≤ 1 + K ∧ G.srch k st d1 = some (res, d') ∧ (∀ q ∈ st, I64 q.1 ∧ q.2 ≤ (G.of q.1).length) ∧ w.heap.size ≤ wr.heap.size)
  case atStart => exact ⟨_, _, N, hS, by omega, by simp, hr, by simpa using hx, hsz⟩
  case round =>
    obtain ⟨st, d1, M, ⟨wv1, hsp, hw, hwb, hst, hsb, hd, hE⟩, hM, hL, hr1, hq, hsz1⟩ := hrel
    rcases st with _ | ⟨⟨x1, n1⟩, r⟩
    · have e : res = [] ∧ d' = d1 := by
        cases gk <;> simp [Gr.srch] at hr1 <;> exact ⟨hr1.1, hr1.2.symm⟩
      replace e := hid e
      obtain ⟨a, ca, rfl⟩ := slice_form hst
      have hM' := hid hM
      have hbb := hid hb
      clear hr1 hM hL hr hb hq
      go_wp2
      go_ret
      obtain ⟨hre, hde⟩ := e.out
      refine ⟨.slice none 0 0, wv1, rfl, by rw [hre]; exact IntRow.nil _ _, fun h => absurd hre h, fun _ => rfl, fun _ => ⟨hsp, hw, hwb, ?_⟩, hE⟩
      obtain ⟨Ld, h1, h2, h3⟩ := hd
      rw [hde]
      exact ⟨Ld, h1, by have := hM'.out; omega, h3⟩
    · obtain ⟨kk, rfl⟩ : ∃ kk, gk = kk + 1 := by
        cases gk with
        | zero => simp [Gr.srch] at hr1
        | succ kk => exact ⟨kk, rfl⟩
      obtain ⟨L, hLe⟩ : ∃ L, r.length = L := ⟨_, rfl⟩
      have ht := trns_top x1 n1 r
      simp only [List.length_cons, hLe] at hw hst hL ht
      obtain ⟨gs, c, rfl⟩ := slice_some hst (by omega)
      have ct0 := (ownsRow_cell hst ht.1)
      have ct1 := (ownsRow_cell hst ht.2)
      have ct00 := ct0.1
      have ct10 := ct1.1
      have ct11 := ct1.2
      have hqx := hq (x1, n1) (by simp)
      clear ct0 ct1 ht
      have cs0 := cellOf (k := 0) hsp rfl
      have cg0 := (hG _ hE).cell
      obtain ⟨a, ca, boa, hlk, hat⟩ := (hG _ hE).look hqx.1
      have hlk1 : ∀ j, (Instr.lookup 121 (.map (some mb)) (.int .i64 x1) false).run Tryz.prog (wr.drewN j) = .ok (.slice a (G.of x1).length ca) (wr.drewN j) := fun j => hlk _ ((Ext.refl _ _).drewN j)
      have hlk0 := hlk1 0
      go_upto_region 5 with (fail)
      go_quiet (go_simp)
      have hsp4 : (wr.drewN nq).heap[sp]? = _ := hsp
      have hw4 : (wr.drewN nq).ownsRow 0 3 1 wv1 _ _ := hw
      have hst4 : (wr.drewN nq).ownsRow 0 214 2 _ _ _ := hst
      have hE4 := hE.drewN nq
      have hd4 := hd.ext ((Ext.refl [] wr).drewN nq) (by simp)
      have hat4 := hat.ext ((Ext.refl [] wr).drewN nq) (by simp)
      have hsz4 : w.heap.size ≤ (wr.drewN nq).heap.size := hsz1
      have ct104 : (wr.drewN nq).cell? ⟨gs, L * 2 + 1, none⟩ = _ := ct10
      have ct004 : (wr.drewN nq).cell? ⟨gs, L * 2, none⟩ = _ := ct00
      have ct114 : (wr.drewN nq).frozen? ⟨gs, L * 2 + 1, none⟩ = _ := ct11
      clear hlk hlk1 hlk0 hsp hw hst hE hd hat hsz1 ct10 ct11 ct00 cs0 cg0
      generalize wr.drewN nq = w4 at *
      obtain ⟨cw, gw, rfl⟩ : ∃ cw gw, wv1 = .slice (some ⟨gw, 0, none⟩) (L + 1) cw := by obtain ⟨g, c, h⟩ := slice_some hw4 (by omega); exact ⟨c, g, h⟩
      by_cases hn : n1 = (G.of x1).length
      · have hr2 : G.srch kk r (fun z => z == x1 || d1 z) = some (res, d') := by
          rw [Gr.srch, if_pos hn] at hr1; exact hr1
        replace hr2 := hid hr2
        rw [← hn]
        clear hr1 hn hat4
        have hgw0 : w0.heap.size ≤ gw := hwb gw rfl
        have hgs0 : w0.heap.size ≤ gs := hsb gs rfl
        have hgwsp : gw ≠ sp := fun h => row_not hw4 hsp4 (by simp) (by rw [← h]; rfl)
        have hgssp : gs ≠ sp := fun h => row_not hst4 hsp4 (by simp) (by rw [← h]; rfl)
        obtain ⟨es, cl, hdm⟩ := hd4.map
        have hspdb : sp ≠ db := by rintro rfl; rw [hsp4] at hdm; cases hdm
        have hgwdb : gw ≠ db := fun h => row_not hw4 hdm (by simp) (by rw [← h]; rfl)
        have hgsdb : gs ≠ db := fun h => row_not hst4 hdm (by simp) (by rw [← h]; rfl)
        obtain ⟨w5, hrun, hd5, hE5⟩ := (hd4.ext (w' := w4.drew) (Ext.refl [] w4).drew (by simp)).mark hqx.1 (by omega)
        have hb' := hid hb
        replace hM := hid hM
        replace hL := hid hL
        have hq' := hid hq
        have hI' := hid hI
        have hLe' := hid hLe
        clear hb hr hq hI hLe hdm
        have cs2 : w4.cell? ⟨sp, 2, none⟩ = _ := cellOf (k := 2) hsp4 rfl
        go_upto_region 7 with (fail)
        go_cut [] (fun wc => w5 = wc)
        case first =>
          have cs2 : w4.drew.cell? ⟨sp, 2, none⟩ = _ := cs2
          have ct0 : w4.drew.cell? ⟨gs, L * 2, none⟩ = _ := ct004
          go_region_law (fail)
          all_goals
            simp only [Exit.then]
            refine ‹∀ (a : Act) (w : World), Go.Met _ a w → _› _ _ ?_
            go_meet
            case rel => rfl
        case rest =>
        subst hcut
        clear hrun
        have hsp5 := hE5.block (w := w4.drew) hsp4 (by simpa using hspdb)
        have hw5 := hE5.row (w := w4.drew) hw4 (by intro g' hg'; obtain rfl : gw = g' := by simpa [Value.ownBlock] using hg'
                                                   simpa using hgwdb)
        have hst5 := hE5.row (w := w4.drew) hst4 (by intro g' hg'; obtain rfl : gs = g' := by simpa [Value.ownBlock] using hg'
                                                     simpa using hgsdb)
        have hEE5 : Ext [sp, db] w0 w5 := hE4.drew.trans hE5 (by intro b hb hlt; simp at hb ⊢; omega)
        have hsz5 : w.heap.size ≤ w5.heap.size := Nat.le_trans hsz4 hE5.size
        clear hsp4 hw4 hst4 hE4 hd4 ct004 ct104 ct114 cs2 hE5 hsz4
        have cs1 := cellOf (k := 1) hsp5 rfl
        have hLb : L ≤ 1000000 := by have := hb'.out; have := hL.out; omega
        have hLc : (L : Int) ≤ (c : Int) := by have := ownsRow_cap hst5; omega
        have hLcw : (L : Int) ≤ (cw : Int) := by have := ownsRow_cap hw5; omega
        have fs1 := freeOf (k := 1) hsp5
        have hLcn : L ≤ cw := by omega
        have hw64 : IntKind.i64.wrap (L : Int) = L := IntWalk.i64_in _ (by omega)
        have hw641 : wrap64 (L : Int) = L := IntWalk.wrap64_in _ (by omega)
        go_upto_region 9 with (fail)
        go_cut [] (fun wc => (w5.drew.setCell ⟨sp, 1, none⟩ (.slice (some ⟨gw, 0, none⟩) L cw)) = wc)
        case first =>
          have cs1' : w5.drew.cell? ⟨sp, 1, none⟩ = _ := cs1
          have fs1' : w5.drew.frozen? ⟨sp, 1, none⟩ = _ := fs1
          go_region_law (fail)
          all_goals
            simp only [Exit.then]
            refine ‹∀ (a : Act) (w : World), Go.Met _ a w → _› _ _ ?_
            go_meet
            case rel => rfl
        case rest =>
        subst hcut
        have hS6 : SrAt w0 ((w5.setCell ⟨sp, 1, none⟩ (.slice (some ⟨gw, 0, none⟩) L cw)).drew) sp gp db (M + 1) (.slice (some ⟨gs, 0, none⟩) L c) r (fun z => z == x1 || d1 z) := by
          have hk : ∀ b, b ≠ sp → ((w5.setCell ⟨sp, 1, none⟩ (.slice (some ⟨gw, 0, none⟩) L cw)).drew).heap[b]? = w5.heap[b]? := fun b hb => Below.heap_setCell _ _ _ _ hb
          refine ⟨.slice (some ⟨gw, 0, none⟩) L cw, block_setCell_same _ hsp5, ?_, ?_, ?_, ?_, ?_, ?_⟩
          · rw [way_cons, izs_snoc] at hw5
            rw [hLe'.out]
            refine ownsRow_of_block (ownsRow_less hw5 (by rw [izs_length, way_length, hLe'.out]; omega) (by omega)) fun g' hg' => ?_
            obtain rfl : gw = g' := by simpa [Value.ownBlock] using hg'
            exact hk _ hgwsp
          · intro g' hg'
            obtain rfl : gw = g' := by simpa [Value.ownBlock] using hg'
            exact hgw0
          · rw [trns_cons] at hst5
            rw [hLe'.out]
            refine ownsRow_of_block (ownsRow_less hst5 (by rw [trns_length]; simp [hLe'.out]) (by omega)) fun g' hg' => ?_
            obtain rfl : gs = g' := by simpa [Value.ownBlock] using hg'
            exact hk _ hgssp
          · intro g' hg'
            obtain rfl : gs = g' := by simpa [Value.ownBlock] using hg'
            exact hgs0
          · exact hd5.ext (S := [sp]) (((Ext.refl _ _).setCell (.inl (by simp)) _).drew) (by simpa using Ne.symm hspdb)
          · exact (hEE5.setCell (.inl (by simp)) _).drew
        have hszf : w.heap.size ≤ ((w5.setCell ⟨sp, 1, none⟩ (.slice (some ⟨gw, 0, none⟩) L cw)).drew).heap.size := by
          show _ ≤ (w5.setCell ⟨sp, 1, none⟩ (.slice (some ⟨gw, 0, none⟩) L cw)).heap.size
          rw [World.size_setCell]; exact hsz5
        clear hsp5 hw5 hst5 hd5 hEE5 cs1 fs1 hsz5 hw64 hw641
        have hMf : M + 1 + kk ≤ N + K := by have h1 := hM.out; clear hM; omega
        have hLf : r.length + kk ≤ 1 + K := by have h1 := hL.out; rw [hLe'.out]; omega
        replace hMf := hid hMf
        replace hLf := hid hLf
        go_wp2
        go_roundg kk
        case measure => omega
        case rel =>
          exact ⟨r, _, M + 1, hS6, hMf.out, hLf.out, hr2.out, fun q hq => hq'.out q (by simp [hq]), hszf⟩
      · have hlt : n1 < (G.of x1).length := by have := hqx.2; simp at this; omega
        have hyI : I64 ((G.of x1).getD n1 0) := by
          refine hI x1 _ ?_
          rw [List.getD_eq_getElem?_getD, List.getElem?_eq_getElem hlt, Option.getD_some]
          exact List.getElem_mem hlt
        rw [Gr.srch, if_neg hn] at hr1
        obtain ⟨b, off, rfl, hyc⟩ : ∃ b off, a = some ⟨b, off, none⟩ ∧ w4.cell? ⟨b, off + n1, none⟩ = some (.int .i64 ((G.of x1).getD n1 0)) := by
          obtain ⟨a', c', hv', h | ⟨b, off, h1, h2, h3⟩⟩ := hat4
          · rw [h.1] at hlt; simp at hlt
          · cases hv'
            exact ⟨b, off, h1, h3 n1 hlt⟩
        obtain ⟨y, hy⟩ : ∃ y, (G.of x1).getD n1 0 = y := ⟨_, rfl⟩
        have hlb : (G.of x1).length ≤ 1000000 := Gr.of_small hs x1
        obtain ⟨ln, hln⟩ : ∃ ln, (G.of x1).length = ln := ⟨_, rfl⟩
        rw [hy] at hr1 hyI hyc
        rw [hln] at hlt hn hlb ⊢
        have hnb : ((n1 : Int) == (ln : Int)) = false := by simp; omega
        replace hr1 := hid hr1
        have hb' := hid hb
        replace hM := hid hM
        have hLb : L ≤ 1000000 := by omega
        have hnb1 : n1 ≤ 1000000 := by omega
        have hLb1 : L + 1 ≤ 1000000 := by omega
        replace hL := hid hL
        replace hq := hid hq
        replace hI := hid hI
        replace hLe := hid hLe
        replace hln := hid hln
        replace hy := hid hy
        clear hb hr hn hlb hat4
        have cs1 := cellOf (k := 1) hsp4 rfl
        go_upto_region 12 with (fail)
        have hgw0 : w0.heap.size ≤ gw := hwb gw rfl
        have hgs0 : w0.heap.size ≤ gs := hsb gs rfl
        have hgwsp : gw ≠ sp := fun h => row_not hw4 hsp4 (by simp) (by rw [← h]; rfl)
        have hgssp : gs ≠ sp := fun h => row_not hst4 hsp4 (by simp) (by rw [← h]; rfl)
        have hgg : gw ≠ gs := fun e => rows_apart hw4 hst4 (by decide) rfl (by simp [Value.ownBlock, e])
        obtain ⟨es, cl, hdm⟩ := hd4.map
        have hspdb : sp ≠ db := by rintro rfl; rw [hsp4] at hdm; cases hdm
        have hgwdb : gw ≠ db := fun h => row_not hw4 hdm (by simp) (by rw [← h]; rfl)
        have hgsdb : gs ≠ db := fun h => row_not hst4 hdm (by simp) (by rw [← h]; rfl)
        have hX : Ext [gs] w4 (w4.setCell ⟨gs, L * 2 + 1, none⟩ (.int .i64 ((n1 : Int) + 1))) := (Ext.refl _ _).setCell (.inl (by simp)) _
        have hsp5 := hX.block hsp4 (by simpa using Ne.symm hgssp)
        have hw5 := hX.row hw4 (by intro g' hg'; obtain rfl : gw = g' := by simpa [Value.ownBlock] using hg'
                                   simpa using hgg)
        have hst5 := ownsRow_set' (i := L * 2 + 1) (.int .i64 ((n1 : Int) + 1)) hst4
        rw [← hLe.out, trns_bump, hLe.out] at hst5
        have hd5 := hd4.ext hX (by simpa using Ne.symm hgsdb)
        have hE5 : Ext [sp, db] w0 (w4.setCell ⟨gs, L * 2 + 1, none⟩ (.int .i64 ((n1 : Int) + 1))) := hE4.setCell (.inr hgs0) _
        have hsz5 : w.heap.size ≤ (w4.setCell ⟨gs, L * 2 + 1, none⟩ (.int .i64 ((n1 : Int) + 1))).heap.size := by rw [World.size_setCell]; exact hsz4
        have hwl : (way ((x1, n1) :: r)).length = L + 1 := by rw [way_length, List.length_cons, hLe.out]
        have hway : way ((x1, n1) :: r) = ((x1, n1) :: r).reverse.map (·.1) := by simp [way]
        clear hsp4 hw4 hst4 hd4 hE4 hsz4 hX hyc ct004 ct104 ct114 cs1 hdm hway
        generalize w4.setCell ⟨gs, L * 2 + 1, none⟩ (.int .i64 ((n1 : Int) + 1)) = w5 at *
        have cs1 := cellOf (k := 1) hsp5 rfl
        have fs1 := freeOf (k := 1) hsp5
        obtain ⟨wl, hwle⟩ : ∃ wl, way ((x1, n1) :: r) = wl := ⟨_, rfl⟩
        rw [hwle] at hw5 hwl
        replace hwle := hid hwle
        have hwr : IntRow w5 0 (.slice (some ⟨gw, 0, none⟩) (L + 1) cw) wl := by
          unfold IntRow
          rw [hwl]
          exact hw5
        have hwat : IntsAt w5 (.slice (some ⟨gw, 0, none⟩) (L + 1) cw) (some gw) wl := ⟨_, cw, by rw [hwl], .inr ⟨gw, 0, rfl, rfl, fun j hj => by simpa using hwr.cells j hj⟩⟩
        have cI := ints_Index y hwat (by rw [hwl]; omega)
        have hix := idxOf_spec wl y
        obtain ⟨ix, hixe⟩ : ∃ ix, Lib.idxOf wl y = ix := ⟨_, rfl⟩
        rw [hixe] at cI hix
        replace hixe := hid hixe
        replace hix := hid hix
        replace hwl := hid hwl
        go_wp2_with fail
        refine cI.mono ?_
        rintro e w6 ⟨rfl, rfl⟩
        by_cases hi0 : 0 ≤ ix
        · obtain ⟨at0, hat0, rfl⟩ : ∃ k : Nat, k < wl.length ∧ ix = k := by
            rcases hix.out with h | h
            · omega
            · exact h
          rw [hwl.out] at hat0
          have hcap := ownsRow_cap hw5
          have hne : ¬ cw = at0 := by omega
          have hle : (at0 : Int) ≤ (L : Int) + 1 := by omega
          have hle2 : at0 ≤ L + 1 := by omega
          have hdl : (wl.drop at0).length = L + 1 - at0 := by rw [List.length_drop, hwl.out]
          have hrs : wl.drop at0 = res := by
            have h := hr1.out
            have e : (List.map (fun x => x.1) ((x1, n1) :: r)).reverse = wl := hwle.out
            rw [e, hixe.out, if_pos (by omega)] at h
            simpa using (congrArg (fun o => o.map Prod.fst) h)
          have hat5 : IntsAt w5 (.slice (some ⟨gw, at0, none⟩) (L + 1 - at0) (cw - at0)) (some gw) (wl.drop at0) :=
            ⟨_, cw - at0, by rw [hdl], .inr ⟨gw, at0, rfl, rfl, fun j hj => by
              have := hwr.cells (at0 + j) (by rw [hwl.out]; omega)
              rw [this]; simp [List.getD_eq_getElem?_getD]⟩⟩
          have cC := ints_Clone hat5 (by omega) (by rintro a n c ⟨⟩; exact ⟨_, _, rfl⟩)
          have hrne : res ≠ [] := by intro h; rw [← hrs] at h; rw [h] at hdl; simp at hdl; omega
          rw [hrs] at cC
          replace hrs := hid hrs
          replace hdl := hid hdl
          replace hrne := hid hrne
          clear hwr hwat cI hat5 hw5 hst5 hd5
          go_wp2_with fail
          refine cC.mono ?_
          rintro e w7 ⟨v7, rfl, h7, h8, h9⟩
          go_wp2
          go_ret
          exact ⟨v7, .slice none 0 0, rfl, h7.base hsz5, fun _ => h8 hrne.out, fun h => absurd h hrne.out, fun h => absurd h hrne.out, hE5.nil_of h9⟩
        · have hr2 : (if d1 y = true then G.srch kk ((x1, n1 + 1) :: r) d1 else G.srch kk ((y, 0) :: (x1, n1 + 1) :: r) d1) = some (res, d') := by
            have h := hr1.out
            have e : (List.map (fun x => x.1) ((x1, n1) :: r)).reverse = wl := hwle.out
            rw [e, hixe.out, if_neg hi0] at h
            exact h
          have hlook := hd5.look hyI
          have hwle2 : way ((x1, n1 + 1) :: r) = wl := (way_bump x1 (n1 + 1) n1 r).trans hwle.out
          replace hwle2 := hid hwle2
          have cs2 := cellOf (k := 2) hsp5 rfl
          have hq2 : ∀ q ∈ (x1, n1 + 1) :: r, I64 q.1 ∧ q.2 ≤ (G.of q.1).length := by
            intro q hq'
            rcases List.mem_cons.1 hq' with rfl | hq'
            · exact ⟨hqx.1, by simp only [hln.out]; omega⟩
            · exact hq.out q (by simp [hq'])
          replace hq2 := hid hq2
          by_cases hdy : d1 y = true
          · rw [if_pos hdy] at hr2 hlook
            replace hr2 := hid hr2
            have hS6 : SrAt w0 w5 sp gp db M (.slice (some ⟨gs, 0, none⟩) (L + 1) c) ((x1, n1 + 1) :: r) d1 := by
              refine ⟨_, hsp5, ?_, ?_, ?_, ?_, hd5, hE5⟩
              · rw [hwle2.out, List.length_cons, hLe.out]; exact hw5
              · intro g' hg'
                obtain rfl : gw = g' := by simpa [Value.ownBlock] using hg'
                exact hgw0
              · rw [List.length_cons, hLe.out]; exact hst5
              · intro g' hg'
                obtain rfl : gs = g' := by simpa [Value.ownBlock] using hg'
                exact hgs0
            have hMf : M + kk ≤ N + K := by have h1 := hM.out; clear hM; omega
            have hLf : ((x1, n1 + 1) :: r).length + kk ≤ 1 + K := by have h1 := hL.out; rw [List.length_cons, hLe.out]; omega
            replace hMf := hid hMf
            replace hLf := hid hLf
            clear hw5 hst5 hd5 hwr hwat cI hE5
            go_wp2
            go_roundg kk
            case measure => omega
            case rel => exact ⟨_, _, M, hS6, hMf.out, hLf.out, hr2.out, hq2.out, hsz5⟩
          · rw [if_neg hdy] at hr2 hlook
            replace hr2 := hid hr2
            replace hM := hid (show M + kk ≤ N + K by have h1 := hM.out; omega)
            have hLk : L + 1 + (kk + 1) ≤ 1 + K := hL.out
            have hL2 : L + 1 + 1 ≤ 1000000 := by have h2 := hb'.out; clear hM hL; omega
            go_wp2_with (at_builtin; refine wl_append_some (v := .slice (some ⟨gs, 0, none⟩) (L + 1) c) _ rfl (.tmp 113) (.tmp 116) 215 215 rfl e215 rfl (hst5.alloc _) rfl (ETy.run_one (block_alloc_new _ _) rfl rfl Tryz.underlying215) (by omega) ?_ ?_ ?_)
            case refine_1 => simp only [maxLen]; omega
            case refine_2 => omega
            intro g6 c6 w6 hst6 hX6 hg6
            have hg60 : w0.heap.size ≤ g6 := by
              rcases hg6 with h | h
              · simp [Value.ownBlock] at h; omega
              · have := hE5.size; omega
            have hsp6 := hX6.block (block_alloc_old (.cells #[.int .i64 y, .int .i64 0] 214) hsp5) (by simpa [Value.ownBlock] using Ne.symm hgssp)
            have hw6 := hX6.row (hw5.alloc (.cells #[.int .i64 y, .int .i64 0] 214)) (by intro g' hg'; obtain rfl : gw = g' := by simpa [Value.ownBlock] using hg'
                                                                                         simpa [Value.ownBlock] using hgg)
            have hd6 := (hd5.ext ((Ext.refl [] w5).alloc (.cells #[.int .i64 y, .int .i64 0] 214)) (by simp)).ext hX6 (by simpa [Value.ownBlock] using Ne.symm hgsdb)
            have hE6 : Ext [sp, db] w0 w6 := (hE5.alloc (.cells #[.int .i64 y, .int .i64 0] 214)).trans hX6 (by
              intro b hb hlt; simp [Value.ownBlock] at hb ⊢; omega)
            have hsz6 : w.heap.size ≤ w6.heap.size := by have := hX6.size; simp at this; omega
            have e6 : trns (r.reverse ++ [(x1, n1 + 1)]) ++ [Value.int .i64 y, Value.int .i64 0] = trns ((y, 0) :: (x1, n1 + 1) :: r).reverse := by
              rw [trns_cons]; simp
            rw [e6] at hst6
            clear hw5 hst5 hd5 hwr hwat cI hE5 hX6 hg6 cs1 fs1 hsp5 hlook cs2 hsz5 e6
            have cs1 := cellOf (k := 1) hsp6 rfl
            clear hb' 
            go_wp2_with (at_builtin; refine wl_append_some (v := .slice (some ⟨gw, 0, none⟩) (L + 1) cw) _ rfl (.tmp 122) (.tmp 124) 27 27 rfl ety27 rfl (hw6.alloc _) rfl (Src.one Tryz.underlying27 (block_alloc_new _ _) rfl) (by omega) ?_ ?_ ?_)
            case refine_1 => simp only [maxLen]; omega
            case refine_2 => omega
            intro g7 c7 w7 hw7 hX7 hg7
            have hg70 : w0.heap.size ≤ g7 := by
              rcases hg7 with h | h
              · simp [Value.ownBlock] at h; omega
              · have := hE6.size; omega
            have hst6g : ∀ g', (Value.slice (some ⟨g6, 0, none⟩) (L + 1 + 1) c6).ownBlock = some g' → g' ∉ (Value.slice (some ⟨gw, 0, none⟩) (L + 1) cw).ownBlock.toList := by
              intro g' hg' hm
              exact rows_apart hst6 hw6 (by decide) hg' (by simpa using hm)
            have hsp7 := hX7.block (block_alloc_old (.cells #[.int .i64 y] 3) hsp6) (by simpa [Value.ownBlock] using Ne.symm hgwsp)
            have hst7 := hX7.row (hst6.alloc (.cells #[.int .i64 y] 3)) hst6g
            have hd7 := (hd6.ext ((Ext.refl [] w6).alloc (.cells #[.int .i64 y] 3)) (by simp)).ext hX7 (by simpa [Value.ownBlock] using Ne.symm hgwdb)
            have hE7 : Ext [sp, db] w0 w7 := (hE6.alloc (.cells #[.int .i64 y] 3)).trans hX7 (by
              intro b hb hlt; simp [Value.ownBlock] at hb ⊢; omega)
            have hsz7 : w.heap.size ≤ w7.heap.size := by have := hX7.size; simp at this; omega
            have hg7sp : g7 ≠ sp := fun h => row_not hw7 hsp7 (by simp) (by rw [← h]; rfl)
            have hg6sp : g6 ≠ sp := fun h => row_not hst7 hsp7 (by simp) (by rw [← h]; rfl)
            have e7 : izs wl ++ [Value.int .i64 y] = izs (way ((y, 0) :: (x1, n1 + 1) :: r)) := by
              rw [way_cons, izs_snoc, hwle2.out]
            rw [e7] at hw7
            have hS8 : SrAt w0 (w7.setCell ⟨sp, 1, none⟩ (.slice (some ⟨g7, 0, none⟩) (L + 1 + 1) c7)) sp gp db M (.slice (some ⟨g6, 0, none⟩) (L + 1 + 1) c6) ((y, 0) :: (x1, n1 + 1) :: r) d1 := by
              have hk : ∀ b, b ≠ sp → (w7.setCell ⟨sp, 1, none⟩ (.slice (some ⟨g7, 0, none⟩) (L + 1 + 1) c7)).heap[b]? = w7.heap[b]? := fun b hb => Below.heap_setCell _ _ _ _ hb
              have hll : ((y, 0) :: (x1, n1 + 1) :: r).length = L + 1 + 1 := by simp [hLe.out]
              refine ⟨.slice (some ⟨g7, 0, none⟩) (L + 1 + 1) c7, block_setCell_same _ hsp7, ?_, ?_, ?_, ?_, ?_, ?_⟩
              · rw [hll]
                refine ownsRow_of_block hw7 fun g' hg' => ?_
                obtain rfl : g7 = g' := by simpa [Value.ownBlock] using hg'
                exact hk _ hg7sp
              · intro g' hg'
                obtain rfl : g7 = g' := by simpa [Value.ownBlock] using hg'
                exact hg70
              · rw [hll]
                refine ownsRow_of_block hst7 fun g' hg' => ?_
                obtain rfl : g6 = g' := by simpa [Value.ownBlock] using hg'
                exact hk _ hg6sp
              · intro g' hg'
                obtain rfl : g6 = g' := by simpa [Value.ownBlock] using hg'
                exact hg60
              · exact hd7.ext (S := [sp]) ((Ext.refl _ _).setCell (.inl (by simp)) _) (by simpa using Ne.symm hspdb)
              · exact hE7.setCell (.inl (by simp)) _
            have hszf : w.heap.size ≤ (w7.setCell ⟨sp, 1, none⟩ (.slice (some ⟨g7, 0, none⟩) (L + 1 + 1) c7)).heap.size := by
              rw [World.size_setCell]; exact hsz7
            have hLf : ((y, 0) :: (x1, n1 + 1) :: r).length + kk ≤ 1 + K := by simp only [List.length_cons, hLe.out]; omega
            have hqf : ∀ q ∈ (y, 0) :: (x1, n1 + 1) :: r, I64 q.1 ∧ q.2 ≤ (G.of q.1).length := by
              intro q hq'
              rcases List.mem_cons.1 hq' with rfl | hq'
              · exact ⟨hyI, Nat.zero_le _⟩
              · exact hq2.out q hq'
            replace hLf := hid hLf
            replace hqf := hid hqf
            have c17 := cellOf (k := 1) hsp7 rfl
            have f17 := freeOf (k := 1) hsp7
            clear hsp7 hst7 hd7 hE7 hsz7 hw7 hst6 hw6 hd6 hE6 hsz6 hsp6 hX7 hg7 hst6g cs1 e7
            go_wp2
            go_roundg kk
            case measure => omega
            case rel => exact ⟨_, _, M, hS8, hM.out, hLf.out, hr2.out, hqf.out, hszf⟩
end Go.Proofs.YtegcnimekfanaaaGreat
