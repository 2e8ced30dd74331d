/-
  alarm.Clock: Due.
-/
import Derived.Test.YtegcnimekfanaaaGreatClockC
namespace Go.Proofs.YtegcnimekfanaaaGreat
open Go.RowKit

def hdue : Nat → List En → Int → List Int × List En
  | 0, R, _ => ([], R)
  | _ + 1, [], _ => ([], [])
  | k + 1, x :: R, now => if x.tick ≤ now then (x.id :: (hdue k (hrem En.lt (x :: R) 0) now).1, (hdue k (hrem En.lt (x :: R) 0) now).2) else ([], x :: R)

theorem HeapAt.trim {w : World} {cp : Nat} {F : List Nat} {mv : Value} {R : List En} (h : HeapAt w cp F mv R) : HeapAt w cp (F.filter (· < w.heap.size)) mv R := by
  obtain ⟨v, h1, h2, h3, h4, h5, h6, h7⟩ := h
  refine ⟨v, h1, h2, h3, h4, by simp [h5, lt_of_block h1], fun g hg => by simp [h6 g hg, (h2.lt g hg).2], fun x hx => ?_⟩
  obtain ⟨i, hi, rfl⟩ := List.mem_iff_getElem.1 hx
  simp [h7 _ hx, lt_of_block (h3 i _ (List.getElem?_eq_getElem hi))]
theorem ClockAt.trim {w : World} {cp : Nat} {F : List Nat} {R : List En} (h : ClockAt w cp F R) : ClockAt w cp (F.filter (· < w.heap.size)) R := by
  obtain ⟨mb, F0, L, hh, hmF, hF0, hmF2, hm, h⟩ := h
  exact ⟨mb, F0.filter (· < w.heap.size), L, hh.trim, by simp [hmF], fun x hx => by
    simp only [List.mem_filter, decide_eq_true_eq] at hx ⊢; exact ⟨hF0 x hx.1, hx.2⟩, by simp [hmF2, hm.lt], hm, h⟩
theorem ClockAt.mono {w : World} {cp : Nat} {F F' : List Nat} {R : List En} (h : ClockAt w cp F R) (hF : ∀ x ∈ F, x ∈ F') : ClockAt w cp F' R := by
  obtain ⟨mb, F0, L, hh, hmF, hF0, hmF2, h⟩ := h
  exact ⟨mb, F0, L, hh, hmF, fun x hx => hF x (hF0 x hx), hF _ hmF2, h⟩
/-- No two alarms have one number. -/
theorem ClockAt.inj {w : World} {cp : Nat} {F : List Nat} {R : List En} (h : ClockAt w cp F R) {i j : Nat} {x y : En} (hi : R[i]? = some x) (hj : R[j]? = some y) (he : x.id = y.id) : i = j := by
  obtain ⟨mb, F0, L, ⟨v, -, -, -, h4, -⟩, -, -, -, -, -, k1, -⟩ := h
  refine Classical.byContradiction fun hne => ?_
  have e1 := k1 x (List.mem_of_getElem? hi)
  have e2 := k1 y (List.mem_of_getElem? hj)
  rw [he, e2] at e1
  have : y.b = x.b := by simpa [ep] using e1
  exact nodup_ne (f := (·.b)) h4 hi hj hne this.symm

theorem ClockAt.ext0' {F : List Nat} {w w' : World} {cp : Nat} {R : List En} (h : ClockAt w cp F R) (he : Ext [] w w') : ClockAt w' cp F R := h.ext he (by simp)
theorem IntRow.of_row {w : World} {base : Nat} {v : Value} {l : List Int} (h : w.ownsRow 0 3 1 v l.length (izs l)) (hb : ∀ g, v.ownBlock = some g → base ≤ g) : IntRow w base v l := by
  refine ⟨by simp, ?_⟩
  rcases h.2 with h2 | ⟨g, cap, cur, rfl, _, h3⟩
  · exact .inl h2
  · exact .inr ⟨g, cap, cur, rfl, hb g rfl, h3⟩
/-- The first alarm's cells. -/
theorem ClockAt.head {w : World} {cp : Nat} {F : List Nat} {R : List En} {x : En} (h : ClockAt w cp F (x :: R)) : ∃ g c mb, w.heap[cp]? = some (.cells #[.slice (some ⟨g, 0, none⟩) (R.length + 1) c, .map (some mb)] 140 (0, 0)) ∧
    w.cell? ⟨g, 0, none⟩ = some (ep x) ∧ ∃ i : Int, w.heap[x.b]? = some (.cells #[.int .i64 x.tick, .int .i64 x.id, .int .i64 i] 143 (0, 0)) := by
  obtain ⟨mb, F0, L, ⟨v, h1, h2, h3, -⟩, -⟩ := h
  obtain ⟨g, c, rfl⟩ := slice_some h2 (by simp)
  exact ⟨g, c, mb, h1, (ownsRow_cell h2 (i := 0) (u := ep x) rfl).1, _, h3 0 x rfl⟩

set_option maxRecDepth 8000 in
set_option maxHeartbeats 1000000 in
theorem clock_Due' (w : World) (cp : Nat) (F : List Nat) (R : List En) (now : Int) (h : ClockAt w cp F R) (hF : ∀ x ∈ F, x < w.heap.size) (hI : ∀ x ∈ R, I64 x.id) (hn : R.length ≤ 900000) :
    Calls Tryz.prog 23 #[.pointer (some ⟨cp, 0, none⟩), .int .i64 now] w fun e w' => ∃ v, e = .returned v ∧ IntRow w' w.heap.size v (hdue R.length R now).1 ∧ ClockAt w' cp F (hdue R.length R now).2 ∧ Ext F w w' := by
  obtain ⟨⟨lf, Rf⟩, hd⟩ : ∃ o, hdue R.length R now = o := ⟨_, rfl⟩
  rw [hd]
  go_enter Tryz.func23, Tryz.ntmps23
  go_wp2_with fail
  go_loopg [5, 6] R.length (fun k s5 _s6 wr => ∃ (l : List Int) (R' : List En), wr.ownsRow 0 3 1 s5 l.length (izs l) ∧ (∀ g, s5.ownBlock = some g → w.heap.size ≤ g) ∧ ClockAt wr cp F R' ∧ Ext F w wr ∧ (∀ x ∈ R', I64 x.id) ∧ R'.length ≤ k ∧ l.length + k ≤ R.length ∧
    (l ++ (hdue k R' now).1, (hdue k R' now).2) = (lf, Rf))
  case atStart => exact ⟨[], R, World.ownsRow_nil _ _ _ _, by simp [Value.ownBlock], h, Ext.refl _ _, hI, Nat.le_refl _, by simp, by rw [hd]; rfl⟩
  case round =>
    obtain ⟨l, R', hrow, hrb, hC, hE, hI', hlk, hll, hre⟩ := hrel
    obtain ⟨a5, c5, rfl⟩ := slice_form hrow
    rcases R' with _ | ⟨x, R1⟩
    · obtain ⟨a, c, mb, h1⟩ := hC.cells
      have c0 := cellOf (k := 0) h1 rfl
      have he : l = lf ∧ [] = Rf := by cases gk <;> simpa [hdue] using hre
      replace he := hid he
      have hfin := IntRow.of_row hrow hrb
      clear hre hd hlk hll
      go_wp2
      go_ret
      rw [← he.out.1, ← he.out.2]
      exact ⟨_, rfl, hfin, hC, hE⟩
    · obtain ⟨g, c, mb, h1, cx, ii, hxb⟩ := hC.head
      have c0 := cellOf (k := 0) h1 rfl
      have x0 := cellOf (k := 0) hxb rfl
      have x1 := cellOf (k := 1) hxb rfl
      obtain ⟨kk, rfl⟩ : ∃ kk, gk = kk + 1 := ⟨gk - 1, by simp at hlk; omega⟩
      obtain ⟨n1, hn1⟩ : ∃ n1, R1.length = n1 := ⟨_, rfl⟩
      have hxI := hI' x (by simp)
      have hRl : (x :: R1).length ≤ 1000000 := by omega
      have cC := clock_Cancel wr cp F (x :: R1) x.id hC hxI hRl
      have hinj : ∀ (i : Nat) (y : En), (x :: R1)[i]? = some y → y.id = x.id → i = 0 := fun i y hy hid' => hC.inj hy (j := 0) (y := x) rfl hid'
      rw [hn1] at h1 c0
      have hn1b : n1 ≤ 1000000 := by rw [← hn1]; simp at hRl; omega
      have hn0 := hid hn
      replace hn1 := hid hn1
      replace hlk := hid hlk
      replace hll := hid hll
      replace hRl := hid hRl
      replace hd := hid hd
      clear hn
      by_cases hle : x.tick ≤ now
      · rw [hdue, if_pos hle] at hre
        replace hre := hid hre
        go_wp2_with fail
        refine cC.mono ?_
        rintro e w2 hres
        have hres2 : e = .returned (.bool true) ∧ ClockAt w2 cp F (hrem En.lt (x :: R1) 0) ∧ Ext F wr w2 := by
          rcases hres with ⟨i, y, hy, hyd, rfl, k3, k4⟩ | ⟨hno, -, -⟩
          · obtain rfl := hinj i y hy hyd
            exact ⟨rfl, k3, k4⟩
          · exact absurd rfl (hno x (by simp))
        obtain ⟨rfl, hC2, hE2⟩ := hres2
        have hapart : ∀ g', (Value.slice a5 l.length c5).ownBlock = some g' → g' ∉ F := fun g' hg' hm => by
          have := hrb g' hg'
          have := hF g' hm
          omega
        have hrow2 := hE2.row hrow hapart
        have hsz2 := hE2.size
        have hsz1 := hE.size
        have hE3 := hE.trans hE2 (fun x hx _ => hx)
        have hlb : l.length ≤ 900000 := by have h1 := hll.out; have h2 := hn0.out; omega
        clear cC hres hrow hC h1 cx hxb c0 x0 x1 hE hE2 hapart
        go_wp2_with (at_builtin; refine wl_append_some (v := .slice a5 l.length c5) _ rfl (.tmp 38) (.tmp 40) 27 27 rfl ety27 rfl (hrow2.alloc _) rfl (Src.one Tryz.underlying27 (block_alloc_new _ _) rfl) (by omega) ?_ ?_ ?_)
        case refine_1 => simp only [maxLen]; omega
        case refine_2 => omega
        intro g6 c6 w6 hrow6 hX6 hg6
        have hg60 : w.heap.size ≤ g6 := by
          rcases hg6 with h | h
          · exact hrb g6 h
          · omega
        have hapart2 : ∀ b ∈ F, b ∉ (Value.slice a5 l.length c5).ownBlock.toList := fun b hb hm => by
          have := hrb b (by simpa using hm)
          have := hF b hb
          omega
        have hC6 := (hC2.ext0' ((Ext.refl [] w2).alloc (.cells #[.int .i64 x.id] 3))).ext hX6 hapart2
        have hE6 : Ext F w w6 := (hE3.alloc (.cells #[.int .i64 x.id] 3)).trans hX6 (by
          intro b hb hlt
          have := hrb b (by simpa using hb)
          omega)
        have hre2 : (l ++ [x.id] ++ (hdue kk (hrem En.lt (x :: R1) 0) now).1, (hdue kk (hrem En.lt (x :: R1) 0) now).2) = (lf, Rf) := by
          have := hre.out
          simpa using this
        have hI2 : ∀ y ∈ hrem En.lt (x :: R1) 0, I64 y.id := fun y hy => hI' y ((hrem_perm En.lt (x :: R1) 0 x rfl).mem_iff.1 (by simp [hy]))
        have hrl : (hrem En.lt (x :: R1) 0).length ≤ kk := by rw [hrem_length]; have := hlk.out; simp at this ⊢; omega
        have hl2 : (l ++ [x.id]).length = l.length + 1 := by simp
        have hll2 : (l ++ [x.id]).length + kk ≤ R.length := by rw [hl2]; have := hll.out; omega
        have hrow7 : w6.ownsRow 0 3 1 (.slice (some ⟨g6, 0, none⟩) (l.length + 1) c6) (l ++ [x.id]).length (izs (l ++ [x.id])) := by
          rw [hl2, izs_snoc]; exact hrow6
        have hrb7 : ∀ g', (Value.slice (some ⟨g6, 0, none⟩) (l.length + 1) c6).ownBlock = some g' → w.heap.size ≤ g' := fun g' hg' => by
          obtain rfl : g6 = g' := by simpa [Value.ownBlock] using hg'
          exact hg60
        replace hre2 := hid hre2
        replace hrl := hid hrl
        replace hll2 := hid hll2
        replace hl2 := hid hl2
        replace hrow7 := hid hrow7
        replace hrb7 := hid hrb7
        clear hre hrow6 hX6 hg6 hC2 hrow2 hE3 hinj hapart2
        go_wp2
        go_roundg kk
        case measure => omega
        case rel => exact ⟨l ++ [x.id], _, hrow7.out, hrb7.out, hC6, hE6, hI2, hrl.out, hll2.out, hre2.out⟩
      · rw [hdue, if_neg hle] at hre
        have he : l = lf ∧ x :: R1 = Rf := by simpa using hre
        replace he := hid he
        have hfin := IntRow.of_row hrow hrb
        clear hre cC hinj
        go_wp2
        go_ret
        rw [← he.out.1, ← he.out.2]
        exact ⟨_, rfl, hfin, hC, hE⟩
end Go.Proofs.YtegcnimekfanaaaGreat
