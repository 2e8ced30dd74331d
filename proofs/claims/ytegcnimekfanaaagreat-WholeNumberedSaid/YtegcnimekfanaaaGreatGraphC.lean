/-
  Package graph, walked: Cycle, Victim.
-/
import Derived.Test.YtegcnimekfanaaaGreatSearch
namespace Go.Proofs.YtegcnimekfanaaaGreat
open Go.RowKit

/-- A circle that one of these leads into; K: how far each way is followed. -/
def Gr.cyc (G : Gr) (K : Nat) : List Int → (Int → Bool) → Option (List Int)
  | [], _ => some []
  | x :: xs, d => if d x then G.cyc K xs d else match G.srch K [(x, 0)] d with
    | none => none
    | some (l, d') => if l = [] then G.cyc K xs d' else some l

theorem GraphAt.from {w w0 w' : World} {p mb : Nat} {G : Gr} {S : List Nat} (h : GraphAt w p mb G) (he : Ext [] w w0) (h2 : Ext S w0 w') (hS : ∀ b ∈ S, w.heap.size ≤ b) : GraphAt w' p mb G :=
  h.ext0 (he.trans h2 (fun b hb hlt => by have := hS b hb; omega))

set_option maxRecDepth 8000 in
set_option maxHeartbeats 1000000 in
theorem graph_Cycle (w : World) (p mb K : Nat) (G : Gr) (res : List Int) (h : GraphAt w p mb G) (hs : G.small) (hk : ∀ y ∈ G.waits, I64 y) (hI : ∀ z, ∀ y ∈ G.of z, I64 y) (hb : K * (G.length + 1) ≤ 900000)
    (hr : G.cyc K G.waits (fun _ => false) = some res) :
    Calls Tryz.prog 17 #[.pointer (some ⟨p, 0, none⟩)] w fun e w' => ∃ v, e = .returned v ∧ IntRow w' w.heap.size v res ∧ (res ≠ [] → v ≠ .slice none 0 0) ∧ (res = [] → v = .slice none 0 0) ∧ Ext [] w w' := by
  have hmm := @run_makeMap Tryz.prog
  go_enter Tryz.func17, Tryz.ntmps17
  go_wp2_with fail
  have hE1 := ((Ext.refl [] w).alloc (.map #[] 0)).alloc (.cells #[.pointer (some ⟨p, 0, none⟩), .slice none 0 0, .map (some w.heap.size)] 131)
  have hB1 := block_alloc_new2 w (.map #[] 0) (.cells #[.pointer (some ⟨p, 0, none⟩), .slice none 0 0, .map (some w.heap.size)] 131)
  have hM1 := (MapAt.made w).ext ((Ext.refl [] (w.alloc (.map #[] 0))).alloc (.cells #[.pointer (some ⟨p, 0, none⟩), .slice none 0 0, .map (some w.heap.size)] 131)) (by simp)
  generalize hw1 : (w.alloc (.map #[] 0)).alloc (.cells #[.pointer (some ⟨p, 0, none⟩), .slice none 0 0, .map (some w.heap.size)] 131) = w1 at *
  clear hw1
  obtain ⟨sp, hspe⟩ : ∃ sp, w.heap.size + 1 = sp := ⟨_, rfl⟩
  obtain ⟨db, hdbe⟩ : ∃ db, w.heap.size = db := ⟨_, rfl⟩
  rw [hspe] at hB1 ⊢
  rw [hdbe] at hB1 hM1 ⊢
  have hg1 := h.ext0 hE1
  have hks0 : w.heap.size ≤ sp := by omega
  have hkd0 : w.heap.size ≤ db := by omega
  replace hspe := hid hspe
  replace hdbe := hid hdbe
  refine (graph_Waits w1 p mb G hg1 hs.1).mono ?_
  rintro e w3 ⟨v, rfl, hv, hE3⟩
  have hgl := hs.1
  have hKb : ∀ k, k ≤ G.waits.length → K * k + K ≤ 900000 := by
    intro k hk
    have h1 : K * k + K = K * (k + 1) := by rw [Nat.mul_succ]
    rw [h1]
    refine Nat.le_trans (Nat.mul_le_mul_left K ?_) hb
    simp only [Gr.waits, List.length_map] at hk
    omega
  have hlen : G.waits.length ≤ 1000000 := by simpa [Gr.waits] using hgl
  obtain ⟨ks, hks⟩ : ∃ ks, G.waits = ks := ⟨_, rfl⟩
  rw [hks] at hv hr hk hKb hlen
  replace hks := hid hks
  replace hb := hid hb
  clear hgl
  have hB3 := hE3.block hB1 (by simp)
  have hM3 := hM1.ext hE3 (by simp)
  have hE13 := hE1.nil_of hE3
  have hGx : ∀ w', Ext [sp, db] w3 w' → GraphAt w' p mb G := fun w' he => h.from hE13 he (by simp; omega)
  obtain ⟨bo, hvat, hvb⟩ := hv.at
  have hvn : ∀ b, bo = some b → b ∉ [sp, db] := by
    intro b hb'
    have h1 := (hv.lt (hvb.trans hb')).1
    have h2 := lt_of_block hB1
    have h3 := hM1.lt
    simp; omega
  have hv3 : ∀ b, bo = some b → b < w3.heap.size := fun b hb' => (hv.lt (hvb.trans hb')).2
  obtain ⟨a, c, rfl⟩ := hvat.form
  obtain ⟨n, hn⟩ : ∃ n, ks.length = n := ⟨_, rfl⟩
  rw [hn] at hKb hlen ⊢
  replace hn := hid hn
  clear hB1 hM1 hE1 hg1 hE3 hv hvb
  go_wp2_with fail
  go_loopw [5, 6, 14] (fun _x _l i wr => ∃ (k : Nat) (d : Int → Bool) (M : Nat) (wv : Value), k ≤ n ∧ i = .int .i64 k ∧ wr.heap[sp]? = some (.cells #[.pointer (some ⟨p, 0, none⟩), wv, .map (some db)] 131 (0, 0)) ∧
    wr.ownsRow 0 3 1 wv 0 (izs []) ∧ (∀ g, wv.ownBlock = some g → w3.heap.size ≤ g) ∧ DoneAt wr db M d ∧ M ≤ K * k ∧ Ext [sp, db] w3 wr ∧ G.cyc K (ks.drop k) d = some res) (fun _ _ i _ => n - (intOf i).toNat)
  case atStart => exact ⟨0, fun _ => false, 0, .slice none 0 0, by omega, rfl, hB3, World.ownsRow_nil _ _ _ _, by simp [Value.ownBlock], ⟨[], hM3, Nat.le_refl _, by simp [mget]⟩, by omega, Ext.refl _ _, by simpa using hr⟩
  case round =>
    obtain ⟨k, d, M, wv, hkn, rfl, hB, hw, hwb, hd, hMk, hE, hr1⟩ := hrel
    by_cases hlt : k < n
    · have hkl : k < ks.length := by rw [hn.out]; exact hlt
      have hvk := hvat.ext hE hvn
      rw [List.drop_eq_getElem_cons hkl, Gr.cyc] at hr1
      have hyI : I64 ks[k] := hk _ (List.getElem_mem hkl)
      obtain ⟨b, off, rfl, rfl, hcell⟩ : ∃ b off, a = some ⟨b, off, none⟩ ∧ bo = some b ∧ wr.cell? ⟨b, off + k, none⟩ = some (.int .i64 ks[k]) := by
        obtain ⟨a', c', hv', h | ⟨b, off, h1, h2, h3⟩⟩ := hvk
        · rw [h.1] at hkl; simp at hkl
        · cases hv'
          refine ⟨b, off, h1, h2, ?_⟩
          rw [h3 k hkl]
          simp [hkl]
      obtain ⟨y, hy⟩ : ∃ y, ks[k] = y := ⟨_, rfl⟩
      rw [hy] at hr1 hyI hcell
      have hlook := hd.look hyI
      have cs2 := cellOf (k := 2) hB rfl
      clear hvk hr
      have hkk := hKb k (by omega)
      have hM1 : M + K ≤ 900000 := by omega
      have hMk1 : M ≤ K * (k + 1) ∧ M + K ≤ K * (k + 1) := by rw [Nat.mul_succ]; omega
      replace hM1 := hid hM1
      replace hMk1 := hid hMk1
      replace hKb := hid hKb
      clear hkk hMk
      by_cases hdy : d y = true
      · rw [if_pos hdy] at hr1 hlook
        replace hr1 := hid hr1
        go_wp2
        go_roundw
        case rel => exact ⟨k + 1, d, M, wv, by omega, by go_num, hB, hw, hwb, hd, hMk1.out.1, hE, hr1.out⟩
        case measure => simp [intOf]; omega
      · rw [if_neg hdy] at hr1 hlook
        cases hsr : G.srch K [(y, 0)] d with
        | none => rw [hsr] at hr1; cases hr1
        | some o =>
          obtain ⟨l, d'⟩ := o
          rw [hsr] at hr1
          have hr2 : (if l = [] then G.cyc K (ks.drop (k + 1)) d' else some l) = some res := hr1
          have cF := search_from w3 wr sp p mb db M K wv G y d d' l hGx hs hE hB hw hwb hd hyI hI hM1.out hsr
          have hwsz := hE.size
          clear hr1 hsr hw hd hB
          replace hr2 := hid hr2
          go_wp2_with fail
          refine cF.mono ?_
          rintro e w5 ⟨v5, wv5, rfl, k1, k2, k3, k4, k5⟩
          by_cases hl : l = []
          · obtain rfl := k3 hl
            obtain ⟨j1, j2, j3, j4⟩ := k4 hl
            have hr3 := hr2.out
            rw [if_pos hl] at hr3
            replace hr3 := hid hr3
            clear cF k1 k2 k3 k4 hr2
            go_wp2
            go_roundw
            case rel => exact ⟨k + 1, d', M + K, wv5, by omega, by go_num, j1, j2, j3, j4, hMk1.out.2, k5, hr3.out⟩
            case measure => simp [intOf]; omega
          · have hv5 := k2 hl
            have hr3 : l = res := by have := hr2.out; rw [if_neg hl] at this; exact Option.some.inj this
            rcases k1.split with ⟨rfl, _⟩ | ⟨g5, c5, cur, rfl, _⟩
            · exact absurd rfl hv5
            replace hr3 := hid hr3
            have k1 := hid k1
            clear cF k2 k3 k4 hr2
            go_wp2
            go_ret
            have h1 := k1.out
            rw [← hr3.out]
            have hsz : w.heap.size ≤ wr.heap.size := Nat.le_trans hE13.size hwsz
            refine ⟨_, rfl, h1.base hsz, fun _ => by simp, fun h => absurd h hl, hE13.trans k5 (by simp; omega)⟩
    · obtain rfl : k = n := by omega
      have e : res = [] := by
        rw [List.drop_of_length_le (by rw [hn.out]; exact Nat.le_refl _)] at hr1
        simpa [Gr.cyc] using hr1.symm
      replace e := hid e
      clear hr1 hr
      go_wp2
      go_ret
      rw [e.out]
      exact ⟨.slice none 0 0, rfl, IntRow.nil _ _, fun h => absurd rfl h, fun _ => rfl, hE13.trans hE (by simp; omega)⟩

theorem graph_Victim (w : World) (p mb K : Nat) (G : Gr) (res : List Int) (h : GraphAt w p mb G) (hs : G.small) (hk : ∀ y ∈ G.waits, I64 y) (hI : ∀ z, ∀ y ∈ G.of z, I64 y) (hb : K * (G.length + 1) ≤ 900000)
    (hr : G.cyc K G.waits (fun _ => false) = some res) (hl : res.length ≤ 9223372036854775807) :
    Calls Tryz.prog 15 #[.pointer (some ⟨p, 0, none⟩)] w fun e w' => e = .returned (.tuple #[.int .i64 (if res = [] then 0 else Lib.maxOf res), .bool (!decide (res = []))]) ∧ Ext [] w w' := by
  have cC := graph_Cycle w p mb K G res h hs hk hI hb hr
  clear hb hr hk hI h hs
  replace hl := hid hl
  go_enter Tryz.func15, Tryz.ntmps15
  go_wp2_with fail
  refine cC.mono ?_
  rintro e w1 ⟨v, rfl, h1, h2, h3, h4⟩
  by_cases hn : res = []
  · obtain rfl := h3 hn
    replace hn := hid hn
    clear h2 h3
    go_wp2
    go_ret2
    exact ⟨rfl, h4⟩
  · rcases h1.split with ⟨rfl, h⟩ | ⟨g, cap, cur, rfl, k1, k2, k3, k4, k5, k6⟩
    · exact absurd h hn
    obtain ⟨bo, hat, -⟩ := h1.at
    have cM := ints_Max hat hn hl.out
    have hb0 : ((res.length : Int) == 0) = false := by cases res <;> simp at hn ⊢; omega
    replace hn := hid hn
    clear cC k3 k4 k5 k6 h2 h3 hat k1 h1
    go_wp2_with fail
    refine cM.mono ?_
    rintro e w2 ⟨rfl, rfl⟩
    go_wp2
    go_ret2
    exact ⟨rfl, h4⟩
end Go.Proofs.YtegcnimekfanaaaGreat
